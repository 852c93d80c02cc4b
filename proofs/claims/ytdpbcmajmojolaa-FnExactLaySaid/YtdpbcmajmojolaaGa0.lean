/- Printed by gen.py: functions on plain data, and that the program computes them. No condition. -/
import Derived.Test.YtdpbcmajmojolaaM18
import Derived.Test.YtdpbcmajmojolaaProg
namespace Go.Proofs.YtdpbcmajmojolaaM
set_option linter.unusedVariables false
set_option linter.unusedSimpArgs false
open Go.RowKit
set_option maxRecDepth 100000

structure Hold where
  Id : ByteArray
  Amount : Int
  Due : Int
structure Ring where
  Span : Int
  Head : Int
  Counts : List Int
  Sums : List Int
structure Slot where
  Trace : ByteArray
  Mti : ByteArray
  Reply : List Int
structure Acct where
  Id : ByteArray
  Limit : Int
  Posted : Int
  Most : Int
  MostSum : Int
  Holds : List Hold
  Ring : Ring
  Slots : List Slot
structure Stripe where
  Owner : Int
  Accts : List Acct
structure Task where
  Data : List Int
  Pc : Int
  Set : List Int
  Held : Int
  Inv : Int
  Lin : Int
  Res : Int
  At : Int
  Reply : List Int
structure World where
  Stripes : List Stripe
  Now : Int
  Step : Int
  Tasks : List Task
structure Book where
  Accts : List Acct
def E3 (x : Int) : V := V.sc (.int .i64 x)
def E9 (x : ByteArray) : V := V.sc (.string x)
def E214 (x : Hold) : V := V.agg [V.sc (.string x.Id), V.sc (.int .i64 x.Amount), V.sc (.int .i64 x.Due)]
def E150 (x : List Hold) : V := V.sl true 214 (List.map E214 x)
def E49 (x : List Int) : V := V.sl true 3 (List.map E3 x)
def E151 (x : Ring) : V := V.agg [V.sc (.int .i64 x.Span), V.sc (.int .i64 x.Head), V.sl true 3 (List.map E3 x.Counts), V.sl true 3 (List.map E3 x.Sums)]
def E5 (x : Int) : V := V.sc (.int .u8 x)
def E47 (x : List Int) : V := V.sl true 5 (List.map E5 x)
def E216 (x : Slot) : V := V.agg [V.sc (.string x.Trace), V.sc (.string x.Mti), V.sl true 5 (List.map E5 x.Reply)]
def E152 (x : List Slot) : V := V.sl true 216 (List.map E216 x)
def E154 (x : Acct) : V := V.agg [V.sc (.string x.Id), V.sc (.int .i64 x.Limit), V.sc (.int .i64 x.Posted), V.sc (.int .i64 x.Most), V.sc (.int .i64 x.MostSum), V.sl true 214 (List.map E214 x.Holds), V.sc (.int .i64 x.Ring.Span), V.sc (.int .i64 x.Ring.Head), V.sl true 3 (List.map E3 x.Ring.Counts), V.sl true 3 (List.map E3 x.Ring.Sums), V.sl true 216 (List.map E216 x.Slots)]
def E35 (x : List Acct) : V := V.sl true 154 (List.map E154 x)
def E132 (x : Stripe) : V := V.agg [V.sc (.int .i64 x.Owner), V.sl true 154 (List.map E154 x.Accts)]
def E22 (x : List Stripe) : V := V.sl true 132 (List.map E132 x)
def E145 (x : Task) : V := V.agg [V.sl true 5 (List.map E5 x.Data), V.sc (.int .i64 x.Pc), V.sl true 3 (List.map E3 x.Set), V.sc (.int .i64 x.Held), V.sc (.int .i64 x.Inv), V.sc (.int .i64 x.Lin), V.sc (.int .i64 x.Res), V.sc (.int .i64 x.At), V.sl true 5 (List.map E5 x.Reply)]
def E23 (x : List Task) : V := V.sl true 145 (List.map E145 x)
def E25 (x : World) : V := V.agg [V.sl true 132 (List.map E132 x.Stripes), V.sc (.int .i64 x.Now), V.sc (.int .i64 x.Step), V.sl true 145 (List.map E145 x.Tasks)]
def E4 (x : Bool) : V := V.sc (.bool x)
def E61 (x : Hold) : V := V.agg [V.sc (.string x.Id), V.sc (.int .i64 x.Amount), V.sc (.int .i64 x.Due)]
def E48 (x : List Hold) : V := V.sl true 61 (List.map E61 x)
def E51 (x : Ring) : V := V.agg [V.sc (.int .i64 x.Span), V.sc (.int .i64 x.Head), V.sl true 3 (List.map E3 x.Counts), V.sl true 3 (List.map E3 x.Sums)]
def E177 (x : Slot) : V := V.agg [V.sc (.string x.Trace), V.sc (.string x.Mti), V.sl true 5 (List.map E5 x.Reply)]
def E52 (x : List Slot) : V := V.sl true 177 (List.map E177 x)
def E54 (x : Acct) : V := V.agg [V.sc (.string x.Id), V.sc (.int .i64 x.Limit), V.sc (.int .i64 x.Posted), V.sc (.int .i64 x.Most), V.sc (.int .i64 x.MostSum), V.sl true 61 (List.map E61 x.Holds), V.sc (.int .i64 x.Ring.Span), V.sc (.int .i64 x.Ring.Head), V.sl true 3 (List.map E3 x.Ring.Counts), V.sl true 3 (List.map E3 x.Ring.Sums), V.sl true 177 (List.map E177 x.Slots)]
def E39 (x : List Acct) : V := V.sl true 54 (List.map E54 x)
def E124 (x : Stripe) : V := V.agg [V.sc (.int .i64 x.Owner), V.sl true 54 (List.map E54 x.Accts)]
def E28 (x : List Stripe) : V := V.sl true 124 (List.map E124 x)
def E92 (x : Task) : V := V.agg [V.sl true 5 (List.map E5 x.Data), V.sc (.int .i64 x.Pc), V.sl true 3 (List.map E3 x.Set), V.sc (.int .i64 x.Held), V.sc (.int .i64 x.Inv), V.sc (.int .i64 x.Lin), V.sc (.int .i64 x.Res), V.sc (.int .i64 x.At), V.sl true 5 (List.map E5 x.Reply)]
def E29 (x : List Task) : V := V.sl true 92 (List.map E92 x)
def E31 (x : World) : V := V.agg [V.sl true 124 (List.map E124 x.Stripes), V.sc (.int .i64 x.Now), V.sc (.int .i64 x.Step), V.sl true 92 (List.map E92 x.Tasks)]
def E37 (x : Book) : V := V.agg [V.sl true 154 (List.map E154 x.Accts)]
def E41 (x : Book) : V := V.agg [V.sl true 54 (List.map E54 x.Accts)]
theorem nv_E3 (x : Int) : (E3 x).nv = true := by
  simp [E3, V.nv, nvL, nvL_all]
theorem nv_E9 (x : ByteArray) : (E9 x).nv = true := by
  simp [E9, V.nv, nvL, nvL_all]
theorem nv_E214 (x : Hold) : (E214 x).nv = true := by
  simp [E214, V.nv, nvL, nvL_all]
theorem nv_E150 (x : List Hold) : (E150 x).nv = true := by
  simp [E150, V.nv, nvL, nvL_all, nv_E214]
theorem nv_E49 (x : List Int) : (E49 x).nv = true := by
  simp [E49, V.nv, nvL, nvL_all, nv_E3]
theorem nv_E151 (x : Ring) : (E151 x).nv = true := by
  simp [E151, V.nv, nvL, nvL_all, nv_E3, nv_E3]
theorem nv_E5 (x : Int) : (E5 x).nv = true := by
  simp [E5, V.nv, nvL, nvL_all]
theorem nv_E47 (x : List Int) : (E47 x).nv = true := by
  simp [E47, V.nv, nvL, nvL_all, nv_E5]
theorem nv_E216 (x : Slot) : (E216 x).nv = true := by
  simp [E216, V.nv, nvL, nvL_all, nv_E5]
theorem nv_E152 (x : List Slot) : (E152 x).nv = true := by
  simp [E152, V.nv, nvL, nvL_all, nv_E216]
theorem nv_E154 (x : Acct) : (E154 x).nv = true := by
  simp [E154, V.nv, nvL, nvL_all, nv_E214, nv_E3, nv_E3, nv_E216]
theorem nv_E35 (x : List Acct) : (E35 x).nv = true := by
  simp [E35, V.nv, nvL, nvL_all, nv_E154]
theorem nv_E132 (x : Stripe) : (E132 x).nv = true := by
  simp [E132, V.nv, nvL, nvL_all, nv_E154]
theorem nv_E22 (x : List Stripe) : (E22 x).nv = true := by
  simp [E22, V.nv, nvL, nvL_all, nv_E132]
theorem nv_E145 (x : Task) : (E145 x).nv = true := by
  simp [E145, V.nv, nvL, nvL_all, nv_E5, nv_E3, nv_E5]
theorem nv_E23 (x : List Task) : (E23 x).nv = true := by
  simp [E23, V.nv, nvL, nvL_all, nv_E145]
theorem nv_E25 (x : World) : (E25 x).nv = true := by
  simp [E25, V.nv, nvL, nvL_all, nv_E132, nv_E145]
theorem nv_E4 (x : Bool) : (E4 x).nv = true := by
  simp [E4, V.nv, nvL, nvL_all]
theorem nv_E61 (x : Hold) : (E61 x).nv = true := by
  simp [E61, V.nv, nvL, nvL_all]
theorem nv_E48 (x : List Hold) : (E48 x).nv = true := by
  simp [E48, V.nv, nvL, nvL_all, nv_E61]
theorem nv_E51 (x : Ring) : (E51 x).nv = true := by
  simp [E51, V.nv, nvL, nvL_all, nv_E3, nv_E3]
theorem nv_E177 (x : Slot) : (E177 x).nv = true := by
  simp [E177, V.nv, nvL, nvL_all, nv_E5]
theorem nv_E52 (x : List Slot) : (E52 x).nv = true := by
  simp [E52, V.nv, nvL, nvL_all, nv_E177]
theorem nv_E54 (x : Acct) : (E54 x).nv = true := by
  simp [E54, V.nv, nvL, nvL_all, nv_E61, nv_E3, nv_E3, nv_E177]
theorem nv_E39 (x : List Acct) : (E39 x).nv = true := by
  simp [E39, V.nv, nvL, nvL_all, nv_E54]
theorem nv_E124 (x : Stripe) : (E124 x).nv = true := by
  simp [E124, V.nv, nvL, nvL_all, nv_E54]
theorem nv_E28 (x : List Stripe) : (E28 x).nv = true := by
  simp [E28, V.nv, nvL, nvL_all, nv_E124]
theorem nv_E92 (x : Task) : (E92 x).nv = true := by
  simp [E92, V.nv, nvL, nvL_all, nv_E5, nv_E3, nv_E5]
theorem nv_E29 (x : List Task) : (E29 x).nv = true := by
  simp [E29, V.nv, nvL, nvL_all, nv_E92]
theorem nv_E31 (x : World) : (E31 x).nv = true := by
  simp [E31, V.nv, nvL, nvL_all, nv_E124, nv_E92]
theorem nv_E37 (x : Book) : (E37 x).nv = true := by
  simp [E37, V.nv, nvL, nvL_all, nv_E154]
theorem nv_E41 (x : Book) : (E41 x).nv = true := by
  simp [E41, V.nv, nvL, nvL_all, nv_E54]
def laws_szHold (a : Hold) (left : Int) : Option (Int) :=
 if (decide ((i64 (left - (a.Id.size : Int))) < 0)) = true then
  some (-1)
 else
  some (i64 (left - (a.Id.size : Int)))
theorem laws_szHold_ok (a : Hold) (left : Int) : Pn (fun y => Fn Try.prog 208 [(false, E214 a), (false, E3 left)] (E3 y) []) (laws_szHold a left) := by
  unfold laws_szHold
  exact
   Pn.ite (fun h1 =>
    Pn.some (Fn.of [.bit true] (p := [(decide ((i64 (left - (a.Id.size : Int))) < 0)) = true]) (by kernel_rfl) (cj1 h1))) (fun h1 =>
    Pn.some (Fn.of [.bit false] (p := [(decide ((i64 (left - (a.Id.size : Int))) < 0)) = false]) (by kernel_rfl) (cj1 h1)))
def laws_szHoldS_l0 (a : List Hold) : List Hold → Int → Option (Lo Int Unit)
  | [], v1 =>
   some (.out v1)
  | x1 :: t1, v1 =>
   (laws_szHold x1 v1).bind fun r1 =>
   if (decide (r1 < 0)) = true then
    some (.ret ())
   else
    laws_szHoldS_l0 a t1 r1
theorem laws_szHoldS_l0_ok (a : List Hold) (h3 : capOk a.length = true) : ∀ (t1 p1 : List Hold) (_ : a = p1 ++ t1) (v1 : Int), Pn (LpO Try.prog (sub (codeOf Try.prog 177) [1, 1, 1, 0, 1, 0, 0]) (st 27 [(0, V.sl false 214 (List.map E214 a)), (1, V.sc (.int .i64 v1)), (5, V.sc (.int .i64 (p1.length : Int)))] [] []) (fun (y : Lo Int Unit) => Lo.elim y (fun s => (X.out 0, st 27 [(1, V.sc (.int .i64 s))] [] [])) (fun s => (X.ret, st 27 [(4, V.sc (.int .i64 (-1)))] [] [])))) (laws_szHoldS_l0 a t1 v1)
  | [], p1, h2, v1 => by
    unfold laws_szHoldS_l0
    exact
     Pn.some (LpO.out [.wait 3, .nm 14 (V.sc (.int .i64 (a.length : Int))), .bit false, .mask [1], .ren []] (p := [V.sc (.int .i64 ((List.map E214 a).length : Int)) = V.sc (.int .i64 (a.length : Int)),
      (decide ((p1.length : Int) < (a.length : Int))) = false]) (by kernel_rfl) (show X.out 0 ≠ X.go from nofun) (cj (len_nm _ _) (cj1 (rng_end h2))))
  | x1 :: t1, p1, h2, v1 => by
    unfold laws_szHoldS_l0
    exact
     Pn.bind (fun r1 h4 =>
      Pn.ite (fun h5 =>
       Pn.some (LpO.out [.wait 3, .nm 14 (V.sc (.int .i64 (a.length : Int))), .bit true, .el (E214 x1), .call [] (E3 r1) [], .bit true, .wait 1, .mask [4], .ren []] (p := [V.sc (.int .i64 ((List.map E214 a).length : Int)) = V.sc (.int .i64 (a.length : Int)),
        (decide ((p1.length : Int) < (a.length : Int))) = true,
        (0 : Int) ≤ (p1.length : Int),
        (List.map E214 a)[(p1.length : Int).toNat]? = some (E214 x1),
        Fn Try.prog 208 [(false, E214 x1), (false, E3 v1)] (E3 r1) [],
        (true || ((E3 r1).nv && nvL [])) = true,
        (decide (r1 < 0)) = true]) (by kernel_rfl) (show X.ret ≠ X.go from nofun) (cj (len_nm _ _) (cj (rng_lt h2) (cj (by omega) (cj (rng_get _ h2) (cj (laws_szHold_ok x1 v1 r1 h4) (cj rfl (cj1 h5))))))))) (fun h5 =>
       LpO.go [.wait 3, .nm 14 (V.sc (.int .i64 (a.length : Int))), .bit true, .el (E214 x1), .call [] (E3 r1) [], .bit false, .wait 3, .mask [0, 1, 5], .ren [], .nm 5 (V.sc (.int .i64 ((p1 ++ [x1]).length : Int)))] (p := [V.sc (.int .i64 ((List.map E214 a).length : Int)) = V.sc (.int .i64 (a.length : Int)),
        (decide ((p1.length : Int) < (a.length : Int))) = true,
        (0 : Int) ≤ (p1.length : Int),
        (List.map E214 a)[(p1.length : Int).toNat]? = some (E214 x1),
        Fn Try.prog 208 [(false, E214 x1), (false, E3 v1)] (E3 r1) [],
        (true || ((E3 r1).nv && nvL [])) = true,
        (decide (r1 < 0)) = false,
        V.sc (.int .i64 (i64 ((p1.length : Int) + 1))) = V.sc (.int .i64 ((p1 ++ [x1]).length : Int))]) (by kernel_rfl) (cj (len_nm _ _) (cj (rng_lt h2) (cj (by omega) (cj (rng_get _ h2) (cj (laws_szHold_ok x1 v1 r1 h4) (cj rfl (cj h5 (cj1 (rng_next h2 h3))))))))) (laws_szHoldS_l0_ok a h3 t1 (p1 ++ [x1]) (rng_step h2) r1)))
def laws_szHoldS (a : List Hold) (left : Int) : Option (Int) :=
 if (decide ((i64 (left - (a.length : Int))) < 0)) = true then
  some (-1)
 else
  if (capOk a.length) = true then
   (laws_szHoldS_l0 a a (i64 (left - (a.length : Int)))).bind fun r2 =>
   Lo.elim r2 (fun s1 =>
    some s1) (fun s2 =>
    some (-1))
  else none
theorem laws_szHoldS_ok (a : List Hold) (left : Int) : Pn (fun y => Fn Try.prog 177 [(false, E150 a), (false, E3 left)] (E3 y) []) (laws_szHoldS a left) := by
  unfold laws_szHoldS
  exact
   Pn.ite (fun h1 =>
    Pn.some (Fn.of [.wait 4, .nm 8 (V.sc (.int .i64 (a.length : Int))), .bit true] (p := [V.sc (.int .i64 ((List.map E214 a).length : Int)) = V.sc (.int .i64 (a.length : Int)),
     (decide ((i64 (left - (a.length : Int))) < 0)) = true]) (by kernel_rfl) (cj (len_nm _ _) (cj1 h1)))) (fun h1 =>
    Pn.ite (fun h6 =>
     Pn.bind (fun r2 h7 =>
      Pn.lo (fun s1 h8 =>
       Pn.some (Fn.of [.wait 4, .nm 8 (V.sc (.int .i64 (a.length : Int))), .bit false, .wait 1, .mask [0, 1, 5], .ren [], .loop (X.out 0) (st 27 [(1, V.sc (.int .i64 s1))] [] [])] (p := [V.sc (.int .i64 ((List.map E214 a).length : Int)) = V.sc (.int .i64 (a.length : Int)),
        (decide ((i64 (left - (a.length : Int))) < 0)) = false,
        Loop Try.prog (sub (codeOf Try.prog 177) [1, 1, 1, 0, 1, 0, 0]) (st 27 [(0, V.sl false 214 (List.map E214 a)), (1, V.sc (.int .i64 (i64 (left - (a.length : Int))))), (5, V.sc (.int .i64 0))] [] []) (X.out 0) (st 27 [(1, V.sc (.int .i64 s1))] [] [])]) (by kernel_rfl) (cj (len_nm _ _) (cj h1 (cj1 ((laws_szHoldS_l0_ok a h6 a [] rfl (i64 (left - (a.length : Int))) r2 h7).at h8)))))) (fun s2 h9 =>
       Pn.some (Fn.of [.wait 4, .nm 8 (V.sc (.int .i64 (a.length : Int))), .bit false, .wait 1, .mask [0, 1, 5], .ren [], .loop (X.ret) (st 27 [(4, V.sc (.int .i64 (-1)))] [] [])] (p := [V.sc (.int .i64 ((List.map E214 a).length : Int)) = V.sc (.int .i64 (a.length : Int)),
        (decide ((i64 (left - (a.length : Int))) < 0)) = false,
        Loop Try.prog (sub (codeOf Try.prog 177) [1, 1, 1, 0, 1, 0, 0]) (st 27 [(0, V.sl false 214 (List.map E214 a)), (1, V.sc (.int .i64 (i64 (left - (a.length : Int))))), (5, V.sc (.int .i64 0))] [] []) (X.ret) (st 27 [(4, V.sc (.int .i64 (-1)))] [] [])]) (by kernel_rfl) (cj (len_nm _ _) (cj h1 (cj1 ((laws_szHoldS_l0_ok a h6 a [] rfl (i64 (left - (a.length : Int))) r2 h7).at h9)))))))) (fun h6 =>
     Pn.none))
def laws_szIntS (a : List Int) (left : Int) : Option (Int) :=
 if (decide ((i64 (left - (a.length : Int))) < 0)) = true then
  some (-1)
 else
  some (i64 (left - (a.length : Int)))
theorem laws_szIntS_ok (a : List Int) (left : Int) : Pn (fun y => Fn Try.prog 171 [(false, E49 a), (false, E3 left)] (E3 y) []) (laws_szIntS a left) := by
  unfold laws_szIntS
  exact
   Pn.ite (fun h1 =>
    Pn.some (Fn.of [.wait 4, .nm 7 (V.sc (.int .i64 (a.length : Int))), .bit true] (p := [V.sc (.int .i64 ((List.map E3 a).length : Int)) = V.sc (.int .i64 (a.length : Int)),
     (decide ((i64 (left - (a.length : Int))) < 0)) = true]) (by kernel_rfl) (cj (len_nm _ _) (cj1 h1)))) (fun h1 =>
    Pn.some (Fn.of [.wait 4, .nm 7 (V.sc (.int .i64 (a.length : Int))), .bit false] (p := [V.sc (.int .i64 ((List.map E3 a).length : Int)) = V.sc (.int .i64 (a.length : Int)),
     (decide ((i64 (left - (a.length : Int))) < 0)) = false]) (by kernel_rfl) (cj (len_nm _ _) (cj1 h1))))
def laws_szRing (a : Ring) (left : Int) : Option (Int) :=
 (laws_szIntS a.Counts left).bind fun r1 =>
 if (decide (r1 < 0)) = true then
  some (-1)
 else
  (laws_szIntS a.Sums r1).bind fun r2 =>
  if (decide (r2 < 0)) = true then
   some (-1)
  else
   some r2
theorem laws_szRing_ok (a : Ring) (left : Int) : Pn (fun y => Fn Try.prog 178 [(false, E151 a), (false, E3 left)] (E3 y) []) (laws_szRing a left) := by
  unfold laws_szRing
  exact
   Pn.bind (fun r1 h1 =>
    Pn.ite (fun h2 =>
     Pn.some (Fn.of [.call [] (E3 r1) [], .bit true] (p := [Fn Try.prog 171 [(false, E49 a.Counts), (false, E3 left)] (E3 r1) [],
      (true || ((E3 r1).nv && nvL [])) = true,
      (decide (r1 < 0)) = true]) (by kernel_rfl) (cj (laws_szIntS_ok a.Counts left r1 h1) (cj rfl (cj1 h2))))) (fun h2 =>
     Pn.bind (fun r2 h3 =>
      Pn.ite (fun h4 =>
       Pn.some (Fn.of [.call [] (E3 r1) [], .bit false, .call [] (E3 r2) [], .bit true] (p := [Fn Try.prog 171 [(false, E49 a.Counts), (false, E3 left)] (E3 r1) [],
        (true || ((E3 r1).nv && nvL [])) = true,
        (decide (r1 < 0)) = false,
        Fn Try.prog 171 [(false, E49 a.Sums), (false, E3 r1)] (E3 r2) [],
        (true || ((E3 r2).nv && nvL [])) = true,
        (decide (r2 < 0)) = true]) (by kernel_rfl) (cj (laws_szIntS_ok a.Counts left r1 h1) (cj rfl (cj h2 (cj (laws_szIntS_ok a.Sums r1 r2 h3) (cj rfl (cj1 h4)))))))) (fun h4 =>
       Pn.some (Fn.of [.call [] (E3 r1) [], .bit false, .call [] (E3 r2) [], .bit false] (p := [Fn Try.prog 171 [(false, E49 a.Counts), (false, E3 left)] (E3 r1) [],
        (true || ((E3 r1).nv && nvL [])) = true,
        (decide (r1 < 0)) = false,
        Fn Try.prog 171 [(false, E49 a.Sums), (false, E3 r1)] (E3 r2) [],
        (true || ((E3 r2).nv && nvL [])) = true,
        (decide (r2 < 0)) = false]) (by kernel_rfl) (cj (laws_szIntS_ok a.Counts left r1 h1) (cj rfl (cj h2 (cj (laws_szIntS_ok a.Sums r1 r2 h3) (cj rfl (cj1 h4)))))))))))
def laws_szByteS (a : List Int) (left : Int) : Option (Int) :=
 if (decide ((i64 (left - (a.length : Int))) < 0)) = true then
  some (-1)
 else
  some (i64 (left - (a.length : Int)))
theorem laws_szByteS_ok (a : List Int) (left : Int) : Pn (fun y => Fn Try.prog 170 [(false, E47 a), (false, E3 left)] (E3 y) []) (laws_szByteS a left) := by
  unfold laws_szByteS
  exact
   Pn.ite (fun h1 =>
    Pn.some (Fn.of [.wait 4, .nm 7 (V.sc (.int .i64 (a.length : Int))), .bit true] (p := [V.sc (.int .i64 ((List.map E5 a).length : Int)) = V.sc (.int .i64 (a.length : Int)),
     (decide ((i64 (left - (a.length : Int))) < 0)) = true]) (by kernel_rfl) (cj (len_nm _ _) (cj1 h1)))) (fun h1 =>
    Pn.some (Fn.of [.wait 4, .nm 7 (V.sc (.int .i64 (a.length : Int))), .bit false] (p := [V.sc (.int .i64 ((List.map E5 a).length : Int)) = V.sc (.int .i64 (a.length : Int)),
     (decide ((i64 (left - (a.length : Int))) < 0)) = false]) (by kernel_rfl) (cj (len_nm _ _) (cj1 h1))))
def laws_szSlot (a : Slot) (left : Int) : Option (Int) :=
 if (decide ((i64 (left - (a.Trace.size : Int))) < 0)) = true then
  some (-1)
 else
  if (decide ((i64 ((i64 (left - (a.Trace.size : Int))) - (a.Mti.size : Int))) < 0)) = true then
   some (-1)
  else
   (laws_szByteS a.Reply (i64 ((i64 (left - (a.Trace.size : Int))) - (a.Mti.size : Int)))).bind fun r1 =>
   if (decide (r1 < 0)) = true then
    some (-1)
   else
    some r1
theorem laws_szSlot_ok (a : Slot) (left : Int) : Pn (fun y => Fn Try.prog 209 [(false, E216 a), (false, E3 left)] (E3 y) []) (laws_szSlot a left) := by
  unfold laws_szSlot
  exact
   Pn.ite (fun h1 =>
    Pn.some (Fn.of [.bit true] (p := [(decide ((i64 (left - (a.Trace.size : Int))) < 0)) = true]) (by kernel_rfl) (cj1 h1))) (fun h1 =>
    Pn.ite (fun h2 =>
     Pn.some (Fn.of [.bit false, .bit true] (p := [(decide ((i64 (left - (a.Trace.size : Int))) < 0)) = false,
      (decide ((i64 ((i64 (left - (a.Trace.size : Int))) - (a.Mti.size : Int))) < 0)) = true]) (by kernel_rfl) (cj h1 (cj1 h2)))) (fun h2 =>
     Pn.bind (fun r1 h3 =>
      Pn.ite (fun h4 =>
       Pn.some (Fn.of [.bit false, .bit false, .call [] (E3 r1) [], .bit true] (p := [(decide ((i64 (left - (a.Trace.size : Int))) < 0)) = false,
        (decide ((i64 ((i64 (left - (a.Trace.size : Int))) - (a.Mti.size : Int))) < 0)) = false,
        Fn Try.prog 170 [(false, E47 a.Reply), (false, E3 (i64 ((i64 (left - (a.Trace.size : Int))) - (a.Mti.size : Int))))] (E3 r1) [],
        (true || ((E3 r1).nv && nvL [])) = true,
        (decide (r1 < 0)) = true]) (by kernel_rfl) (cj h1 (cj h2 (cj (laws_szByteS_ok a.Reply (i64 ((i64 (left - (a.Trace.size : Int))) - (a.Mti.size : Int))) r1 h3) (cj rfl (cj1 h4))))))) (fun h4 =>
       Pn.some (Fn.of [.bit false, .bit false, .call [] (E3 r1) [], .bit false] (p := [(decide ((i64 (left - (a.Trace.size : Int))) < 0)) = false,
        (decide ((i64 ((i64 (left - (a.Trace.size : Int))) - (a.Mti.size : Int))) < 0)) = false,
        Fn Try.prog 170 [(false, E47 a.Reply), (false, E3 (i64 ((i64 (left - (a.Trace.size : Int))) - (a.Mti.size : Int))))] (E3 r1) [],
        (true || ((E3 r1).nv && nvL [])) = true,
        (decide (r1 < 0)) = false]) (by kernel_rfl) (cj h1 (cj h2 (cj (laws_szByteS_ok a.Reply (i64 ((i64 (left - (a.Trace.size : Int))) - (a.Mti.size : Int))) r1 h3) (cj rfl (cj1 h4))))))))))
def laws_szSlotS_l0 (a : List Slot) : List Slot → Int → Option (Lo Int Unit)
  | [], v1 =>
   some (.out v1)
  | x1 :: t1, v1 =>
   (laws_szSlot x1 v1).bind fun r1 =>
   if (decide (r1 < 0)) = true then
    some (.ret ())
   else
    laws_szSlotS_l0 a t1 r1
theorem laws_szSlotS_l0_ok (a : List Slot) (h3 : capOk a.length = true) : ∀ (t1 p1 : List Slot) (_ : a = p1 ++ t1) (v1 : Int), Pn (LpO Try.prog (sub (codeOf Try.prog 179) [1, 1, 1, 0, 1, 0, 0]) (st 27 [(0, V.sl false 216 (List.map E216 a)), (1, V.sc (.int .i64 v1)), (5, V.sc (.int .i64 (p1.length : Int)))] [] []) (fun (y : Lo Int Unit) => Lo.elim y (fun s => (X.out 0, st 27 [(1, V.sc (.int .i64 s))] [] [])) (fun s => (X.ret, st 27 [(4, V.sc (.int .i64 (-1)))] [] [])))) (laws_szSlotS_l0 a t1 v1)
  | [], p1, h2, v1 => by
    unfold laws_szSlotS_l0
    exact
     Pn.some (LpO.out [.wait 3, .nm 14 (V.sc (.int .i64 (a.length : Int))), .bit false, .mask [1], .ren []] (p := [V.sc (.int .i64 ((List.map E216 a).length : Int)) = V.sc (.int .i64 (a.length : Int)),
      (decide ((p1.length : Int) < (a.length : Int))) = false]) (by kernel_rfl) (show X.out 0 ≠ X.go from nofun) (cj (len_nm _ _) (cj1 (rng_end h2))))
  | x1 :: t1, p1, h2, v1 => by
    unfold laws_szSlotS_l0
    exact
     Pn.bind (fun r1 h4 =>
      Pn.ite (fun h5 =>
       Pn.some (LpO.out [.wait 3, .nm 14 (V.sc (.int .i64 (a.length : Int))), .bit true, .el (E216 x1), .call [] (E3 r1) [], .bit true, .wait 1, .mask [4], .ren []] (p := [V.sc (.int .i64 ((List.map E216 a).length : Int)) = V.sc (.int .i64 (a.length : Int)),
        (decide ((p1.length : Int) < (a.length : Int))) = true,
        (0 : Int) ≤ (p1.length : Int),
        (List.map E216 a)[(p1.length : Int).toNat]? = some (E216 x1),
        Fn Try.prog 209 [(false, E216 x1), (false, E3 v1)] (E3 r1) [],
        (true || ((E3 r1).nv && nvL [])) = true,
        (decide (r1 < 0)) = true]) (by kernel_rfl) (show X.ret ≠ X.go from nofun) (cj (len_nm _ _) (cj (rng_lt h2) (cj (by omega) (cj (rng_get _ h2) (cj (laws_szSlot_ok x1 v1 r1 h4) (cj rfl (cj1 h5))))))))) (fun h5 =>
       LpO.go [.wait 3, .nm 14 (V.sc (.int .i64 (a.length : Int))), .bit true, .el (E216 x1), .call [] (E3 r1) [], .bit false, .wait 3, .mask [0, 1, 5], .ren [], .nm 5 (V.sc (.int .i64 ((p1 ++ [x1]).length : Int)))] (p := [V.sc (.int .i64 ((List.map E216 a).length : Int)) = V.sc (.int .i64 (a.length : Int)),
        (decide ((p1.length : Int) < (a.length : Int))) = true,
        (0 : Int) ≤ (p1.length : Int),
        (List.map E216 a)[(p1.length : Int).toNat]? = some (E216 x1),
        Fn Try.prog 209 [(false, E216 x1), (false, E3 v1)] (E3 r1) [],
        (true || ((E3 r1).nv && nvL [])) = true,
        (decide (r1 < 0)) = false,
        V.sc (.int .i64 (i64 ((p1.length : Int) + 1))) = V.sc (.int .i64 ((p1 ++ [x1]).length : Int))]) (by kernel_rfl) (cj (len_nm _ _) (cj (rng_lt h2) (cj (by omega) (cj (rng_get _ h2) (cj (laws_szSlot_ok x1 v1 r1 h4) (cj rfl (cj h5 (cj1 (rng_next h2 h3))))))))) (laws_szSlotS_l0_ok a h3 t1 (p1 ++ [x1]) (rng_step h2) r1)))
def laws_szSlotS (a : List Slot) (left : Int) : Option (Int) :=
 if (decide ((i64 (left - (a.length : Int))) < 0)) = true then
  some (-1)
 else
  if (capOk a.length) = true then
   (laws_szSlotS_l0 a a (i64 (left - (a.length : Int)))).bind fun r2 =>
   Lo.elim r2 (fun s1 =>
    some s1) (fun s2 =>
    some (-1))
  else none
theorem laws_szSlotS_ok (a : List Slot) (left : Int) : Pn (fun y => Fn Try.prog 179 [(false, E152 a), (false, E3 left)] (E3 y) []) (laws_szSlotS a left) := by
  unfold laws_szSlotS
  exact
   Pn.ite (fun h1 =>
    Pn.some (Fn.of [.wait 4, .nm 8 (V.sc (.int .i64 (a.length : Int))), .bit true] (p := [V.sc (.int .i64 ((List.map E216 a).length : Int)) = V.sc (.int .i64 (a.length : Int)),
     (decide ((i64 (left - (a.length : Int))) < 0)) = true]) (by kernel_rfl) (cj (len_nm _ _) (cj1 h1)))) (fun h1 =>
    Pn.ite (fun h6 =>
     Pn.bind (fun r2 h7 =>
      Pn.lo (fun s1 h8 =>
       Pn.some (Fn.of [.wait 4, .nm 8 (V.sc (.int .i64 (a.length : Int))), .bit false, .wait 1, .mask [0, 1, 5], .ren [], .loop (X.out 0) (st 27 [(1, V.sc (.int .i64 s1))] [] [])] (p := [V.sc (.int .i64 ((List.map E216 a).length : Int)) = V.sc (.int .i64 (a.length : Int)),
        (decide ((i64 (left - (a.length : Int))) < 0)) = false,
        Loop Try.prog (sub (codeOf Try.prog 179) [1, 1, 1, 0, 1, 0, 0]) (st 27 [(0, V.sl false 216 (List.map E216 a)), (1, V.sc (.int .i64 (i64 (left - (a.length : Int))))), (5, V.sc (.int .i64 0))] [] []) (X.out 0) (st 27 [(1, V.sc (.int .i64 s1))] [] [])]) (by kernel_rfl) (cj (len_nm _ _) (cj h1 (cj1 ((laws_szSlotS_l0_ok a h6 a [] rfl (i64 (left - (a.length : Int))) r2 h7).at h8)))))) (fun s2 h9 =>
       Pn.some (Fn.of [.wait 4, .nm 8 (V.sc (.int .i64 (a.length : Int))), .bit false, .wait 1, .mask [0, 1, 5], .ren [], .loop (X.ret) (st 27 [(4, V.sc (.int .i64 (-1)))] [] [])] (p := [V.sc (.int .i64 ((List.map E216 a).length : Int)) = V.sc (.int .i64 (a.length : Int)),
        (decide ((i64 (left - (a.length : Int))) < 0)) = false,
        Loop Try.prog (sub (codeOf Try.prog 179) [1, 1, 1, 0, 1, 0, 0]) (st 27 [(0, V.sl false 216 (List.map E216 a)), (1, V.sc (.int .i64 (i64 (left - (a.length : Int))))), (5, V.sc (.int .i64 0))] [] []) (X.ret) (st 27 [(4, V.sc (.int .i64 (-1)))] [] [])]) (by kernel_rfl) (cj (len_nm _ _) (cj h1 (cj1 ((laws_szSlotS_l0_ok a h6 a [] rfl (i64 (left - (a.length : Int))) r2 h7).at h9)))))))) (fun h6 =>
     Pn.none))
def laws_szAcct (a : Acct) (left : Int) : Option (Int) :=
 if (decide ((i64 (left - (a.Id.size : Int))) < 0)) = true then
  some (-1)
 else
  (laws_szHoldS a.Holds (i64 (left - (a.Id.size : Int)))).bind fun r1 =>
  if (decide (r1 < 0)) = true then
   some (-1)
  else
   (laws_szRing (Ring.mk a.Ring.Span a.Ring.Head a.Ring.Counts a.Ring.Sums) r1).bind fun r2 =>
   if (decide (r2 < 0)) = true then
    some (-1)
   else
    (laws_szSlotS a.Slots r2).bind fun r3 =>
    if (decide (r3 < 0)) = true then
     some (-1)
    else
     some r3
theorem laws_szAcct_ok (a : Acct) (left : Int) : Pn (fun y => Fn Try.prog 124 [(false, E154 a), (false, E3 left)] (E3 y) []) (laws_szAcct a left) := by
  unfold laws_szAcct
  exact
   Pn.ite (fun h1 =>
    Pn.some (Fn.of [.bit true] (p := [(decide ((i64 (left - (a.Id.size : Int))) < 0)) = true]) (by kernel_rfl) (cj1 h1))) (fun h1 =>
    Pn.bind (fun r1 h2 =>
     Pn.ite (fun h3 =>
      Pn.some (Fn.of [.bit false, .call [] (E3 r1) [], .bit true] (p := [(decide ((i64 (left - (a.Id.size : Int))) < 0)) = false,
       Fn Try.prog 177 [(false, E150 a.Holds), (false, E3 (i64 (left - (a.Id.size : Int))))] (E3 r1) [],
       (true || ((E3 r1).nv && nvL [])) = true,
       (decide (r1 < 0)) = true]) (by kernel_rfl) (cj h1 (cj (laws_szHoldS_ok a.Holds (i64 (left - (a.Id.size : Int))) r1 h2) (cj rfl (cj1 h3)))))) (fun h3 =>
      Pn.bind (fun r2 h4 =>
       Pn.ite (fun h5 =>
        Pn.some (Fn.of [.bit false, .call [] (E3 r1) [], .bit false, .call [] (E3 r2) [], .bit true] (p := [(decide ((i64 (left - (a.Id.size : Int))) < 0)) = false,
         Fn Try.prog 177 [(false, E150 a.Holds), (false, E3 (i64 (left - (a.Id.size : Int))))] (E3 r1) [],
         (true || ((E3 r1).nv && nvL [])) = true,
         (decide (r1 < 0)) = false,
         Fn Try.prog 178 [(false, E151 (Ring.mk a.Ring.Span a.Ring.Head a.Ring.Counts a.Ring.Sums)), (false, E3 r1)] (E3 r2) [],
         (true || ((E3 r2).nv && nvL [])) = true,
         (decide (r2 < 0)) = true]) (by kernel_rfl) (cj h1 (cj (laws_szHoldS_ok a.Holds (i64 (left - (a.Id.size : Int))) r1 h2) (cj rfl (cj h3 (cj (laws_szRing_ok (Ring.mk a.Ring.Span a.Ring.Head a.Ring.Counts a.Ring.Sums) r1 r2 h4) (cj rfl (cj1 h5))))))))) (fun h5 =>
        Pn.bind (fun r3 h6 =>
         Pn.ite (fun h7 =>
          Pn.some (Fn.of [.bit false, .call [] (E3 r1) [], .bit false, .call [] (E3 r2) [], .bit false, .call [] (E3 r3) [], .bit true] (p := [(decide ((i64 (left - (a.Id.size : Int))) < 0)) = false,
           Fn Try.prog 177 [(false, E150 a.Holds), (false, E3 (i64 (left - (a.Id.size : Int))))] (E3 r1) [],
           (true || ((E3 r1).nv && nvL [])) = true,
           (decide (r1 < 0)) = false,
           Fn Try.prog 178 [(false, E151 (Ring.mk a.Ring.Span a.Ring.Head a.Ring.Counts a.Ring.Sums)), (false, E3 r1)] (E3 r2) [],
           (true || ((E3 r2).nv && nvL [])) = true,
           (decide (r2 < 0)) = false,
           Fn Try.prog 179 [(false, E152 a.Slots), (false, E3 r2)] (E3 r3) [],
           (true || ((E3 r3).nv && nvL [])) = true,
           (decide (r3 < 0)) = true]) (by kernel_rfl) (cj h1 (cj (laws_szHoldS_ok a.Holds (i64 (left - (a.Id.size : Int))) r1 h2) (cj rfl (cj h3 (cj (laws_szRing_ok (Ring.mk a.Ring.Span a.Ring.Head a.Ring.Counts a.Ring.Sums) r1 r2 h4) (cj rfl (cj h5 (cj (laws_szSlotS_ok a.Slots r2 r3 h6) (cj rfl (cj1 h7)))))))))))) (fun h7 =>
          Pn.some (Fn.of [.bit false, .call [] (E3 r1) [], .bit false, .call [] (E3 r2) [], .bit false, .call [] (E3 r3) [], .bit false] (p := [(decide ((i64 (left - (a.Id.size : Int))) < 0)) = false,
           Fn Try.prog 177 [(false, E150 a.Holds), (false, E3 (i64 (left - (a.Id.size : Int))))] (E3 r1) [],
           (true || ((E3 r1).nv && nvL [])) = true,
           (decide (r1 < 0)) = false,
           Fn Try.prog 178 [(false, E151 (Ring.mk a.Ring.Span a.Ring.Head a.Ring.Counts a.Ring.Sums)), (false, E3 r1)] (E3 r2) [],
           (true || ((E3 r2).nv && nvL [])) = true,
           (decide (r2 < 0)) = false,
           Fn Try.prog 179 [(false, E152 a.Slots), (false, E3 r2)] (E3 r3) [],
           (true || ((E3 r3).nv && nvL [])) = true,
           (decide (r3 < 0)) = false]) (by kernel_rfl) (cj h1 (cj (laws_szHoldS_ok a.Holds (i64 (left - (a.Id.size : Int))) r1 h2) (cj rfl (cj h3 (cj (laws_szRing_ok (Ring.mk a.Ring.Span a.Ring.Head a.Ring.Counts a.Ring.Sums) r1 r2 h4) (cj rfl (cj h5 (cj (laws_szSlotS_ok a.Slots r2 r3 h6) (cj rfl (cj1 h7))))))))))))))))))
def laws_szAcctS_l0 (a : List Acct) : List Acct → Int → Option (Lo Int Unit)
  | [], v1 =>
   some (.out v1)
  | x1 :: t1, v1 =>
   (laws_szAcct x1 v1).bind fun r1 =>
   if (decide (r1 < 0)) = true then
    some (.ret ())
   else
    laws_szAcctS_l0 a t1 r1
theorem laws_szAcctS_l0_ok (a : List Acct) (h3 : capOk a.length = true) : ∀ (t1 p1 : List Acct) (_ : a = p1 ++ t1) (v1 : Int), Pn (LpO Try.prog (sub (codeOf Try.prog 66) [1, 1, 1, 0, 1, 0, 0]) (st 27 [(0, V.sl false 154 (List.map E154 a)), (1, V.sc (.int .i64 v1)), (5, V.sc (.int .i64 (p1.length : Int)))] [] []) (fun (y : Lo Int Unit) => Lo.elim y (fun s => (X.out 0, st 27 [(1, V.sc (.int .i64 s))] [] [])) (fun s => (X.ret, st 27 [(4, V.sc (.int .i64 (-1)))] [] [])))) (laws_szAcctS_l0 a t1 v1)
  | [], p1, h2, v1 => by
    unfold laws_szAcctS_l0
    exact
     Pn.some (LpO.out [.wait 3, .nm 14 (V.sc (.int .i64 (a.length : Int))), .bit false, .mask [1], .ren []] (p := [V.sc (.int .i64 ((List.map E154 a).length : Int)) = V.sc (.int .i64 (a.length : Int)),
      (decide ((p1.length : Int) < (a.length : Int))) = false]) (by kernel_rfl) (show X.out 0 ≠ X.go from nofun) (cj (len_nm _ _) (cj1 (rng_end h2))))
  | x1 :: t1, p1, h2, v1 => by
    unfold laws_szAcctS_l0
    exact
     Pn.bind (fun r1 h4 =>
      Pn.ite (fun h5 =>
       Pn.some (LpO.out [.wait 3, .nm 14 (V.sc (.int .i64 (a.length : Int))), .bit true, .el (E154 x1), .call [] (E3 r1) [], .bit true, .wait 1, .mask [4], .ren []] (p := [V.sc (.int .i64 ((List.map E154 a).length : Int)) = V.sc (.int .i64 (a.length : Int)),
        (decide ((p1.length : Int) < (a.length : Int))) = true,
        (0 : Int) ≤ (p1.length : Int),
        (List.map E154 a)[(p1.length : Int).toNat]? = some (E154 x1),
        Fn Try.prog 124 [(false, E154 x1), (false, E3 v1)] (E3 r1) [],
        (true || ((E3 r1).nv && nvL [])) = true,
        (decide (r1 < 0)) = true]) (by kernel_rfl) (show X.ret ≠ X.go from nofun) (cj (len_nm _ _) (cj (rng_lt h2) (cj (by omega) (cj (rng_get _ h2) (cj (laws_szAcct_ok x1 v1 r1 h4) (cj rfl (cj1 h5))))))))) (fun h5 =>
       LpO.go [.wait 3, .nm 14 (V.sc (.int .i64 (a.length : Int))), .bit true, .el (E154 x1), .call [] (E3 r1) [], .bit false, .wait 3, .mask [0, 1, 5], .ren [], .nm 5 (V.sc (.int .i64 ((p1 ++ [x1]).length : Int)))] (p := [V.sc (.int .i64 ((List.map E154 a).length : Int)) = V.sc (.int .i64 (a.length : Int)),
        (decide ((p1.length : Int) < (a.length : Int))) = true,
        (0 : Int) ≤ (p1.length : Int),
        (List.map E154 a)[(p1.length : Int).toNat]? = some (E154 x1),
        Fn Try.prog 124 [(false, E154 x1), (false, E3 v1)] (E3 r1) [],
        (true || ((E3 r1).nv && nvL [])) = true,
        (decide (r1 < 0)) = false,
        V.sc (.int .i64 (i64 ((p1.length : Int) + 1))) = V.sc (.int .i64 ((p1 ++ [x1]).length : Int))]) (by kernel_rfl) (cj (len_nm _ _) (cj (rng_lt h2) (cj (by omega) (cj (rng_get _ h2) (cj (laws_szAcct_ok x1 v1 r1 h4) (cj rfl (cj h5 (cj1 (rng_next h2 h3))))))))) (laws_szAcctS_l0_ok a h3 t1 (p1 ++ [x1]) (rng_step h2) r1)))
def laws_szAcctS (a : List Acct) (left : Int) : Option (Int) :=
 if (decide ((i64 (left - (a.length : Int))) < 0)) = true then
  some (-1)
 else
  if (capOk a.length) = true then
   (laws_szAcctS_l0 a a (i64 (left - (a.length : Int)))).bind fun r2 =>
   Lo.elim r2 (fun s1 =>
    some s1) (fun s2 =>
    some (-1))
  else none
theorem laws_szAcctS_ok (a : List Acct) (left : Int) : Pn (fun y => Fn Try.prog 66 [(false, E35 a), (false, E3 left)] (E3 y) []) (laws_szAcctS a left) := by
  unfold laws_szAcctS
  exact
   Pn.ite (fun h1 =>
    Pn.some (Fn.of [.wait 4, .nm 8 (V.sc (.int .i64 (a.length : Int))), .bit true] (p := [V.sc (.int .i64 ((List.map E154 a).length : Int)) = V.sc (.int .i64 (a.length : Int)),
     (decide ((i64 (left - (a.length : Int))) < 0)) = true]) (by kernel_rfl) (cj (len_nm _ _) (cj1 h1)))) (fun h1 =>
    Pn.ite (fun h6 =>
     Pn.bind (fun r2 h7 =>
      Pn.lo (fun s1 h8 =>
       Pn.some (Fn.of [.wait 4, .nm 8 (V.sc (.int .i64 (a.length : Int))), .bit false, .wait 1, .mask [0, 1, 5], .ren [], .loop (X.out 0) (st 27 [(1, V.sc (.int .i64 s1))] [] [])] (p := [V.sc (.int .i64 ((List.map E154 a).length : Int)) = V.sc (.int .i64 (a.length : Int)),
        (decide ((i64 (left - (a.length : Int))) < 0)) = false,
        Loop Try.prog (sub (codeOf Try.prog 66) [1, 1, 1, 0, 1, 0, 0]) (st 27 [(0, V.sl false 154 (List.map E154 a)), (1, V.sc (.int .i64 (i64 (left - (a.length : Int))))), (5, V.sc (.int .i64 0))] [] []) (X.out 0) (st 27 [(1, V.sc (.int .i64 s1))] [] [])]) (by kernel_rfl) (cj (len_nm _ _) (cj h1 (cj1 ((laws_szAcctS_l0_ok a h6 a [] rfl (i64 (left - (a.length : Int))) r2 h7).at h8)))))) (fun s2 h9 =>
       Pn.some (Fn.of [.wait 4, .nm 8 (V.sc (.int .i64 (a.length : Int))), .bit false, .wait 1, .mask [0, 1, 5], .ren [], .loop (X.ret) (st 27 [(4, V.sc (.int .i64 (-1)))] [] [])] (p := [V.sc (.int .i64 ((List.map E154 a).length : Int)) = V.sc (.int .i64 (a.length : Int)),
        (decide ((i64 (left - (a.length : Int))) < 0)) = false,
        Loop Try.prog (sub (codeOf Try.prog 66) [1, 1, 1, 0, 1, 0, 0]) (st 27 [(0, V.sl false 154 (List.map E154 a)), (1, V.sc (.int .i64 (i64 (left - (a.length : Int))))), (5, V.sc (.int .i64 0))] [] []) (X.ret) (st 27 [(4, V.sc (.int .i64 (-1)))] [] [])]) (by kernel_rfl) (cj (len_nm _ _) (cj h1 (cj1 ((laws_szAcctS_l0_ok a h6 a [] rfl (i64 (left - (a.length : Int))) r2 h7).at h9)))))))) (fun h6 =>
     Pn.none))
def laws_szStripe (a : Stripe) (left : Int) : Option (Int) :=
 (laws_szAcctS a.Accts left).bind fun r1 =>
 if (decide (r1 < 0)) = true then
  some (-1)
 else
  some r1
theorem laws_szStripe_ok (a : Stripe) (left : Int) : Pn (fun y => Fn Try.prog 100 [(false, E132 a), (false, E3 left)] (E3 y) []) (laws_szStripe a left) := by
  unfold laws_szStripe
  exact
   Pn.bind (fun r1 h1 =>
    Pn.ite (fun h2 =>
     Pn.some (Fn.of [.call [] (E3 r1) [], .bit true] (p := [Fn Try.prog 66 [(false, E35 a.Accts), (false, E3 left)] (E3 r1) [],
      (true || ((E3 r1).nv && nvL [])) = true,
      (decide (r1 < 0)) = true]) (by kernel_rfl) (cj (laws_szAcctS_ok a.Accts left r1 h1) (cj rfl (cj1 h2))))) (fun h2 =>
     Pn.some (Fn.of [.call [] (E3 r1) [], .bit false] (p := [Fn Try.prog 66 [(false, E35 a.Accts), (false, E3 left)] (E3 r1) [],
      (true || ((E3 r1).nv && nvL [])) = true,
      (decide (r1 < 0)) = false]) (by kernel_rfl) (cj (laws_szAcctS_ok a.Accts left r1 h1) (cj rfl (cj1 h2))))))
def laws_szStripeS_l0 (a : List Stripe) : List Stripe → Int → Option (Lo Int Unit)
  | [], v1 =>
   some (.out v1)
  | x1 :: t1, v1 =>
   (laws_szStripe x1 v1).bind fun r1 =>
   if (decide (r1 < 0)) = true then
    some (.ret ())
   else
    laws_szStripeS_l0 a t1 r1
theorem laws_szStripeS_l0_ok (a : List Stripe) (h3 : capOk a.length = true) : ∀ (t1 p1 : List Stripe) (_ : a = p1 ++ t1) (v1 : Int), Pn (LpO Try.prog (sub (codeOf Try.prog 42) [1, 1, 1, 0, 1, 0, 0]) (st 27 [(0, V.sl false 132 (List.map E132 a)), (1, V.sc (.int .i64 v1)), (5, V.sc (.int .i64 (p1.length : Int)))] [] []) (fun (y : Lo Int Unit) => Lo.elim y (fun s => (X.out 0, st 27 [(1, V.sc (.int .i64 s))] [] [])) (fun s => (X.ret, st 27 [(4, V.sc (.int .i64 (-1)))] [] [])))) (laws_szStripeS_l0 a t1 v1)
  | [], p1, h2, v1 => by
    unfold laws_szStripeS_l0
    exact
     Pn.some (LpO.out [.wait 3, .nm 14 (V.sc (.int .i64 (a.length : Int))), .bit false, .mask [1], .ren []] (p := [V.sc (.int .i64 ((List.map E132 a).length : Int)) = V.sc (.int .i64 (a.length : Int)),
      (decide ((p1.length : Int) < (a.length : Int))) = false]) (by kernel_rfl) (show X.out 0 ≠ X.go from nofun) (cj (len_nm _ _) (cj1 (rng_end h2))))
  | x1 :: t1, p1, h2, v1 => by
    unfold laws_szStripeS_l0
    exact
     Pn.bind (fun r1 h4 =>
      Pn.ite (fun h5 =>
       Pn.some (LpO.out [.wait 3, .nm 14 (V.sc (.int .i64 (a.length : Int))), .bit true, .el (E132 x1), .call [] (E3 r1) [], .bit true, .wait 1, .mask [4], .ren []] (p := [V.sc (.int .i64 ((List.map E132 a).length : Int)) = V.sc (.int .i64 (a.length : Int)),
        (decide ((p1.length : Int) < (a.length : Int))) = true,
        (0 : Int) ≤ (p1.length : Int),
        (List.map E132 a)[(p1.length : Int).toNat]? = some (E132 x1),
        Fn Try.prog 100 [(false, E132 x1), (false, E3 v1)] (E3 r1) [],
        (true || ((E3 r1).nv && nvL [])) = true,
        (decide (r1 < 0)) = true]) (by kernel_rfl) (show X.ret ≠ X.go from nofun) (cj (len_nm _ _) (cj (rng_lt h2) (cj (by omega) (cj (rng_get _ h2) (cj (laws_szStripe_ok x1 v1 r1 h4) (cj rfl (cj1 h5))))))))) (fun h5 =>
       LpO.go [.wait 3, .nm 14 (V.sc (.int .i64 (a.length : Int))), .bit true, .el (E132 x1), .call [] (E3 r1) [], .bit false, .wait 3, .mask [0, 1, 5], .ren [], .nm 5 (V.sc (.int .i64 ((p1 ++ [x1]).length : Int)))] (p := [V.sc (.int .i64 ((List.map E132 a).length : Int)) = V.sc (.int .i64 (a.length : Int)),
        (decide ((p1.length : Int) < (a.length : Int))) = true,
        (0 : Int) ≤ (p1.length : Int),
        (List.map E132 a)[(p1.length : Int).toNat]? = some (E132 x1),
        Fn Try.prog 100 [(false, E132 x1), (false, E3 v1)] (E3 r1) [],
        (true || ((E3 r1).nv && nvL [])) = true,
        (decide (r1 < 0)) = false,
        V.sc (.int .i64 (i64 ((p1.length : Int) + 1))) = V.sc (.int .i64 ((p1 ++ [x1]).length : Int))]) (by kernel_rfl) (cj (len_nm _ _) (cj (rng_lt h2) (cj (by omega) (cj (rng_get _ h2) (cj (laws_szStripe_ok x1 v1 r1 h4) (cj rfl (cj h5 (cj1 (rng_next h2 h3))))))))) (laws_szStripeS_l0_ok a h3 t1 (p1 ++ [x1]) (rng_step h2) r1)))
def laws_szStripeS (a : List Stripe) (left : Int) : Option (Int) :=
 if (decide ((i64 (left - (a.length : Int))) < 0)) = true then
  some (-1)
 else
  if (capOk a.length) = true then
   (laws_szStripeS_l0 a a (i64 (left - (a.length : Int)))).bind fun r2 =>
   Lo.elim r2 (fun s1 =>
    some s1) (fun s2 =>
    some (-1))
  else none
theorem laws_szStripeS_ok (a : List Stripe) (left : Int) : Pn (fun y => Fn Try.prog 42 [(false, E22 a), (false, E3 left)] (E3 y) []) (laws_szStripeS a left) := by
  unfold laws_szStripeS
  exact
   Pn.ite (fun h1 =>
    Pn.some (Fn.of [.wait 4, .nm 8 (V.sc (.int .i64 (a.length : Int))), .bit true] (p := [V.sc (.int .i64 ((List.map E132 a).length : Int)) = V.sc (.int .i64 (a.length : Int)),
     (decide ((i64 (left - (a.length : Int))) < 0)) = true]) (by kernel_rfl) (cj (len_nm _ _) (cj1 h1)))) (fun h1 =>
    Pn.ite (fun h6 =>
     Pn.bind (fun r2 h7 =>
      Pn.lo (fun s1 h8 =>
       Pn.some (Fn.of [.wait 4, .nm 8 (V.sc (.int .i64 (a.length : Int))), .bit false, .wait 1, .mask [0, 1, 5], .ren [], .loop (X.out 0) (st 27 [(1, V.sc (.int .i64 s1))] [] [])] (p := [V.sc (.int .i64 ((List.map E132 a).length : Int)) = V.sc (.int .i64 (a.length : Int)),
        (decide ((i64 (left - (a.length : Int))) < 0)) = false,
        Loop Try.prog (sub (codeOf Try.prog 42) [1, 1, 1, 0, 1, 0, 0]) (st 27 [(0, V.sl false 132 (List.map E132 a)), (1, V.sc (.int .i64 (i64 (left - (a.length : Int))))), (5, V.sc (.int .i64 0))] [] []) (X.out 0) (st 27 [(1, V.sc (.int .i64 s1))] [] [])]) (by kernel_rfl) (cj (len_nm _ _) (cj h1 (cj1 ((laws_szStripeS_l0_ok a h6 a [] rfl (i64 (left - (a.length : Int))) r2 h7).at h8)))))) (fun s2 h9 =>
       Pn.some (Fn.of [.wait 4, .nm 8 (V.sc (.int .i64 (a.length : Int))), .bit false, .wait 1, .mask [0, 1, 5], .ren [], .loop (X.ret) (st 27 [(4, V.sc (.int .i64 (-1)))] [] [])] (p := [V.sc (.int .i64 ((List.map E132 a).length : Int)) = V.sc (.int .i64 (a.length : Int)),
        (decide ((i64 (left - (a.length : Int))) < 0)) = false,
        Loop Try.prog (sub (codeOf Try.prog 42) [1, 1, 1, 0, 1, 0, 0]) (st 27 [(0, V.sl false 132 (List.map E132 a)), (1, V.sc (.int .i64 (i64 (left - (a.length : Int))))), (5, V.sc (.int .i64 0))] [] []) (X.ret) (st 27 [(4, V.sc (.int .i64 (-1)))] [] [])]) (by kernel_rfl) (cj (len_nm _ _) (cj h1 (cj1 ((laws_szStripeS_l0_ok a h6 a [] rfl (i64 (left - (a.length : Int))) r2 h7).at h9)))))))) (fun h6 =>
     Pn.none))
def laws_szTask (a : Task) (left : Int) : Option (Int) :=
 (laws_szByteS a.Data left).bind fun r1 =>
 if (decide (r1 < 0)) = true then
  some (-1)
 else
  (laws_szIntS a.Set r1).bind fun r2 =>
  if (decide (r2 < 0)) = true then
   some (-1)
  else
   (laws_szByteS a.Reply r2).bind fun r3 =>
   if (decide (r3 < 0)) = true then
    some (-1)
   else
    some r3
theorem laws_szTask_ok (a : Task) (left : Int) : Pn (fun y => Fn Try.prog 117 [(false, E145 a), (false, E3 left)] (E3 y) []) (laws_szTask a left) := by
  unfold laws_szTask
  exact
   Pn.bind (fun r1 h1 =>
    Pn.ite (fun h2 =>
     Pn.some (Fn.of [.call [] (E3 r1) [], .bit true] (p := [Fn Try.prog 170 [(false, E47 a.Data), (false, E3 left)] (E3 r1) [],
      (true || ((E3 r1).nv && nvL [])) = true,
      (decide (r1 < 0)) = true]) (by kernel_rfl) (cj (laws_szByteS_ok a.Data left r1 h1) (cj rfl (cj1 h2))))) (fun h2 =>
     Pn.bind (fun r2 h3 =>
      Pn.ite (fun h4 =>
       Pn.some (Fn.of [.call [] (E3 r1) [], .bit false, .call [] (E3 r2) [], .bit true] (p := [Fn Try.prog 170 [(false, E47 a.Data), (false, E3 left)] (E3 r1) [],
        (true || ((E3 r1).nv && nvL [])) = true,
        (decide (r1 < 0)) = false,
        Fn Try.prog 171 [(false, E49 a.Set), (false, E3 r1)] (E3 r2) [],
        (true || ((E3 r2).nv && nvL [])) = true,
        (decide (r2 < 0)) = true]) (by kernel_rfl) (cj (laws_szByteS_ok a.Data left r1 h1) (cj rfl (cj h2 (cj (laws_szIntS_ok a.Set r1 r2 h3) (cj rfl (cj1 h4)))))))) (fun h4 =>
       Pn.bind (fun r3 h5 =>
        Pn.ite (fun h6 =>
         Pn.some (Fn.of [.call [] (E3 r1) [], .bit false, .call [] (E3 r2) [], .bit false, .call [] (E3 r3) [], .bit true] (p := [Fn Try.prog 170 [(false, E47 a.Data), (false, E3 left)] (E3 r1) [],
          (true || ((E3 r1).nv && nvL [])) = true,
          (decide (r1 < 0)) = false,
          Fn Try.prog 171 [(false, E49 a.Set), (false, E3 r1)] (E3 r2) [],
          (true || ((E3 r2).nv && nvL [])) = true,
          (decide (r2 < 0)) = false,
          Fn Try.prog 170 [(false, E47 a.Reply), (false, E3 r2)] (E3 r3) [],
          (true || ((E3 r3).nv && nvL [])) = true,
          (decide (r3 < 0)) = true]) (by kernel_rfl) (cj (laws_szByteS_ok a.Data left r1 h1) (cj rfl (cj h2 (cj (laws_szIntS_ok a.Set r1 r2 h3) (cj rfl (cj h4 (cj (laws_szByteS_ok a.Reply r2 r3 h5) (cj rfl (cj1 h6))))))))))) (fun h6 =>
         Pn.some (Fn.of [.call [] (E3 r1) [], .bit false, .call [] (E3 r2) [], .bit false, .call [] (E3 r3) [], .bit false] (p := [Fn Try.prog 170 [(false, E47 a.Data), (false, E3 left)] (E3 r1) [],
          (true || ((E3 r1).nv && nvL [])) = true,
          (decide (r1 < 0)) = false,
          Fn Try.prog 171 [(false, E49 a.Set), (false, E3 r1)] (E3 r2) [],
          (true || ((E3 r2).nv && nvL [])) = true,
          (decide (r2 < 0)) = false,
          Fn Try.prog 170 [(false, E47 a.Reply), (false, E3 r2)] (E3 r3) [],
          (true || ((E3 r3).nv && nvL [])) = true,
          (decide (r3 < 0)) = false]) (by kernel_rfl) (cj (laws_szByteS_ok a.Data left r1 h1) (cj rfl (cj h2 (cj (laws_szIntS_ok a.Set r1 r2 h3) (cj rfl (cj h4 (cj (laws_szByteS_ok a.Reply r2 r3 h5) (cj rfl (cj1 h6))))))))))))))))
def laws_szTaskS_l0 (a : List Task) : List Task → Int → Option (Lo Int Unit)
  | [], v1 =>
   some (.out v1)
  | x1 :: t1, v1 =>
   (laws_szTask x1 v1).bind fun r1 =>
   if (decide (r1 < 0)) = true then
    some (.ret ())
   else
    laws_szTaskS_l0 a t1 r1
theorem laws_szTaskS_l0_ok (a : List Task) (h3 : capOk a.length = true) : ∀ (t1 p1 : List Task) (_ : a = p1 ++ t1) (v1 : Int), Pn (LpO Try.prog (sub (codeOf Try.prog 60) [1, 1, 1, 0, 1, 0, 0]) (st 27 [(0, V.sl false 145 (List.map E145 a)), (1, V.sc (.int .i64 v1)), (5, V.sc (.int .i64 (p1.length : Int)))] [] []) (fun (y : Lo Int Unit) => Lo.elim y (fun s => (X.out 0, st 27 [(1, V.sc (.int .i64 s))] [] [])) (fun s => (X.ret, st 27 [(4, V.sc (.int .i64 (-1)))] [] [])))) (laws_szTaskS_l0 a t1 v1)
  | [], p1, h2, v1 => by
    unfold laws_szTaskS_l0
    exact
     Pn.some (LpO.out [.wait 3, .nm 14 (V.sc (.int .i64 (a.length : Int))), .bit false, .mask [1], .ren []] (p := [V.sc (.int .i64 ((List.map E145 a).length : Int)) = V.sc (.int .i64 (a.length : Int)),
      (decide ((p1.length : Int) < (a.length : Int))) = false]) (by kernel_rfl) (show X.out 0 ≠ X.go from nofun) (cj (len_nm _ _) (cj1 (rng_end h2))))
  | x1 :: t1, p1, h2, v1 => by
    unfold laws_szTaskS_l0
    exact
     Pn.bind (fun r1 h4 =>
      Pn.ite (fun h5 =>
       Pn.some (LpO.out [.wait 3, .nm 14 (V.sc (.int .i64 (a.length : Int))), .bit true, .el (E145 x1), .call [] (E3 r1) [], .bit true, .wait 1, .mask [4], .ren []] (p := [V.sc (.int .i64 ((List.map E145 a).length : Int)) = V.sc (.int .i64 (a.length : Int)),
        (decide ((p1.length : Int) < (a.length : Int))) = true,
        (0 : Int) ≤ (p1.length : Int),
        (List.map E145 a)[(p1.length : Int).toNat]? = some (E145 x1),
        Fn Try.prog 117 [(false, E145 x1), (false, E3 v1)] (E3 r1) [],
        (true || ((E3 r1).nv && nvL [])) = true,
        (decide (r1 < 0)) = true]) (by kernel_rfl) (show X.ret ≠ X.go from nofun) (cj (len_nm _ _) (cj (rng_lt h2) (cj (by omega) (cj (rng_get _ h2) (cj (laws_szTask_ok x1 v1 r1 h4) (cj rfl (cj1 h5))))))))) (fun h5 =>
       LpO.go [.wait 3, .nm 14 (V.sc (.int .i64 (a.length : Int))), .bit true, .el (E145 x1), .call [] (E3 r1) [], .bit false, .wait 3, .mask [0, 1, 5], .ren [], .nm 5 (V.sc (.int .i64 ((p1 ++ [x1]).length : Int)))] (p := [V.sc (.int .i64 ((List.map E145 a).length : Int)) = V.sc (.int .i64 (a.length : Int)),
        (decide ((p1.length : Int) < (a.length : Int))) = true,
        (0 : Int) ≤ (p1.length : Int),
        (List.map E145 a)[(p1.length : Int).toNat]? = some (E145 x1),
        Fn Try.prog 117 [(false, E145 x1), (false, E3 v1)] (E3 r1) [],
        (true || ((E3 r1).nv && nvL [])) = true,
        (decide (r1 < 0)) = false,
        V.sc (.int .i64 (i64 ((p1.length : Int) + 1))) = V.sc (.int .i64 ((p1 ++ [x1]).length : Int))]) (by kernel_rfl) (cj (len_nm _ _) (cj (rng_lt h2) (cj (by omega) (cj (rng_get _ h2) (cj (laws_szTask_ok x1 v1 r1 h4) (cj rfl (cj h5 (cj1 (rng_next h2 h3))))))))) (laws_szTaskS_l0_ok a h3 t1 (p1 ++ [x1]) (rng_step h2) r1)))
def laws_szTaskS (a : List Task) (left : Int) : Option (Int) :=
 if (decide ((i64 (left - (a.length : Int))) < 0)) = true then
  some (-1)
 else
  if (capOk a.length) = true then
   (laws_szTaskS_l0 a a (i64 (left - (a.length : Int)))).bind fun r2 =>
   Lo.elim r2 (fun s1 =>
    some s1) (fun s2 =>
    some (-1))
  else none
theorem laws_szTaskS_ok (a : List Task) (left : Int) : Pn (fun y => Fn Try.prog 60 [(false, E23 a), (false, E3 left)] (E3 y) []) (laws_szTaskS a left) := by
  unfold laws_szTaskS
  exact
   Pn.ite (fun h1 =>
    Pn.some (Fn.of [.wait 4, .nm 8 (V.sc (.int .i64 (a.length : Int))), .bit true] (p := [V.sc (.int .i64 ((List.map E145 a).length : Int)) = V.sc (.int .i64 (a.length : Int)),
     (decide ((i64 (left - (a.length : Int))) < 0)) = true]) (by kernel_rfl) (cj (len_nm _ _) (cj1 h1)))) (fun h1 =>
    Pn.ite (fun h6 =>
     Pn.bind (fun r2 h7 =>
      Pn.lo (fun s1 h8 =>
       Pn.some (Fn.of [.wait 4, .nm 8 (V.sc (.int .i64 (a.length : Int))), .bit false, .wait 1, .mask [0, 1, 5], .ren [], .loop (X.out 0) (st 27 [(1, V.sc (.int .i64 s1))] [] [])] (p := [V.sc (.int .i64 ((List.map E145 a).length : Int)) = V.sc (.int .i64 (a.length : Int)),
        (decide ((i64 (left - (a.length : Int))) < 0)) = false,
        Loop Try.prog (sub (codeOf Try.prog 60) [1, 1, 1, 0, 1, 0, 0]) (st 27 [(0, V.sl false 145 (List.map E145 a)), (1, V.sc (.int .i64 (i64 (left - (a.length : Int))))), (5, V.sc (.int .i64 0))] [] []) (X.out 0) (st 27 [(1, V.sc (.int .i64 s1))] [] [])]) (by kernel_rfl) (cj (len_nm _ _) (cj h1 (cj1 ((laws_szTaskS_l0_ok a h6 a [] rfl (i64 (left - (a.length : Int))) r2 h7).at h8)))))) (fun s2 h9 =>
       Pn.some (Fn.of [.wait 4, .nm 8 (V.sc (.int .i64 (a.length : Int))), .bit false, .wait 1, .mask [0, 1, 5], .ren [], .loop (X.ret) (st 27 [(4, V.sc (.int .i64 (-1)))] [] [])] (p := [V.sc (.int .i64 ((List.map E145 a).length : Int)) = V.sc (.int .i64 (a.length : Int)),
        (decide ((i64 (left - (a.length : Int))) < 0)) = false,
        Loop Try.prog (sub (codeOf Try.prog 60) [1, 1, 1, 0, 1, 0, 0]) (st 27 [(0, V.sl false 145 (List.map E145 a)), (1, V.sc (.int .i64 (i64 (left - (a.length : Int))))), (5, V.sc (.int .i64 0))] [] []) (X.ret) (st 27 [(4, V.sc (.int .i64 (-1)))] [] [])]) (by kernel_rfl) (cj (len_nm _ _) (cj h1 (cj1 ((laws_szTaskS_l0_ok a h6 a [] rfl (i64 (left - (a.length : Int))) r2 h7).at h9)))))))) (fun h6 =>
     Pn.none))
def laws_szWorld (a : World) (left : Int) : Option (Int) :=
 (laws_szStripeS a.Stripes left).bind fun r1 =>
 if (decide (r1 < 0)) = true then
  some (-1)
 else
  (laws_szTaskS a.Tasks r1).bind fun r2 =>
  if (decide (r2 < 0)) = true then
   some (-1)
  else
   some r2
theorem laws_szWorld_ok (a : World) (left : Int) : Pn (fun y => Fn Try.prog 13 [(false, E25 a), (false, E3 left)] (E3 y) []) (laws_szWorld a left) := by
  unfold laws_szWorld
  exact
   Pn.bind (fun r1 h1 =>
    Pn.ite (fun h2 =>
     Pn.some (Fn.of [.call [] (E3 r1) [], .bit true] (p := [Fn Try.prog 42 [(false, E22 a.Stripes), (false, E3 left)] (E3 r1) [],
      (true || ((E3 r1).nv && nvL [])) = true,
      (decide (r1 < 0)) = true]) (by kernel_rfl) (cj (laws_szStripeS_ok a.Stripes left r1 h1) (cj rfl (cj1 h2))))) (fun h2 =>
     Pn.bind (fun r2 h3 =>
      Pn.ite (fun h4 =>
       Pn.some (Fn.of [.call [] (E3 r1) [], .bit false, .call [] (E3 r2) [], .bit true] (p := [Fn Try.prog 42 [(false, E22 a.Stripes), (false, E3 left)] (E3 r1) [],
        (true || ((E3 r1).nv && nvL [])) = true,
        (decide (r1 < 0)) = false,
        Fn Try.prog 60 [(false, E23 a.Tasks), (false, E3 r1)] (E3 r2) [],
        (true || ((E3 r2).nv && nvL [])) = true,
        (decide (r2 < 0)) = true]) (by kernel_rfl) (cj (laws_szStripeS_ok a.Stripes left r1 h1) (cj rfl (cj h2 (cj (laws_szTaskS_ok a.Tasks r1 r2 h3) (cj rfl (cj1 h4)))))))) (fun h4 =>
       Pn.some (Fn.of [.call [] (E3 r1) [], .bit false, .call [] (E3 r2) [], .bit false] (p := [Fn Try.prog 42 [(false, E22 a.Stripes), (false, E3 left)] (E3 r1) [],
        (true || ((E3 r1).nv && nvL [])) = true,
        (decide (r1 < 0)) = false,
        Fn Try.prog 60 [(false, E23 a.Tasks), (false, E3 r1)] (E3 r2) [],
        (true || ((E3 r2).nv && nvL [])) = true,
        (decide (r2 < 0)) = false]) (by kernel_rfl) (cj (laws_szStripeS_ok a.Stripes left r1 h1) (cj rfl (cj h2 (cj (laws_szTaskS_ok a.Tasks r1 r2 h3) (cj rfl (cj1 h4)))))))))))
def laws_toHold (a : Hold) : Option (Hold) :=
 some a
theorem laws_toHold_ok (a : Hold) : Pn (fun y => Fn Try.prog 210 [(false, E214 a)] (E61 y) []) (laws_toHold a) := by
  unfold laws_toHold
  exact
   Pn.some (Fn.of [] (p := []) (by kernel_rfl) trivial)
def laws_toHoldS_l0 (a : List Hold) : List Hold → List Hold → (List Hold) → Option ((List Hold))
  | [], p1, v1 =>
   some v1
  | x1 :: t1, p1, v1 =>
   (laws_toHold x1).bind fun r1 =>
   (v1[(p1.length : Int).toNat]?).bind fun x2 =>
   laws_toHoldS_l0 a t1 (p1 ++ [x1]) (v1.set ((p1.length : Int).toNat) r1)
theorem laws_toHoldS_l0_ok (a : List Hold) (h4 : capOk a.length = true) : ∀ (t1 p1 : List Hold) (_ : a = p1 ++ t1) (v1 : List Hold), Pn (LpO Try.prog (sub (codeOf Try.prog 180) [1, 1, 0, 1, 0, 0]) (st 23 [(0, V.sl false 214 (List.map E214 a)), (3, V.ow 0), (4, V.sc (.int .i64 (p1.length : Int)))] [Blk.row 61 (List.map E61 v1) []] []) (fun (y : (List Hold)) => (X.out 0, st 23 [(3, V.ow 0)] [Blk.row 61 (List.map E61 y) []] []))) (laws_toHoldS_l0 a t1 p1 v1)
  | [], p1, h3, v1 => by
    unfold laws_toHoldS_l0
    exact
     Pn.some (LpO.out [.wait 3, .nm 10 (V.sc (.int .i64 (a.length : Int))), .bit false, .mask [3], .ren [0]] (p := [V.sc (.int .i64 ((List.map E214 a).length : Int)) = V.sc (.int .i64 (a.length : Int)),
      (decide ((p1.length : Int) < (a.length : Int))) = false]) (by kernel_rfl) (show X.out 0 ≠ X.go from nofun) (cj (len_nm _ _) (cj1 (rng_end h3))))
  | x1 :: t1, p1, h3, v1 => by
    unfold laws_toHoldS_l0
    exact
     Pn.bind (fun r1 h5 =>
      Pn.bind (fun x2 h6 =>
       LpO.go [.wait 3, .nm 10 (V.sc (.int .i64 (a.length : Int))), .bit true, .el (E214 x1), .call [] (E61 r1) [], .el (E61 x2), .nb 0 (.row 61 (List.map E61 (v1.set ((p1.length : Int).toNat) r1)) []), .wait 4, .mask [0, 3, 4], .ren [0], .nm 4 (V.sc (.int .i64 ((p1 ++ [x1]).length : Int)))] (p := [V.sc (.int .i64 ((List.map E214 a).length : Int)) = V.sc (.int .i64 (a.length : Int)),
        (decide ((p1.length : Int) < (a.length : Int))) = true,
        (0 : Int) ≤ (p1.length : Int),
        (List.map E214 a)[(p1.length : Int).toNat]? = some (E214 x1),
        Fn Try.prog 210 [(false, E214 x1)] (E61 r1) [],
        (true || ((E61 r1).nv && nvL [])) = true,
        (0 : Int) ≤ (p1.length : Int),
        ((p1.length : Int) : Int) < ((List.map E61 v1).length : Int),
        look [] ((p1.length : Int).toNat) = none,
        (List.map E61 v1)[(p1.length : Int).toNat]? = some (E61 x2),
        Blk.row 61 ((List.map E61 v1).set ((p1.length : Int).toNat) (V.agg [V.sc (.string r1.Id), V.sc (.int .i64 r1.Amount), V.sc (.int .i64 r1.Due)])) [] = Blk.row 61 (List.map E61 (v1.set ((p1.length : Int).toNat) r1)) [],
        V.sc (.int .i64 (i64 ((p1.length : Int) + 1))) = V.sc (.int .i64 ((p1 ++ [x1]).length : Int))]) (by kernel_rfl) (cj (len_nm _ _) (cj (rng_lt h3) (cj (by omega) (cj (rng_get _ h3) (cj (laws_toHold_ok x1 r1 h5) (cj rfl (cj (by omega) (cj (map_ltN (by omega) h6) (cj rfl (cj (map_get h6) (cj (nb_set E61 _ _ r1) (cj1 (rng_next h3 h4))))))))))))) (laws_toHoldS_l0_ok a h4 t1 (p1 ++ [x1]) (rng_step h3) (v1.set ((p1.length : Int).toNat) r1))))
def laws_toHoldS (a : List Hold) : Option ((List Hold)) :=
 if (decide (0 ≤ (a.length : Int))) = true then
  if (capOk (a.length : Int).toNat) = true then
   if (capOk a.length) = true then
    (laws_toHoldS_l0 a a [] (List.replicate ((a.length : Int).toNat) (Hold.mk ByteArray.empty 0 0))).bind fun r2 =>
    some r2
   else none
  else none
 else none
theorem laws_toHoldS_ok (a : List Hold) : Pn (fun y => Fn Try.prog 180 [(false, E150 a)] (E48 y) []) (laws_toHoldS a) := by
  unfold laws_toHoldS
  exact
   Pn.ite (fun h1 =>
    Pn.ite (fun h2 =>
     Pn.ite (fun h7 =>
      Pn.bind (fun r2 h8 =>
       Pn.some (Fn.of [.wait 3, .nm 6 (V.sc (.int .i64 (a.length : Int))), .wait 1, .nb 0 (.row 61 (List.map E61 (List.replicate ((a.length : Int).toNat) (Hold.mk ByteArray.empty 0 0))) []), .wait 3, .mask [0, 3, 4], .ren [0], .loop (X.out 0) (st 23 [(3, V.ow 0)] [Blk.row 61 (List.map E61 r2) []] [])] (p := [V.sc (.int .i64 ((List.map E214 a).length : Int)) = V.sc (.int .i64 (a.length : Int)),
        ((a.length : Int) : Int) = (a.length : Int),
        (0 : Int) ≤ (a.length : Int),
        ((a.length : Int) : Int) ≤ 9223372036854775807,
        32 * (a.length : Int).toNat ≤ 281474976710656,
        Blk.row 61 (List.replicate ((a.length : Int).toNat) (V.agg [V.sc (.string ByteArray.empty), V.sc (.int .i64 0), V.sc (.int .i64 0)])) [] = Blk.row 61 (List.map E61 (List.replicate ((a.length : Int).toNat) (Hold.mk ByteArray.empty 0 0))) [],
        Loop Try.prog (sub (codeOf Try.prog 180) [1, 1, 0, 1, 0, 0]) (st 23 [(0, V.sl false 214 (List.map E214 a)), (3, V.ow 0), (4, V.sc (.int .i64 0))] [Blk.row 61 (List.map E61 (List.replicate ((a.length : Int).toNat) (Hold.mk ByteArray.empty 0 0))) []] []) (X.out 0) (st 23 [(3, V.ow 0)] [Blk.row 61 (List.map E61 r2) []] [])]) (by kernel_rfl) (cj (len_nm _ _) (cj rfl (cj (od h1) (cj (cap3 h1 h2) (cj (cap4 h2 (by decide)) (cj (nb_rep E61 _ (Hold.mk ByteArray.empty 0 0)) (cj1 (laws_toHoldS_l0_ok a h7 a [] rfl (List.replicate ((a.length : Int).toNat) (Hold.mk ByteArray.empty 0 0)) r2 h8))))))))))) (fun h7 =>
      Pn.none)) (fun h2 =>
     Pn.none)) (fun h1 =>
    Pn.none)
def laws_toIntS_l0 (a : List Int) : List Int → List Int → (List Int) → Option ((List Int))
  | [], p1, v1 =>
   some v1
  | x1 :: t1, p1, v1 =>
   (v1[(p1.length : Int).toNat]?).bind fun x2 =>
   laws_toIntS_l0 a t1 (p1 ++ [x1]) (v1.set ((p1.length : Int).toNat) x1)
theorem laws_toIntS_l0_ok (a : List Int) (h4 : capOk a.length = true) : ∀ (t1 p1 : List Int) (_ : a = p1 ++ t1) (v1 : List Int), Pn (LpO Try.prog (sub (codeOf Try.prog 173) [1, 1, 0, 1, 0, 0]) (st 22 [(0, V.sl false 3 (List.map E3 a)), (3, V.ow 0), (4, V.sc (.int .i64 (p1.length : Int)))] [Blk.row 3 (List.map E3 v1) []] []) (fun (y : (List Int)) => (X.out 0, st 22 [(3, V.ow 0)] [Blk.row 3 (List.map E3 y) []] []))) (laws_toIntS_l0 a t1 p1 v1)
  | [], p1, h3, v1 => by
    unfold laws_toIntS_l0
    exact
     Pn.some (LpO.out [.wait 3, .nm 10 (V.sc (.int .i64 (a.length : Int))), .bit false, .mask [3], .ren [0]] (p := [V.sc (.int .i64 ((List.map E3 a).length : Int)) = V.sc (.int .i64 (a.length : Int)),
      (decide ((p1.length : Int) < (a.length : Int))) = false]) (by kernel_rfl) (show X.out 0 ≠ X.go from nofun) (cj (len_nm _ _) (cj1 (rng_end h3))))
  | x1 :: t1, p1, h3, v1 => by
    unfold laws_toIntS_l0
    exact
     Pn.bind (fun x2 h5 =>
      LpO.go [.wait 3, .nm 10 (V.sc (.int .i64 (a.length : Int))), .bit true, .el (E3 x1), .el (E3 x2), .nb 0 (.row 3 (List.map E3 (v1.set ((p1.length : Int).toNat) x1)) []), .wait 4, .mask [0, 3, 4], .ren [0], .nm 4 (V.sc (.int .i64 ((p1 ++ [x1]).length : Int)))] (p := [V.sc (.int .i64 ((List.map E3 a).length : Int)) = V.sc (.int .i64 (a.length : Int)),
       (decide ((p1.length : Int) < (a.length : Int))) = true,
       (0 : Int) ≤ (p1.length : Int),
       (List.map E3 a)[(p1.length : Int).toNat]? = some (E3 x1),
       (0 : Int) ≤ (p1.length : Int),
       ((p1.length : Int) : Int) < ((List.map E3 v1).length : Int),
       look [] ((p1.length : Int).toNat) = none,
       (List.map E3 v1)[(p1.length : Int).toNat]? = some (E3 x2),
       Blk.row 3 ((List.map E3 v1).set ((p1.length : Int).toNat) (V.sc (.int .i64 x1))) [] = Blk.row 3 (List.map E3 (v1.set ((p1.length : Int).toNat) x1)) [],
       V.sc (.int .i64 (i64 ((p1.length : Int) + 1))) = V.sc (.int .i64 ((p1 ++ [x1]).length : Int))]) (by kernel_rfl) (cj (len_nm _ _) (cj (rng_lt h3) (cj (by omega) (cj (rng_get _ h3) (cj (by omega) (cj (map_ltN (by omega) h5) (cj rfl (cj (map_get h5) (cj (nb_set E3 _ _ x1) (cj1 (rng_next h3 h4))))))))))) (laws_toIntS_l0_ok a h4 t1 (p1 ++ [x1]) (rng_step h3) (v1.set ((p1.length : Int).toNat) x1)))
def laws_toIntS (a : List Int) : Option ((List Int)) :=
 if (decide (0 ≤ (a.length : Int))) = true then
  if (capOk (a.length : Int).toNat) = true then
   if (capOk a.length) = true then
    (laws_toIntS_l0 a a [] (List.replicate ((a.length : Int).toNat) 0)).bind fun r1 =>
    some r1
   else none
  else none
 else none
theorem laws_toIntS_ok (a : List Int) : Pn (fun y => Fn Try.prog 173 [(false, E49 a)] (E49 y) []) (laws_toIntS a) := by
  unfold laws_toIntS
  exact
   Pn.ite (fun h1 =>
    Pn.ite (fun h2 =>
     Pn.ite (fun h6 =>
      Pn.bind (fun r1 h7 =>
       Pn.some (Fn.of [.wait 3, .nm 6 (V.sc (.int .i64 (a.length : Int))), .wait 1, .nb 0 (.row 3 (List.map E3 (List.replicate ((a.length : Int).toNat) 0)) []), .wait 3, .mask [0, 3, 4], .ren [0], .loop (X.out 0) (st 22 [(3, V.ow 0)] [Blk.row 3 (List.map E3 r1) []] [])] (p := [V.sc (.int .i64 ((List.map E3 a).length : Int)) = V.sc (.int .i64 (a.length : Int)),
        ((a.length : Int) : Int) = (a.length : Int),
        (0 : Int) ≤ (a.length : Int),
        ((a.length : Int) : Int) ≤ 9223372036854775807,
        8 * (a.length : Int).toNat ≤ 281474976710656,
        Blk.row 3 (List.replicate ((a.length : Int).toNat) (V.sc (.int .i64 0))) [] = Blk.row 3 (List.map E3 (List.replicate ((a.length : Int).toNat) 0)) [],
        Loop Try.prog (sub (codeOf Try.prog 173) [1, 1, 0, 1, 0, 0]) (st 22 [(0, V.sl false 3 (List.map E3 a)), (3, V.ow 0), (4, V.sc (.int .i64 0))] [Blk.row 3 (List.map E3 (List.replicate ((a.length : Int).toNat) 0)) []] []) (X.out 0) (st 22 [(3, V.ow 0)] [Blk.row 3 (List.map E3 r1) []] [])]) (by kernel_rfl) (cj (len_nm _ _) (cj rfl (cj (od h1) (cj (cap3 h1 h2) (cj (cap4 h2 (by decide)) (cj (nb_rep E3 _ 0) (cj1 (laws_toIntS_l0_ok a h6 a [] rfl (List.replicate ((a.length : Int).toNat) 0) r1 h7))))))))))) (fun h6 =>
      Pn.none)) (fun h2 =>
     Pn.none)) (fun h1 =>
    Pn.none)
def laws_toRing (a : Ring) : Option (Ring) :=
 (laws_toIntS a.Counts).bind fun r1 =>
 (laws_toIntS a.Sums).bind fun r2 =>
 some (Ring.mk a.Span a.Head r1 r2)
theorem laws_toRing_ok (a : Ring) : Pn (fun y => Fn Try.prog 181 [(false, E151 a)] (E51 y) []) (laws_toRing a) := by
  unfold laws_toRing
  exact
   Pn.bind (fun r1 h1 =>
    Pn.bind (fun r2 h2 =>
     Pn.some (Fn.of [.call [] (E49 r1) [], .call [] (E49 r2) []] (p := [Fn Try.prog 173 [(false, E49 a.Counts)] (E49 r1) [],
      (true || ((E49 r1).nv && nvL [])) = true,
      Fn Try.prog 173 [(false, E49 a.Sums)] (E49 r2) [],
      (true || ((E49 r2).nv && nvL [])) = true]) (by kernel_rfl) (cj (laws_toIntS_ok a.Counts r1 h1) (cj rfl (cj (laws_toIntS_ok a.Sums r2 h2) (cj1 rfl)))))))
def laws_toByteS_l0 (a : List Int) : List Int → List Int → (List Int) → Option ((List Int))
  | [], p1, v1 =>
   some v1
  | x1 :: t1, p1, v1 =>
   (v1[(p1.length : Int).toNat]?).bind fun x2 =>
   laws_toByteS_l0 a t1 (p1 ++ [x1]) (v1.set ((p1.length : Int).toNat) x1)
theorem laws_toByteS_l0_ok (a : List Int) (h4 : capOk a.length = true) : ∀ (t1 p1 : List Int) (_ : a = p1 ++ t1) (v1 : List Int), Pn (LpO Try.prog (sub (codeOf Try.prog 172) [1, 1, 0, 1, 0, 0]) (st 22 [(0, V.sl false 5 (List.map E5 a)), (3, V.ow 0), (4, V.sc (.int .i64 (p1.length : Int)))] [Blk.row 5 (List.map E5 v1) []] []) (fun (y : (List Int)) => (X.out 0, st 22 [(3, V.ow 0)] [Blk.row 5 (List.map E5 y) []] []))) (laws_toByteS_l0 a t1 p1 v1)
  | [], p1, h3, v1 => by
    unfold laws_toByteS_l0
    exact
     Pn.some (LpO.out [.wait 3, .nm 10 (V.sc (.int .i64 (a.length : Int))), .bit false, .mask [3], .ren [0]] (p := [V.sc (.int .i64 ((List.map E5 a).length : Int)) = V.sc (.int .i64 (a.length : Int)),
      (decide ((p1.length : Int) < (a.length : Int))) = false]) (by kernel_rfl) (show X.out 0 ≠ X.go from nofun) (cj (len_nm _ _) (cj1 (rng_end h3))))
  | x1 :: t1, p1, h3, v1 => by
    unfold laws_toByteS_l0
    exact
     Pn.bind (fun x2 h5 =>
      LpO.go [.wait 3, .nm 10 (V.sc (.int .i64 (a.length : Int))), .bit true, .el (E5 x1), .el (E5 x2), .nb 0 (.row 5 (List.map E5 (v1.set ((p1.length : Int).toNat) x1)) []), .wait 4, .mask [0, 3, 4], .ren [0], .nm 4 (V.sc (.int .i64 ((p1 ++ [x1]).length : Int)))] (p := [V.sc (.int .i64 ((List.map E5 a).length : Int)) = V.sc (.int .i64 (a.length : Int)),
       (decide ((p1.length : Int) < (a.length : Int))) = true,
       (0 : Int) ≤ (p1.length : Int),
       (List.map E5 a)[(p1.length : Int).toNat]? = some (E5 x1),
       (0 : Int) ≤ (p1.length : Int),
       ((p1.length : Int) : Int) < ((List.map E5 v1).length : Int),
       look [] ((p1.length : Int).toNat) = none,
       (List.map E5 v1)[(p1.length : Int).toNat]? = some (E5 x2),
       Blk.row 5 ((List.map E5 v1).set ((p1.length : Int).toNat) (V.sc (.int .u8 x1))) [] = Blk.row 5 (List.map E5 (v1.set ((p1.length : Int).toNat) x1)) [],
       V.sc (.int .i64 (i64 ((p1.length : Int) + 1))) = V.sc (.int .i64 ((p1 ++ [x1]).length : Int))]) (by kernel_rfl) (cj (len_nm _ _) (cj (rng_lt h3) (cj (by omega) (cj (rng_get _ h3) (cj (by omega) (cj (map_ltN (by omega) h5) (cj rfl (cj (map_get h5) (cj (nb_set E5 _ _ x1) (cj1 (rng_next h3 h4))))))))))) (laws_toByteS_l0_ok a h4 t1 (p1 ++ [x1]) (rng_step h3) (v1.set ((p1.length : Int).toNat) x1)))
def laws_toByteS (a : List Int) : Option ((List Int)) :=
 if (decide (0 ≤ (a.length : Int))) = true then
  if (capOk (a.length : Int).toNat) = true then
   if (capOk a.length) = true then
    (laws_toByteS_l0 a a [] (List.replicate ((a.length : Int).toNat) 0)).bind fun r1 =>
    some r1
   else none
  else none
 else none
theorem laws_toByteS_ok (a : List Int) : Pn (fun y => Fn Try.prog 172 [(false, E47 a)] (E47 y) []) (laws_toByteS a) := by
  unfold laws_toByteS
  exact
   Pn.ite (fun h1 =>
    Pn.ite (fun h2 =>
     Pn.ite (fun h6 =>
      Pn.bind (fun r1 h7 =>
       Pn.some (Fn.of [.wait 3, .nm 6 (V.sc (.int .i64 (a.length : Int))), .wait 1, .nb 0 (.row 5 (List.map E5 (List.replicate ((a.length : Int).toNat) 0)) []), .wait 3, .mask [0, 3, 4], .ren [0], .loop (X.out 0) (st 22 [(3, V.ow 0)] [Blk.row 5 (List.map E5 r1) []] [])] (p := [V.sc (.int .i64 ((List.map E5 a).length : Int)) = V.sc (.int .i64 (a.length : Int)),
        ((a.length : Int) : Int) = (a.length : Int),
        (0 : Int) ≤ (a.length : Int),
        ((a.length : Int) : Int) ≤ 9223372036854775807,
        1 * (a.length : Int).toNat ≤ 281474976710656,
        Blk.row 5 (List.replicate ((a.length : Int).toNat) (V.sc (.int .u8 0))) [] = Blk.row 5 (List.map E5 (List.replicate ((a.length : Int).toNat) 0)) [],
        Loop Try.prog (sub (codeOf Try.prog 172) [1, 1, 0, 1, 0, 0]) (st 22 [(0, V.sl false 5 (List.map E5 a)), (3, V.ow 0), (4, V.sc (.int .i64 0))] [Blk.row 5 (List.map E5 (List.replicate ((a.length : Int).toNat) 0)) []] []) (X.out 0) (st 22 [(3, V.ow 0)] [Blk.row 5 (List.map E5 r1) []] [])]) (by kernel_rfl) (cj (len_nm _ _) (cj rfl (cj (od h1) (cj (cap3 h1 h2) (cj (cap4 h2 (by decide)) (cj (nb_rep E5 _ 0) (cj1 (laws_toByteS_l0_ok a h6 a [] rfl (List.replicate ((a.length : Int).toNat) 0) r1 h7))))))))))) (fun h6 =>
      Pn.none)) (fun h2 =>
     Pn.none)) (fun h1 =>
    Pn.none)
def laws_toSlot (a : Slot) : Option (Slot) :=
 (laws_toByteS a.Reply).bind fun r1 =>
 some (Slot.mk a.Trace a.Mti r1)
theorem laws_toSlot_ok (a : Slot) : Pn (fun y => Fn Try.prog 211 [(false, E216 a)] (E177 y) []) (laws_toSlot a) := by
  unfold laws_toSlot
  exact
   Pn.bind (fun r1 h1 =>
    Pn.some (Fn.of [.call [] (E47 r1) []] (p := [Fn Try.prog 172 [(false, E47 a.Reply)] (E47 r1) [],
     (true || ((E47 r1).nv && nvL [])) = true]) (by kernel_rfl) (cj (laws_toByteS_ok a.Reply r1 h1) (cj1 rfl))))
def laws_toSlotS_l0 (a : List Slot) : List Slot → List Slot → (List Slot) → Option ((List Slot))
  | [], p1, v1 =>
   some v1
  | x1 :: t1, p1, v1 =>
   (laws_toSlot x1).bind fun r1 =>
   (v1[(p1.length : Int).toNat]?).bind fun x2 =>
   laws_toSlotS_l0 a t1 (p1 ++ [x1]) (v1.set ((p1.length : Int).toNat) r1)
theorem laws_toSlotS_l0_ok (a : List Slot) (h4 : capOk a.length = true) : ∀ (t1 p1 : List Slot) (_ : a = p1 ++ t1) (v1 : List Slot), Pn (LpO Try.prog (sub (codeOf Try.prog 182) [1, 1, 0, 1, 0, 0]) (st 23 [(0, V.sl false 216 (List.map E216 a)), (3, V.ow 0), (4, V.sc (.int .i64 (p1.length : Int)))] [Blk.row 177 (List.map E177 v1) []] []) (fun (y : (List Slot)) => (X.out 0, st 23 [(3, V.ow 0)] [Blk.row 177 (List.map E177 y) []] []))) (laws_toSlotS_l0 a t1 p1 v1)
  | [], p1, h3, v1 => by
    unfold laws_toSlotS_l0
    exact
     Pn.some (LpO.out [.wait 3, .nm 10 (V.sc (.int .i64 (a.length : Int))), .bit false, .mask [3], .ren [0]] (p := [V.sc (.int .i64 ((List.map E216 a).length : Int)) = V.sc (.int .i64 (a.length : Int)),
      (decide ((p1.length : Int) < (a.length : Int))) = false]) (by kernel_rfl) (show X.out 0 ≠ X.go from nofun) (cj (len_nm _ _) (cj1 (rng_end h3))))
  | x1 :: t1, p1, h3, v1 => by
    unfold laws_toSlotS_l0
    exact
     Pn.bind (fun r1 h5 =>
      Pn.bind (fun x2 h6 =>
       LpO.go [.wait 3, .nm 10 (V.sc (.int .i64 (a.length : Int))), .bit true, .el (E216 x1), .call [] (E177 r1) [], .wait 1, .foc 0 ((p1.length : Int).toNat) (E177 x2), .fo 0, .wait 4, .shut 0, .nb 0 (.row 177 (List.map E177 (v1.set ((p1.length : Int).toNat) r1)) []), .mask [0, 3, 4], .ren [0], .nm 4 (V.sc (.int .i64 ((p1 ++ [x1]).length : Int)))] (p := [V.sc (.int .i64 ((List.map E216 a).length : Int)) = V.sc (.int .i64 (a.length : Int)),
        (decide ((p1.length : Int) < (a.length : Int))) = true,
        (0 : Int) ≤ (p1.length : Int),
        (List.map E216 a)[(p1.length : Int).toNat]? = some (E216 x1),
        Fn Try.prog 211 [(false, E216 x1)] (E177 r1) [],
        (true || ((E177 r1).nv && nvL [])) = true,
        (0 : Int) ≤ (p1.length : Int),
        ((p1.length : Int) : Int) < ((List.map E177 v1).length : Int),
        look [] ((p1.length : Int).toNat) = none,
        (List.map E177 v1)[(p1.length : Int).toNat]? = some (E177 x2),
        look [((p1.length : Int).toNat, V.agg [V.sc (.string x2.Trace), V.sc (.string x2.Mti), V.ow 2])] ((p1.length : Int).toNat) = some (V.agg [V.sc (.string x2.Trace), V.sc (.string x2.Mti), V.ow 2]),
        ((p1.length : Int).toNat) < (List.map E177 v1).length,
        ((p1.length : Int).toNat) = ((p1.length : Int).toNat),
        Blk.row 177 ((List.map E177 v1).set ((p1.length : Int).toNat) (V.agg [V.sc (.string r1.Trace), V.sc (.string r1.Mti), V.sl true 5 (List.map E5 r1.Reply)])) [] = Blk.row 177 (List.map E177 (v1.set ((p1.length : Int).toNat) r1)) [],
        V.sc (.int .i64 (i64 ((p1.length : Int) + 1))) = V.sc (.int .i64 ((p1 ++ [x1]).length : Int))]) (by kernel_rfl) (cj (len_nm _ _) (cj (rng_lt h3) (cj (by omega) (cj (rng_get _ h3) (cj (laws_toSlot_ok x1 r1 h5) (cj rfl (cj (by omega) (cj (map_ltN (by omega) h6) (cj rfl (cj (map_get h6) (cj (look_cons_self _ _ _) (cj (map_lt h6) (cj rfl (cj (nb_set E177 _ _ r1) (cj1 (rng_next h3 h4)))))))))))))))) (laws_toSlotS_l0_ok a h4 t1 (p1 ++ [x1]) (rng_step h3) (v1.set ((p1.length : Int).toNat) r1))))
def laws_toSlotS (a : List Slot) : Option ((List Slot)) :=
 if (decide (0 ≤ (a.length : Int))) = true then
  if (capOk (a.length : Int).toNat) = true then
   if (capOk a.length) = true then
    (laws_toSlotS_l0 a a [] (List.replicate ((a.length : Int).toNat) (Slot.mk ByteArray.empty ByteArray.empty []))).bind fun r2 =>
    some r2
   else none
  else none
 else none
theorem laws_toSlotS_ok (a : List Slot) : Pn (fun y => Fn Try.prog 182 [(false, E152 a)] (E52 y) []) (laws_toSlotS a) := by
  unfold laws_toSlotS
  exact
   Pn.ite (fun h1 =>
    Pn.ite (fun h2 =>
     Pn.ite (fun h7 =>
      Pn.bind (fun r2 h8 =>
       Pn.some (Fn.of [.wait 3, .nm 6 (V.sc (.int .i64 (a.length : Int))), .wait 1, .nb 0 (.row 177 (List.map E177 (List.replicate ((a.length : Int).toNat) (Slot.mk ByteArray.empty ByteArray.empty []))) []), .wait 3, .mask [0, 3, 4], .ren [0], .loop (X.out 0) (st 23 [(3, V.ow 0)] [Blk.row 177 (List.map E177 r2) []] [])] (p := [V.sc (.int .i64 ((List.map E216 a).length : Int)) = V.sc (.int .i64 (a.length : Int)),
        ((a.length : Int) : Int) = (a.length : Int),
        (0 : Int) ≤ (a.length : Int),
        ((a.length : Int) : Int) ≤ 9223372036854775807,
        56 * (a.length : Int).toNat ≤ 281474976710656,
        Blk.row 177 (List.replicate ((a.length : Int).toNat) (V.agg [V.sc (.string ByteArray.empty), V.sc (.string ByteArray.empty), V.sl true 5 ([] : List V)])) [] = Blk.row 177 (List.map E177 (List.replicate ((a.length : Int).toNat) (Slot.mk ByteArray.empty ByteArray.empty []))) [],
        Loop Try.prog (sub (codeOf Try.prog 182) [1, 1, 0, 1, 0, 0]) (st 23 [(0, V.sl false 216 (List.map E216 a)), (3, V.ow 0), (4, V.sc (.int .i64 0))] [Blk.row 177 (List.map E177 (List.replicate ((a.length : Int).toNat) (Slot.mk ByteArray.empty ByteArray.empty []))) []] []) (X.out 0) (st 23 [(3, V.ow 0)] [Blk.row 177 (List.map E177 r2) []] [])]) (by kernel_rfl) (cj (len_nm _ _) (cj rfl (cj (od h1) (cj (cap3 h1 h2) (cj (cap4 h2 (by decide)) (cj (nb_rep E177 _ (Slot.mk ByteArray.empty ByteArray.empty [])) (cj1 (laws_toSlotS_l0_ok a h7 a [] rfl (List.replicate ((a.length : Int).toNat) (Slot.mk ByteArray.empty ByteArray.empty [])) r2 h8))))))))))) (fun h7 =>
      Pn.none)) (fun h2 =>
     Pn.none)) (fun h1 =>
    Pn.none)
def laws_toAcct (a : Acct) : Option (Acct) :=
 (laws_toHoldS a.Holds).bind fun r1 =>
 (laws_toRing (Ring.mk a.Ring.Span a.Ring.Head a.Ring.Counts a.Ring.Sums)).bind fun r2 =>
 (laws_toSlotS a.Slots).bind fun r3 =>
 some (Acct.mk a.Id a.Limit a.Posted a.Most a.MostSum r1 (Ring.mk r2.Span r2.Head r2.Counts r2.Sums) r3)
theorem laws_toAcct_ok (a : Acct) : Pn (fun y => Fn Try.prog 125 [(false, E154 a)] (E54 y) []) (laws_toAcct a) := by
  unfold laws_toAcct
  exact
   Pn.bind (fun r1 h1 =>
    Pn.bind (fun r2 h2 =>
     Pn.bind (fun r3 h3 =>
      Pn.some (Fn.of [.call [] (E48 r1) [], .call [] (E51 r2) [], .call [] (E52 r3) []] (p := [Fn Try.prog 180 [(false, E150 a.Holds)] (E48 r1) [],
       (true || ((E48 r1).nv && nvL [])) = true,
       Fn Try.prog 181 [(false, E151 (Ring.mk a.Ring.Span a.Ring.Head a.Ring.Counts a.Ring.Sums))] (E51 r2) [],
       (true || ((E51 r2).nv && nvL [])) = true,
       Fn Try.prog 182 [(false, E152 a.Slots)] (E52 r3) [],
       (true || ((E52 r3).nv && nvL [])) = true]) (by kernel_rfl) (cj (laws_toHoldS_ok a.Holds r1 h1) (cj rfl (cj (laws_toRing_ok (Ring.mk a.Ring.Span a.Ring.Head a.Ring.Counts a.Ring.Sums) r2 h2) (cj rfl (cj (laws_toSlotS_ok a.Slots r3 h3) (cj1 rfl))))))))))
def laws_toAcctS_l0 (a : List Acct) : List Acct → List Acct → (List Acct) → Option ((List Acct))
  | [], p1, v1 =>
   some v1
  | x1 :: t1, p1, v1 =>
   (laws_toAcct x1).bind fun r1 =>
   (v1[(p1.length : Int).toNat]?).bind fun x2 =>
   laws_toAcctS_l0 a t1 (p1 ++ [x1]) (v1.set ((p1.length : Int).toNat) r1)
theorem laws_toAcctS_l0_ok (a : List Acct) (h4 : capOk a.length = true) : ∀ (t1 p1 : List Acct) (_ : a = p1 ++ t1) (v1 : List Acct), Pn (LpO Try.prog (sub (codeOf Try.prog 68) [1, 1, 0, 1, 0, 0]) (st 23 [(0, V.sl false 154 (List.map E154 a)), (3, V.ow 0), (4, V.sc (.int .i64 (p1.length : Int)))] [Blk.row 54 (List.map E54 v1) []] []) (fun (y : (List Acct)) => (X.out 0, st 23 [(3, V.ow 0)] [Blk.row 54 (List.map E54 y) []] []))) (laws_toAcctS_l0 a t1 p1 v1)
  | [], p1, h3, v1 => by
    unfold laws_toAcctS_l0
    exact
     Pn.some (LpO.out [.wait 3, .nm 10 (V.sc (.int .i64 (a.length : Int))), .bit false, .mask [3], .ren [0]] (p := [V.sc (.int .i64 ((List.map E154 a).length : Int)) = V.sc (.int .i64 (a.length : Int)),
      (decide ((p1.length : Int) < (a.length : Int))) = false]) (by kernel_rfl) (show X.out 0 ≠ X.go from nofun) (cj (len_nm _ _) (cj1 (rng_end h3))))
  | x1 :: t1, p1, h3, v1 => by
    unfold laws_toAcctS_l0
    exact
     Pn.bind (fun r1 h5 =>
      Pn.bind (fun x2 h6 =>
       LpO.go [.wait 3, .nm 10 (V.sc (.int .i64 (a.length : Int))), .bit true, .el (E154 x1), .call [] (E54 r1) [], .wait 1, .foc 0 ((p1.length : Int).toNat) (E54 x2), .fo 0, .wait 4, .shut 0, .nb 0 (.row 54 (List.map E54 (v1.set ((p1.length : Int).toNat) r1)) []), .mask [0, 3, 4], .ren [0], .nm 4 (V.sc (.int .i64 ((p1 ++ [x1]).length : Int)))] (p := [V.sc (.int .i64 ((List.map E154 a).length : Int)) = V.sc (.int .i64 (a.length : Int)),
        (decide ((p1.length : Int) < (a.length : Int))) = true,
        (0 : Int) ≤ (p1.length : Int),
        (List.map E154 a)[(p1.length : Int).toNat]? = some (E154 x1),
        Fn Try.prog 125 [(false, E154 x1)] (E54 r1) [],
        (true || ((E54 r1).nv && nvL [])) = true,
        (0 : Int) ≤ (p1.length : Int),
        ((p1.length : Int) : Int) < ((List.map E54 v1).length : Int),
        look [] ((p1.length : Int).toNat) = none,
        (List.map E54 v1)[(p1.length : Int).toNat]? = some (E54 x2),
        look [((p1.length : Int).toNat, V.agg [V.sc (.string x2.Id), V.sc (.int .i64 x2.Limit), V.sc (.int .i64 x2.Posted), V.sc (.int .i64 x2.Most), V.sc (.int .i64 x2.MostSum), V.ow 5, V.sc (.int .i64 x2.Ring.Span), V.sc (.int .i64 x2.Ring.Head), V.ow 6, V.ow 7, V.ow 8])] ((p1.length : Int).toNat) = some (V.agg [V.sc (.string x2.Id), V.sc (.int .i64 x2.Limit), V.sc (.int .i64 x2.Posted), V.sc (.int .i64 x2.Most), V.sc (.int .i64 x2.MostSum), V.ow 5, V.sc (.int .i64 x2.Ring.Span), V.sc (.int .i64 x2.Ring.Head), V.ow 6, V.ow 7, V.ow 8]),
        ((p1.length : Int).toNat) < (List.map E54 v1).length,
        ((p1.length : Int).toNat) = ((p1.length : Int).toNat),
        Blk.row 54 ((List.map E54 v1).set ((p1.length : Int).toNat) (V.agg [V.sc (.string r1.Id), V.sc (.int .i64 r1.Limit), V.sc (.int .i64 r1.Posted), V.sc (.int .i64 r1.Most), V.sc (.int .i64 r1.MostSum), V.sl true 61 (List.map E61 r1.Holds), V.sc (.int .i64 r1.Ring.Span), V.sc (.int .i64 r1.Ring.Head), V.sl true 3 (List.map E3 r1.Ring.Counts), V.sl true 3 (List.map E3 r1.Ring.Sums), V.sl true 177 (List.map E177 r1.Slots)])) [] = Blk.row 54 (List.map E54 (v1.set ((p1.length : Int).toNat) r1)) [],
        V.sc (.int .i64 (i64 ((p1.length : Int) + 1))) = V.sc (.int .i64 ((p1 ++ [x1]).length : Int))]) (by kernel_rfl) (cj (len_nm _ _) (cj (rng_lt h3) (cj (by omega) (cj (rng_get _ h3) (cj (laws_toAcct_ok x1 r1 h5) (cj rfl (cj (by omega) (cj (map_ltN (by omega) h6) (cj rfl (cj (map_get h6) (cj (look_cons_self _ _ _) (cj (map_lt h6) (cj rfl (cj (nb_set E54 _ _ r1) (cj1 (rng_next h3 h4)))))))))))))))) (laws_toAcctS_l0_ok a h4 t1 (p1 ++ [x1]) (rng_step h3) (v1.set ((p1.length : Int).toNat) r1))))
def laws_toAcctS (a : List Acct) : Option ((List Acct)) :=
 if (decide (0 ≤ (a.length : Int))) = true then
  if (capOk (a.length : Int).toNat) = true then
   if (capOk a.length) = true then
    (laws_toAcctS_l0 a a [] (List.replicate ((a.length : Int).toNat) (Acct.mk ByteArray.empty 0 0 0 0 [] (Ring.mk 0 0 [] []) []))).bind fun r2 =>
    some r2
   else none
  else none
 else none
theorem laws_toAcctS_ok (a : List Acct) : Pn (fun y => Fn Try.prog 68 [(false, E35 a)] (E39 y) []) (laws_toAcctS a) := by
  unfold laws_toAcctS
  exact
   Pn.ite (fun h1 =>
    Pn.ite (fun h2 =>
     Pn.ite (fun h7 =>
      Pn.bind (fun r2 h8 =>
       Pn.some (Fn.of [.wait 3, .nm 6 (V.sc (.int .i64 (a.length : Int))), .wait 1, .nb 0 (.row 54 (List.map E54 (List.replicate ((a.length : Int).toNat) (Acct.mk ByteArray.empty 0 0 0 0 [] (Ring.mk 0 0 [] []) []))) []), .wait 3, .mask [0, 3, 4], .ren [0], .loop (X.out 0) (st 23 [(3, V.ow 0)] [Blk.row 54 (List.map E54 r2) []] [])] (p := [V.sc (.int .i64 ((List.map E154 a).length : Int)) = V.sc (.int .i64 (a.length : Int)),
        ((a.length : Int) : Int) = (a.length : Int),
        (0 : Int) ≤ (a.length : Int),
        ((a.length : Int) : Int) ≤ 9223372036854775807,
        160 * (a.length : Int).toNat ≤ 281474976710656,
        Blk.row 54 (List.replicate ((a.length : Int).toNat) (V.agg [V.sc (.string ByteArray.empty), V.sc (.int .i64 0), V.sc (.int .i64 0), V.sc (.int .i64 0), V.sc (.int .i64 0), V.sl true 61 ([] : List V), V.sc (.int .i64 0), V.sc (.int .i64 0), V.sl true 3 ([] : List V), V.sl true 3 ([] : List V), V.sl true 177 ([] : List V)])) [] = Blk.row 54 (List.map E54 (List.replicate ((a.length : Int).toNat) (Acct.mk ByteArray.empty 0 0 0 0 [] (Ring.mk 0 0 [] []) []))) [],
        Loop Try.prog (sub (codeOf Try.prog 68) [1, 1, 0, 1, 0, 0]) (st 23 [(0, V.sl false 154 (List.map E154 a)), (3, V.ow 0), (4, V.sc (.int .i64 0))] [Blk.row 54 (List.map E54 (List.replicate ((a.length : Int).toNat) (Acct.mk ByteArray.empty 0 0 0 0 [] (Ring.mk 0 0 [] []) []))) []] []) (X.out 0) (st 23 [(3, V.ow 0)] [Blk.row 54 (List.map E54 r2) []] [])]) (by kernel_rfl) (cj (len_nm _ _) (cj rfl (cj (od h1) (cj (cap3 h1 h2) (cj (cap4 h2 (by decide)) (cj (nb_rep E54 _ (Acct.mk ByteArray.empty 0 0 0 0 [] (Ring.mk 0 0 [] []) [])) (cj1 (laws_toAcctS_l0_ok a h7 a [] rfl (List.replicate ((a.length : Int).toNat) (Acct.mk ByteArray.empty 0 0 0 0 [] (Ring.mk 0 0 [] []) [])) r2 h8))))))))))) (fun h7 =>
      Pn.none)) (fun h2 =>
     Pn.none)) (fun h1 =>
    Pn.none)
def laws_toStripe (a : Stripe) : Option (Stripe) :=
 (laws_toAcctS a.Accts).bind fun r1 =>
 some (Stripe.mk a.Owner r1)
theorem laws_toStripe_ok (a : Stripe) : Pn (fun y => Fn Try.prog 103 [(false, E132 a)] (E124 y) []) (laws_toStripe a) := by
  unfold laws_toStripe
  exact
   Pn.bind (fun r1 h1 =>
    Pn.some (Fn.of [.call [] (E39 r1) []] (p := [Fn Try.prog 68 [(false, E35 a.Accts)] (E39 r1) [],
     (true || ((E39 r1).nv && nvL [])) = true]) (by kernel_rfl) (cj (laws_toAcctS_ok a.Accts r1 h1) (cj1 rfl))))
def laws_toStripeS_l0 (a : List Stripe) : List Stripe → List Stripe → (List Stripe) → Option ((List Stripe))
  | [], p1, v1 =>
   some v1
  | x1 :: t1, p1, v1 =>
   (laws_toStripe x1).bind fun r1 =>
   (v1[(p1.length : Int).toNat]?).bind fun x2 =>
   laws_toStripeS_l0 a t1 (p1 ++ [x1]) (v1.set ((p1.length : Int).toNat) r1)
theorem laws_toStripeS_l0_ok (a : List Stripe) (h4 : capOk a.length = true) : ∀ (t1 p1 : List Stripe) (_ : a = p1 ++ t1) (v1 : List Stripe), Pn (LpO Try.prog (sub (codeOf Try.prog 44) [1, 1, 0, 1, 0, 0]) (st 23 [(0, V.sl false 132 (List.map E132 a)), (3, V.ow 0), (4, V.sc (.int .i64 (p1.length : Int)))] [Blk.row 124 (List.map E124 v1) []] []) (fun (y : (List Stripe)) => (X.out 0, st 23 [(3, V.ow 0)] [Blk.row 124 (List.map E124 y) []] []))) (laws_toStripeS_l0 a t1 p1 v1)
  | [], p1, h3, v1 => by
    unfold laws_toStripeS_l0
    exact
     Pn.some (LpO.out [.wait 3, .nm 10 (V.sc (.int .i64 (a.length : Int))), .bit false, .mask [3], .ren [0]] (p := [V.sc (.int .i64 ((List.map E132 a).length : Int)) = V.sc (.int .i64 (a.length : Int)),
      (decide ((p1.length : Int) < (a.length : Int))) = false]) (by kernel_rfl) (show X.out 0 ≠ X.go from nofun) (cj (len_nm _ _) (cj1 (rng_end h3))))
  | x1 :: t1, p1, h3, v1 => by
    unfold laws_toStripeS_l0
    exact
     Pn.bind (fun r1 h5 =>
      Pn.bind (fun x2 h6 =>
       LpO.go [.wait 3, .nm 10 (V.sc (.int .i64 (a.length : Int))), .bit true, .el (E132 x1), .call [] (E124 r1) [], .wait 1, .foc 0 ((p1.length : Int).toNat) (E124 x2), .fo 0, .wait 4, .shut 0, .nb 0 (.row 124 (List.map E124 (v1.set ((p1.length : Int).toNat) r1)) []), .mask [0, 3, 4], .ren [0], .nm 4 (V.sc (.int .i64 ((p1 ++ [x1]).length : Int)))] (p := [V.sc (.int .i64 ((List.map E132 a).length : Int)) = V.sc (.int .i64 (a.length : Int)),
        (decide ((p1.length : Int) < (a.length : Int))) = true,
        (0 : Int) ≤ (p1.length : Int),
        (List.map E132 a)[(p1.length : Int).toNat]? = some (E132 x1),
        Fn Try.prog 103 [(false, E132 x1)] (E124 r1) [],
        (true || ((E124 r1).nv && nvL [])) = true,
        (0 : Int) ≤ (p1.length : Int),
        ((p1.length : Int) : Int) < ((List.map E124 v1).length : Int),
        look [] ((p1.length : Int).toNat) = none,
        (List.map E124 v1)[(p1.length : Int).toNat]? = some (E124 x2),
        look [((p1.length : Int).toNat, V.agg [V.sc (.int .i64 x2.Owner), V.ow 2])] ((p1.length : Int).toNat) = some (V.agg [V.sc (.int .i64 x2.Owner), V.ow 2]),
        ((p1.length : Int).toNat) < (List.map E124 v1).length,
        ((p1.length : Int).toNat) = ((p1.length : Int).toNat),
        Blk.row 124 ((List.map E124 v1).set ((p1.length : Int).toNat) (V.agg [V.sc (.int .i64 r1.Owner), V.sl true 54 (List.map E54 r1.Accts)])) [] = Blk.row 124 (List.map E124 (v1.set ((p1.length : Int).toNat) r1)) [],
        V.sc (.int .i64 (i64 ((p1.length : Int) + 1))) = V.sc (.int .i64 ((p1 ++ [x1]).length : Int))]) (by kernel_rfl) (cj (len_nm _ _) (cj (rng_lt h3) (cj (by omega) (cj (rng_get _ h3) (cj (laws_toStripe_ok x1 r1 h5) (cj rfl (cj (by omega) (cj (map_ltN (by omega) h6) (cj rfl (cj (map_get h6) (cj (look_cons_self _ _ _) (cj (map_lt h6) (cj rfl (cj (nb_set E124 _ _ r1) (cj1 (rng_next h3 h4)))))))))))))))) (laws_toStripeS_l0_ok a h4 t1 (p1 ++ [x1]) (rng_step h3) (v1.set ((p1.length : Int).toNat) r1))))
def laws_toStripeS (a : List Stripe) : Option ((List Stripe)) :=
 if (decide (0 ≤ (a.length : Int))) = true then
  if (capOk (a.length : Int).toNat) = true then
   if (capOk a.length) = true then
    (laws_toStripeS_l0 a a [] (List.replicate ((a.length : Int).toNat) (Stripe.mk 0 []))).bind fun r2 =>
    some r2
   else none
  else none
 else none
theorem laws_toStripeS_ok (a : List Stripe) : Pn (fun y => Fn Try.prog 44 [(false, E22 a)] (E28 y) []) (laws_toStripeS a) := by
  unfold laws_toStripeS
  exact
   Pn.ite (fun h1 =>
    Pn.ite (fun h2 =>
     Pn.ite (fun h7 =>
      Pn.bind (fun r2 h8 =>
       Pn.some (Fn.of [.wait 3, .nm 6 (V.sc (.int .i64 (a.length : Int))), .wait 1, .nb 0 (.row 124 (List.map E124 (List.replicate ((a.length : Int).toNat) (Stripe.mk 0 []))) []), .wait 3, .mask [0, 3, 4], .ren [0], .loop (X.out 0) (st 23 [(3, V.ow 0)] [Blk.row 124 (List.map E124 r2) []] [])] (p := [V.sc (.int .i64 ((List.map E132 a).length : Int)) = V.sc (.int .i64 (a.length : Int)),
        ((a.length : Int) : Int) = (a.length : Int),
        (0 : Int) ≤ (a.length : Int),
        ((a.length : Int) : Int) ≤ 9223372036854775807,
        32 * (a.length : Int).toNat ≤ 281474976710656,
        Blk.row 124 (List.replicate ((a.length : Int).toNat) (V.agg [V.sc (.int .i64 0), V.sl true 54 ([] : List V)])) [] = Blk.row 124 (List.map E124 (List.replicate ((a.length : Int).toNat) (Stripe.mk 0 []))) [],
        Loop Try.prog (sub (codeOf Try.prog 44) [1, 1, 0, 1, 0, 0]) (st 23 [(0, V.sl false 132 (List.map E132 a)), (3, V.ow 0), (4, V.sc (.int .i64 0))] [Blk.row 124 (List.map E124 (List.replicate ((a.length : Int).toNat) (Stripe.mk 0 []))) []] []) (X.out 0) (st 23 [(3, V.ow 0)] [Blk.row 124 (List.map E124 r2) []] [])]) (by kernel_rfl) (cj (len_nm _ _) (cj rfl (cj (od h1) (cj (cap3 h1 h2) (cj (cap4 h2 (by decide)) (cj (nb_rep E124 _ (Stripe.mk 0 [])) (cj1 (laws_toStripeS_l0_ok a h7 a [] rfl (List.replicate ((a.length : Int).toNat) (Stripe.mk 0 [])) r2 h8))))))))))) (fun h7 =>
      Pn.none)) (fun h2 =>
     Pn.none)) (fun h1 =>
    Pn.none)
def laws_toTask (a : Task) : Option (Task) :=
 (laws_toByteS a.Data).bind fun r1 =>
 (laws_toIntS a.Set).bind fun r2 =>
 (laws_toByteS a.Reply).bind fun r3 =>
 some (Task.mk r1 a.Pc r2 a.Held a.Inv a.Lin a.Res a.At r3)
theorem laws_toTask_ok (a : Task) : Pn (fun y => Fn Try.prog 119 [(false, E145 a)] (E92 y) []) (laws_toTask a) := by
  unfold laws_toTask
  exact
   Pn.bind (fun r1 h1 =>
    Pn.bind (fun r2 h2 =>
     Pn.bind (fun r3 h3 =>
      Pn.some (Fn.of [.call [] (E47 r1) [], .call [] (E49 r2) [], .call [] (E47 r3) []] (p := [Fn Try.prog 172 [(false, E47 a.Data)] (E47 r1) [],
       (true || ((E47 r1).nv && nvL [])) = true,
       Fn Try.prog 173 [(false, E49 a.Set)] (E49 r2) [],
       (true || ((E49 r2).nv && nvL [])) = true,
       Fn Try.prog 172 [(false, E47 a.Reply)] (E47 r3) [],
       (true || ((E47 r3).nv && nvL [])) = true]) (by kernel_rfl) (cj (laws_toByteS_ok a.Data r1 h1) (cj rfl (cj (laws_toIntS_ok a.Set r2 h2) (cj rfl (cj (laws_toByteS_ok a.Reply r3 h3) (cj1 rfl))))))))))
def laws_toTaskS_l0 (a : List Task) : List Task → List Task → (List Task) → Option ((List Task))
  | [], p1, v1 =>
   some v1
  | x1 :: t1, p1, v1 =>
   (laws_toTask x1).bind fun r1 =>
   (v1[(p1.length : Int).toNat]?).bind fun x2 =>
   laws_toTaskS_l0 a t1 (p1 ++ [x1]) (v1.set ((p1.length : Int).toNat) r1)
theorem laws_toTaskS_l0_ok (a : List Task) (h4 : capOk a.length = true) : ∀ (t1 p1 : List Task) (_ : a = p1 ++ t1) (v1 : List Task), Pn (LpO Try.prog (sub (codeOf Try.prog 63) [1, 1, 0, 1, 0, 0]) (st 23 [(0, V.sl false 145 (List.map E145 a)), (3, V.ow 0), (4, V.sc (.int .i64 (p1.length : Int)))] [Blk.row 92 (List.map E92 v1) []] []) (fun (y : (List Task)) => (X.out 0, st 23 [(3, V.ow 0)] [Blk.row 92 (List.map E92 y) []] []))) (laws_toTaskS_l0 a t1 p1 v1)
  | [], p1, h3, v1 => by
    unfold laws_toTaskS_l0
    exact
     Pn.some (LpO.out [.wait 3, .nm 10 (V.sc (.int .i64 (a.length : Int))), .bit false, .mask [3], .ren [0]] (p := [V.sc (.int .i64 ((List.map E145 a).length : Int)) = V.sc (.int .i64 (a.length : Int)),
      (decide ((p1.length : Int) < (a.length : Int))) = false]) (by kernel_rfl) (show X.out 0 ≠ X.go from nofun) (cj (len_nm _ _) (cj1 (rng_end h3))))
  | x1 :: t1, p1, h3, v1 => by
    unfold laws_toTaskS_l0
    exact
     Pn.bind (fun r1 h5 =>
      Pn.bind (fun x2 h6 =>
       LpO.go [.wait 3, .nm 10 (V.sc (.int .i64 (a.length : Int))), .bit true, .el (E145 x1), .call [] (E92 r1) [], .wait 1, .foc 0 ((p1.length : Int).toNat) (E92 x2), .fo 0, .wait 4, .shut 0, .nb 0 (.row 92 (List.map E92 (v1.set ((p1.length : Int).toNat) r1)) []), .mask [0, 3, 4], .ren [0], .nm 4 (V.sc (.int .i64 ((p1 ++ [x1]).length : Int)))] (p := [V.sc (.int .i64 ((List.map E145 a).length : Int)) = V.sc (.int .i64 (a.length : Int)),
        (decide ((p1.length : Int) < (a.length : Int))) = true,
        (0 : Int) ≤ (p1.length : Int),
        (List.map E145 a)[(p1.length : Int).toNat]? = some (E145 x1),
        Fn Try.prog 119 [(false, E145 x1)] (E92 r1) [],
        (true || ((E92 r1).nv && nvL [])) = true,
        (0 : Int) ≤ (p1.length : Int),
        ((p1.length : Int) : Int) < ((List.map E92 v1).length : Int),
        look [] ((p1.length : Int).toNat) = none,
        (List.map E92 v1)[(p1.length : Int).toNat]? = some (E92 x2),
        look [((p1.length : Int).toNat, V.agg [V.ow 4, V.sc (.int .i64 x2.Pc), V.ow 5, V.sc (.int .i64 x2.Held), V.sc (.int .i64 x2.Inv), V.sc (.int .i64 x2.Lin), V.sc (.int .i64 x2.Res), V.sc (.int .i64 x2.At), V.ow 6])] ((p1.length : Int).toNat) = some (V.agg [V.ow 4, V.sc (.int .i64 x2.Pc), V.ow 5, V.sc (.int .i64 x2.Held), V.sc (.int .i64 x2.Inv), V.sc (.int .i64 x2.Lin), V.sc (.int .i64 x2.Res), V.sc (.int .i64 x2.At), V.ow 6]),
        ((p1.length : Int).toNat) < (List.map E92 v1).length,
        ((p1.length : Int).toNat) = ((p1.length : Int).toNat),
        Blk.row 92 ((List.map E92 v1).set ((p1.length : Int).toNat) (V.agg [V.sl true 5 (List.map E5 r1.Data), V.sc (.int .i64 r1.Pc), V.sl true 3 (List.map E3 r1.Set), V.sc (.int .i64 r1.Held), V.sc (.int .i64 r1.Inv), V.sc (.int .i64 r1.Lin), V.sc (.int .i64 r1.Res), V.sc (.int .i64 r1.At), V.sl true 5 (List.map E5 r1.Reply)])) [] = Blk.row 92 (List.map E92 (v1.set ((p1.length : Int).toNat) r1)) [],
        V.sc (.int .i64 (i64 ((p1.length : Int) + 1))) = V.sc (.int .i64 ((p1 ++ [x1]).length : Int))]) (by kernel_rfl) (cj (len_nm _ _) (cj (rng_lt h3) (cj (by omega) (cj (rng_get _ h3) (cj (laws_toTask_ok x1 r1 h5) (cj rfl (cj (by omega) (cj (map_ltN (by omega) h6) (cj rfl (cj (map_get h6) (cj (look_cons_self _ _ _) (cj (map_lt h6) (cj rfl (cj (nb_set E92 _ _ r1) (cj1 (rng_next h3 h4)))))))))))))))) (laws_toTaskS_l0_ok a h4 t1 (p1 ++ [x1]) (rng_step h3) (v1.set ((p1.length : Int).toNat) r1))))
def laws_toTaskS (a : List Task) : Option ((List Task)) :=
 if (decide (0 ≤ (a.length : Int))) = true then
  if (capOk (a.length : Int).toNat) = true then
   if (capOk a.length) = true then
    (laws_toTaskS_l0 a a [] (List.replicate ((a.length : Int).toNat) (Task.mk [] 0 [] 0 0 0 0 0 []))).bind fun r2 =>
    some r2
   else none
  else none
 else none
theorem laws_toTaskS_ok (a : List Task) : Pn (fun y => Fn Try.prog 63 [(false, E23 a)] (E29 y) []) (laws_toTaskS a) := by
  unfold laws_toTaskS
  exact
   Pn.ite (fun h1 =>
    Pn.ite (fun h2 =>
     Pn.ite (fun h7 =>
      Pn.bind (fun r2 h8 =>
       Pn.some (Fn.of [.wait 3, .nm 6 (V.sc (.int .i64 (a.length : Int))), .wait 1, .nb 0 (.row 92 (List.map E92 (List.replicate ((a.length : Int).toNat) (Task.mk [] 0 [] 0 0 0 0 0 []))) []), .wait 3, .mask [0, 3, 4], .ren [0], .loop (X.out 0) (st 23 [(3, V.ow 0)] [Blk.row 92 (List.map E92 r2) []] [])] (p := [V.sc (.int .i64 ((List.map E145 a).length : Int)) = V.sc (.int .i64 (a.length : Int)),
        ((a.length : Int) : Int) = (a.length : Int),
        (0 : Int) ≤ (a.length : Int),
        ((a.length : Int) : Int) ≤ 9223372036854775807,
        120 * (a.length : Int).toNat ≤ 281474976710656,
        Blk.row 92 (List.replicate ((a.length : Int).toNat) (V.agg [V.sl true 5 ([] : List V), V.sc (.int .i64 0), V.sl true 3 ([] : List V), V.sc (.int .i64 0), V.sc (.int .i64 0), V.sc (.int .i64 0), V.sc (.int .i64 0), V.sc (.int .i64 0), V.sl true 5 ([] : List V)])) [] = Blk.row 92 (List.map E92 (List.replicate ((a.length : Int).toNat) (Task.mk [] 0 [] 0 0 0 0 0 []))) [],
        Loop Try.prog (sub (codeOf Try.prog 63) [1, 1, 0, 1, 0, 0]) (st 23 [(0, V.sl false 145 (List.map E145 a)), (3, V.ow 0), (4, V.sc (.int .i64 0))] [Blk.row 92 (List.map E92 (List.replicate ((a.length : Int).toNat) (Task.mk [] 0 [] 0 0 0 0 0 []))) []] []) (X.out 0) (st 23 [(3, V.ow 0)] [Blk.row 92 (List.map E92 r2) []] [])]) (by kernel_rfl) (cj (len_nm _ _) (cj rfl (cj (od h1) (cj (cap3 h1 h2) (cj (cap4 h2 (by decide)) (cj (nb_rep E92 _ (Task.mk [] 0 [] 0 0 0 0 0 [])) (cj1 (laws_toTaskS_l0_ok a h7 a [] rfl (List.replicate ((a.length : Int).toNat) (Task.mk [] 0 [] 0 0 0 0 0 [])) r2 h8))))))))))) (fun h7 =>
      Pn.none)) (fun h2 =>
     Pn.none)) (fun h1 =>
    Pn.none)
def laws_toWorld (a : World) : Option (World) :=
 (laws_toStripeS a.Stripes).bind fun r1 =>
 (laws_toTaskS a.Tasks).bind fun r2 =>
 some (World.mk r1 a.Now a.Step r2)
theorem laws_toWorld_ok (a : World) : Pn (fun y => Fn Try.prog 15 [(false, E25 a)] (E31 y) []) (laws_toWorld a) := by
  unfold laws_toWorld
  exact
   Pn.bind (fun r1 h1 =>
    Pn.bind (fun r2 h2 =>
     Pn.some (Fn.of [.call [] (E28 r1) [], .call [] (E29 r2) []] (p := [Fn Try.prog 44 [(false, E22 a.Stripes)] (E28 r1) [],
      (true || ((E28 r1).nv && nvL [])) = true,
      Fn Try.prog 63 [(false, E23 a.Tasks)] (E29 r2) [],
      (true || ((E29 r2).nv && nvL [])) = true]) (by kernel_rfl) (cj (laws_toStripeS_ok a.Stripes r1 h1) (cj rfl (cj (laws_toTaskS_ok a.Tasks r2 h2) (cj1 rfl)))))))
def spec_Loads_l0 (w : World) : List Stripe → (List Int) → Option ((List Int))
  | [], v1 =>
   some v1
  | x1 :: t1, v1 =>
   if (capOk (v1.length + 1)) = true then
    spec_Loads_l0 w t1 (v1 ++ [(x1.Accts.length : Int)])
   else none
theorem spec_Loads_l0_ok (w : World) (h2 : capOk w.Stripes.length = true) : ∀ (t1 p1 : List Stripe) (_ : w.Stripes = p1 ++ t1) (v1 : List Int), Pn (LpO Try.prog (sub (codeOf Try.prog 33) [1, 1, 0, 1, 0, 0]) (st 22 [(3, V.ow 0), (8, V.sl false 124 (List.map E124 w.Stripes)), (9, V.sc (.int .i64 (w.Stripes.length : Int))), (10, V.sc (.int .i64 (p1.length : Int)))] [Blk.row 3 (List.map E3 v1) []] []) (fun (y : (List Int)) => (X.out 0, st 22 [(3, V.ow 0)] [Blk.row 3 (List.map E3 y) []] []))) (spec_Loads_l0 w t1 v1)
  | [], p1, h1, v1 => by
    unfold spec_Loads_l0
    exact
     Pn.some (LpO.out [.bit false, .mask [3], .ren [0]] (p := [(decide ((p1.length : Int) < (w.Stripes.length : Int))) = false]) (by kernel_rfl) (show X.out 0 ≠ X.go from nofun) (cj1 (rng_end h1)))
  | x1 :: t1, p1, h1, v1 => by
    unfold spec_Loads_l0
    exact
     Pn.ite (fun h3 =>
      LpO.go [.bit true, .el (E124 x1), .wait 7, .nm 17 (V.sc (.int .i64 (x1.Accts.length : Int))), .cp [V.sc (.int .i64 (x1.Accts.length : Int))], .nb 3 (.row 3 (List.map E3 (v1 ++ [(x1.Accts.length : Int)])) []), .wait 4, .mask [3, 8, 9, 10], .ren [3], .nm 10 (V.sc (.int .i64 ((p1 ++ [x1]).length : Int)))] (p := [(decide ((p1.length : Int) < (w.Stripes.length : Int))) = true,
       (0 : Int) ≤ (p1.length : Int),
       (List.map E124 w.Stripes)[(p1.length : Int).toNat]? = some (E124 x1),
       V.sc (.int .i64 ((List.map E54 x1.Accts).length : Int)) = V.sc (.int .i64 (x1.Accts.length : Int)),
       [V.sc (.int .i64 (x1.Accts.length : Int))] = [V.sc (.int .i64 (x1.Accts.length : Int))],
       [V.sc (.int .i64 (x1.Accts.length : Int))].all V.flatE = true,
       (List.map E3 v1).length + [V.sc (.int .i64 (x1.Accts.length : Int))].length ≤ 9223372036854775807,
       ((List.map E3 v1).length + [V.sc (.int .i64 (x1.Accts.length : Int))].length) * 8 ≤ 140737488355328,
       Blk.row 3 ((List.map E3 v1) ++ [V.sc (.int .i64 (x1.Accts.length : Int))]) [] = Blk.row 3 (List.map E3 (v1 ++ [(x1.Accts.length : Int)])) [],
       V.sc (.int .i64 (i64 ((p1.length : Int) + 1))) = V.sc (.int .i64 ((p1 ++ [x1]).length : Int))]) (by kernel_rfl) (cj (rng_lt h1) (cj (by omega) (cj (rng_get _ h1) (cj (len_nm _ _) (cj rfl (cj rfl (cj (cap1 (capN (by simp) h3)) (cj (cap2 (capN (by simp) h3) (by decide)) (cj (nb_app E3 v1 [(x1.Accts.length : Int)]) (cj1 (rng_next h1 h2))))))))))) (spec_Loads_l0_ok w h2 t1 (p1 ++ [x1]) (rng_step h1) (v1 ++ [(x1.Accts.length : Int)]))) (fun h3 =>
      Pn.none)
def spec_Loads (w : World) : Option ((List Int)) :=
 if (capOk w.Stripes.length) = true then
  (spec_Loads_l0 w w.Stripes []).bind fun r1 =>
  some r1
 else none
theorem spec_Loads_ok (w : World) : Pn (fun y => Fn Try.prog 33 [(false, E31 w)] (E49 y) []) (spec_Loads w) := by
  unfold spec_Loads
  exact
   Pn.ite (fun h4 =>
    Pn.bind (fun r1 h5 =>
     Pn.some (Fn.of [.wait 7, .nm 9 (V.sc (.int .i64 (w.Stripes.length : Int))), .wait 2, .mask [3, 8, 9, 10], .ren [1], .loop (X.out 0) (st 22 [(3, V.ow 0)] [Blk.row 3 (List.map E3 r1) []] [])] (p := [V.sc (.int .i64 ((List.map E124 w.Stripes).length : Int)) = V.sc (.int .i64 (w.Stripes.length : Int)),
      Loop Try.prog (sub (codeOf Try.prog 33) [1, 1, 0, 1, 0, 0]) (st 22 [(3, V.ow 0), (8, V.sl false 124 (List.map E124 w.Stripes)), (9, V.sc (.int .i64 (w.Stripes.length : Int))), (10, V.sc (.int .i64 0))] [Blk.row 3 ([] : List V) []] []) (X.out 0) (st 22 [(3, V.ow 0)] [Blk.row 3 (List.map E3 r1) []] [])]) (by kernel_rfl) (cj (len_nm _ _) (cj1 (spec_Loads_l0_ok w h4 w.Stripes [] rfl [] r1 h5)))))) (fun h4 =>
    Pn.none)
def impl_Loads_l0 (w : World) : List Stripe → (List Int) → Option ((List Int))
  | [], v1 =>
   some v1
  | x1 :: t1, v1 =>
   if (capOk (v1.length + 1)) = true then
    impl_Loads_l0 w t1 (v1 ++ [(x1.Accts.length : Int)])
   else none
theorem impl_Loads_l0_ok (w : World) (h2 : capOk w.Stripes.length = true) : ∀ (t1 p1 : List Stripe) (_ : w.Stripes = p1 ++ t1) (v1 : List Int), Pn (LpO Try.prog (sub (codeOf Try.prog 34) [1, 1, 0, 1, 0, 0]) (st 22 [(3, V.ow 0), (8, V.sl false 124 (List.map E124 w.Stripes)), (9, V.sc (.int .i64 (w.Stripes.length : Int))), (10, V.sc (.int .i64 (p1.length : Int)))] [Blk.row 3 (List.map E3 v1) []] []) (fun (y : (List Int)) => (X.out 0, st 22 [(3, V.ow 0)] [Blk.row 3 (List.map E3 y) []] []))) (impl_Loads_l0 w t1 v1)
  | [], p1, h1, v1 => by
    unfold impl_Loads_l0
    exact
     Pn.some (LpO.out [.bit false, .mask [3], .ren [0]] (p := [(decide ((p1.length : Int) < (w.Stripes.length : Int))) = false]) (by kernel_rfl) (show X.out 0 ≠ X.go from nofun) (cj1 (rng_end h1)))
  | x1 :: t1, p1, h1, v1 => by
    unfold impl_Loads_l0
    exact
     Pn.ite (fun h3 =>
      LpO.go [.bit true, .el (E124 x1), .wait 7, .nm 17 (V.sc (.int .i64 (x1.Accts.length : Int))), .cp [V.sc (.int .i64 (x1.Accts.length : Int))], .nb 3 (.row 3 (List.map E3 (v1 ++ [(x1.Accts.length : Int)])) []), .wait 4, .mask [3, 8, 9, 10], .ren [3], .nm 10 (V.sc (.int .i64 ((p1 ++ [x1]).length : Int)))] (p := [(decide ((p1.length : Int) < (w.Stripes.length : Int))) = true,
       (0 : Int) ≤ (p1.length : Int),
       (List.map E124 w.Stripes)[(p1.length : Int).toNat]? = some (E124 x1),
       V.sc (.int .i64 ((List.map E54 x1.Accts).length : Int)) = V.sc (.int .i64 (x1.Accts.length : Int)),
       [V.sc (.int .i64 (x1.Accts.length : Int))] = [V.sc (.int .i64 (x1.Accts.length : Int))],
       [V.sc (.int .i64 (x1.Accts.length : Int))].all V.flatE = true,
       (List.map E3 v1).length + [V.sc (.int .i64 (x1.Accts.length : Int))].length ≤ 9223372036854775807,
       ((List.map E3 v1).length + [V.sc (.int .i64 (x1.Accts.length : Int))].length) * 8 ≤ 140737488355328,
       Blk.row 3 ((List.map E3 v1) ++ [V.sc (.int .i64 (x1.Accts.length : Int))]) [] = Blk.row 3 (List.map E3 (v1 ++ [(x1.Accts.length : Int)])) [],
       V.sc (.int .i64 (i64 ((p1.length : Int) + 1))) = V.sc (.int .i64 ((p1 ++ [x1]).length : Int))]) (by kernel_rfl) (cj (rng_lt h1) (cj (by omega) (cj (rng_get _ h1) (cj (len_nm _ _) (cj rfl (cj rfl (cj (cap1 (capN (by simp) h3)) (cj (cap2 (capN (by simp) h3) (by decide)) (cj (nb_app E3 v1 [(x1.Accts.length : Int)]) (cj1 (rng_next h1 h2))))))))))) (impl_Loads_l0_ok w h2 t1 (p1 ++ [x1]) (rng_step h1) (v1 ++ [(x1.Accts.length : Int)]))) (fun h3 =>
      Pn.none)
def impl_Loads (w : World) : Option ((List Int)) :=
 if (capOk w.Stripes.length) = true then
  (impl_Loads_l0 w w.Stripes []).bind fun r1 =>
  some r1
 else none
theorem impl_Loads_ok (w : World) : Pn (fun y => Fn Try.prog 34 [(false, E31 w)] (E49 y) []) (impl_Loads w) := by
  unfold impl_Loads
  exact
   Pn.ite (fun h4 =>
    Pn.bind (fun r1 h5 =>
     Pn.some (Fn.of [.wait 7, .nm 9 (V.sc (.int .i64 (w.Stripes.length : Int))), .wait 2, .mask [3, 8, 9, 10], .ren [1], .loop (X.out 0) (st 22 [(3, V.ow 0)] [Blk.row 3 (List.map E3 r1) []] [])] (p := [V.sc (.int .i64 ((List.map E124 w.Stripes).length : Int)) = V.sc (.int .i64 (w.Stripes.length : Int)),
      Loop Try.prog (sub (codeOf Try.prog 34) [1, 1, 0, 1, 0, 0]) (st 22 [(3, V.ow 0), (8, V.sl false 124 (List.map E124 w.Stripes)), (9, V.sc (.int .i64 (w.Stripes.length : Int))), (10, V.sc (.int .i64 0))] [Blk.row 3 ([] : List V) []] []) (X.out 0) (st 22 [(3, V.ow 0)] [Blk.row 3 (List.map E3 r1) []] [])]) (by kernel_rfl) (cj (len_nm _ _) (cj1 (impl_Loads_l0_ok w h4 w.Stripes [] rfl [] r1 h5)))))) (fun h4 =>
    Pn.none)
def laws_eqIntS_l0 (a : List Int) (b : List Int) : List Int → List Int → Option (Lo Unit Unit)
  | [], p1 =>
   some (.out ())
  | x1 :: t1, p1 =>
   (b[(p1.length : Int).toNat]?).bind fun x2 =>
   if (x1 != x2) = true then
    some (.ret ())
   else
    laws_eqIntS_l0 a b t1 (p1 ++ [x1])
theorem laws_eqIntS_l0_ok (a : List Int) (b : List Int) (h3 : capOk a.length = true) : ∀ (t1 p1 : List Int) (_ : a = p1 ++ t1) , Pn (LpO Try.prog (sub (codeOf Try.prog 35) [1, 1, 0, 1, 0, 0]) (st 26 [(0, V.sl false 3 (List.map E3 a)), (1, V.sl false 3 (List.map E3 b)), (5, V.sc (.int .i64 (p1.length : Int)))] [] []) (fun (y : Lo Unit Unit) => Lo.elim y (fun s => (X.out 0, st 26 [] [] [])) (fun s => (X.ret, st 26 [(4, V.sc (.bool false))] [] [])))) (laws_eqIntS_l0 a b t1 p1)
  | [], p1, h2 => by
    unfold laws_eqIntS_l0
    exact
     Pn.some (LpO.out [.wait 3, .nm 13 (V.sc (.int .i64 (a.length : Int))), .bit false, .mask [], .ren []] (p := [V.sc (.int .i64 ((List.map E3 a).length : Int)) = V.sc (.int .i64 (a.length : Int)),
      (decide ((p1.length : Int) < (a.length : Int))) = false]) (by kernel_rfl) (show X.out 0 ≠ X.go from nofun) (cj (len_nm _ _) (cj1 (rng_end h2))))
  | x1 :: t1, p1, h2 => by
    unfold laws_eqIntS_l0
    exact
     Pn.bind (fun x2 h4 =>
      Pn.ite (fun h5 =>
       Pn.some (LpO.out [.wait 3, .nm 13 (V.sc (.int .i64 (a.length : Int))), .bit true, .draw [], .el (E3 x1), .el (E3 x2), .bit true, .wait 1, .mask [4], .ren []] (p := [V.sc (.int .i64 ((List.map E3 a).length : Int)) = V.sc (.int .i64 (a.length : Int)),
        (decide ((p1.length : Int) < (a.length : Int))) = true,
        (0 : Int) ≤ (p1.length : Int),
        (List.map E3 a)[(p1.length : Int).toNat]? = some (E3 x1),
        (0 : Int) ≤ (p1.length : Int),
        (List.map E3 b)[(p1.length : Int).toNat]? = some (E3 x2),
        (x1 != x2) = true]) (by kernel_rfl) (show X.ret ≠ X.go from nofun) (cj (len_nm _ _) (cj (rng_lt h2) (cj (by omega) (cj (rng_get _ h2) (cj (by omega) (cj (map_get h4) (cj1 h5))))))))) (fun h5 =>
       LpO.go [.wait 3, .nm 13 (V.sc (.int .i64 (a.length : Int))), .bit true, .draw [], .el (E3 x1), .el (E3 x2), .bit false, .wait 3, .mask [0, 1, 5], .ren [], .nm 5 (V.sc (.int .i64 ((p1 ++ [x1]).length : Int)))] (p := [V.sc (.int .i64 ((List.map E3 a).length : Int)) = V.sc (.int .i64 (a.length : Int)),
        (decide ((p1.length : Int) < (a.length : Int))) = true,
        (0 : Int) ≤ (p1.length : Int),
        (List.map E3 a)[(p1.length : Int).toNat]? = some (E3 x1),
        (0 : Int) ≤ (p1.length : Int),
        (List.map E3 b)[(p1.length : Int).toNat]? = some (E3 x2),
        (x1 != x2) = false,
        V.sc (.int .i64 (i64 ((p1.length : Int) + 1))) = V.sc (.int .i64 ((p1 ++ [x1]).length : Int))]) (by kernel_rfl) (cj (len_nm _ _) (cj (rng_lt h2) (cj (by omega) (cj (rng_get _ h2) (cj (by omega) (cj (map_get h4) (cj h5 (cj1 (rng_next h2 h3))))))))) (laws_eqIntS_l0_ok a b h3 t1 (p1 ++ [x1]) (rng_step h2))))
def laws_eqIntS (a : List Int) (b : List Int) : Option (Bool) :=
 if ((a.length : Int) != (b.length : Int)) = true then
  some false
 else
  if (capOk a.length) = true then
   (laws_eqIntS_l0 a b a []).bind fun r1 =>
   Lo.elim r1 (fun s1 =>
    some true) (fun s2 =>
    some false)
  else none
theorem laws_eqIntS_ok (a : List Int) (b : List Int) : Pn (fun y => Fn Try.prog 35 [(false, E49 a), (false, E49 b)] (E4 y) []) (laws_eqIntS a b) := by
  unfold laws_eqIntS
  exact
   Pn.ite (fun h1 =>
    Pn.some (Fn.of [.wait 3, .nm 7 (V.sc (.int .i64 (a.length : Int))), .wait 2, .nm 9 (V.sc (.int .i64 (b.length : Int))), .bit true] (p := [V.sc (.int .i64 ((List.map E3 a).length : Int)) = V.sc (.int .i64 (a.length : Int)),
     V.sc (.int .i64 ((List.map E3 b).length : Int)) = V.sc (.int .i64 (b.length : Int)),
     ((a.length : Int) != (b.length : Int)) = true]) (by kernel_rfl) (cj (len_nm _ _) (cj (len_nm _ _) (cj1 h1))))) (fun h1 =>
    Pn.ite (fun h6 =>
     Pn.bind (fun r1 h7 =>
      Pn.lo (fun s1 h8 =>
       Pn.some (Fn.of [.wait 3, .nm 7 (V.sc (.int .i64 (a.length : Int))), .wait 2, .nm 9 (V.sc (.int .i64 (b.length : Int))), .bit false, .wait 1, .mask [0, 1, 5], .ren [], .loop (X.out 0) (st 26 [] [] [])] (p := [V.sc (.int .i64 ((List.map E3 a).length : Int)) = V.sc (.int .i64 (a.length : Int)),
        V.sc (.int .i64 ((List.map E3 b).length : Int)) = V.sc (.int .i64 (b.length : Int)),
        ((a.length : Int) != (b.length : Int)) = false,
        Loop Try.prog (sub (codeOf Try.prog 35) [1, 1, 0, 1, 0, 0]) (st 26 [(0, V.sl false 3 (List.map E3 a)), (1, V.sl false 3 (List.map E3 b)), (5, V.sc (.int .i64 0))] [] []) (X.out 0) (st 26 [] [] [])]) (by kernel_rfl) (cj (len_nm _ _) (cj (len_nm _ _) (cj h1 (cj1 ((laws_eqIntS_l0_ok a b h6 a [] rfl r1 h7).at h8))))))) (fun s2 h9 =>
       Pn.some (Fn.of [.wait 3, .nm 7 (V.sc (.int .i64 (a.length : Int))), .wait 2, .nm 9 (V.sc (.int .i64 (b.length : Int))), .bit false, .wait 1, .mask [0, 1, 5], .ren [], .loop (X.ret) (st 26 [(4, V.sc (.bool false))] [] [])] (p := [V.sc (.int .i64 ((List.map E3 a).length : Int)) = V.sc (.int .i64 (a.length : Int)),
        V.sc (.int .i64 ((List.map E3 b).length : Int)) = V.sc (.int .i64 (b.length : Int)),
        ((a.length : Int) != (b.length : Int)) = false,
        Loop Try.prog (sub (codeOf Try.prog 35) [1, 1, 0, 1, 0, 0]) (st 26 [(0, V.sl false 3 (List.map E3 a)), (1, V.sl false 3 (List.map E3 b)), (5, V.sc (.int .i64 0))] [] []) (X.ret) (st 26 [(4, V.sc (.bool false))] [] [])]) (by kernel_rfl) (cj (len_nm _ _) (cj (len_nm _ _) (cj h1 (cj1 ((laws_eqIntS_l0_ok a b h6 a [] rfl r1 h7).at h9))))))))) (fun h6 =>
     Pn.none))
def laws_eqHold (a : Hold) (b : Hold) : Option (Bool) :=
 if (a.Id == b.Id) = true then
  if (a.Amount != b.Amount) = true then
   some false
  else
   if (a.Due != b.Due) = true then
    some false
   else
    some true
 else
  some false
theorem laws_eqHold_ok (a : Hold) (b : Hold) : Pn (fun y => Fn Try.prog 212 [(false, E61 a), (false, E61 b)] (E4 y) []) (laws_eqHold a b) := by
  unfold laws_eqHold
  exact
   Pn.ite (fun h1 =>
    Pn.ite (fun h2 =>
     Pn.some (Fn.of [.bit false, .bit true] (p := [(!(a.Id == b.Id)) = false,
      (a.Amount != b.Amount) = true]) (by kernel_rfl) (cj (nf h1) (cj1 h2)))) (fun h2 =>
     Pn.ite (fun h3 =>
      Pn.some (Fn.of [.bit false, .bit false, .bit true] (p := [(!(a.Id == b.Id)) = false,
       (a.Amount != b.Amount) = false,
       (a.Due != b.Due) = true]) (by kernel_rfl) (cj (nf h1) (cj h2 (cj1 h3))))) (fun h3 =>
      Pn.some (Fn.of [.bit false, .bit false, .bit false] (p := [(!(a.Id == b.Id)) = false,
       (a.Amount != b.Amount) = false,
       (a.Due != b.Due) = false]) (by kernel_rfl) (cj (nf h1) (cj h2 (cj1 h3))))))) (fun h1 =>
    Pn.some (Fn.of [.bit true] (p := [(!(a.Id == b.Id)) = true]) (by kernel_rfl) (cj1 (nt h1))))
def laws_eqHoldS_l0 (a : List Hold) (b : List Hold) : List Hold → List Hold → Option (Lo Unit Unit)
  | [], p1 =>
   some (.out ())
  | x1 :: t1, p1 =>
   (b[(p1.length : Int).toNat]?).bind fun x2 =>
   (laws_eqHold x1 x2).bind fun r1 =>
   if r1 = true then
    laws_eqHoldS_l0 a b t1 (p1 ++ [x1])
   else
    some (.ret ())
theorem laws_eqHoldS_l0_ok (a : List Hold) (b : List Hold) (h3 : capOk a.length = true) : ∀ (t1 p1 : List Hold) (_ : a = p1 ++ t1) , Pn (LpO Try.prog (sub (codeOf Try.prog 185) [1, 1, 0, 1, 0, 0]) (st 27 [(0, V.sl false 61 (List.map E61 a)), (1, V.sl false 61 (List.map E61 b)), (5, V.sc (.int .i64 (p1.length : Int)))] [] []) (fun (y : Lo Unit Unit) => Lo.elim y (fun s => (X.out 0, st 27 [] [] [])) (fun s => (X.ret, st 27 [(4, V.sc (.bool false))] [] [])))) (laws_eqHoldS_l0 a b t1 p1)
  | [], p1, h2 => by
    unfold laws_eqHoldS_l0
    exact
     Pn.some (LpO.out [.wait 3, .nm 13 (V.sc (.int .i64 (a.length : Int))), .bit false, .mask [], .ren []] (p := [V.sc (.int .i64 ((List.map E61 a).length : Int)) = V.sc (.int .i64 (a.length : Int)),
      (decide ((p1.length : Int) < (a.length : Int))) = false]) (by kernel_rfl) (show X.out 0 ≠ X.go from nofun) (cj (len_nm _ _) (cj1 (rng_end h2))))
  | x1 :: t1, p1, h2 => by
    unfold laws_eqHoldS_l0
    exact
     Pn.bind (fun x2 h4 =>
      Pn.bind (fun r1 h5 =>
       Pn.ite (fun h6 =>
        LpO.go [.wait 3, .nm 13 (V.sc (.int .i64 (a.length : Int))), .bit true, .draw [], .el (E61 x1), .el (E61 x2), .call [] (E4 r1) [], .bit false, .wait 3, .mask [0, 1, 5], .ren [], .nm 5 (V.sc (.int .i64 ((p1 ++ [x1]).length : Int)))] (p := [V.sc (.int .i64 ((List.map E61 a).length : Int)) = V.sc (.int .i64 (a.length : Int)),
         (decide ((p1.length : Int) < (a.length : Int))) = true,
         (0 : Int) ≤ (p1.length : Int),
         (List.map E61 a)[(p1.length : Int).toNat]? = some (E61 x1),
         (0 : Int) ≤ (p1.length : Int),
         (List.map E61 b)[(p1.length : Int).toNat]? = some (E61 x2),
         Fn Try.prog 212 [(false, E61 x1), (false, E61 x2)] (E4 r1) [],
         (true || ((E4 r1).nv && nvL [])) = true,
         (!r1) = false,
         V.sc (.int .i64 (i64 ((p1.length : Int) + 1))) = V.sc (.int .i64 ((p1 ++ [x1]).length : Int))]) (by kernel_rfl) (cj (len_nm _ _) (cj (rng_lt h2) (cj (by omega) (cj (rng_get _ h2) (cj (by omega) (cj (map_get h4) (cj (laws_eqHold_ok x1 x2 r1 h5) (cj rfl (cj (nf h6) (cj1 (rng_next h2 h3))))))))))) (laws_eqHoldS_l0_ok a b h3 t1 (p1 ++ [x1]) (rng_step h2))) (fun h6 =>
        Pn.some (LpO.out [.wait 3, .nm 13 (V.sc (.int .i64 (a.length : Int))), .bit true, .draw [], .el (E61 x1), .el (E61 x2), .call [] (E4 r1) [], .bit true, .wait 1, .mask [4], .ren []] (p := [V.sc (.int .i64 ((List.map E61 a).length : Int)) = V.sc (.int .i64 (a.length : Int)),
         (decide ((p1.length : Int) < (a.length : Int))) = true,
         (0 : Int) ≤ (p1.length : Int),
         (List.map E61 a)[(p1.length : Int).toNat]? = some (E61 x1),
         (0 : Int) ≤ (p1.length : Int),
         (List.map E61 b)[(p1.length : Int).toNat]? = some (E61 x2),
         Fn Try.prog 212 [(false, E61 x1), (false, E61 x2)] (E4 r1) [],
         (true || ((E4 r1).nv && nvL [])) = true,
         (!r1) = true]) (by kernel_rfl) (show X.ret ≠ X.go from nofun) (cj (len_nm _ _) (cj (rng_lt h2) (cj (by omega) (cj (rng_get _ h2) (cj (by omega) (cj (map_get h4) (cj (laws_eqHold_ok x1 x2 r1 h5) (cj rfl (cj1 (nt h6))))))))))))))
def laws_eqHoldS (a : List Hold) (b : List Hold) : Option (Bool) :=
 if ((a.length : Int) != (b.length : Int)) = true then
  some false
 else
  if (capOk a.length) = true then
   (laws_eqHoldS_l0 a b a []).bind fun r2 =>
   Lo.elim r2 (fun s1 =>
    some true) (fun s2 =>
    some false)
  else none
theorem laws_eqHoldS_ok (a : List Hold) (b : List Hold) : Pn (fun y => Fn Try.prog 185 [(false, E48 a), (false, E48 b)] (E4 y) []) (laws_eqHoldS a b) := by
  unfold laws_eqHoldS
  exact
   Pn.ite (fun h1 =>
    Pn.some (Fn.of [.wait 3, .nm 7 (V.sc (.int .i64 (a.length : Int))), .wait 2, .nm 9 (V.sc (.int .i64 (b.length : Int))), .bit true] (p := [V.sc (.int .i64 ((List.map E61 a).length : Int)) = V.sc (.int .i64 (a.length : Int)),
     V.sc (.int .i64 ((List.map E61 b).length : Int)) = V.sc (.int .i64 (b.length : Int)),
     ((a.length : Int) != (b.length : Int)) = true]) (by kernel_rfl) (cj (len_nm _ _) (cj (len_nm _ _) (cj1 h1))))) (fun h1 =>
    Pn.ite (fun h7 =>
     Pn.bind (fun r2 h8 =>
      Pn.lo (fun s1 h9 =>
       Pn.some (Fn.of [.wait 3, .nm 7 (V.sc (.int .i64 (a.length : Int))), .wait 2, .nm 9 (V.sc (.int .i64 (b.length : Int))), .bit false, .wait 1, .mask [0, 1, 5], .ren [], .loop (X.out 0) (st 27 [] [] [])] (p := [V.sc (.int .i64 ((List.map E61 a).length : Int)) = V.sc (.int .i64 (a.length : Int)),
        V.sc (.int .i64 ((List.map E61 b).length : Int)) = V.sc (.int .i64 (b.length : Int)),
        ((a.length : Int) != (b.length : Int)) = false,
        Loop Try.prog (sub (codeOf Try.prog 185) [1, 1, 0, 1, 0, 0]) (st 27 [(0, V.sl false 61 (List.map E61 a)), (1, V.sl false 61 (List.map E61 b)), (5, V.sc (.int .i64 0))] [] []) (X.out 0) (st 27 [] [] [])]) (by kernel_rfl) (cj (len_nm _ _) (cj (len_nm _ _) (cj h1 (cj1 ((laws_eqHoldS_l0_ok a b h7 a [] rfl r2 h8).at h9))))))) (fun s2 h10 =>
       Pn.some (Fn.of [.wait 3, .nm 7 (V.sc (.int .i64 (a.length : Int))), .wait 2, .nm 9 (V.sc (.int .i64 (b.length : Int))), .bit false, .wait 1, .mask [0, 1, 5], .ren [], .loop (X.ret) (st 27 [(4, V.sc (.bool false))] [] [])] (p := [V.sc (.int .i64 ((List.map E61 a).length : Int)) = V.sc (.int .i64 (a.length : Int)),
        V.sc (.int .i64 ((List.map E61 b).length : Int)) = V.sc (.int .i64 (b.length : Int)),
        ((a.length : Int) != (b.length : Int)) = false,
        Loop Try.prog (sub (codeOf Try.prog 185) [1, 1, 0, 1, 0, 0]) (st 27 [(0, V.sl false 61 (List.map E61 a)), (1, V.sl false 61 (List.map E61 b)), (5, V.sc (.int .i64 0))] [] []) (X.ret) (st 27 [(4, V.sc (.bool false))] [] [])]) (by kernel_rfl) (cj (len_nm _ _) (cj (len_nm _ _) (cj h1 (cj1 ((laws_eqHoldS_l0_ok a b h7 a [] rfl r2 h8).at h10))))))))) (fun h7 =>
     Pn.none))
def laws_eqRing (a : Ring) (b : Ring) : Option (Bool) :=
 if (a.Span != b.Span) = true then
  some false
 else
  if (a.Head != b.Head) = true then
   some false
  else
   (laws_eqIntS a.Counts b.Counts).bind fun r1 =>
   if r1 = true then
    (laws_eqIntS a.Sums b.Sums).bind fun r2 =>
    if r2 = true then
     some true
    else
     some false
   else
    some false
theorem laws_eqRing_ok (a : Ring) (b : Ring) : Pn (fun y => Fn Try.prog 186 [(false, E51 a), (false, E51 b)] (E4 y) []) (laws_eqRing a b) := by
  unfold laws_eqRing
  exact
   Pn.ite (fun h1 =>
    Pn.some (Fn.of [.bit true] (p := [(a.Span != b.Span) = true]) (by kernel_rfl) (cj1 h1))) (fun h1 =>
    Pn.ite (fun h2 =>
     Pn.some (Fn.of [.bit false, .bit true] (p := [(a.Span != b.Span) = false,
      (a.Head != b.Head) = true]) (by kernel_rfl) (cj h1 (cj1 h2)))) (fun h2 =>
     Pn.bind (fun r1 h3 =>
      Pn.ite (fun h4 =>
       Pn.bind (fun r2 h5 =>
        Pn.ite (fun h6 =>
         Pn.some (Fn.of [.bit false, .bit false, .call [] (E4 r1) [], .bit false, .call [] (E4 r2) [], .bit false] (p := [(a.Span != b.Span) = false,
          (a.Head != b.Head) = false,
          Fn Try.prog 35 [(false, E49 a.Counts), (false, E49 b.Counts)] (E4 r1) [],
          (true || ((E4 r1).nv && nvL [])) = true,
          (!r1) = false,
          Fn Try.prog 35 [(false, E49 a.Sums), (false, E49 b.Sums)] (E4 r2) [],
          (true || ((E4 r2).nv && nvL [])) = true,
          (!r2) = false]) (by kernel_rfl) (cj h1 (cj h2 (cj (laws_eqIntS_ok a.Counts b.Counts r1 h3) (cj rfl (cj (nf h4) (cj (laws_eqIntS_ok a.Sums b.Sums r2 h5) (cj rfl (cj1 (nf h6))))))))))) (fun h6 =>
         Pn.some (Fn.of [.bit false, .bit false, .call [] (E4 r1) [], .bit false, .call [] (E4 r2) [], .bit true] (p := [(a.Span != b.Span) = false,
          (a.Head != b.Head) = false,
          Fn Try.prog 35 [(false, E49 a.Counts), (false, E49 b.Counts)] (E4 r1) [],
          (true || ((E4 r1).nv && nvL [])) = true,
          (!r1) = false,
          Fn Try.prog 35 [(false, E49 a.Sums), (false, E49 b.Sums)] (E4 r2) [],
          (true || ((E4 r2).nv && nvL [])) = true,
          (!r2) = true]) (by kernel_rfl) (cj h1 (cj h2 (cj (laws_eqIntS_ok a.Counts b.Counts r1 h3) (cj rfl (cj (nf h4) (cj (laws_eqIntS_ok a.Sums b.Sums r2 h5) (cj rfl (cj1 (nt h6))))))))))))) (fun h4 =>
       Pn.some (Fn.of [.bit false, .bit false, .call [] (E4 r1) [], .bit true] (p := [(a.Span != b.Span) = false,
        (a.Head != b.Head) = false,
        Fn Try.prog 35 [(false, E49 a.Counts), (false, E49 b.Counts)] (E4 r1) [],
        (true || ((E4 r1).nv && nvL [])) = true,
        (!r1) = true]) (by kernel_rfl) (cj h1 (cj h2 (cj (laws_eqIntS_ok a.Counts b.Counts r1 h3) (cj rfl (cj1 (nt h4)))))))))))
def laws_eqByteS_l0 (a : List Int) (b : List Int) : List Int → List Int → Option (Lo Unit Unit)
  | [], p1 =>
   some (.out ())
  | x1 :: t1, p1 =>
   (b[(p1.length : Int).toNat]?).bind fun x2 =>
   if (x1 != x2) = true then
    some (.ret ())
   else
    laws_eqByteS_l0 a b t1 (p1 ++ [x1])
theorem laws_eqByteS_l0_ok (a : List Int) (b : List Int) (h3 : capOk a.length = true) : ∀ (t1 p1 : List Int) (_ : a = p1 ++ t1) , Pn (LpO Try.prog (sub (codeOf Try.prog 176) [1, 1, 0, 1, 0, 0]) (st 26 [(0, V.sl false 5 (List.map E5 a)), (1, V.sl false 5 (List.map E5 b)), (5, V.sc (.int .i64 (p1.length : Int)))] [] []) (fun (y : Lo Unit Unit) => Lo.elim y (fun s => (X.out 0, st 26 [] [] [])) (fun s => (X.ret, st 26 [(4, V.sc (.bool false))] [] [])))) (laws_eqByteS_l0 a b t1 p1)
  | [], p1, h2 => by
    unfold laws_eqByteS_l0
    exact
     Pn.some (LpO.out [.wait 3, .nm 13 (V.sc (.int .i64 (a.length : Int))), .bit false, .mask [], .ren []] (p := [V.sc (.int .i64 ((List.map E5 a).length : Int)) = V.sc (.int .i64 (a.length : Int)),
      (decide ((p1.length : Int) < (a.length : Int))) = false]) (by kernel_rfl) (show X.out 0 ≠ X.go from nofun) (cj (len_nm _ _) (cj1 (rng_end h2))))
  | x1 :: t1, p1, h2 => by
    unfold laws_eqByteS_l0
    exact
     Pn.bind (fun x2 h4 =>
      Pn.ite (fun h5 =>
       Pn.some (LpO.out [.wait 3, .nm 13 (V.sc (.int .i64 (a.length : Int))), .bit true, .draw [], .el (E5 x1), .el (E5 x2), .bit true, .wait 1, .mask [4], .ren []] (p := [V.sc (.int .i64 ((List.map E5 a).length : Int)) = V.sc (.int .i64 (a.length : Int)),
        (decide ((p1.length : Int) < (a.length : Int))) = true,
        (0 : Int) ≤ (p1.length : Int),
        (List.map E5 a)[(p1.length : Int).toNat]? = some (E5 x1),
        (0 : Int) ≤ (p1.length : Int),
        (List.map E5 b)[(p1.length : Int).toNat]? = some (E5 x2),
        (x1 != x2) = true]) (by kernel_rfl) (show X.ret ≠ X.go from nofun) (cj (len_nm _ _) (cj (rng_lt h2) (cj (by omega) (cj (rng_get _ h2) (cj (by omega) (cj (map_get h4) (cj1 h5))))))))) (fun h5 =>
       LpO.go [.wait 3, .nm 13 (V.sc (.int .i64 (a.length : Int))), .bit true, .draw [], .el (E5 x1), .el (E5 x2), .bit false, .wait 3, .mask [0, 1, 5], .ren [], .nm 5 (V.sc (.int .i64 ((p1 ++ [x1]).length : Int)))] (p := [V.sc (.int .i64 ((List.map E5 a).length : Int)) = V.sc (.int .i64 (a.length : Int)),
        (decide ((p1.length : Int) < (a.length : Int))) = true,
        (0 : Int) ≤ (p1.length : Int),
        (List.map E5 a)[(p1.length : Int).toNat]? = some (E5 x1),
        (0 : Int) ≤ (p1.length : Int),
        (List.map E5 b)[(p1.length : Int).toNat]? = some (E5 x2),
        (x1 != x2) = false,
        V.sc (.int .i64 (i64 ((p1.length : Int) + 1))) = V.sc (.int .i64 ((p1 ++ [x1]).length : Int))]) (by kernel_rfl) (cj (len_nm _ _) (cj (rng_lt h2) (cj (by omega) (cj (rng_get _ h2) (cj (by omega) (cj (map_get h4) (cj h5 (cj1 (rng_next h2 h3))))))))) (laws_eqByteS_l0_ok a b h3 t1 (p1 ++ [x1]) (rng_step h2))))
def laws_eqByteS (a : List Int) (b : List Int) : Option (Bool) :=
 if ((a.length : Int) != (b.length : Int)) = true then
  some false
 else
  if (capOk a.length) = true then
   (laws_eqByteS_l0 a b a []).bind fun r1 =>
   Lo.elim r1 (fun s1 =>
    some true) (fun s2 =>
    some false)
  else none
theorem laws_eqByteS_ok (a : List Int) (b : List Int) : Pn (fun y => Fn Try.prog 176 [(false, E47 a), (false, E47 b)] (E4 y) []) (laws_eqByteS a b) := by
  unfold laws_eqByteS
  exact
   Pn.ite (fun h1 =>
    Pn.some (Fn.of [.wait 3, .nm 7 (V.sc (.int .i64 (a.length : Int))), .wait 2, .nm 9 (V.sc (.int .i64 (b.length : Int))), .bit true] (p := [V.sc (.int .i64 ((List.map E5 a).length : Int)) = V.sc (.int .i64 (a.length : Int)),
     V.sc (.int .i64 ((List.map E5 b).length : Int)) = V.sc (.int .i64 (b.length : Int)),
     ((a.length : Int) != (b.length : Int)) = true]) (by kernel_rfl) (cj (len_nm _ _) (cj (len_nm _ _) (cj1 h1))))) (fun h1 =>
    Pn.ite (fun h6 =>
     Pn.bind (fun r1 h7 =>
      Pn.lo (fun s1 h8 =>
       Pn.some (Fn.of [.wait 3, .nm 7 (V.sc (.int .i64 (a.length : Int))), .wait 2, .nm 9 (V.sc (.int .i64 (b.length : Int))), .bit false, .wait 1, .mask [0, 1, 5], .ren [], .loop (X.out 0) (st 26 [] [] [])] (p := [V.sc (.int .i64 ((List.map E5 a).length : Int)) = V.sc (.int .i64 (a.length : Int)),
        V.sc (.int .i64 ((List.map E5 b).length : Int)) = V.sc (.int .i64 (b.length : Int)),
        ((a.length : Int) != (b.length : Int)) = false,
        Loop Try.prog (sub (codeOf Try.prog 176) [1, 1, 0, 1, 0, 0]) (st 26 [(0, V.sl false 5 (List.map E5 a)), (1, V.sl false 5 (List.map E5 b)), (5, V.sc (.int .i64 0))] [] []) (X.out 0) (st 26 [] [] [])]) (by kernel_rfl) (cj (len_nm _ _) (cj (len_nm _ _) (cj h1 (cj1 ((laws_eqByteS_l0_ok a b h6 a [] rfl r1 h7).at h8))))))) (fun s2 h9 =>
       Pn.some (Fn.of [.wait 3, .nm 7 (V.sc (.int .i64 (a.length : Int))), .wait 2, .nm 9 (V.sc (.int .i64 (b.length : Int))), .bit false, .wait 1, .mask [0, 1, 5], .ren [], .loop (X.ret) (st 26 [(4, V.sc (.bool false))] [] [])] (p := [V.sc (.int .i64 ((List.map E5 a).length : Int)) = V.sc (.int .i64 (a.length : Int)),
        V.sc (.int .i64 ((List.map E5 b).length : Int)) = V.sc (.int .i64 (b.length : Int)),
        ((a.length : Int) != (b.length : Int)) = false,
        Loop Try.prog (sub (codeOf Try.prog 176) [1, 1, 0, 1, 0, 0]) (st 26 [(0, V.sl false 5 (List.map E5 a)), (1, V.sl false 5 (List.map E5 b)), (5, V.sc (.int .i64 0))] [] []) (X.ret) (st 26 [(4, V.sc (.bool false))] [] [])]) (by kernel_rfl) (cj (len_nm _ _) (cj (len_nm _ _) (cj h1 (cj1 ((laws_eqByteS_l0_ok a b h6 a [] rfl r1 h7).at h9))))))))) (fun h6 =>
     Pn.none))
def laws_eqSlot (a : Slot) (b : Slot) : Option (Bool) :=
 if (a.Trace == b.Trace) = true then
  if (a.Mti == b.Mti) = true then
   (laws_eqByteS a.Reply b.Reply).bind fun r1 =>
   if r1 = true then
    some true
   else
    some false
  else
   some false
 else
  some false
theorem laws_eqSlot_ok (a : Slot) (b : Slot) : Pn (fun y => Fn Try.prog 213 [(false, E177 a), (false, E177 b)] (E4 y) []) (laws_eqSlot a b) := by
  unfold laws_eqSlot
  exact
   Pn.ite (fun h1 =>
    Pn.ite (fun h2 =>
     Pn.bind (fun r1 h3 =>
      Pn.ite (fun h4 =>
       Pn.some (Fn.of [.bit false, .bit false, .call [] (E4 r1) [], .bit false] (p := [(!(a.Trace == b.Trace)) = false,
        (!(a.Mti == b.Mti)) = false,
        Fn Try.prog 176 [(false, E47 a.Reply), (false, E47 b.Reply)] (E4 r1) [],
        (true || ((E4 r1).nv && nvL [])) = true,
        (!r1) = false]) (by kernel_rfl) (cj (nf h1) (cj (nf h2) (cj (laws_eqByteS_ok a.Reply b.Reply r1 h3) (cj rfl (cj1 (nf h4)))))))) (fun h4 =>
       Pn.some (Fn.of [.bit false, .bit false, .call [] (E4 r1) [], .bit true] (p := [(!(a.Trace == b.Trace)) = false,
        (!(a.Mti == b.Mti)) = false,
        Fn Try.prog 176 [(false, E47 a.Reply), (false, E47 b.Reply)] (E4 r1) [],
        (true || ((E4 r1).nv && nvL [])) = true,
        (!r1) = true]) (by kernel_rfl) (cj (nf h1) (cj (nf h2) (cj (laws_eqByteS_ok a.Reply b.Reply r1 h3) (cj rfl (cj1 (nt h4)))))))))) (fun h2 =>
     Pn.some (Fn.of [.bit false, .bit true] (p := [(!(a.Trace == b.Trace)) = false,
      (!(a.Mti == b.Mti)) = true]) (by kernel_rfl) (cj (nf h1) (cj1 (nt h2)))))) (fun h1 =>
    Pn.some (Fn.of [.bit true] (p := [(!(a.Trace == b.Trace)) = true]) (by kernel_rfl) (cj1 (nt h1))))
def laws_eqSlotS_l0 (a : List Slot) (b : List Slot) : List Slot → List Slot → Option (Lo Unit Unit)
  | [], p1 =>
   some (.out ())
  | x1 :: t1, p1 =>
   (b[(p1.length : Int).toNat]?).bind fun x2 =>
   (laws_eqSlot x1 x2).bind fun r1 =>
   if r1 = true then
    laws_eqSlotS_l0 a b t1 (p1 ++ [x1])
   else
    some (.ret ())
theorem laws_eqSlotS_l0_ok (a : List Slot) (b : List Slot) (h3 : capOk a.length = true) : ∀ (t1 p1 : List Slot) (_ : a = p1 ++ t1) , Pn (LpO Try.prog (sub (codeOf Try.prog 187) [1, 1, 0, 1, 0, 0]) (st 27 [(0, V.sl false 177 (List.map E177 a)), (1, V.sl false 177 (List.map E177 b)), (5, V.sc (.int .i64 (p1.length : Int)))] [] []) (fun (y : Lo Unit Unit) => Lo.elim y (fun s => (X.out 0, st 27 [] [] [])) (fun s => (X.ret, st 27 [(4, V.sc (.bool false))] [] [])))) (laws_eqSlotS_l0 a b t1 p1)
  | [], p1, h2 => by
    unfold laws_eqSlotS_l0
    exact
     Pn.some (LpO.out [.wait 3, .nm 13 (V.sc (.int .i64 (a.length : Int))), .bit false, .mask [], .ren []] (p := [V.sc (.int .i64 ((List.map E177 a).length : Int)) = V.sc (.int .i64 (a.length : Int)),
      (decide ((p1.length : Int) < (a.length : Int))) = false]) (by kernel_rfl) (show X.out 0 ≠ X.go from nofun) (cj (len_nm _ _) (cj1 (rng_end h2))))
  | x1 :: t1, p1, h2 => by
    unfold laws_eqSlotS_l0
    exact
     Pn.bind (fun x2 h4 =>
      Pn.bind (fun r1 h5 =>
       Pn.ite (fun h6 =>
        LpO.go [.wait 3, .nm 13 (V.sc (.int .i64 (a.length : Int))), .bit true, .draw [], .el (E177 x1), .el (E177 x2), .call [] (E4 r1) [], .bit false, .wait 3, .mask [0, 1, 5], .ren [], .nm 5 (V.sc (.int .i64 ((p1 ++ [x1]).length : Int)))] (p := [V.sc (.int .i64 ((List.map E177 a).length : Int)) = V.sc (.int .i64 (a.length : Int)),
         (decide ((p1.length : Int) < (a.length : Int))) = true,
         (0 : Int) ≤ (p1.length : Int),
         (List.map E177 a)[(p1.length : Int).toNat]? = some (E177 x1),
         (0 : Int) ≤ (p1.length : Int),
         (List.map E177 b)[(p1.length : Int).toNat]? = some (E177 x2),
         Fn Try.prog 213 [(false, E177 x1), (false, E177 x2)] (E4 r1) [],
         (true || ((E4 r1).nv && nvL [])) = true,
         (!r1) = false,
         V.sc (.int .i64 (i64 ((p1.length : Int) + 1))) = V.sc (.int .i64 ((p1 ++ [x1]).length : Int))]) (by kernel_rfl) (cj (len_nm _ _) (cj (rng_lt h2) (cj (by omega) (cj (rng_get _ h2) (cj (by omega) (cj (map_get h4) (cj (laws_eqSlot_ok x1 x2 r1 h5) (cj rfl (cj (nf h6) (cj1 (rng_next h2 h3))))))))))) (laws_eqSlotS_l0_ok a b h3 t1 (p1 ++ [x1]) (rng_step h2))) (fun h6 =>
        Pn.some (LpO.out [.wait 3, .nm 13 (V.sc (.int .i64 (a.length : Int))), .bit true, .draw [], .el (E177 x1), .el (E177 x2), .call [] (E4 r1) [], .bit true, .wait 1, .mask [4], .ren []] (p := [V.sc (.int .i64 ((List.map E177 a).length : Int)) = V.sc (.int .i64 (a.length : Int)),
         (decide ((p1.length : Int) < (a.length : Int))) = true,
         (0 : Int) ≤ (p1.length : Int),
         (List.map E177 a)[(p1.length : Int).toNat]? = some (E177 x1),
         (0 : Int) ≤ (p1.length : Int),
         (List.map E177 b)[(p1.length : Int).toNat]? = some (E177 x2),
         Fn Try.prog 213 [(false, E177 x1), (false, E177 x2)] (E4 r1) [],
         (true || ((E4 r1).nv && nvL [])) = true,
         (!r1) = true]) (by kernel_rfl) (show X.ret ≠ X.go from nofun) (cj (len_nm _ _) (cj (rng_lt h2) (cj (by omega) (cj (rng_get _ h2) (cj (by omega) (cj (map_get h4) (cj (laws_eqSlot_ok x1 x2 r1 h5) (cj rfl (cj1 (nt h6))))))))))))))
def laws_eqSlotS (a : List Slot) (b : List Slot) : Option (Bool) :=
 if ((a.length : Int) != (b.length : Int)) = true then
  some false
 else
  if (capOk a.length) = true then
   (laws_eqSlotS_l0 a b a []).bind fun r2 =>
   Lo.elim r2 (fun s1 =>
    some true) (fun s2 =>
    some false)
  else none
theorem laws_eqSlotS_ok (a : List Slot) (b : List Slot) : Pn (fun y => Fn Try.prog 187 [(false, E52 a), (false, E52 b)] (E4 y) []) (laws_eqSlotS a b) := by
  unfold laws_eqSlotS
  exact
   Pn.ite (fun h1 =>
    Pn.some (Fn.of [.wait 3, .nm 7 (V.sc (.int .i64 (a.length : Int))), .wait 2, .nm 9 (V.sc (.int .i64 (b.length : Int))), .bit true] (p := [V.sc (.int .i64 ((List.map E177 a).length : Int)) = V.sc (.int .i64 (a.length : Int)),
     V.sc (.int .i64 ((List.map E177 b).length : Int)) = V.sc (.int .i64 (b.length : Int)),
     ((a.length : Int) != (b.length : Int)) = true]) (by kernel_rfl) (cj (len_nm _ _) (cj (len_nm _ _) (cj1 h1))))) (fun h1 =>
    Pn.ite (fun h7 =>
     Pn.bind (fun r2 h8 =>
      Pn.lo (fun s1 h9 =>
       Pn.some (Fn.of [.wait 3, .nm 7 (V.sc (.int .i64 (a.length : Int))), .wait 2, .nm 9 (V.sc (.int .i64 (b.length : Int))), .bit false, .wait 1, .mask [0, 1, 5], .ren [], .loop (X.out 0) (st 27 [] [] [])] (p := [V.sc (.int .i64 ((List.map E177 a).length : Int)) = V.sc (.int .i64 (a.length : Int)),
        V.sc (.int .i64 ((List.map E177 b).length : Int)) = V.sc (.int .i64 (b.length : Int)),
        ((a.length : Int) != (b.length : Int)) = false,
        Loop Try.prog (sub (codeOf Try.prog 187) [1, 1, 0, 1, 0, 0]) (st 27 [(0, V.sl false 177 (List.map E177 a)), (1, V.sl false 177 (List.map E177 b)), (5, V.sc (.int .i64 0))] [] []) (X.out 0) (st 27 [] [] [])]) (by kernel_rfl) (cj (len_nm _ _) (cj (len_nm _ _) (cj h1 (cj1 ((laws_eqSlotS_l0_ok a b h7 a [] rfl r2 h8).at h9))))))) (fun s2 h10 =>
       Pn.some (Fn.of [.wait 3, .nm 7 (V.sc (.int .i64 (a.length : Int))), .wait 2, .nm 9 (V.sc (.int .i64 (b.length : Int))), .bit false, .wait 1, .mask [0, 1, 5], .ren [], .loop (X.ret) (st 27 [(4, V.sc (.bool false))] [] [])] (p := [V.sc (.int .i64 ((List.map E177 a).length : Int)) = V.sc (.int .i64 (a.length : Int)),
        V.sc (.int .i64 ((List.map E177 b).length : Int)) = V.sc (.int .i64 (b.length : Int)),
        ((a.length : Int) != (b.length : Int)) = false,
        Loop Try.prog (sub (codeOf Try.prog 187) [1, 1, 0, 1, 0, 0]) (st 27 [(0, V.sl false 177 (List.map E177 a)), (1, V.sl false 177 (List.map E177 b)), (5, V.sc (.int .i64 0))] [] []) (X.ret) (st 27 [(4, V.sc (.bool false))] [] [])]) (by kernel_rfl) (cj (len_nm _ _) (cj (len_nm _ _) (cj h1 (cj1 ((laws_eqSlotS_l0_ok a b h7 a [] rfl r2 h8).at h10))))))))) (fun h7 =>
     Pn.none))
def laws_eqAcct (a : Acct) (b : Acct) : Option (Bool) :=
 if (a.Id == b.Id) = true then
  if (a.Limit != b.Limit) = true then
   some false
  else
   if (a.Posted != b.Posted) = true then
    some false
   else
    if (a.Most != b.Most) = true then
     some false
    else
     if (a.MostSum != b.MostSum) = true then
      some false
     else
      (laws_eqHoldS a.Holds b.Holds).bind fun r1 =>
      if r1 = true then
       (laws_eqRing (Ring.mk a.Ring.Span a.Ring.Head a.Ring.Counts a.Ring.Sums) (Ring.mk b.Ring.Span b.Ring.Head b.Ring.Counts b.Ring.Sums)).bind fun r2 =>
       if r2 = true then
        (laws_eqSlotS a.Slots b.Slots).bind fun r3 =>
        if r3 = true then
         some true
        else
         some false
       else
        some false
      else
       some false
 else
  some false
theorem laws_eqAcct_ok (a : Acct) (b : Acct) : Pn (fun y => Fn Try.prog 129 [(false, E54 a), (false, E54 b)] (E4 y) []) (laws_eqAcct a b) := by
  unfold laws_eqAcct
  exact
   Pn.ite (fun h1 =>
    Pn.ite (fun h2 =>
     Pn.some (Fn.of [.bit false, .bit true] (p := [(!(a.Id == b.Id)) = false,
      (a.Limit != b.Limit) = true]) (by kernel_rfl) (cj (nf h1) (cj1 h2)))) (fun h2 =>
     Pn.ite (fun h3 =>
      Pn.some (Fn.of [.bit false, .bit false, .bit true] (p := [(!(a.Id == b.Id)) = false,
       (a.Limit != b.Limit) = false,
       (a.Posted != b.Posted) = true]) (by kernel_rfl) (cj (nf h1) (cj h2 (cj1 h3))))) (fun h3 =>
      Pn.ite (fun h4 =>
       Pn.some (Fn.of [.bit false, .bit false, .bit false, .bit true] (p := [(!(a.Id == b.Id)) = false,
        (a.Limit != b.Limit) = false,
        (a.Posted != b.Posted) = false,
        (a.Most != b.Most) = true]) (by kernel_rfl) (cj (nf h1) (cj h2 (cj h3 (cj1 h4)))))) (fun h4 =>
       Pn.ite (fun h5 =>
        Pn.some (Fn.of [.bit false, .bit false, .bit false, .bit false, .bit true] (p := [(!(a.Id == b.Id)) = false,
         (a.Limit != b.Limit) = false,
         (a.Posted != b.Posted) = false,
         (a.Most != b.Most) = false,
         (a.MostSum != b.MostSum) = true]) (by kernel_rfl) (cj (nf h1) (cj h2 (cj h3 (cj h4 (cj1 h5))))))) (fun h5 =>
        Pn.bind (fun r1 h6 =>
         Pn.ite (fun h7 =>
          Pn.bind (fun r2 h8 =>
           Pn.ite (fun h9 =>
            Pn.bind (fun r3 h10 =>
             Pn.ite (fun h11 =>
              Pn.some (Fn.of [.bit false, .bit false, .bit false, .bit false, .bit false, .call [] (E4 r1) [], .bit false, .call [] (E4 r2) [], .bit false, .call [] (E4 r3) [], .bit false] (p := [(!(a.Id == b.Id)) = false,
               (a.Limit != b.Limit) = false,
               (a.Posted != b.Posted) = false,
               (a.Most != b.Most) = false,
               (a.MostSum != b.MostSum) = false,
               Fn Try.prog 185 [(false, E48 a.Holds), (false, E48 b.Holds)] (E4 r1) [],
               (true || ((E4 r1).nv && nvL [])) = true,
               (!r1) = false,
               Fn Try.prog 186 [(false, E51 (Ring.mk a.Ring.Span a.Ring.Head a.Ring.Counts a.Ring.Sums)), (false, E51 (Ring.mk b.Ring.Span b.Ring.Head b.Ring.Counts b.Ring.Sums))] (E4 r2) [],
               (true || ((E4 r2).nv && nvL [])) = true,
               (!r2) = false,
               Fn Try.prog 187 [(false, E52 a.Slots), (false, E52 b.Slots)] (E4 r3) [],
               (true || ((E4 r3).nv && nvL [])) = true,
               (!r3) = false]) (by kernel_rfl) (cj (nf h1) (cj h2 (cj h3 (cj h4 (cj h5 (cj (laws_eqHoldS_ok a.Holds b.Holds r1 h6) (cj rfl (cj (nf h7) (cj (laws_eqRing_ok (Ring.mk a.Ring.Span a.Ring.Head a.Ring.Counts a.Ring.Sums) (Ring.mk b.Ring.Span b.Ring.Head b.Ring.Counts b.Ring.Sums) r2 h8) (cj rfl (cj (nf h9) (cj (laws_eqSlotS_ok a.Slots b.Slots r3 h10) (cj rfl (cj1 (nf h11))))))))))))))))) (fun h11 =>
              Pn.some (Fn.of [.bit false, .bit false, .bit false, .bit false, .bit false, .call [] (E4 r1) [], .bit false, .call [] (E4 r2) [], .bit false, .call [] (E4 r3) [], .bit true] (p := [(!(a.Id == b.Id)) = false,
               (a.Limit != b.Limit) = false,
               (a.Posted != b.Posted) = false,
               (a.Most != b.Most) = false,
               (a.MostSum != b.MostSum) = false,
               Fn Try.prog 185 [(false, E48 a.Holds), (false, E48 b.Holds)] (E4 r1) [],
               (true || ((E4 r1).nv && nvL [])) = true,
               (!r1) = false,
               Fn Try.prog 186 [(false, E51 (Ring.mk a.Ring.Span a.Ring.Head a.Ring.Counts a.Ring.Sums)), (false, E51 (Ring.mk b.Ring.Span b.Ring.Head b.Ring.Counts b.Ring.Sums))] (E4 r2) [],
               (true || ((E4 r2).nv && nvL [])) = true,
               (!r2) = false,
               Fn Try.prog 187 [(false, E52 a.Slots), (false, E52 b.Slots)] (E4 r3) [],
               (true || ((E4 r3).nv && nvL [])) = true,
               (!r3) = true]) (by kernel_rfl) (cj (nf h1) (cj h2 (cj h3 (cj h4 (cj h5 (cj (laws_eqHoldS_ok a.Holds b.Holds r1 h6) (cj rfl (cj (nf h7) (cj (laws_eqRing_ok (Ring.mk a.Ring.Span a.Ring.Head a.Ring.Counts a.Ring.Sums) (Ring.mk b.Ring.Span b.Ring.Head b.Ring.Counts b.Ring.Sums) r2 h8) (cj rfl (cj (nf h9) (cj (laws_eqSlotS_ok a.Slots b.Slots r3 h10) (cj rfl (cj1 (nt h11))))))))))))))))))) (fun h9 =>
            Pn.some (Fn.of [.bit false, .bit false, .bit false, .bit false, .bit false, .call [] (E4 r1) [], .bit false, .call [] (E4 r2) [], .bit true] (p := [(!(a.Id == b.Id)) = false,
             (a.Limit != b.Limit) = false,
             (a.Posted != b.Posted) = false,
             (a.Most != b.Most) = false,
             (a.MostSum != b.MostSum) = false,
             Fn Try.prog 185 [(false, E48 a.Holds), (false, E48 b.Holds)] (E4 r1) [],
             (true || ((E4 r1).nv && nvL [])) = true,
             (!r1) = false,
             Fn Try.prog 186 [(false, E51 (Ring.mk a.Ring.Span a.Ring.Head a.Ring.Counts a.Ring.Sums)), (false, E51 (Ring.mk b.Ring.Span b.Ring.Head b.Ring.Counts b.Ring.Sums))] (E4 r2) [],
             (true || ((E4 r2).nv && nvL [])) = true,
             (!r2) = true]) (by kernel_rfl) (cj (nf h1) (cj h2 (cj h3 (cj h4 (cj h5 (cj (laws_eqHoldS_ok a.Holds b.Holds r1 h6) (cj rfl (cj (nf h7) (cj (laws_eqRing_ok (Ring.mk a.Ring.Span a.Ring.Head a.Ring.Counts a.Ring.Sums) (Ring.mk b.Ring.Span b.Ring.Head b.Ring.Counts b.Ring.Sums) r2 h8) (cj rfl (cj1 (nt h9)))))))))))))))) (fun h7 =>
          Pn.some (Fn.of [.bit false, .bit false, .bit false, .bit false, .bit false, .call [] (E4 r1) [], .bit true] (p := [(!(a.Id == b.Id)) = false,
           (a.Limit != b.Limit) = false,
           (a.Posted != b.Posted) = false,
           (a.Most != b.Most) = false,
           (a.MostSum != b.MostSum) = false,
           Fn Try.prog 185 [(false, E48 a.Holds), (false, E48 b.Holds)] (E4 r1) [],
           (true || ((E4 r1).nv && nvL [])) = true,
           (!r1) = true]) (by kernel_rfl) (cj (nf h1) (cj h2 (cj h3 (cj h4 (cj h5 (cj (laws_eqHoldS_ok a.Holds b.Holds r1 h6) (cj rfl (cj1 (nt h7))))))))))))))))) (fun h1 =>
    Pn.some (Fn.of [.bit true] (p := [(!(a.Id == b.Id)) = true]) (by kernel_rfl) (cj1 (nt h1))))
def laws_eqAcctS_l0 (a : List Acct) (b : List Acct) : List Acct → List Acct → Option (Lo Unit Unit)
  | [], p1 =>
   some (.out ())
  | x1 :: t1, p1 =>
   (b[(p1.length : Int).toNat]?).bind fun x2 =>
   (laws_eqAcct x1 x2).bind fun r1 =>
   if r1 = true then
    laws_eqAcctS_l0 a b t1 (p1 ++ [x1])
   else
    some (.ret ())
theorem laws_eqAcctS_l0_ok (a : List Acct) (b : List Acct) (h3 : capOk a.length = true) : ∀ (t1 p1 : List Acct) (_ : a = p1 ++ t1) , Pn (LpO Try.prog (sub (codeOf Try.prog 72) [1, 1, 0, 1, 0, 0]) (st 27 [(0, V.sl false 54 (List.map E54 a)), (1, V.sl false 54 (List.map E54 b)), (5, V.sc (.int .i64 (p1.length : Int)))] [] []) (fun (y : Lo Unit Unit) => Lo.elim y (fun s => (X.out 0, st 27 [] [] [])) (fun s => (X.ret, st 27 [(4, V.sc (.bool false))] [] [])))) (laws_eqAcctS_l0 a b t1 p1)
  | [], p1, h2 => by
    unfold laws_eqAcctS_l0
    exact
     Pn.some (LpO.out [.wait 3, .nm 13 (V.sc (.int .i64 (a.length : Int))), .bit false, .mask [], .ren []] (p := [V.sc (.int .i64 ((List.map E54 a).length : Int)) = V.sc (.int .i64 (a.length : Int)),
      (decide ((p1.length : Int) < (a.length : Int))) = false]) (by kernel_rfl) (show X.out 0 ≠ X.go from nofun) (cj (len_nm _ _) (cj1 (rng_end h2))))
  | x1 :: t1, p1, h2 => by
    unfold laws_eqAcctS_l0
    exact
     Pn.bind (fun x2 h4 =>
      Pn.bind (fun r1 h5 =>
       Pn.ite (fun h6 =>
        LpO.go [.wait 3, .nm 13 (V.sc (.int .i64 (a.length : Int))), .bit true, .draw [], .el (E54 x1), .el (E54 x2), .call [] (E4 r1) [], .bit false, .wait 3, .mask [0, 1, 5], .ren [], .nm 5 (V.sc (.int .i64 ((p1 ++ [x1]).length : Int)))] (p := [V.sc (.int .i64 ((List.map E54 a).length : Int)) = V.sc (.int .i64 (a.length : Int)),
         (decide ((p1.length : Int) < (a.length : Int))) = true,
         (0 : Int) ≤ (p1.length : Int),
         (List.map E54 a)[(p1.length : Int).toNat]? = some (E54 x1),
         (0 : Int) ≤ (p1.length : Int),
         (List.map E54 b)[(p1.length : Int).toNat]? = some (E54 x2),
         Fn Try.prog 129 [(false, E54 x1), (false, E54 x2)] (E4 r1) [],
         (true || ((E4 r1).nv && nvL [])) = true,
         (!r1) = false,
         V.sc (.int .i64 (i64 ((p1.length : Int) + 1))) = V.sc (.int .i64 ((p1 ++ [x1]).length : Int))]) (by kernel_rfl) (cj (len_nm _ _) (cj (rng_lt h2) (cj (by omega) (cj (rng_get _ h2) (cj (by omega) (cj (map_get h4) (cj (laws_eqAcct_ok x1 x2 r1 h5) (cj rfl (cj (nf h6) (cj1 (rng_next h2 h3))))))))))) (laws_eqAcctS_l0_ok a b h3 t1 (p1 ++ [x1]) (rng_step h2))) (fun h6 =>
        Pn.some (LpO.out [.wait 3, .nm 13 (V.sc (.int .i64 (a.length : Int))), .bit true, .draw [], .el (E54 x1), .el (E54 x2), .call [] (E4 r1) [], .bit true, .wait 1, .mask [4], .ren []] (p := [V.sc (.int .i64 ((List.map E54 a).length : Int)) = V.sc (.int .i64 (a.length : Int)),
         (decide ((p1.length : Int) < (a.length : Int))) = true,
         (0 : Int) ≤ (p1.length : Int),
         (List.map E54 a)[(p1.length : Int).toNat]? = some (E54 x1),
         (0 : Int) ≤ (p1.length : Int),
         (List.map E54 b)[(p1.length : Int).toNat]? = some (E54 x2),
         Fn Try.prog 129 [(false, E54 x1), (false, E54 x2)] (E4 r1) [],
         (true || ((E4 r1).nv && nvL [])) = true,
         (!r1) = true]) (by kernel_rfl) (show X.ret ≠ X.go from nofun) (cj (len_nm _ _) (cj (rng_lt h2) (cj (by omega) (cj (rng_get _ h2) (cj (by omega) (cj (map_get h4) (cj (laws_eqAcct_ok x1 x2 r1 h5) (cj rfl (cj1 (nt h6))))))))))))))
def laws_eqAcctS (a : List Acct) (b : List Acct) : Option (Bool) :=
 if ((a.length : Int) != (b.length : Int)) = true then
  some false
 else
  if (capOk a.length) = true then
   (laws_eqAcctS_l0 a b a []).bind fun r2 =>
   Lo.elim r2 (fun s1 =>
    some true) (fun s2 =>
    some false)
  else none
theorem laws_eqAcctS_ok (a : List Acct) (b : List Acct) : Pn (fun y => Fn Try.prog 72 [(false, E39 a), (false, E39 b)] (E4 y) []) (laws_eqAcctS a b) := by
  unfold laws_eqAcctS
  exact
   Pn.ite (fun h1 =>
    Pn.some (Fn.of [.wait 3, .nm 7 (V.sc (.int .i64 (a.length : Int))), .wait 2, .nm 9 (V.sc (.int .i64 (b.length : Int))), .bit true] (p := [V.sc (.int .i64 ((List.map E54 a).length : Int)) = V.sc (.int .i64 (a.length : Int)),
     V.sc (.int .i64 ((List.map E54 b).length : Int)) = V.sc (.int .i64 (b.length : Int)),
     ((a.length : Int) != (b.length : Int)) = true]) (by kernel_rfl) (cj (len_nm _ _) (cj (len_nm _ _) (cj1 h1))))) (fun h1 =>
    Pn.ite (fun h7 =>
     Pn.bind (fun r2 h8 =>
      Pn.lo (fun s1 h9 =>
       Pn.some (Fn.of [.wait 3, .nm 7 (V.sc (.int .i64 (a.length : Int))), .wait 2, .nm 9 (V.sc (.int .i64 (b.length : Int))), .bit false, .wait 1, .mask [0, 1, 5], .ren [], .loop (X.out 0) (st 27 [] [] [])] (p := [V.sc (.int .i64 ((List.map E54 a).length : Int)) = V.sc (.int .i64 (a.length : Int)),
        V.sc (.int .i64 ((List.map E54 b).length : Int)) = V.sc (.int .i64 (b.length : Int)),
        ((a.length : Int) != (b.length : Int)) = false,
        Loop Try.prog (sub (codeOf Try.prog 72) [1, 1, 0, 1, 0, 0]) (st 27 [(0, V.sl false 54 (List.map E54 a)), (1, V.sl false 54 (List.map E54 b)), (5, V.sc (.int .i64 0))] [] []) (X.out 0) (st 27 [] [] [])]) (by kernel_rfl) (cj (len_nm _ _) (cj (len_nm _ _) (cj h1 (cj1 ((laws_eqAcctS_l0_ok a b h7 a [] rfl r2 h8).at h9))))))) (fun s2 h10 =>
       Pn.some (Fn.of [.wait 3, .nm 7 (V.sc (.int .i64 (a.length : Int))), .wait 2, .nm 9 (V.sc (.int .i64 (b.length : Int))), .bit false, .wait 1, .mask [0, 1, 5], .ren [], .loop (X.ret) (st 27 [(4, V.sc (.bool false))] [] [])] (p := [V.sc (.int .i64 ((List.map E54 a).length : Int)) = V.sc (.int .i64 (a.length : Int)),
        V.sc (.int .i64 ((List.map E54 b).length : Int)) = V.sc (.int .i64 (b.length : Int)),
        ((a.length : Int) != (b.length : Int)) = false,
        Loop Try.prog (sub (codeOf Try.prog 72) [1, 1, 0, 1, 0, 0]) (st 27 [(0, V.sl false 54 (List.map E54 a)), (1, V.sl false 54 (List.map E54 b)), (5, V.sc (.int .i64 0))] [] []) (X.ret) (st 27 [(4, V.sc (.bool false))] [] [])]) (by kernel_rfl) (cj (len_nm _ _) (cj (len_nm _ _) (cj h1 (cj1 ((laws_eqAcctS_l0_ok a b h7 a [] rfl r2 h8).at h10))))))))) (fun h7 =>
     Pn.none))
def laws_eqStripe (a : Stripe) (b : Stripe) : Option (Bool) :=
 if (a.Owner != b.Owner) = true then
  some false
 else
  (laws_eqAcctS a.Accts b.Accts).bind fun r1 =>
  if r1 = true then
   some true
  else
   some false
theorem laws_eqStripe_ok (a : Stripe) (b : Stripe) : Pn (fun y => Fn Try.prog 105 [(false, E124 a), (false, E124 b)] (E4 y) []) (laws_eqStripe a b) := by
  unfold laws_eqStripe
  exact
   Pn.ite (fun h1 =>
    Pn.some (Fn.of [.bit true] (p := [(a.Owner != b.Owner) = true]) (by kernel_rfl) (cj1 h1))) (fun h1 =>
    Pn.bind (fun r1 h2 =>
     Pn.ite (fun h3 =>
      Pn.some (Fn.of [.bit false, .call [] (E4 r1) [], .bit false] (p := [(a.Owner != b.Owner) = false,
       Fn Try.prog 72 [(false, E39 a.Accts), (false, E39 b.Accts)] (E4 r1) [],
       (true || ((E4 r1).nv && nvL [])) = true,
       (!r1) = false]) (by kernel_rfl) (cj h1 (cj (laws_eqAcctS_ok a.Accts b.Accts r1 h2) (cj rfl (cj1 (nf h3))))))) (fun h3 =>
      Pn.some (Fn.of [.bit false, .call [] (E4 r1) [], .bit true] (p := [(a.Owner != b.Owner) = false,
       Fn Try.prog 72 [(false, E39 a.Accts), (false, E39 b.Accts)] (E4 r1) [],
       (true || ((E4 r1).nv && nvL [])) = true,
       (!r1) = true]) (by kernel_rfl) (cj h1 (cj (laws_eqAcctS_ok a.Accts b.Accts r1 h2) (cj rfl (cj1 (nt h3)))))))))
def laws_eqStripeS_l0 (a : List Stripe) (b : List Stripe) : List Stripe → List Stripe → Option (Lo Unit Unit)
  | [], p1 =>
   some (.out ())
  | x1 :: t1, p1 =>
   (b[(p1.length : Int).toNat]?).bind fun x2 =>
   (laws_eqStripe x1 x2).bind fun r1 =>
   if r1 = true then
    laws_eqStripeS_l0 a b t1 (p1 ++ [x1])
   else
    some (.ret ())
theorem laws_eqStripeS_l0_ok (a : List Stripe) (b : List Stripe) (h3 : capOk a.length = true) : ∀ (t1 p1 : List Stripe) (_ : a = p1 ++ t1) , Pn (LpO Try.prog (sub (codeOf Try.prog 46) [1, 1, 0, 1, 0, 0]) (st 27 [(0, V.sl false 124 (List.map E124 a)), (1, V.sl false 124 (List.map E124 b)), (5, V.sc (.int .i64 (p1.length : Int)))] [] []) (fun (y : Lo Unit Unit) => Lo.elim y (fun s => (X.out 0, st 27 [] [] [])) (fun s => (X.ret, st 27 [(4, V.sc (.bool false))] [] [])))) (laws_eqStripeS_l0 a b t1 p1)
  | [], p1, h2 => by
    unfold laws_eqStripeS_l0
    exact
     Pn.some (LpO.out [.wait 3, .nm 13 (V.sc (.int .i64 (a.length : Int))), .bit false, .mask [], .ren []] (p := [V.sc (.int .i64 ((List.map E124 a).length : Int)) = V.sc (.int .i64 (a.length : Int)),
      (decide ((p1.length : Int) < (a.length : Int))) = false]) (by kernel_rfl) (show X.out 0 ≠ X.go from nofun) (cj (len_nm _ _) (cj1 (rng_end h2))))
  | x1 :: t1, p1, h2 => by
    unfold laws_eqStripeS_l0
    exact
     Pn.bind (fun x2 h4 =>
      Pn.bind (fun r1 h5 =>
       Pn.ite (fun h6 =>
        LpO.go [.wait 3, .nm 13 (V.sc (.int .i64 (a.length : Int))), .bit true, .draw [], .el (E124 x1), .el (E124 x2), .call [] (E4 r1) [], .bit false, .wait 3, .mask [0, 1, 5], .ren [], .nm 5 (V.sc (.int .i64 ((p1 ++ [x1]).length : Int)))] (p := [V.sc (.int .i64 ((List.map E124 a).length : Int)) = V.sc (.int .i64 (a.length : Int)),
         (decide ((p1.length : Int) < (a.length : Int))) = true,
         (0 : Int) ≤ (p1.length : Int),
         (List.map E124 a)[(p1.length : Int).toNat]? = some (E124 x1),
         (0 : Int) ≤ (p1.length : Int),
         (List.map E124 b)[(p1.length : Int).toNat]? = some (E124 x2),
         Fn Try.prog 105 [(false, E124 x1), (false, E124 x2)] (E4 r1) [],
         (true || ((E4 r1).nv && nvL [])) = true,
         (!r1) = false,
         V.sc (.int .i64 (i64 ((p1.length : Int) + 1))) = V.sc (.int .i64 ((p1 ++ [x1]).length : Int))]) (by kernel_rfl) (cj (len_nm _ _) (cj (rng_lt h2) (cj (by omega) (cj (rng_get _ h2) (cj (by omega) (cj (map_get h4) (cj (laws_eqStripe_ok x1 x2 r1 h5) (cj rfl (cj (nf h6) (cj1 (rng_next h2 h3))))))))))) (laws_eqStripeS_l0_ok a b h3 t1 (p1 ++ [x1]) (rng_step h2))) (fun h6 =>
        Pn.some (LpO.out [.wait 3, .nm 13 (V.sc (.int .i64 (a.length : Int))), .bit true, .draw [], .el (E124 x1), .el (E124 x2), .call [] (E4 r1) [], .bit true, .wait 1, .mask [4], .ren []] (p := [V.sc (.int .i64 ((List.map E124 a).length : Int)) = V.sc (.int .i64 (a.length : Int)),
         (decide ((p1.length : Int) < (a.length : Int))) = true,
         (0 : Int) ≤ (p1.length : Int),
         (List.map E124 a)[(p1.length : Int).toNat]? = some (E124 x1),
         (0 : Int) ≤ (p1.length : Int),
         (List.map E124 b)[(p1.length : Int).toNat]? = some (E124 x2),
         Fn Try.prog 105 [(false, E124 x1), (false, E124 x2)] (E4 r1) [],
         (true || ((E4 r1).nv && nvL [])) = true,
         (!r1) = true]) (by kernel_rfl) (show X.ret ≠ X.go from nofun) (cj (len_nm _ _) (cj (rng_lt h2) (cj (by omega) (cj (rng_get _ h2) (cj (by omega) (cj (map_get h4) (cj (laws_eqStripe_ok x1 x2 r1 h5) (cj rfl (cj1 (nt h6))))))))))))))
def laws_eqStripeS (a : List Stripe) (b : List Stripe) : Option (Bool) :=
 if ((a.length : Int) != (b.length : Int)) = true then
  some false
 else
  if (capOk a.length) = true then
   (laws_eqStripeS_l0 a b a []).bind fun r2 =>
   Lo.elim r2 (fun s1 =>
    some true) (fun s2 =>
    some false)
  else none
theorem laws_eqStripeS_ok (a : List Stripe) (b : List Stripe) : Pn (fun y => Fn Try.prog 46 [(false, E28 a), (false, E28 b)] (E4 y) []) (laws_eqStripeS a b) := by
  unfold laws_eqStripeS
  exact
   Pn.ite (fun h1 =>
    Pn.some (Fn.of [.wait 3, .nm 7 (V.sc (.int .i64 (a.length : Int))), .wait 2, .nm 9 (V.sc (.int .i64 (b.length : Int))), .bit true] (p := [V.sc (.int .i64 ((List.map E124 a).length : Int)) = V.sc (.int .i64 (a.length : Int)),
     V.sc (.int .i64 ((List.map E124 b).length : Int)) = V.sc (.int .i64 (b.length : Int)),
     ((a.length : Int) != (b.length : Int)) = true]) (by kernel_rfl) (cj (len_nm _ _) (cj (len_nm _ _) (cj1 h1))))) (fun h1 =>
    Pn.ite (fun h7 =>
     Pn.bind (fun r2 h8 =>
      Pn.lo (fun s1 h9 =>
       Pn.some (Fn.of [.wait 3, .nm 7 (V.sc (.int .i64 (a.length : Int))), .wait 2, .nm 9 (V.sc (.int .i64 (b.length : Int))), .bit false, .wait 1, .mask [0, 1, 5], .ren [], .loop (X.out 0) (st 27 [] [] [])] (p := [V.sc (.int .i64 ((List.map E124 a).length : Int)) = V.sc (.int .i64 (a.length : Int)),
        V.sc (.int .i64 ((List.map E124 b).length : Int)) = V.sc (.int .i64 (b.length : Int)),
        ((a.length : Int) != (b.length : Int)) = false,
        Loop Try.prog (sub (codeOf Try.prog 46) [1, 1, 0, 1, 0, 0]) (st 27 [(0, V.sl false 124 (List.map E124 a)), (1, V.sl false 124 (List.map E124 b)), (5, V.sc (.int .i64 0))] [] []) (X.out 0) (st 27 [] [] [])]) (by kernel_rfl) (cj (len_nm _ _) (cj (len_nm _ _) (cj h1 (cj1 ((laws_eqStripeS_l0_ok a b h7 a [] rfl r2 h8).at h9))))))) (fun s2 h10 =>
       Pn.some (Fn.of [.wait 3, .nm 7 (V.sc (.int .i64 (a.length : Int))), .wait 2, .nm 9 (V.sc (.int .i64 (b.length : Int))), .bit false, .wait 1, .mask [0, 1, 5], .ren [], .loop (X.ret) (st 27 [(4, V.sc (.bool false))] [] [])] (p := [V.sc (.int .i64 ((List.map E124 a).length : Int)) = V.sc (.int .i64 (a.length : Int)),
        V.sc (.int .i64 ((List.map E124 b).length : Int)) = V.sc (.int .i64 (b.length : Int)),
        ((a.length : Int) != (b.length : Int)) = false,
        Loop Try.prog (sub (codeOf Try.prog 46) [1, 1, 0, 1, 0, 0]) (st 27 [(0, V.sl false 124 (List.map E124 a)), (1, V.sl false 124 (List.map E124 b)), (5, V.sc (.int .i64 0))] [] []) (X.ret) (st 27 [(4, V.sc (.bool false))] [] [])]) (by kernel_rfl) (cj (len_nm _ _) (cj (len_nm _ _) (cj h1 (cj1 ((laws_eqStripeS_l0_ok a b h7 a [] rfl r2 h8).at h10))))))))) (fun h7 =>
     Pn.none))
def laws_eqTask (a : Task) (b : Task) : Option (Bool) :=
 (laws_eqByteS a.Data b.Data).bind fun r1 =>
 if r1 = true then
  if (a.Pc != b.Pc) = true then
   some false
  else
   (laws_eqIntS a.Set b.Set).bind fun r2 =>
   if r2 = true then
    if (a.Held != b.Held) = true then
     some false
    else
     if (a.Inv != b.Inv) = true then
      some false
     else
      if (a.Lin != b.Lin) = true then
       some false
      else
       if (a.Res != b.Res) = true then
        some false
       else
        if (a.At != b.At) = true then
         some false
        else
         (laws_eqByteS a.Reply b.Reply).bind fun r3 =>
         if r3 = true then
          some true
         else
          some false
   else
    some false
 else
  some false
theorem laws_eqTask_ok (a : Task) (b : Task) : Pn (fun y => Fn Try.prog 123 [(false, E92 a), (false, E92 b)] (E4 y) []) (laws_eqTask a b) := by
  unfold laws_eqTask
  exact
   Pn.bind (fun r1 h1 =>
    Pn.ite (fun h2 =>
     Pn.ite (fun h3 =>
      Pn.some (Fn.of [.call [] (E4 r1) [], .bit false, .bit true] (p := [Fn Try.prog 176 [(false, E47 a.Data), (false, E47 b.Data)] (E4 r1) [],
       (true || ((E4 r1).nv && nvL [])) = true,
       (!r1) = false,
       (a.Pc != b.Pc) = true]) (by kernel_rfl) (cj (laws_eqByteS_ok a.Data b.Data r1 h1) (cj rfl (cj (nf h2) (cj1 h3)))))) (fun h3 =>
      Pn.bind (fun r2 h4 =>
       Pn.ite (fun h5 =>
        Pn.ite (fun h6 =>
         Pn.some (Fn.of [.call [] (E4 r1) [], .bit false, .bit false, .call [] (E4 r2) [], .bit false, .bit true] (p := [Fn Try.prog 176 [(false, E47 a.Data), (false, E47 b.Data)] (E4 r1) [],
          (true || ((E4 r1).nv && nvL [])) = true,
          (!r1) = false,
          (a.Pc != b.Pc) = false,
          Fn Try.prog 35 [(false, E49 a.Set), (false, E49 b.Set)] (E4 r2) [],
          (true || ((E4 r2).nv && nvL [])) = true,
          (!r2) = false,
          (a.Held != b.Held) = true]) (by kernel_rfl) (cj (laws_eqByteS_ok a.Data b.Data r1 h1) (cj rfl (cj (nf h2) (cj h3 (cj (laws_eqIntS_ok a.Set b.Set r2 h4) (cj rfl (cj (nf h5) (cj1 h6)))))))))) (fun h6 =>
         Pn.ite (fun h7 =>
          Pn.some (Fn.of [.call [] (E4 r1) [], .bit false, .bit false, .call [] (E4 r2) [], .bit false, .bit false, .bit true] (p := [Fn Try.prog 176 [(false, E47 a.Data), (false, E47 b.Data)] (E4 r1) [],
           (true || ((E4 r1).nv && nvL [])) = true,
           (!r1) = false,
           (a.Pc != b.Pc) = false,
           Fn Try.prog 35 [(false, E49 a.Set), (false, E49 b.Set)] (E4 r2) [],
           (true || ((E4 r2).nv && nvL [])) = true,
           (!r2) = false,
           (a.Held != b.Held) = false,
           (a.Inv != b.Inv) = true]) (by kernel_rfl) (cj (laws_eqByteS_ok a.Data b.Data r1 h1) (cj rfl (cj (nf h2) (cj h3 (cj (laws_eqIntS_ok a.Set b.Set r2 h4) (cj rfl (cj (nf h5) (cj h6 (cj1 h7))))))))))) (fun h7 =>
          Pn.ite (fun h8 =>
           Pn.some (Fn.of [.call [] (E4 r1) [], .bit false, .bit false, .call [] (E4 r2) [], .bit false, .bit false, .bit false, .bit true] (p := [Fn Try.prog 176 [(false, E47 a.Data), (false, E47 b.Data)] (E4 r1) [],
            (true || ((E4 r1).nv && nvL [])) = true,
            (!r1) = false,
            (a.Pc != b.Pc) = false,
            Fn Try.prog 35 [(false, E49 a.Set), (false, E49 b.Set)] (E4 r2) [],
            (true || ((E4 r2).nv && nvL [])) = true,
            (!r2) = false,
            (a.Held != b.Held) = false,
            (a.Inv != b.Inv) = false,
            (a.Lin != b.Lin) = true]) (by kernel_rfl) (cj (laws_eqByteS_ok a.Data b.Data r1 h1) (cj rfl (cj (nf h2) (cj h3 (cj (laws_eqIntS_ok a.Set b.Set r2 h4) (cj rfl (cj (nf h5) (cj h6 (cj h7 (cj1 h8)))))))))))) (fun h8 =>
           Pn.ite (fun h9 =>
            Pn.some (Fn.of [.call [] (E4 r1) [], .bit false, .bit false, .call [] (E4 r2) [], .bit false, .bit false, .bit false, .bit false, .bit true] (p := [Fn Try.prog 176 [(false, E47 a.Data), (false, E47 b.Data)] (E4 r1) [],
             (true || ((E4 r1).nv && nvL [])) = true,
             (!r1) = false,
             (a.Pc != b.Pc) = false,
             Fn Try.prog 35 [(false, E49 a.Set), (false, E49 b.Set)] (E4 r2) [],
             (true || ((E4 r2).nv && nvL [])) = true,
             (!r2) = false,
             (a.Held != b.Held) = false,
             (a.Inv != b.Inv) = false,
             (a.Lin != b.Lin) = false,
             (a.Res != b.Res) = true]) (by kernel_rfl) (cj (laws_eqByteS_ok a.Data b.Data r1 h1) (cj rfl (cj (nf h2) (cj h3 (cj (laws_eqIntS_ok a.Set b.Set r2 h4) (cj rfl (cj (nf h5) (cj h6 (cj h7 (cj h8 (cj1 h9))))))))))))) (fun h9 =>
            Pn.ite (fun h10 =>
             Pn.some (Fn.of [.call [] (E4 r1) [], .bit false, .bit false, .call [] (E4 r2) [], .bit false, .bit false, .bit false, .bit false, .bit false, .bit true] (p := [Fn Try.prog 176 [(false, E47 a.Data), (false, E47 b.Data)] (E4 r1) [],
              (true || ((E4 r1).nv && nvL [])) = true,
              (!r1) = false,
              (a.Pc != b.Pc) = false,
              Fn Try.prog 35 [(false, E49 a.Set), (false, E49 b.Set)] (E4 r2) [],
              (true || ((E4 r2).nv && nvL [])) = true,
              (!r2) = false,
              (a.Held != b.Held) = false,
              (a.Inv != b.Inv) = false,
              (a.Lin != b.Lin) = false,
              (a.Res != b.Res) = false,
              (a.At != b.At) = true]) (by kernel_rfl) (cj (laws_eqByteS_ok a.Data b.Data r1 h1) (cj rfl (cj (nf h2) (cj h3 (cj (laws_eqIntS_ok a.Set b.Set r2 h4) (cj rfl (cj (nf h5) (cj h6 (cj h7 (cj h8 (cj h9 (cj1 h10)))))))))))))) (fun h10 =>
             Pn.bind (fun r3 h11 =>
              Pn.ite (fun h12 =>
               Pn.some (Fn.of [.call [] (E4 r1) [], .bit false, .bit false, .call [] (E4 r2) [], .bit false, .bit false, .bit false, .bit false, .bit false, .bit false, .call [] (E4 r3) [], .bit false] (p := [Fn Try.prog 176 [(false, E47 a.Data), (false, E47 b.Data)] (E4 r1) [],
                (true || ((E4 r1).nv && nvL [])) = true,
                (!r1) = false,
                (a.Pc != b.Pc) = false,
                Fn Try.prog 35 [(false, E49 a.Set), (false, E49 b.Set)] (E4 r2) [],
                (true || ((E4 r2).nv && nvL [])) = true,
                (!r2) = false,
                (a.Held != b.Held) = false,
                (a.Inv != b.Inv) = false,
                (a.Lin != b.Lin) = false,
                (a.Res != b.Res) = false,
                (a.At != b.At) = false,
                Fn Try.prog 176 [(false, E47 a.Reply), (false, E47 b.Reply)] (E4 r3) [],
                (true || ((E4 r3).nv && nvL [])) = true,
                (!r3) = false]) (by kernel_rfl) (cj (laws_eqByteS_ok a.Data b.Data r1 h1) (cj rfl (cj (nf h2) (cj h3 (cj (laws_eqIntS_ok a.Set b.Set r2 h4) (cj rfl (cj (nf h5) (cj h6 (cj h7 (cj h8 (cj h9 (cj h10 (cj (laws_eqByteS_ok a.Reply b.Reply r3 h11) (cj rfl (cj1 (nf h12)))))))))))))))))) (fun h12 =>
               Pn.some (Fn.of [.call [] (E4 r1) [], .bit false, .bit false, .call [] (E4 r2) [], .bit false, .bit false, .bit false, .bit false, .bit false, .bit false, .call [] (E4 r3) [], .bit true] (p := [Fn Try.prog 176 [(false, E47 a.Data), (false, E47 b.Data)] (E4 r1) [],
                (true || ((E4 r1).nv && nvL [])) = true,
                (!r1) = false,
                (a.Pc != b.Pc) = false,
                Fn Try.prog 35 [(false, E49 a.Set), (false, E49 b.Set)] (E4 r2) [],
                (true || ((E4 r2).nv && nvL [])) = true,
                (!r2) = false,
                (a.Held != b.Held) = false,
                (a.Inv != b.Inv) = false,
                (a.Lin != b.Lin) = false,
                (a.Res != b.Res) = false,
                (a.At != b.At) = false,
                Fn Try.prog 176 [(false, E47 a.Reply), (false, E47 b.Reply)] (E4 r3) [],
                (true || ((E4 r3).nv && nvL [])) = true,
                (!r3) = true]) (by kernel_rfl) (cj (laws_eqByteS_ok a.Data b.Data r1 h1) (cj rfl (cj (nf h2) (cj h3 (cj (laws_eqIntS_ok a.Set b.Set r2 h4) (cj rfl (cj (nf h5) (cj h6 (cj h7 (cj h8 (cj h9 (cj h10 (cj (laws_eqByteS_ok a.Reply b.Reply r3 h11) (cj rfl (cj1 (nt h12))))))))))))))))))))))))) (fun h5 =>
        Pn.some (Fn.of [.call [] (E4 r1) [], .bit false, .bit false, .call [] (E4 r2) [], .bit true] (p := [Fn Try.prog 176 [(false, E47 a.Data), (false, E47 b.Data)] (E4 r1) [],
         (true || ((E4 r1).nv && nvL [])) = true,
         (!r1) = false,
         (a.Pc != b.Pc) = false,
         Fn Try.prog 35 [(false, E49 a.Set), (false, E49 b.Set)] (E4 r2) [],
         (true || ((E4 r2).nv && nvL [])) = true,
         (!r2) = true]) (by kernel_rfl) (cj (laws_eqByteS_ok a.Data b.Data r1 h1) (cj rfl (cj (nf h2) (cj h3 (cj (laws_eqIntS_ok a.Set b.Set r2 h4) (cj rfl (cj1 (nt h5))))))))))))) (fun h2 =>
     Pn.some (Fn.of [.call [] (E4 r1) [], .bit true] (p := [Fn Try.prog 176 [(false, E47 a.Data), (false, E47 b.Data)] (E4 r1) [],
      (true || ((E4 r1).nv && nvL [])) = true,
      (!r1) = true]) (by kernel_rfl) (cj (laws_eqByteS_ok a.Data b.Data r1 h1) (cj rfl (cj1 (nt h2)))))))
def laws_eqTaskS_l0 (a : List Task) (b : List Task) : List Task → List Task → Option (Lo Unit Unit)
  | [], p1 =>
   some (.out ())
  | x1 :: t1, p1 =>
   (b[(p1.length : Int).toNat]?).bind fun x2 =>
   (laws_eqTask x1 x2).bind fun r1 =>
   if r1 = true then
    laws_eqTaskS_l0 a b t1 (p1 ++ [x1])
   else
    some (.ret ())
theorem laws_eqTaskS_l0_ok (a : List Task) (b : List Task) (h3 : capOk a.length = true) : ∀ (t1 p1 : List Task) (_ : a = p1 ++ t1) , Pn (LpO Try.prog (sub (codeOf Try.prog 65) [1, 1, 0, 1, 0, 0]) (st 27 [(0, V.sl false 92 (List.map E92 a)), (1, V.sl false 92 (List.map E92 b)), (5, V.sc (.int .i64 (p1.length : Int)))] [] []) (fun (y : Lo Unit Unit) => Lo.elim y (fun s => (X.out 0, st 27 [] [] [])) (fun s => (X.ret, st 27 [(4, V.sc (.bool false))] [] [])))) (laws_eqTaskS_l0 a b t1 p1)
  | [], p1, h2 => by
    unfold laws_eqTaskS_l0
    exact
     Pn.some (LpO.out [.wait 3, .nm 13 (V.sc (.int .i64 (a.length : Int))), .bit false, .mask [], .ren []] (p := [V.sc (.int .i64 ((List.map E92 a).length : Int)) = V.sc (.int .i64 (a.length : Int)),
      (decide ((p1.length : Int) < (a.length : Int))) = false]) (by kernel_rfl) (show X.out 0 ≠ X.go from nofun) (cj (len_nm _ _) (cj1 (rng_end h2))))
  | x1 :: t1, p1, h2 => by
    unfold laws_eqTaskS_l0
    exact
     Pn.bind (fun x2 h4 =>
      Pn.bind (fun r1 h5 =>
       Pn.ite (fun h6 =>
        LpO.go [.wait 3, .nm 13 (V.sc (.int .i64 (a.length : Int))), .bit true, .draw [], .el (E92 x1), .el (E92 x2), .call [] (E4 r1) [], .bit false, .wait 3, .mask [0, 1, 5], .ren [], .nm 5 (V.sc (.int .i64 ((p1 ++ [x1]).length : Int)))] (p := [V.sc (.int .i64 ((List.map E92 a).length : Int)) = V.sc (.int .i64 (a.length : Int)),
         (decide ((p1.length : Int) < (a.length : Int))) = true,
         (0 : Int) ≤ (p1.length : Int),
         (List.map E92 a)[(p1.length : Int).toNat]? = some (E92 x1),
         (0 : Int) ≤ (p1.length : Int),
         (List.map E92 b)[(p1.length : Int).toNat]? = some (E92 x2),
         Fn Try.prog 123 [(false, E92 x1), (false, E92 x2)] (E4 r1) [],
         (true || ((E4 r1).nv && nvL [])) = true,
         (!r1) = false,
         V.sc (.int .i64 (i64 ((p1.length : Int) + 1))) = V.sc (.int .i64 ((p1 ++ [x1]).length : Int))]) (by kernel_rfl) (cj (len_nm _ _) (cj (rng_lt h2) (cj (by omega) (cj (rng_get _ h2) (cj (by omega) (cj (map_get h4) (cj (laws_eqTask_ok x1 x2 r1 h5) (cj rfl (cj (nf h6) (cj1 (rng_next h2 h3))))))))))) (laws_eqTaskS_l0_ok a b h3 t1 (p1 ++ [x1]) (rng_step h2))) (fun h6 =>
        Pn.some (LpO.out [.wait 3, .nm 13 (V.sc (.int .i64 (a.length : Int))), .bit true, .draw [], .el (E92 x1), .el (E92 x2), .call [] (E4 r1) [], .bit true, .wait 1, .mask [4], .ren []] (p := [V.sc (.int .i64 ((List.map E92 a).length : Int)) = V.sc (.int .i64 (a.length : Int)),
         (decide ((p1.length : Int) < (a.length : Int))) = true,
         (0 : Int) ≤ (p1.length : Int),
         (List.map E92 a)[(p1.length : Int).toNat]? = some (E92 x1),
         (0 : Int) ≤ (p1.length : Int),
         (List.map E92 b)[(p1.length : Int).toNat]? = some (E92 x2),
         Fn Try.prog 123 [(false, E92 x1), (false, E92 x2)] (E4 r1) [],
         (true || ((E4 r1).nv && nvL [])) = true,
         (!r1) = true]) (by kernel_rfl) (show X.ret ≠ X.go from nofun) (cj (len_nm _ _) (cj (rng_lt h2) (cj (by omega) (cj (rng_get _ h2) (cj (by omega) (cj (map_get h4) (cj (laws_eqTask_ok x1 x2 r1 h5) (cj rfl (cj1 (nt h6))))))))))))))
def laws_eqTaskS (a : List Task) (b : List Task) : Option (Bool) :=
 if ((a.length : Int) != (b.length : Int)) = true then
  some false
 else
  if (capOk a.length) = true then
   (laws_eqTaskS_l0 a b a []).bind fun r2 =>
   Lo.elim r2 (fun s1 =>
    some true) (fun s2 =>
    some false)
  else none
theorem laws_eqTaskS_ok (a : List Task) (b : List Task) : Pn (fun y => Fn Try.prog 65 [(false, E29 a), (false, E29 b)] (E4 y) []) (laws_eqTaskS a b) := by
  unfold laws_eqTaskS
  exact
   Pn.ite (fun h1 =>
    Pn.some (Fn.of [.wait 3, .nm 7 (V.sc (.int .i64 (a.length : Int))), .wait 2, .nm 9 (V.sc (.int .i64 (b.length : Int))), .bit true] (p := [V.sc (.int .i64 ((List.map E92 a).length : Int)) = V.sc (.int .i64 (a.length : Int)),
     V.sc (.int .i64 ((List.map E92 b).length : Int)) = V.sc (.int .i64 (b.length : Int)),
     ((a.length : Int) != (b.length : Int)) = true]) (by kernel_rfl) (cj (len_nm _ _) (cj (len_nm _ _) (cj1 h1))))) (fun h1 =>
    Pn.ite (fun h7 =>
     Pn.bind (fun r2 h8 =>
      Pn.lo (fun s1 h9 =>
       Pn.some (Fn.of [.wait 3, .nm 7 (V.sc (.int .i64 (a.length : Int))), .wait 2, .nm 9 (V.sc (.int .i64 (b.length : Int))), .bit false, .wait 1, .mask [0, 1, 5], .ren [], .loop (X.out 0) (st 27 [] [] [])] (p := [V.sc (.int .i64 ((List.map E92 a).length : Int)) = V.sc (.int .i64 (a.length : Int)),
        V.sc (.int .i64 ((List.map E92 b).length : Int)) = V.sc (.int .i64 (b.length : Int)),
        ((a.length : Int) != (b.length : Int)) = false,
        Loop Try.prog (sub (codeOf Try.prog 65) [1, 1, 0, 1, 0, 0]) (st 27 [(0, V.sl false 92 (List.map E92 a)), (1, V.sl false 92 (List.map E92 b)), (5, V.sc (.int .i64 0))] [] []) (X.out 0) (st 27 [] [] [])]) (by kernel_rfl) (cj (len_nm _ _) (cj (len_nm _ _) (cj h1 (cj1 ((laws_eqTaskS_l0_ok a b h7 a [] rfl r2 h8).at h9))))))) (fun s2 h10 =>
       Pn.some (Fn.of [.wait 3, .nm 7 (V.sc (.int .i64 (a.length : Int))), .wait 2, .nm 9 (V.sc (.int .i64 (b.length : Int))), .bit false, .wait 1, .mask [0, 1, 5], .ren [], .loop (X.ret) (st 27 [(4, V.sc (.bool false))] [] [])] (p := [V.sc (.int .i64 ((List.map E92 a).length : Int)) = V.sc (.int .i64 (a.length : Int)),
        V.sc (.int .i64 ((List.map E92 b).length : Int)) = V.sc (.int .i64 (b.length : Int)),
        ((a.length : Int) != (b.length : Int)) = false,
        Loop Try.prog (sub (codeOf Try.prog 65) [1, 1, 0, 1, 0, 0]) (st 27 [(0, V.sl false 92 (List.map E92 a)), (1, V.sl false 92 (List.map E92 b)), (5, V.sc (.int .i64 0))] [] []) (X.ret) (st 27 [(4, V.sc (.bool false))] [] [])]) (by kernel_rfl) (cj (len_nm _ _) (cj (len_nm _ _) (cj h1 (cj1 ((laws_eqTaskS_l0_ok a b h7 a [] rfl r2 h8).at h10))))))))) (fun h7 =>
     Pn.none))
def laws_eqWorld (a : World) (b : World) : Option (Bool) :=
 (laws_eqStripeS a.Stripes b.Stripes).bind fun r1 =>
 if r1 = true then
  if (a.Now != b.Now) = true then
   some false
  else
   if (a.Step != b.Step) = true then
    some false
   else
    (laws_eqTaskS a.Tasks b.Tasks).bind fun r2 =>
    if r2 = true then
     some true
    else
     some false
 else
  some false
theorem laws_eqWorld_ok (a : World) (b : World) : Pn (fun y => Fn Try.prog 17 [(false, E31 a), (false, E31 b)] (E4 y) []) (laws_eqWorld a b) := by
  unfold laws_eqWorld
  exact
   Pn.bind (fun r1 h1 =>
    Pn.ite (fun h2 =>
     Pn.ite (fun h3 =>
      Pn.some (Fn.of [.call [] (E4 r1) [], .bit false, .bit true] (p := [Fn Try.prog 46 [(false, E28 a.Stripes), (false, E28 b.Stripes)] (E4 r1) [],
       (true || ((E4 r1).nv && nvL [])) = true,
       (!r1) = false,
       (a.Now != b.Now) = true]) (by kernel_rfl) (cj (laws_eqStripeS_ok a.Stripes b.Stripes r1 h1) (cj rfl (cj (nf h2) (cj1 h3)))))) (fun h3 =>
      Pn.ite (fun h4 =>
       Pn.some (Fn.of [.call [] (E4 r1) [], .bit false, .bit false, .bit true] (p := [Fn Try.prog 46 [(false, E28 a.Stripes), (false, E28 b.Stripes)] (E4 r1) [],
        (true || ((E4 r1).nv && nvL [])) = true,
        (!r1) = false,
        (a.Now != b.Now) = false,
        (a.Step != b.Step) = true]) (by kernel_rfl) (cj (laws_eqStripeS_ok a.Stripes b.Stripes r1 h1) (cj rfl (cj (nf h2) (cj h3 (cj1 h4))))))) (fun h4 =>
       Pn.bind (fun r2 h5 =>
        Pn.ite (fun h6 =>
         Pn.some (Fn.of [.call [] (E4 r1) [], .bit false, .bit false, .bit false, .call [] (E4 r2) [], .bit false] (p := [Fn Try.prog 46 [(false, E28 a.Stripes), (false, E28 b.Stripes)] (E4 r1) [],
          (true || ((E4 r1).nv && nvL [])) = true,
          (!r1) = false,
          (a.Now != b.Now) = false,
          (a.Step != b.Step) = false,
          Fn Try.prog 65 [(false, E29 a.Tasks), (false, E29 b.Tasks)] (E4 r2) [],
          (true || ((E4 r2).nv && nvL [])) = true,
          (!r2) = false]) (by kernel_rfl) (cj (laws_eqStripeS_ok a.Stripes b.Stripes r1 h1) (cj rfl (cj (nf h2) (cj h3 (cj h4 (cj (laws_eqTaskS_ok a.Tasks b.Tasks r2 h5) (cj rfl (cj1 (nf h6))))))))))) (fun h6 =>
         Pn.some (Fn.of [.call [] (E4 r1) [], .bit false, .bit false, .bit false, .call [] (E4 r2) [], .bit true] (p := [Fn Try.prog 46 [(false, E28 a.Stripes), (false, E28 b.Stripes)] (E4 r1) [],
          (true || ((E4 r1).nv && nvL [])) = true,
          (!r1) = false,
          (a.Now != b.Now) = false,
          (a.Step != b.Step) = false,
          Fn Try.prog 65 [(false, E29 a.Tasks), (false, E29 b.Tasks)] (E4 r2) [],
          (true || ((E4 r2).nv && nvL [])) = true,
          (!r2) = true]) (by kernel_rfl) (cj (laws_eqStripeS_ok a.Stripes b.Stripes r1 h1) (cj rfl (cj (nf h2) (cj h3 (cj h4 (cj (laws_eqTaskS_ok a.Tasks b.Tasks r2 h5) (cj rfl (cj1 (nt h6))))))))))))))) (fun h2 =>
     Pn.some (Fn.of [.call [] (E4 r1) [], .bit true] (p := [Fn Try.prog 46 [(false, E28 a.Stripes), (false, E28 b.Stripes)] (E4 r1) [],
      (true || ((E4 r1).nv && nvL [])) = true,
      (!r1) = true]) (by kernel_rfl) (cj (laws_eqStripeS_ok a.Stripes b.Stripes r1 h1) (cj rfl (cj1 (nt h2)))))))
def laws_markText_l0  : Nat → Int → ByteArray → Option (ByteArray)
  | 0, _, _ => none
  | n + 1, v1, v2 =>
   if (decide (0 < v1)) = true then
    if (decide ((bstr [u8 (i64 (48 + (Int.tmod v1 10)))]).size + v2.size ≤ 9223372036854775807)) = true then
     laws_markText_l0 n (i64 (Int.tdiv v1 10)) ((bstr [u8 (i64 (48 + (Int.tmod v1 10)))]) ++ v2)
    else none
   else
    some v2
theorem laws_markText_l0_ok  : ∀ (n : Nat) (v1 : Int) (v2 : ByteArray), Pn (LpO Try.prog (sub (codeOf Try.prog 130) [1, 1, 1, 0, 0, 0]) (st 20 [(0, V.sc (.int .i64 v1)), (3, V.sc (.string v2))] [] []) (fun (y : ByteArray) => (X.out 0, st 20 [(3, V.sc (.string y))] [] []))) (laws_markText_l0 n v1 v2)
  | 0, _, _ => Pn.none
  | n + 1, v1, v2 => by
    unfold laws_markText_l0
    exact
     Pn.ite (fun h2 =>
      Pn.ite (fun h3 =>
       LpO.go [.bit true, .ints [u8 (i64 (48 + (Int.tmod v1 10)))], .wait 7, .mask [0, 3], .ren []] (p := [(decide (0 < v1)) = true,
        (10 : Int) ≠ 0,
        [V.sc (.int .u8 (u8 (i64 (48 + (Int.tmod v1 10)))))] = [u8 (i64 (48 + (Int.tmod v1 10)))].map fun n => V.sc (.int .u8 n),
        (bstr [u8 (i64 (48 + (Int.tmod v1 10)))]).size + v2.size ≤ 9223372036854775807,
        (10 : Int) ≠ 0]) (by kernel_rfl) (cj h2 (cj (by decide) (cj rfl (cj (od h3) (cj1 (by decide)))))) (laws_markText_l0_ok n (i64 (Int.tdiv v1 10)) ((bstr [u8 (i64 (48 + (Int.tmod v1 10)))]) ++ v2))) (fun h3 =>
       Pn.none)) (fun h2 =>
      Pn.some (LpO.out [.bit false, .mask [3], .ren []] (p := [(decide (0 < v1)) = false]) (by kernel_rfl) (show X.out 0 ≠ X.go from nofun) (cj1 h2)))
def laws_markText (k : Int) : Option (ByteArray) :=
 if (decide (k ≤ 0)) = true then
  some (bs [109, 48])
 else
  (laws_markText_l0 FUEL k (bs [])).bind fun r1 =>
  if (decide ((bs [109]).size + r1.size ≤ 9223372036854775807)) = true then
   some ((bs [109]) ++ r1)
  else none
theorem laws_markText_ok (k : Int) : Pn (fun y => Fn Try.prog 130 [(false, E3 k)] (E9 y) []) (laws_markText k) := by
  unfold laws_markText
  exact
   Pn.ite (fun h1 =>
    Pn.some (Fn.of [.bit true] (p := [(decide (k ≤ 0)) = true]) (by kernel_rfl) (cj1 h1))) (fun h1 =>
    Pn.bind (fun r1 h4 =>
     Pn.ite (fun h5 =>
      Pn.some (Fn.of [.bit false, .wait 1, .mask [0, 3], .ren [], .loop (X.out 0) (st 20 [(3, V.sc (.string r1))] [] [])] (p := [(decide (k ≤ 0)) = false,
       Loop Try.prog (sub (codeOf Try.prog 130) [1, 1, 1, 0, 0, 0]) (st 20 [(0, V.sc (.int .i64 k)), (3, V.sc (.string (bs [])))] [] []) (X.out 0) (st 20 [(3, V.sc (.string r1))] [] []),
       (bs [109]).size + r1.size ≤ 9223372036854775807]) (by kernel_rfl) (cj h1 (cj (laws_markText_l0_ok FUEL k (bs []) r1 h4) (cj1 (od h5)))))) (fun h5 =>
      Pn.none)))
def laws_markHoldS_l0  : Nat → Int → Int → (List Hold) → Option (Int × (List Hold))
  | 0, _, _, _ => none
  | n + 1, v1, v2, v3 =>
   if (decide (v2 < (v3.length : Int))) = true then
    (laws_markText v1).bind fun r1 =>
    if (decide (0 ≤ v2)) = true then
     (v3[v2.toNat]?).bind fun x1 =>
     ((v3.set v2.toNat (Hold.mk r1 x1.Amount x1.Due))[v2.toNat]?).bind fun x2 =>
     (((v3.set v2.toNat (Hold.mk r1 x1.Amount x1.Due)).set v2.toNat (Hold.mk x2.Id (i64 (v1 + 1)) x2.Due))[v2.toNat]?).bind fun x3 =>
     laws_markHoldS_l0 n (i64 ((i64 ((i64 (v1 + 1)) + 1)) + 1)) (i64 (v2 + 1)) (((v3.set v2.toNat (Hold.mk r1 x1.Amount x1.Due)).set v2.toNat (Hold.mk x2.Id (i64 (v1 + 1)) x2.Due)).set v2.toNat (Hold.mk x3.Id x3.Amount (i64 ((i64 (v1 + 1)) + 1))))
    else none
   else
    some (v1, v3)
theorem laws_markHoldS_l0_ok  : ∀ (n : Nat) (v1 : Int) (v2 : Int) (v3 : List Hold), Pn (LpO Try.prog (sub (codeOf Try.prog 131) [1, 0, 1, 0, 0]) (st 35 [(0, V.ow 0), (1, V.sc (.int .i64 v1)), (5, V.sc (.int .i64 v2))] [Blk.row 61 (List.map E61 v3) []] [some 0]) (fun (y : Int × (List Hold)) => (X.out 0, st 35 [(1, V.sc (.int .i64 y.1))] [Blk.row 61 (List.map E61 y.2) []] [some 0]))) (laws_markHoldS_l0 n v1 v2 v3)
  | 0, _, _, _ => Pn.none
  | n + 1, v1, v2, v3 => by
    unfold laws_markHoldS_l0
    exact
     Pn.ite (fun h1 =>
      Pn.bind (fun r1 h2 =>
       Pn.ite (fun h3 =>
        Pn.bind (fun x1 h4 =>
         Pn.bind (fun x2 h5 =>
          Pn.bind (fun x3 h6 =>
           LpO.go [.wait 3, .nm 8 (V.sc (.int .i64 (v3.length : Int))), .bit true, .call [] (E9 r1) [], .el (E61 x1), .nb 0 (.row 61 (List.map E61 (v3.set v2.toNat (Hold.mk r1 x1.Amount x1.Due))) []), .el (E61 x2), .nb 0 (.row 61 (List.map E61 ((v3.set v2.toNat (Hold.mk r1 x1.Amount x1.Due)).set v2.toNat (Hold.mk x2.Id (i64 (v1 + 1)) x2.Due))) []), .el (E61 x3), .nb 0 (.row 61 (List.map E61 (((v3.set v2.toNat (Hold.mk r1 x1.Amount x1.Due)).set v2.toNat (Hold.mk x2.Id (i64 (v1 + 1)) x2.Due)).set v2.toNat (Hold.mk x3.Id x3.Amount (i64 ((i64 (v1 + 1)) + 1))))) []), .wait 7, .mask [0, 1, 5], .ren [0]] (p := [V.sc (.int .i64 ((List.map E61 v3).length : Int)) = V.sc (.int .i64 (v3.length : Int)),
            (decide (v2 < (v3.length : Int))) = true,
            Fn Try.prog 130 [(false, E3 v1)] (E9 r1) [],
            (true || ((E9 r1).nv && nvL [])) = true,
            (0 : Int) ≤ v2,
            (v2 : Int) < ((List.map E61 v3).length : Int),
            look [] v2.toNat = none,
            (List.map E61 v3)[v2.toNat]? = some (E61 x1),
            Blk.row 61 ((List.map E61 v3).set v2.toNat (V.agg [V.sc (.string r1), V.sc (.int .i64 x1.Amount), V.sc (.int .i64 x1.Due)])) [] = Blk.row 61 (List.map E61 (v3.set v2.toNat (Hold.mk r1 x1.Amount x1.Due))) [],
            (0 : Int) ≤ v2,
            (v2 : Int) < ((List.map E61 (v3.set v2.toNat (Hold.mk r1 x1.Amount x1.Due))).length : Int),
            look [] v2.toNat = none,
            (List.map E61 (v3.set v2.toNat (Hold.mk r1 x1.Amount x1.Due)))[v2.toNat]? = some (E61 x2),
            Blk.row 61 ((List.map E61 (v3.set v2.toNat (Hold.mk r1 x1.Amount x1.Due))).set v2.toNat (V.agg [V.sc (.string x2.Id), V.sc (.int .i64 (i64 (v1 + 1))), V.sc (.int .i64 x2.Due)])) [] = Blk.row 61 (List.map E61 ((v3.set v2.toNat (Hold.mk r1 x1.Amount x1.Due)).set v2.toNat (Hold.mk x2.Id (i64 (v1 + 1)) x2.Due))) [],
            (0 : Int) ≤ v2,
            (v2 : Int) < ((List.map E61 ((v3.set v2.toNat (Hold.mk r1 x1.Amount x1.Due)).set v2.toNat (Hold.mk x2.Id (i64 (v1 + 1)) x2.Due))).length : Int),
            look [] v2.toNat = none,
            (List.map E61 ((v3.set v2.toNat (Hold.mk r1 x1.Amount x1.Due)).set v2.toNat (Hold.mk x2.Id (i64 (v1 + 1)) x2.Due)))[v2.toNat]? = some (E61 x3),
            Blk.row 61 ((List.map E61 ((v3.set v2.toNat (Hold.mk r1 x1.Amount x1.Due)).set v2.toNat (Hold.mk x2.Id (i64 (v1 + 1)) x2.Due))).set v2.toNat (V.agg [V.sc (.string x3.Id), V.sc (.int .i64 x3.Amount), V.sc (.int .i64 (i64 ((i64 (v1 + 1)) + 1)))])) [] = Blk.row 61 (List.map E61 (((v3.set v2.toNat (Hold.mk r1 x1.Amount x1.Due)).set v2.toNat (Hold.mk x2.Id (i64 (v1 + 1)) x2.Due)).set v2.toNat (Hold.mk x3.Id x3.Amount (i64 ((i64 (v1 + 1)) + 1))))) []]) (by kernel_rfl) (cj (len_nm _ _) (cj h1 (cj (laws_markText_ok v1 r1 h2) (cj rfl (cj (od h3) (cj (map_ltN (od h3) h4) (cj rfl (cj (map_get h4) (cj (nb_set E61 _ _ (Hold.mk r1 x1.Amount x1.Due)) (cj (od h3) (cj (map_ltN (od h3) h5) (cj rfl (cj (map_get h5) (cj (nb_set E61 _ _ (Hold.mk x2.Id (i64 (v1 + 1)) x2.Due)) (cj (od h3) (cj (map_ltN (od h3) h6) (cj rfl (cj (map_get h6) (cj1 (nb_set E61 _ _ (Hold.mk x3.Id x3.Amount (i64 ((i64 (v1 + 1)) + 1))))))))))))))))))))))) (laws_markHoldS_l0_ok n (i64 ((i64 ((i64 (v1 + 1)) + 1)) + 1)) (i64 (v2 + 1)) (((v3.set v2.toNat (Hold.mk r1 x1.Amount x1.Due)).set v2.toNat (Hold.mk x2.Id (i64 (v1 + 1)) x2.Due)).set v2.toNat (Hold.mk x3.Id x3.Amount (i64 ((i64 (v1 + 1)) + 1))))))))) (fun h3 =>
        Pn.none))) (fun h1 =>
      Pn.some (LpO.out [.wait 3, .nm 8 (V.sc (.int .i64 (v3.length : Int))), .bit false, .mask [1], .ren [0]] (p := [V.sc (.int .i64 ((List.map E61 v3).length : Int)) = V.sc (.int .i64 (v3.length : Int)),
       (decide (v2 < (v3.length : Int))) = false]) (by kernel_rfl) (show X.out 0 ≠ X.go from nofun) (cj (len_nm _ _) (cj1 h1))))
def laws_markHoldS (a : List Hold) (k : Int) : Option (Int × (List Hold)) :=
 (laws_markHoldS_l0 FUEL k 0 a).bind fun r2 =>
 some (r2.1, r2.2)
theorem laws_markHoldS_ok (a : List Hold) (k : Int) : Pn (fun y => Fn Try.prog 131 [(true, E48 a), (false, E3 k)] (E3 y.1) [V.sl true 61 (List.map E61 y.2)]) (laws_markHoldS a k) := by
  unfold laws_markHoldS
  exact
   Pn.bind (fun r2 h7 =>
    Pn.some (Fn.of [.wait 3, .mask [0, 1, 5], .ren [0], .loop (X.out 0) (st 35 [(1, V.sc (.int .i64 r2.1))] [Blk.row 61 (List.map E61 r2.2) []] [some 0])] (p := [Loop Try.prog (sub (codeOf Try.prog 131) [1, 0, 1, 0, 0]) (st 35 [(0, V.ow 0), (1, V.sc (.int .i64 k)), (5, V.sc (.int .i64 0))] [Blk.row 61 (List.map E61 a) []] [some 0]) (X.out 0) (st 35 [(1, V.sc (.int .i64 r2.1))] [Blk.row 61 (List.map E61 r2.2) []] [some 0])]) (by kernel_rfl) (cj1 (laws_markHoldS_l0_ok FUEL k 0 a r2 h7))))
def laws_markIntS_l0  : Nat → Int → Int → (List Int) → Option (Int × (List Int))
  | 0, _, _, _ => none
  | n + 1, v1, v2, v3 =>
   if (decide (v2 < (v3.length : Int))) = true then
    if (decide (0 ≤ v2)) = true then
     (v3[v2.toNat]?).bind fun x1 =>
     laws_markIntS_l0 n (i64 (v1 + 1)) (i64 (v2 + 1)) (v3.set v2.toNat v1)
    else none
   else
    some (v1, v3)
theorem laws_markIntS_l0_ok  : ∀ (n : Nat) (v1 : Int) (v2 : Int) (v3 : List Int), Pn (LpO Try.prog (sub (codeOf Try.prog 37) [1, 0, 1, 0, 0]) (st 19 [(0, V.ow 0), (1, V.sc (.int .i64 v1)), (5, V.sc (.int .i64 v2))] [Blk.row 3 (List.map E3 v3) []] [some 0]) (fun (y : Int × (List Int)) => (X.out 0, st 19 [(1, V.sc (.int .i64 y.1))] [Blk.row 3 (List.map E3 y.2) []] [some 0]))) (laws_markIntS_l0 n v1 v2 v3)
  | 0, _, _, _ => Pn.none
  | n + 1, v1, v2, v3 => by
    unfold laws_markIntS_l0
    exact
     Pn.ite (fun h1 =>
      Pn.ite (fun h2 =>
       Pn.bind (fun x1 h3 =>
        LpO.go [.wait 3, .nm 8 (V.sc (.int .i64 (v3.length : Int))), .bit true, .el (E3 x1), .nb 0 (.row 3 (List.map E3 (v3.set v2.toNat v1)) []), .wait 7, .mask [0, 1, 5], .ren [0]] (p := [V.sc (.int .i64 ((List.map E3 v3).length : Int)) = V.sc (.int .i64 (v3.length : Int)),
         (decide (v2 < (v3.length : Int))) = true,
         (0 : Int) ≤ v2,
         (v2 : Int) < ((List.map E3 v3).length : Int),
         look [] v2.toNat = none,
         (List.map E3 v3)[v2.toNat]? = some (E3 x1),
         Blk.row 3 ((List.map E3 v3).set v2.toNat (V.sc (.int .i64 v1))) [] = Blk.row 3 (List.map E3 (v3.set v2.toNat v1)) []]) (by kernel_rfl) (cj (len_nm _ _) (cj h1 (cj (od h2) (cj (map_ltN (od h2) h3) (cj rfl (cj (map_get h3) (cj1 (nb_set E3 _ _ v1)))))))) (laws_markIntS_l0_ok n (i64 (v1 + 1)) (i64 (v2 + 1)) (v3.set v2.toNat v1)))) (fun h2 =>
       Pn.none)) (fun h1 =>
      Pn.some (LpO.out [.wait 3, .nm 8 (V.sc (.int .i64 (v3.length : Int))), .bit false, .mask [1], .ren [0]] (p := [V.sc (.int .i64 ((List.map E3 v3).length : Int)) = V.sc (.int .i64 (v3.length : Int)),
       (decide (v2 < (v3.length : Int))) = false]) (by kernel_rfl) (show X.out 0 ≠ X.go from nofun) (cj (len_nm _ _) (cj1 h1))))
def laws_markIntS (a : List Int) (k : Int) : Option (Int × (List Int)) :=
 (laws_markIntS_l0 FUEL k 0 a).bind fun r1 =>
 some (r1.1, r1.2)
theorem laws_markIntS_ok (a : List Int) (k : Int) : Pn (fun y => Fn Try.prog 37 [(true, E49 a), (false, E3 k)] (E3 y.1) [V.sl true 3 (List.map E3 y.2)]) (laws_markIntS a k) := by
  unfold laws_markIntS
  exact
   Pn.bind (fun r1 h4 =>
    Pn.some (Fn.of [.wait 3, .mask [0, 1, 5], .ren [0], .loop (X.out 0) (st 19 [(1, V.sc (.int .i64 r1.1))] [Blk.row 3 (List.map E3 r1.2) []] [some 0])] (p := [Loop Try.prog (sub (codeOf Try.prog 37) [1, 0, 1, 0, 0]) (st 19 [(0, V.ow 0), (1, V.sc (.int .i64 k)), (5, V.sc (.int .i64 0))] [Blk.row 3 (List.map E3 a) []] [some 0]) (X.out 0) (st 19 [(1, V.sc (.int .i64 r1.1))] [Blk.row 3 (List.map E3 r1.2) []] [some 0])]) (by kernel_rfl) (cj1 (laws_markIntS_l0_ok FUEL k 0 a r1 h4))))
def laws_markByteS_l0  : Nat → Int → Int → (List Int) → Option (Int × (List Int))
  | 0, _, _, _ => none
  | n + 1, v1, v2, v3 =>
   if (decide (v2 < (v3.length : Int))) = true then
    if (decide (0 ≤ v2)) = true then
     (v3[v2.toNat]?).bind fun x1 =>
     laws_markByteS_l0 n (i64 (v1 + 1)) (i64 (v2 + 1)) (v3.set v2.toNat (u8 v1))
    else none
   else
    some (v1, v3)
theorem laws_markByteS_l0_ok  : ∀ (n : Nat) (v1 : Int) (v2 : Int) (v3 : List Int), Pn (LpO Try.prog (sub (codeOf Try.prog 160) [1, 0, 1, 0, 0]) (st 20 [(0, V.ow 0), (1, V.sc (.int .i64 v1)), (5, V.sc (.int .i64 v2))] [Blk.row 5 (List.map E5 v3) []] [some 0]) (fun (y : Int × (List Int)) => (X.out 0, st 20 [(1, V.sc (.int .i64 y.1))] [Blk.row 5 (List.map E5 y.2) []] [some 0]))) (laws_markByteS_l0 n v1 v2 v3)
  | 0, _, _, _ => Pn.none
  | n + 1, v1, v2, v3 => by
    unfold laws_markByteS_l0
    exact
     Pn.ite (fun h1 =>
      Pn.ite (fun h2 =>
       Pn.bind (fun x1 h3 =>
        LpO.go [.wait 3, .nm 8 (V.sc (.int .i64 (v3.length : Int))), .bit true, .el (E5 x1), .nb 0 (.row 5 (List.map E5 (v3.set v2.toNat (u8 v1))) []), .wait 7, .mask [0, 1, 5], .ren [0]] (p := [V.sc (.int .i64 ((List.map E5 v3).length : Int)) = V.sc (.int .i64 (v3.length : Int)),
         (decide (v2 < (v3.length : Int))) = true,
         (0 : Int) ≤ v2,
         (v2 : Int) < ((List.map E5 v3).length : Int),
         look [] v2.toNat = none,
         (List.map E5 v3)[v2.toNat]? = some (E5 x1),
         Blk.row 5 ((List.map E5 v3).set v2.toNat (V.sc (.int .u8 (u8 v1)))) [] = Blk.row 5 (List.map E5 (v3.set v2.toNat (u8 v1))) []]) (by kernel_rfl) (cj (len_nm _ _) (cj h1 (cj (od h2) (cj (map_ltN (od h2) h3) (cj rfl (cj (map_get h3) (cj1 (nb_set E5 _ _ (u8 v1))))))))) (laws_markByteS_l0_ok n (i64 (v1 + 1)) (i64 (v2 + 1)) (v3.set v2.toNat (u8 v1))))) (fun h2 =>
       Pn.none)) (fun h1 =>
      Pn.some (LpO.out [.wait 3, .nm 8 (V.sc (.int .i64 (v3.length : Int))), .bit false, .mask [1], .ren [0]] (p := [V.sc (.int .i64 ((List.map E5 v3).length : Int)) = V.sc (.int .i64 (v3.length : Int)),
       (decide (v2 < (v3.length : Int))) = false]) (by kernel_rfl) (show X.out 0 ≠ X.go from nofun) (cj (len_nm _ _) (cj1 h1))))
def laws_markByteS (a : List Int) (k : Int) : Option (Int × (List Int)) :=
 (laws_markByteS_l0 FUEL k 0 a).bind fun r1 =>
 some (r1.1, r1.2)
theorem laws_markByteS_ok (a : List Int) (k : Int) : Pn (fun y => Fn Try.prog 160 [(true, E47 a), (false, E3 k)] (E3 y.1) [V.sl true 5 (List.map E5 y.2)]) (laws_markByteS a k) := by
  unfold laws_markByteS
  exact
   Pn.bind (fun r1 h4 =>
    Pn.some (Fn.of [.wait 3, .mask [0, 1, 5], .ren [0], .loop (X.out 0) (st 20 [(1, V.sc (.int .i64 r1.1))] [Blk.row 5 (List.map E5 r1.2) []] [some 0])] (p := [Loop Try.prog (sub (codeOf Try.prog 160) [1, 0, 1, 0, 0]) (st 20 [(0, V.ow 0), (1, V.sc (.int .i64 k)), (5, V.sc (.int .i64 0))] [Blk.row 5 (List.map E5 a) []] [some 0]) (X.out 0) (st 20 [(1, V.sc (.int .i64 r1.1))] [Blk.row 5 (List.map E5 r1.2) []] [some 0])]) (by kernel_rfl) (cj1 (laws_markByteS_l0_ok FUEL k 0 a r1 h4))))
def laws_markSlotS_l0  : Nat → Int → Int → (List Slot) → Option (Int × (List Slot))
  | 0, _, _, _ => none
  | n + 1, v1, v2, v3 =>
   if (decide (v2 < (v3.length : Int))) = true then
    (laws_markText v1).bind fun r1 =>
    if (decide (0 ≤ v2)) = true then
     (v3[v2.toNat]?).bind fun x1 =>
     (laws_markText (i64 (v1 + 1))).bind fun r2 =>
     (laws_markByteS x1.Reply (i64 ((i64 (v1 + 1)) + 1))).bind fun r3 =>
     laws_markSlotS_l0 n r3.1 (i64 (v2 + 1)) (v3.set v2.toNat (Slot.mk r1 r2 r3.2))
    else none
   else
    some (v1, v3)
theorem laws_markSlotS_l0_ok  : ∀ (n : Nat) (v1 : Int) (v2 : Int) (v3 : List Slot), Pn (LpO Try.prog (sub (codeOf Try.prog 132) [1, 0, 1, 0, 0]) (st 36 [(0, V.ow 0), (1, V.sc (.int .i64 v1)), (5, V.sc (.int .i64 v2))] [Blk.row 177 (List.map E177 v3) []] [some 0]) (fun (y : Int × (List Slot)) => (X.out 0, st 36 [(1, V.sc (.int .i64 y.1))] [Blk.row 177 (List.map E177 y.2) []] [some 0]))) (laws_markSlotS_l0 n v1 v2 v3)
  | 0, _, _, _ => Pn.none
  | n + 1, v1, v2, v3 => by
    unfold laws_markSlotS_l0
    exact
     Pn.ite (fun h1 =>
      Pn.bind (fun r1 h2 =>
       Pn.ite (fun h3 =>
        Pn.bind (fun x1 h4 =>
         Pn.bind (fun r2 h5 =>
          Pn.bind (fun r3 h6 =>
           LpO.go [.wait 3, .nm 8 (V.sc (.int .i64 (v3.length : Int))), .bit true, .call [] (E9 r1) [], .wait 1, .foc 0 v2.toNat (E177 x1), .fo 0, .call [] (E9 r2) [], .fo 0, .fo 0, .call [true, false] (E3 r3.1) [V.sl true 5 (List.map E5 r3.2)], .wait 5, .shut 0, .nb 0 (.row 177 (List.map E177 (v3.set v2.toNat (Slot.mk r1 r2 r3.2))) []), .mask [0, 1, 5], .ren [0]] (p := [V.sc (.int .i64 ((List.map E177 v3).length : Int)) = V.sc (.int .i64 (v3.length : Int)),
            (decide (v2 < (v3.length : Int))) = true,
            Fn Try.prog 130 [(false, E3 v1)] (E9 r1) [],
            (true || ((E9 r1).nv && nvL [])) = true,
            (0 : Int) ≤ v2,
            (v2 : Int) < ((List.map E177 v3).length : Int),
            look [] v2.toNat = none,
            (List.map E177 v3)[v2.toNat]? = some (E177 x1),
            look [(v2.toNat, V.agg [V.sc (.string x1.Trace), V.sc (.string x1.Mti), V.ow 1])] v2.toNat = some (V.agg [V.sc (.string x1.Trace), V.sc (.string x1.Mti), V.ow 1]),
            v2.toNat < (List.map E177 v3).length,
            v2.toNat = v2.toNat,
            Fn Try.prog 130 [(false, E3 (i64 (v1 + 1)))] (E9 r2) [],
            (true || ((E9 r2).nv && nvL [])) = true,
            (0 : Int) ≤ v2,
            (v2 : Int) < ((List.map E177 v3).length : Int),
            look [(v2.toNat, V.agg [V.sc (.string r1), V.sc (.string x1.Mti), V.ow 1])] v2.toNat = some (V.agg [V.sc (.string r1), V.sc (.string x1.Mti), V.ow 1]),
            v2.toNat < (List.map E177 v3).length,
            v2.toNat = v2.toNat,
            (0 : Int) ≤ v2,
            (v2 : Int) < ((List.map E177 v3).length : Int),
            look [(v2.toNat, V.agg [V.sc (.string r1), V.sc (.string r2), V.ow 1])] v2.toNat = some (V.agg [V.sc (.string r1), V.sc (.string r2), V.ow 1]),
            v2.toNat < (List.map E177 v3).length,
            Fn Try.prog 160 [(true, E47 x1.Reply), (false, E3 (i64 ((i64 (v1 + 1)) + 1)))] (E3 r3.1) [V.sl true 5 (List.map E5 r3.2)],
            (true || ((E3 r3.1).nv && nvL [V.sl true 5 (List.map E5 r3.2)])) = true,
            Blk.row 177 ((List.map E177 v3).set v2.toNat (V.agg [V.sc (.string r1), V.sc (.string r2), V.sl true 5 (List.map E5 r3.2)])) [] = Blk.row 177 (List.map E177 (v3.set v2.toNat (Slot.mk r1 r2 r3.2))) []]) (by kernel_rfl) (cj (len_nm _ _) (cj h1 (cj (laws_markText_ok v1 r1 h2) (cj rfl (cj (od h3) (cj (map_ltN (od h3) h4) (cj rfl (cj (map_get h4) (cj (look_cons_self _ _ _) (cj (map_lt h4) (cj rfl (cj (laws_markText_ok (i64 (v1 + 1)) r2 h5) (cj rfl (cj (od h3) (cj (map_ltN (od h3) h4) (cj (look_cons_self _ _ _) (cj (map_lt h4) (cj rfl (cj (od h3) (cj (map_ltN (od h3) h4) (cj (look_cons_self _ _ _) (cj (map_lt h4) (cj (laws_markByteS_ok x1.Reply (i64 ((i64 (v1 + 1)) + 1)) r3 h6) (cj rfl (cj1 (nb_set E177 _ _ (Slot.mk r1 r2 r3.2))))))))))))))))))))))))))) (laws_markSlotS_l0_ok n r3.1 (i64 (v2 + 1)) (v3.set v2.toNat (Slot.mk r1 r2 r3.2))))))) (fun h3 =>
        Pn.none))) (fun h1 =>
      Pn.some (LpO.out [.wait 3, .nm 8 (V.sc (.int .i64 (v3.length : Int))), .bit false, .mask [1], .ren [0]] (p := [V.sc (.int .i64 ((List.map E177 v3).length : Int)) = V.sc (.int .i64 (v3.length : Int)),
       (decide (v2 < (v3.length : Int))) = false]) (by kernel_rfl) (show X.out 0 ≠ X.go from nofun) (cj (len_nm _ _) (cj1 h1))))
def laws_markSlotS (a : List Slot) (k : Int) : Option (Int × (List Slot)) :=
 (laws_markSlotS_l0 FUEL k 0 a).bind fun r4 =>
 some (r4.1, r4.2)
theorem laws_markSlotS_ok (a : List Slot) (k : Int) : Pn (fun y => Fn Try.prog 132 [(true, E52 a), (false, E3 k)] (E3 y.1) [V.sl true 177 (List.map E177 y.2)]) (laws_markSlotS a k) := by
  unfold laws_markSlotS
  exact
   Pn.bind (fun r4 h7 =>
    Pn.some (Fn.of [.wait 3, .mask [0, 1, 5], .ren [0], .loop (X.out 0) (st 36 [(1, V.sc (.int .i64 r4.1))] [Blk.row 177 (List.map E177 r4.2) []] [some 0])] (p := [Loop Try.prog (sub (codeOf Try.prog 132) [1, 0, 1, 0, 0]) (st 36 [(0, V.ow 0), (1, V.sc (.int .i64 k)), (5, V.sc (.int .i64 0))] [Blk.row 177 (List.map E177 a) []] [some 0]) (X.out 0) (st 36 [(1, V.sc (.int .i64 r4.1))] [Blk.row 177 (List.map E177 r4.2) []] [some 0])]) (by kernel_rfl) (cj1 (laws_markSlotS_l0_ok FUEL k 0 a r4 h7))))
def laws_markAcctS_l0  : Nat → Int → Int → (List Acct) → Option (Int × (List Acct))
  | 0, _, _, _ => none
  | n + 1, v1, v2, v3 =>
   if (decide (v2 < (v3.length : Int))) = true then
    (laws_markText v1).bind fun r1 =>
    if (decide (0 ≤ v2)) = true then
     (v3[v2.toNat]?).bind fun x1 =>
     (laws_markHoldS x1.Holds (i64 ((i64 ((i64 ((i64 ((i64 (v1 + 1)) + 1)) + 1)) + 1)) + 1))).bind fun r2 =>
     (laws_markIntS x1.Ring.Counts (i64 ((i64 (r2.1 + 1)) + 1))).bind fun r3 =>
     (laws_markIntS x1.Ring.Sums r3.1).bind fun r4 =>
     (laws_markSlotS x1.Slots r4.1).bind fun r5 =>
     laws_markAcctS_l0 n r5.1 (i64 (v2 + 1)) (v3.set v2.toNat (Acct.mk r1 (i64 (v1 + 1)) (i64 ((i64 (v1 + 1)) + 1)) (i64 ((i64 ((i64 (v1 + 1)) + 1)) + 1)) (i64 ((i64 ((i64 ((i64 (v1 + 1)) + 1)) + 1)) + 1)) r2.2 (Ring.mk r2.1 (i64 (r2.1 + 1)) r3.2 r4.2) r5.2))
    else none
   else
    some (v1, v3)
theorem laws_markAcctS_l0_ok  : ∀ (n : Nat) (v1 : Int) (v2 : Int) (v3 : List Acct), Pn (LpO Try.prog (sub (codeOf Try.prog 73) [1, 0, 1, 0, 0]) (st 95 [(0, V.ow 0), (1, V.sc (.int .i64 v1)), (5, V.sc (.int .i64 v2))] [Blk.row 54 (List.map E54 v3) []] [some 0]) (fun (y : Int × (List Acct)) => (X.out 0, st 95 [(1, V.sc (.int .i64 y.1))] [Blk.row 54 (List.map E54 y.2) []] [some 0]))) (laws_markAcctS_l0 n v1 v2 v3)
  | 0, _, _, _ => Pn.none
  | n + 1, v1, v2, v3 => by
    unfold laws_markAcctS_l0
    exact
     Pn.ite (fun h1 =>
      Pn.bind (fun r1 h2 =>
       Pn.ite (fun h3 =>
        Pn.bind (fun x1 h4 =>
         Pn.bind (fun r2 h5 =>
          Pn.bind (fun r3 h6 =>
           Pn.bind (fun r4 h7 =>
            Pn.bind (fun r5 h8 =>
             LpO.go [.wait 3, .nm 8 (V.sc (.int .i64 (v3.length : Int))), .bit true, .call [] (E9 r1) [], .wait 1, .foc 0 v2.toNat (E54 x1), .fo 0, .fo 0, .fo 0, .fo 0, .fo 0, .fo 0, .call [true, false] (E3 r2.1) [V.sl true 61 (List.map E61 r2.2)], .fo 0, .fo 0, .fo 0, .call [true, false] (E3 r3.1) [V.sl true 3 (List.map E3 r3.2)], .fo 0, .call [true, false] (E3 r4.1) [V.sl true 3 (List.map E3 r4.2)], .fo 0, .call [true, false] (E3 r5.1) [V.sl true 177 (List.map E177 r5.2)], .wait 5, .shut 0, .nb 0 (.row 54 (List.map E54 (v3.set v2.toNat (Acct.mk r1 (i64 (v1 + 1)) (i64 ((i64 (v1 + 1)) + 1)) (i64 ((i64 ((i64 (v1 + 1)) + 1)) + 1)) (i64 ((i64 ((i64 ((i64 (v1 + 1)) + 1)) + 1)) + 1)) r2.2 (Ring.mk r2.1 (i64 (r2.1 + 1)) r3.2 r4.2) r5.2))) []), .mask [0, 1, 5], .ren [0]] (p := [V.sc (.int .i64 ((List.map E54 v3).length : Int)) = V.sc (.int .i64 (v3.length : Int)),
              (decide (v2 < (v3.length : Int))) = true,
              Fn Try.prog 130 [(false, E3 v1)] (E9 r1) [],
              (true || ((E9 r1).nv && nvL [])) = true,
              (0 : Int) ≤ v2,
              (v2 : Int) < ((List.map E54 v3).length : Int),
              look [] v2.toNat = none,
              (List.map E54 v3)[v2.toNat]? = some (E54 x1),
              look [(v2.toNat, V.agg [V.sc (.string x1.Id), V.sc (.int .i64 x1.Limit), V.sc (.int .i64 x1.Posted), V.sc (.int .i64 x1.Most), V.sc (.int .i64 x1.MostSum), V.ow 1, V.sc (.int .i64 x1.Ring.Span), V.sc (.int .i64 x1.Ring.Head), V.ow 2, V.ow 3, V.ow 4])] v2.toNat = some (V.agg [V.sc (.string x1.Id), V.sc (.int .i64 x1.Limit), V.sc (.int .i64 x1.Posted), V.sc (.int .i64 x1.Most), V.sc (.int .i64 x1.MostSum), V.ow 1, V.sc (.int .i64 x1.Ring.Span), V.sc (.int .i64 x1.Ring.Head), V.ow 2, V.ow 3, V.ow 4]),
              v2.toNat < (List.map E54 v3).length,
              v2.toNat = v2.toNat,
              (0 : Int) ≤ v2,
              (v2 : Int) < ((List.map E54 v3).length : Int),
              look [(v2.toNat, V.agg [V.sc (.string r1), V.sc (.int .i64 x1.Limit), V.sc (.int .i64 x1.Posted), V.sc (.int .i64 x1.Most), V.sc (.int .i64 x1.MostSum), V.ow 1, V.sc (.int .i64 x1.Ring.Span), V.sc (.int .i64 x1.Ring.Head), V.ow 2, V.ow 3, V.ow 4])] v2.toNat = some (V.agg [V.sc (.string r1), V.sc (.int .i64 x1.Limit), V.sc (.int .i64 x1.Posted), V.sc (.int .i64 x1.Most), V.sc (.int .i64 x1.MostSum), V.ow 1, V.sc (.int .i64 x1.Ring.Span), V.sc (.int .i64 x1.Ring.Head), V.ow 2, V.ow 3, V.ow 4]),
              v2.toNat < (List.map E54 v3).length,
              v2.toNat = v2.toNat,
              (0 : Int) ≤ v2,
              (v2 : Int) < ((List.map E54 v3).length : Int),
              look [(v2.toNat, V.agg [V.sc (.string r1), V.sc (.int .i64 (i64 (v1 + 1))), V.sc (.int .i64 x1.Posted), V.sc (.int .i64 x1.Most), V.sc (.int .i64 x1.MostSum), V.ow 1, V.sc (.int .i64 x1.Ring.Span), V.sc (.int .i64 x1.Ring.Head), V.ow 2, V.ow 3, V.ow 4])] v2.toNat = some (V.agg [V.sc (.string r1), V.sc (.int .i64 (i64 (v1 + 1))), V.sc (.int .i64 x1.Posted), V.sc (.int .i64 x1.Most), V.sc (.int .i64 x1.MostSum), V.ow 1, V.sc (.int .i64 x1.Ring.Span), V.sc (.int .i64 x1.Ring.Head), V.ow 2, V.ow 3, V.ow 4]),
              v2.toNat < (List.map E54 v3).length,
              v2.toNat = v2.toNat,
              (0 : Int) ≤ v2,
              (v2 : Int) < ((List.map E54 v3).length : Int),
              look [(v2.toNat, V.agg [V.sc (.string r1), V.sc (.int .i64 (i64 (v1 + 1))), V.sc (.int .i64 (i64 ((i64 (v1 + 1)) + 1))), V.sc (.int .i64 x1.Most), V.sc (.int .i64 x1.MostSum), V.ow 1, V.sc (.int .i64 x1.Ring.Span), V.sc (.int .i64 x1.Ring.Head), V.ow 2, V.ow 3, V.ow 4])] v2.toNat = some (V.agg [V.sc (.string r1), V.sc (.int .i64 (i64 (v1 + 1))), V.sc (.int .i64 (i64 ((i64 (v1 + 1)) + 1))), V.sc (.int .i64 x1.Most), V.sc (.int .i64 x1.MostSum), V.ow 1, V.sc (.int .i64 x1.Ring.Span), V.sc (.int .i64 x1.Ring.Head), V.ow 2, V.ow 3, V.ow 4]),
              v2.toNat < (List.map E54 v3).length,
              v2.toNat = v2.toNat,
              (0 : Int) ≤ v2,
              (v2 : Int) < ((List.map E54 v3).length : Int),
              look [(v2.toNat, V.agg [V.sc (.string r1), V.sc (.int .i64 (i64 (v1 + 1))), V.sc (.int .i64 (i64 ((i64 (v1 + 1)) + 1))), V.sc (.int .i64 (i64 ((i64 ((i64 (v1 + 1)) + 1)) + 1))), V.sc (.int .i64 x1.MostSum), V.ow 1, V.sc (.int .i64 x1.Ring.Span), V.sc (.int .i64 x1.Ring.Head), V.ow 2, V.ow 3, V.ow 4])] v2.toNat = some (V.agg [V.sc (.string r1), V.sc (.int .i64 (i64 (v1 + 1))), V.sc (.int .i64 (i64 ((i64 (v1 + 1)) + 1))), V.sc (.int .i64 (i64 ((i64 ((i64 (v1 + 1)) + 1)) + 1))), V.sc (.int .i64 x1.MostSum), V.ow 1, V.sc (.int .i64 x1.Ring.Span), V.sc (.int .i64 x1.Ring.Head), V.ow 2, V.ow 3, V.ow 4]),
              v2.toNat < (List.map E54 v3).length,
              v2.toNat = v2.toNat,
              (0 : Int) ≤ v2,
              (v2 : Int) < ((List.map E54 v3).length : Int),
              look [(v2.toNat, V.agg [V.sc (.string r1), V.sc (.int .i64 (i64 (v1 + 1))), V.sc (.int .i64 (i64 ((i64 (v1 + 1)) + 1))), V.sc (.int .i64 (i64 ((i64 ((i64 (v1 + 1)) + 1)) + 1))), V.sc (.int .i64 (i64 ((i64 ((i64 ((i64 (v1 + 1)) + 1)) + 1)) + 1))), V.ow 1, V.sc (.int .i64 x1.Ring.Span), V.sc (.int .i64 x1.Ring.Head), V.ow 2, V.ow 3, V.ow 4])] v2.toNat = some (V.agg [V.sc (.string r1), V.sc (.int .i64 (i64 (v1 + 1))), V.sc (.int .i64 (i64 ((i64 (v1 + 1)) + 1))), V.sc (.int .i64 (i64 ((i64 ((i64 (v1 + 1)) + 1)) + 1))), V.sc (.int .i64 (i64 ((i64 ((i64 ((i64 (v1 + 1)) + 1)) + 1)) + 1))), V.ow 1, V.sc (.int .i64 x1.Ring.Span), V.sc (.int .i64 x1.Ring.Head), V.ow 2, V.ow 3, V.ow 4]),
              v2.toNat < (List.map E54 v3).length,
              Fn Try.prog 131 [(true, E48 x1.Holds), (false, E3 (i64 ((i64 ((i64 ((i64 ((i64 (v1 + 1)) + 1)) + 1)) + 1)) + 1)))] (E3 r2.1) [V.sl true 61 (List.map E61 r2.2)],
              (true || ((E3 r2.1).nv && nvL [V.sl true 61 (List.map E61 r2.2)])) = true,
              (0 : Int) ≤ v2,
              (v2 : Int) < ((List.map E54 v3).length : Int),
              look [(v2.toNat, V.agg [V.sc (.string r1), V.sc (.int .i64 (i64 (v1 + 1))), V.sc (.int .i64 (i64 ((i64 (v1 + 1)) + 1))), V.sc (.int .i64 (i64 ((i64 ((i64 (v1 + 1)) + 1)) + 1))), V.sc (.int .i64 (i64 ((i64 ((i64 ((i64 (v1 + 1)) + 1)) + 1)) + 1))), V.ow 1, V.sc (.int .i64 x1.Ring.Span), V.sc (.int .i64 x1.Ring.Head), V.ow 2, V.ow 3, V.ow 4])] v2.toNat = some (V.agg [V.sc (.string r1), V.sc (.int .i64 (i64 (v1 + 1))), V.sc (.int .i64 (i64 ((i64 (v1 + 1)) + 1))), V.sc (.int .i64 (i64 ((i64 ((i64 (v1 + 1)) + 1)) + 1))), V.sc (.int .i64 (i64 ((i64 ((i64 ((i64 (v1 + 1)) + 1)) + 1)) + 1))), V.ow 1, V.sc (.int .i64 x1.Ring.Span), V.sc (.int .i64 x1.Ring.Head), V.ow 2, V.ow 3, V.ow 4]),
              v2.toNat < (List.map E54 v3).length,
              v2.toNat = v2.toNat,
              (0 : Int) ≤ v2,
              (v2 : Int) < ((List.map E54 v3).length : Int),
              look [(v2.toNat, V.agg [V.sc (.string r1), V.sc (.int .i64 (i64 (v1 + 1))), V.sc (.int .i64 (i64 ((i64 (v1 + 1)) + 1))), V.sc (.int .i64 (i64 ((i64 ((i64 (v1 + 1)) + 1)) + 1))), V.sc (.int .i64 (i64 ((i64 ((i64 ((i64 (v1 + 1)) + 1)) + 1)) + 1))), V.ow 1, V.sc (.int .i64 r2.1), V.sc (.int .i64 x1.Ring.Head), V.ow 2, V.ow 3, V.ow 4])] v2.toNat = some (V.agg [V.sc (.string r1), V.sc (.int .i64 (i64 (v1 + 1))), V.sc (.int .i64 (i64 ((i64 (v1 + 1)) + 1))), V.sc (.int .i64 (i64 ((i64 ((i64 (v1 + 1)) + 1)) + 1))), V.sc (.int .i64 (i64 ((i64 ((i64 ((i64 (v1 + 1)) + 1)) + 1)) + 1))), V.ow 1, V.sc (.int .i64 r2.1), V.sc (.int .i64 x1.Ring.Head), V.ow 2, V.ow 3, V.ow 4]),
              v2.toNat < (List.map E54 v3).length,
              v2.toNat = v2.toNat,
              (0 : Int) ≤ v2,
              (v2 : Int) < ((List.map E54 v3).length : Int),
              look [(v2.toNat, V.agg [V.sc (.string r1), V.sc (.int .i64 (i64 (v1 + 1))), V.sc (.int .i64 (i64 ((i64 (v1 + 1)) + 1))), V.sc (.int .i64 (i64 ((i64 ((i64 (v1 + 1)) + 1)) + 1))), V.sc (.int .i64 (i64 ((i64 ((i64 ((i64 (v1 + 1)) + 1)) + 1)) + 1))), V.ow 1, V.sc (.int .i64 r2.1), V.sc (.int .i64 (i64 (r2.1 + 1))), V.ow 2, V.ow 3, V.ow 4])] v2.toNat = some (V.agg [V.sc (.string r1), V.sc (.int .i64 (i64 (v1 + 1))), V.sc (.int .i64 (i64 ((i64 (v1 + 1)) + 1))), V.sc (.int .i64 (i64 ((i64 ((i64 (v1 + 1)) + 1)) + 1))), V.sc (.int .i64 (i64 ((i64 ((i64 ((i64 (v1 + 1)) + 1)) + 1)) + 1))), V.ow 1, V.sc (.int .i64 r2.1), V.sc (.int .i64 (i64 (r2.1 + 1))), V.ow 2, V.ow 3, V.ow 4]),
              v2.toNat < (List.map E54 v3).length,
              Fn Try.prog 37 [(true, E49 x1.Ring.Counts), (false, E3 (i64 ((i64 (r2.1 + 1)) + 1)))] (E3 r3.1) [V.sl true 3 (List.map E3 r3.2)],
              (true || ((E3 r3.1).nv && nvL [V.sl true 3 (List.map E3 r3.2)])) = true,
              (0 : Int) ≤ v2,
              (v2 : Int) < ((List.map E54 v3).length : Int),
              look [(v2.toNat, V.agg [V.sc (.string r1), V.sc (.int .i64 (i64 (v1 + 1))), V.sc (.int .i64 (i64 ((i64 (v1 + 1)) + 1))), V.sc (.int .i64 (i64 ((i64 ((i64 (v1 + 1)) + 1)) + 1))), V.sc (.int .i64 (i64 ((i64 ((i64 ((i64 (v1 + 1)) + 1)) + 1)) + 1))), V.ow 1, V.sc (.int .i64 r2.1), V.sc (.int .i64 (i64 (r2.1 + 1))), V.ow 2, V.ow 3, V.ow 4])] v2.toNat = some (V.agg [V.sc (.string r1), V.sc (.int .i64 (i64 (v1 + 1))), V.sc (.int .i64 (i64 ((i64 (v1 + 1)) + 1))), V.sc (.int .i64 (i64 ((i64 ((i64 (v1 + 1)) + 1)) + 1))), V.sc (.int .i64 (i64 ((i64 ((i64 ((i64 (v1 + 1)) + 1)) + 1)) + 1))), V.ow 1, V.sc (.int .i64 r2.1), V.sc (.int .i64 (i64 (r2.1 + 1))), V.ow 2, V.ow 3, V.ow 4]),
              v2.toNat < (List.map E54 v3).length,
              Fn Try.prog 37 [(true, E49 x1.Ring.Sums), (false, E3 r3.1)] (E3 r4.1) [V.sl true 3 (List.map E3 r4.2)],
              (true || ((E3 r4.1).nv && nvL [V.sl true 3 (List.map E3 r4.2)])) = true,
              (0 : Int) ≤ v2,
              (v2 : Int) < ((List.map E54 v3).length : Int),
              look [(v2.toNat, V.agg [V.sc (.string r1), V.sc (.int .i64 (i64 (v1 + 1))), V.sc (.int .i64 (i64 ((i64 (v1 + 1)) + 1))), V.sc (.int .i64 (i64 ((i64 ((i64 (v1 + 1)) + 1)) + 1))), V.sc (.int .i64 (i64 ((i64 ((i64 ((i64 (v1 + 1)) + 1)) + 1)) + 1))), V.ow 1, V.sc (.int .i64 r2.1), V.sc (.int .i64 (i64 (r2.1 + 1))), V.ow 2, V.ow 3, V.ow 4])] v2.toNat = some (V.agg [V.sc (.string r1), V.sc (.int .i64 (i64 (v1 + 1))), V.sc (.int .i64 (i64 ((i64 (v1 + 1)) + 1))), V.sc (.int .i64 (i64 ((i64 ((i64 (v1 + 1)) + 1)) + 1))), V.sc (.int .i64 (i64 ((i64 ((i64 ((i64 (v1 + 1)) + 1)) + 1)) + 1))), V.ow 1, V.sc (.int .i64 r2.1), V.sc (.int .i64 (i64 (r2.1 + 1))), V.ow 2, V.ow 3, V.ow 4]),
              v2.toNat < (List.map E54 v3).length,
              Fn Try.prog 132 [(true, E52 x1.Slots), (false, E3 r4.1)] (E3 r5.1) [V.sl true 177 (List.map E177 r5.2)],
              (true || ((E3 r5.1).nv && nvL [V.sl true 177 (List.map E177 r5.2)])) = true,
              Blk.row 54 ((List.map E54 v3).set v2.toNat (V.agg [V.sc (.string r1), V.sc (.int .i64 (i64 (v1 + 1))), V.sc (.int .i64 (i64 ((i64 (v1 + 1)) + 1))), V.sc (.int .i64 (i64 ((i64 ((i64 (v1 + 1)) + 1)) + 1))), V.sc (.int .i64 (i64 ((i64 ((i64 ((i64 (v1 + 1)) + 1)) + 1)) + 1))), V.sl true 61 (List.map E61 r2.2), V.sc (.int .i64 r2.1), V.sc (.int .i64 (i64 (r2.1 + 1))), V.sl true 3 (List.map E3 r3.2), V.sl true 3 (List.map E3 r4.2), V.sl true 177 (List.map E177 r5.2)])) [] = Blk.row 54 (List.map E54 (v3.set v2.toNat (Acct.mk r1 (i64 (v1 + 1)) (i64 ((i64 (v1 + 1)) + 1)) (i64 ((i64 ((i64 (v1 + 1)) + 1)) + 1)) (i64 ((i64 ((i64 ((i64 (v1 + 1)) + 1)) + 1)) + 1)) r2.2 (Ring.mk r2.1 (i64 (r2.1 + 1)) r3.2 r4.2) r5.2))) []]) (by kernel_rfl) (cj (len_nm _ _) (cj h1 (cj (laws_markText_ok v1 r1 h2) (cj rfl (cj (od h3) (cj (map_ltN (od h3) h4) (cj rfl (cj (map_get h4) (cj (look_cons_self _ _ _) (cj (map_lt h4) (cj rfl (cj (od h3) (cj (map_ltN (od h3) h4) (cj (look_cons_self _ _ _) (cj (map_lt h4) (cj rfl (cj (od h3) (cj (map_ltN (od h3) h4) (cj (look_cons_self _ _ _) (cj (map_lt h4) (cj rfl (cj (od h3) (cj (map_ltN (od h3) h4) (cj (look_cons_self _ _ _) (cj (map_lt h4) (cj rfl (cj (od h3) (cj (map_ltN (od h3) h4) (cj (look_cons_self _ _ _) (cj (map_lt h4) (cj rfl (cj (od h3) (cj (map_ltN (od h3) h4) (cj (look_cons_self _ _ _) (cj (map_lt h4) (cj (laws_markHoldS_ok x1.Holds (i64 ((i64 ((i64 ((i64 ((i64 (v1 + 1)) + 1)) + 1)) + 1)) + 1)) r2 h5) (cj rfl (cj (od h3) (cj (map_ltN (od h3) h4) (cj (look_cons_self _ _ _) (cj (map_lt h4) (cj rfl (cj (od h3) (cj (map_ltN (od h3) h4) (cj (look_cons_self _ _ _) (cj (map_lt h4) (cj rfl (cj (od h3) (cj (map_ltN (od h3) h4) (cj (look_cons_self _ _ _) (cj (map_lt h4) (cj (laws_markIntS_ok x1.Ring.Counts (i64 ((i64 (r2.1 + 1)) + 1)) r3 h6) (cj rfl (cj (od h3) (cj (map_ltN (od h3) h4) (cj (look_cons_self _ _ _) (cj (map_lt h4) (cj (laws_markIntS_ok x1.Ring.Sums r3.1 r4 h7) (cj rfl (cj (od h3) (cj (map_ltN (od h3) h4) (cj (look_cons_self _ _ _) (cj (map_lt h4) (cj (laws_markSlotS_ok x1.Slots r4.1 r5 h8) (cj rfl (cj1 (nb_set E54 _ _ (Acct.mk r1 (i64 (v1 + 1)) (i64 ((i64 (v1 + 1)) + 1)) (i64 ((i64 ((i64 (v1 + 1)) + 1)) + 1)) (i64 ((i64 ((i64 ((i64 (v1 + 1)) + 1)) + 1)) + 1)) r2.2 (Ring.mk r2.1 (i64 (r2.1 + 1)) r3.2 r4.2) r5.2)))))))))))))))))))))))))))))))))))))))))))))))))))))))))))))))))))) (laws_markAcctS_l0_ok n r5.1 (i64 (v2 + 1)) (v3.set v2.toNat (Acct.mk r1 (i64 (v1 + 1)) (i64 ((i64 (v1 + 1)) + 1)) (i64 ((i64 ((i64 (v1 + 1)) + 1)) + 1)) (i64 ((i64 ((i64 ((i64 (v1 + 1)) + 1)) + 1)) + 1)) r2.2 (Ring.mk r2.1 (i64 (r2.1 + 1)) r3.2 r4.2) r5.2))))))))) (fun h3 =>
        Pn.none))) (fun h1 =>
      Pn.some (LpO.out [.wait 3, .nm 8 (V.sc (.int .i64 (v3.length : Int))), .bit false, .mask [1], .ren [0]] (p := [V.sc (.int .i64 ((List.map E54 v3).length : Int)) = V.sc (.int .i64 (v3.length : Int)),
       (decide (v2 < (v3.length : Int))) = false]) (by kernel_rfl) (show X.out 0 ≠ X.go from nofun) (cj (len_nm _ _) (cj1 h1))))
def laws_markAcctS (o : List Acct) (o_ : Int) : Option (Int × (List Acct)) :=
 (laws_markAcctS_l0 FUEL o_ 0 o).bind fun r6 =>
 some (r6.1, r6.2)
theorem laws_markAcctS_ok (o : List Acct) (o_ : Int) : Pn (fun y => Fn Try.prog 73 [(true, E39 o), (false, E3 o_)] (E3 y.1) [V.sl true 54 (List.map E54 y.2)]) (laws_markAcctS o o_) := by
  unfold laws_markAcctS
  exact
   Pn.bind (fun r6 h9 =>
    Pn.some (Fn.of [.wait 3, .mask [0, 1, 5], .ren [0], .loop (X.out 0) (st 95 [(1, V.sc (.int .i64 r6.1))] [Blk.row 54 (List.map E54 r6.2) []] [some 0])] (p := [Loop Try.prog (sub (codeOf Try.prog 73) [1, 0, 1, 0, 0]) (st 95 [(0, V.ow 0), (1, V.sc (.int .i64 o_)), (5, V.sc (.int .i64 0))] [Blk.row 54 (List.map E54 o) []] [some 0]) (X.out 0) (st 95 [(1, V.sc (.int .i64 r6.1))] [Blk.row 54 (List.map E54 r6.2) []] [some 0])]) (by kernel_rfl) (cj1 (laws_markAcctS_l0_ok FUEL o_ 0 o r6 h9))))
def laws_markStripeS_l0  : Nat → Int → Int → (List Stripe) → Option (Int × (List Stripe))
  | 0, _, _, _ => none
  | n + 1, v1, v2, v3 =>
   if (decide (v2 < (v3.length : Int))) = true then
    if (decide (0 ≤ v2)) = true then
     (v3[v2.toNat]?).bind fun x1 =>
     (laws_markAcctS x1.Accts (i64 (v1 + 1))).bind fun r1 =>
     laws_markStripeS_l0 n r1.1 (i64 (v2 + 1)) (v3.set v2.toNat (Stripe.mk v1 r1.2))
    else none
   else
    some (v1, v3)
theorem laws_markStripeS_l0_ok  : ∀ (n : Nat) (v1 : Int) (v2 : Int) (v3 : List Stripe), Pn (LpO Try.prog (sub (codeOf Try.prog 47) [1, 0, 1, 0, 0]) (st 27 [(0, V.ow 0), (1, V.sc (.int .i64 v1)), (5, V.sc (.int .i64 v2))] [Blk.row 124 (List.map E124 v3) []] [some 0]) (fun (y : Int × (List Stripe)) => (X.out 0, st 27 [(1, V.sc (.int .i64 y.1))] [Blk.row 124 (List.map E124 y.2) []] [some 0]))) (laws_markStripeS_l0 n v1 v2 v3)
  | 0, _, _, _ => Pn.none
  | n + 1, v1, v2, v3 => by
    unfold laws_markStripeS_l0
    exact
     Pn.ite (fun h1 =>
      Pn.ite (fun h2 =>
       Pn.bind (fun x1 h3 =>
        Pn.bind (fun r1 h4 =>
         LpO.go [.wait 3, .nm 8 (V.sc (.int .i64 (v3.length : Int))), .bit true, .wait 3, .foc 0 v2.toNat (E124 x1), .fo 0, .fo 0, .call [true, false] (E3 r1.1) [V.sl true 54 (List.map E54 r1.2)], .wait 5, .shut 0, .nb 0 (.row 124 (List.map E124 (v3.set v2.toNat (Stripe.mk v1 r1.2))) []), .mask [0, 1, 5], .ren [0]] (p := [V.sc (.int .i64 ((List.map E124 v3).length : Int)) = V.sc (.int .i64 (v3.length : Int)),
          (decide (v2 < (v3.length : Int))) = true,
          (0 : Int) ≤ v2,
          (v2 : Int) < ((List.map E124 v3).length : Int),
          look [] v2.toNat = none,
          (List.map E124 v3)[v2.toNat]? = some (E124 x1),
          look [(v2.toNat, V.agg [V.sc (.int .i64 x1.Owner), V.ow 1])] v2.toNat = some (V.agg [V.sc (.int .i64 x1.Owner), V.ow 1]),
          v2.toNat < (List.map E124 v3).length,
          v2.toNat = v2.toNat,
          (0 : Int) ≤ v2,
          (v2 : Int) < ((List.map E124 v3).length : Int),
          look [(v2.toNat, V.agg [V.sc (.int .i64 v1), V.ow 1])] v2.toNat = some (V.agg [V.sc (.int .i64 v1), V.ow 1]),
          v2.toNat < (List.map E124 v3).length,
          Fn Try.prog 73 [(true, E39 x1.Accts), (false, E3 (i64 (v1 + 1)))] (E3 r1.1) [V.sl true 54 (List.map E54 r1.2)],
          (true || ((E3 r1.1).nv && nvL [V.sl true 54 (List.map E54 r1.2)])) = true,
          Blk.row 124 ((List.map E124 v3).set v2.toNat (V.agg [V.sc (.int .i64 v1), V.sl true 54 (List.map E54 r1.2)])) [] = Blk.row 124 (List.map E124 (v3.set v2.toNat (Stripe.mk v1 r1.2))) []]) (by kernel_rfl) (cj (len_nm _ _) (cj h1 (cj (od h2) (cj (map_ltN (od h2) h3) (cj rfl (cj (map_get h3) (cj (look_cons_self _ _ _) (cj (map_lt h3) (cj rfl (cj (od h2) (cj (map_ltN (od h2) h3) (cj (look_cons_self _ _ _) (cj (map_lt h3) (cj (laws_markAcctS_ok x1.Accts (i64 (v1 + 1)) r1 h4) (cj rfl (cj1 (nb_set E124 _ _ (Stripe.mk v1 r1.2)))))))))))))))))) (laws_markStripeS_l0_ok n r1.1 (i64 (v2 + 1)) (v3.set v2.toNat (Stripe.mk v1 r1.2)))))) (fun h2 =>
       Pn.none)) (fun h1 =>
      Pn.some (LpO.out [.wait 3, .nm 8 (V.sc (.int .i64 (v3.length : Int))), .bit false, .mask [1], .ren [0]] (p := [V.sc (.int .i64 ((List.map E124 v3).length : Int)) = V.sc (.int .i64 (v3.length : Int)),
       (decide (v2 < (v3.length : Int))) = false]) (by kernel_rfl) (show X.out 0 ≠ X.go from nofun) (cj (len_nm _ _) (cj1 h1))))
def laws_markStripeS (a : List Stripe) (k : Int) : Option (Int × (List Stripe)) :=
 (laws_markStripeS_l0 FUEL k 0 a).bind fun r2 =>
 some (r2.1, r2.2)
theorem laws_markStripeS_ok (a : List Stripe) (k : Int) : Pn (fun y => Fn Try.prog 47 [(true, E28 a), (false, E3 k)] (E3 y.1) [V.sl true 124 (List.map E124 y.2)]) (laws_markStripeS a k) := by
  unfold laws_markStripeS
  exact
   Pn.bind (fun r2 h5 =>
    Pn.some (Fn.of [.wait 3, .mask [0, 1, 5], .ren [0], .loop (X.out 0) (st 27 [(1, V.sc (.int .i64 r2.1))] [Blk.row 124 (List.map E124 r2.2) []] [some 0])] (p := [Loop Try.prog (sub (codeOf Try.prog 47) [1, 0, 1, 0, 0]) (st 27 [(0, V.ow 0), (1, V.sc (.int .i64 k)), (5, V.sc (.int .i64 0))] [Blk.row 124 (List.map E124 a) []] [some 0]) (X.out 0) (st 27 [(1, V.sc (.int .i64 r2.1))] [Blk.row 124 (List.map E124 r2.2) []] [some 0])]) (by kernel_rfl) (cj1 (laws_markStripeS_l0_ok FUEL k 0 a r2 h5))))
def laws_markTaskS_l0  : Nat → Int → Int → (List Task) → Option (Int × (List Task))
  | 0, _, _, _ => none
  | n + 1, v1, v2, v3 =>
   if (decide (v2 < (v3.length : Int))) = true then
    if (decide (0 ≤ v2)) = true then
     (v3[v2.toNat]?).bind fun x1 =>
     (laws_markByteS x1.Data v1).bind fun r1 =>
     (laws_markIntS x1.Set (i64 (r1.1 + 1))).bind fun r2 =>
     (laws_markByteS x1.Reply (i64 ((i64 ((i64 ((i64 ((i64 (r2.1 + 1)) + 1)) + 1)) + 1)) + 1))).bind fun r3 =>
     laws_markTaskS_l0 n r3.1 (i64 (v2 + 1)) (v3.set v2.toNat (Task.mk r1.2 r1.1 r2.2 r2.1 (i64 (r2.1 + 1)) (i64 ((i64 (r2.1 + 1)) + 1)) (i64 ((i64 ((i64 (r2.1 + 1)) + 1)) + 1)) (i64 ((i64 ((i64 ((i64 (r2.1 + 1)) + 1)) + 1)) + 1)) r3.2))
    else none
   else
    some (v1, v3)
theorem laws_markTaskS_l0_ok  : ∀ (n : Nat) (v1 : Int) (v2 : Int) (v3 : List Task), Pn (LpO Try.prog (sub (codeOf Try.prog 95) [1, 0, 1, 0, 0]) (st 76 [(0, V.ow 0), (1, V.sc (.int .i64 v1)), (5, V.sc (.int .i64 v2))] [Blk.row 92 (List.map E92 v3) []] [some 0]) (fun (y : Int × (List Task)) => (X.out 0, st 76 [(1, V.sc (.int .i64 y.1))] [Blk.row 92 (List.map E92 y.2) []] [some 0]))) (laws_markTaskS_l0 n v1 v2 v3)
  | 0, _, _, _ => Pn.none
  | n + 1, v1, v2, v3 => by
    unfold laws_markTaskS_l0
    exact
     Pn.ite (fun h1 =>
      Pn.ite (fun h2 =>
       Pn.bind (fun x1 h3 =>
        Pn.bind (fun r1 h4 =>
         Pn.bind (fun r2 h5 =>
          Pn.bind (fun r3 h6 =>
           LpO.go [.wait 3, .nm 8 (V.sc (.int .i64 (v3.length : Int))), .bit true, .wait 2, .foc 0 v2.toNat (E92 x1), .fo 0, .call [true, false] (E3 r1.1) [V.sl true 5 (List.map E5 r1.2)], .fo 0, .fo 0, .call [true, false] (E3 r2.1) [V.sl true 3 (List.map E3 r2.2)], .fo 0, .fo 0, .fo 0, .fo 0, .fo 0, .fo 0, .call [true, false] (E3 r3.1) [V.sl true 5 (List.map E5 r3.2)], .wait 5, .shut 0, .nb 0 (.row 92 (List.map E92 (v3.set v2.toNat (Task.mk r1.2 r1.1 r2.2 r2.1 (i64 (r2.1 + 1)) (i64 ((i64 (r2.1 + 1)) + 1)) (i64 ((i64 ((i64 (r2.1 + 1)) + 1)) + 1)) (i64 ((i64 ((i64 ((i64 (r2.1 + 1)) + 1)) + 1)) + 1)) r3.2))) []), .mask [0, 1, 5], .ren [0]] (p := [V.sc (.int .i64 ((List.map E92 v3).length : Int)) = V.sc (.int .i64 (v3.length : Int)),
            (decide (v2 < (v3.length : Int))) = true,
            (0 : Int) ≤ v2,
            (v2 : Int) < ((List.map E92 v3).length : Int),
            look [] v2.toNat = none,
            (List.map E92 v3)[v2.toNat]? = some (E92 x1),
            look [(v2.toNat, V.agg [V.ow 1, V.sc (.int .i64 x1.Pc), V.ow 2, V.sc (.int .i64 x1.Held), V.sc (.int .i64 x1.Inv), V.sc (.int .i64 x1.Lin), V.sc (.int .i64 x1.Res), V.sc (.int .i64 x1.At), V.ow 3])] v2.toNat = some (V.agg [V.ow 1, V.sc (.int .i64 x1.Pc), V.ow 2, V.sc (.int .i64 x1.Held), V.sc (.int .i64 x1.Inv), V.sc (.int .i64 x1.Lin), V.sc (.int .i64 x1.Res), V.sc (.int .i64 x1.At), V.ow 3]),
            v2.toNat < (List.map E92 v3).length,
            Fn Try.prog 160 [(true, E47 x1.Data), (false, E3 v1)] (E3 r1.1) [V.sl true 5 (List.map E5 r1.2)],
            (true || ((E3 r1.1).nv && nvL [V.sl true 5 (List.map E5 r1.2)])) = true,
            (0 : Int) ≤ v2,
            (v2 : Int) < ((List.map E92 v3).length : Int),
            look [(v2.toNat, V.agg [V.ow 1, V.sc (.int .i64 x1.Pc), V.ow 2, V.sc (.int .i64 x1.Held), V.sc (.int .i64 x1.Inv), V.sc (.int .i64 x1.Lin), V.sc (.int .i64 x1.Res), V.sc (.int .i64 x1.At), V.ow 3])] v2.toNat = some (V.agg [V.ow 1, V.sc (.int .i64 x1.Pc), V.ow 2, V.sc (.int .i64 x1.Held), V.sc (.int .i64 x1.Inv), V.sc (.int .i64 x1.Lin), V.sc (.int .i64 x1.Res), V.sc (.int .i64 x1.At), V.ow 3]),
            v2.toNat < (List.map E92 v3).length,
            v2.toNat = v2.toNat,
            (0 : Int) ≤ v2,
            (v2 : Int) < ((List.map E92 v3).length : Int),
            look [(v2.toNat, V.agg [V.ow 1, V.sc (.int .i64 r1.1), V.ow 2, V.sc (.int .i64 x1.Held), V.sc (.int .i64 x1.Inv), V.sc (.int .i64 x1.Lin), V.sc (.int .i64 x1.Res), V.sc (.int .i64 x1.At), V.ow 3])] v2.toNat = some (V.agg [V.ow 1, V.sc (.int .i64 r1.1), V.ow 2, V.sc (.int .i64 x1.Held), V.sc (.int .i64 x1.Inv), V.sc (.int .i64 x1.Lin), V.sc (.int .i64 x1.Res), V.sc (.int .i64 x1.At), V.ow 3]),
            v2.toNat < (List.map E92 v3).length,
            Fn Try.prog 37 [(true, E49 x1.Set), (false, E3 (i64 (r1.1 + 1)))] (E3 r2.1) [V.sl true 3 (List.map E3 r2.2)],
            (true || ((E3 r2.1).nv && nvL [V.sl true 3 (List.map E3 r2.2)])) = true,
            (0 : Int) ≤ v2,
            (v2 : Int) < ((List.map E92 v3).length : Int),
            look [(v2.toNat, V.agg [V.ow 1, V.sc (.int .i64 r1.1), V.ow 2, V.sc (.int .i64 x1.Held), V.sc (.int .i64 x1.Inv), V.sc (.int .i64 x1.Lin), V.sc (.int .i64 x1.Res), V.sc (.int .i64 x1.At), V.ow 3])] v2.toNat = some (V.agg [V.ow 1, V.sc (.int .i64 r1.1), V.ow 2, V.sc (.int .i64 x1.Held), V.sc (.int .i64 x1.Inv), V.sc (.int .i64 x1.Lin), V.sc (.int .i64 x1.Res), V.sc (.int .i64 x1.At), V.ow 3]),
            v2.toNat < (List.map E92 v3).length,
            v2.toNat = v2.toNat,
            (0 : Int) ≤ v2,
            (v2 : Int) < ((List.map E92 v3).length : Int),
            look [(v2.toNat, V.agg [V.ow 1, V.sc (.int .i64 r1.1), V.ow 2, V.sc (.int .i64 r2.1), V.sc (.int .i64 x1.Inv), V.sc (.int .i64 x1.Lin), V.sc (.int .i64 x1.Res), V.sc (.int .i64 x1.At), V.ow 3])] v2.toNat = some (V.agg [V.ow 1, V.sc (.int .i64 r1.1), V.ow 2, V.sc (.int .i64 r2.1), V.sc (.int .i64 x1.Inv), V.sc (.int .i64 x1.Lin), V.sc (.int .i64 x1.Res), V.sc (.int .i64 x1.At), V.ow 3]),
            v2.toNat < (List.map E92 v3).length,
            v2.toNat = v2.toNat,
            (0 : Int) ≤ v2,
            (v2 : Int) < ((List.map E92 v3).length : Int),
            look [(v2.toNat, V.agg [V.ow 1, V.sc (.int .i64 r1.1), V.ow 2, V.sc (.int .i64 r2.1), V.sc (.int .i64 (i64 (r2.1 + 1))), V.sc (.int .i64 x1.Lin), V.sc (.int .i64 x1.Res), V.sc (.int .i64 x1.At), V.ow 3])] v2.toNat = some (V.agg [V.ow 1, V.sc (.int .i64 r1.1), V.ow 2, V.sc (.int .i64 r2.1), V.sc (.int .i64 (i64 (r2.1 + 1))), V.sc (.int .i64 x1.Lin), V.sc (.int .i64 x1.Res), V.sc (.int .i64 x1.At), V.ow 3]),
            v2.toNat < (List.map E92 v3).length,
            v2.toNat = v2.toNat,
            (0 : Int) ≤ v2,
            (v2 : Int) < ((List.map E92 v3).length : Int),
            look [(v2.toNat, V.agg [V.ow 1, V.sc (.int .i64 r1.1), V.ow 2, V.sc (.int .i64 r2.1), V.sc (.int .i64 (i64 (r2.1 + 1))), V.sc (.int .i64 (i64 ((i64 (r2.1 + 1)) + 1))), V.sc (.int .i64 x1.Res), V.sc (.int .i64 x1.At), V.ow 3])] v2.toNat = some (V.agg [V.ow 1, V.sc (.int .i64 r1.1), V.ow 2, V.sc (.int .i64 r2.1), V.sc (.int .i64 (i64 (r2.1 + 1))), V.sc (.int .i64 (i64 ((i64 (r2.1 + 1)) + 1))), V.sc (.int .i64 x1.Res), V.sc (.int .i64 x1.At), V.ow 3]),
            v2.toNat < (List.map E92 v3).length,
            v2.toNat = v2.toNat,
            (0 : Int) ≤ v2,
            (v2 : Int) < ((List.map E92 v3).length : Int),
            look [(v2.toNat, V.agg [V.ow 1, V.sc (.int .i64 r1.1), V.ow 2, V.sc (.int .i64 r2.1), V.sc (.int .i64 (i64 (r2.1 + 1))), V.sc (.int .i64 (i64 ((i64 (r2.1 + 1)) + 1))), V.sc (.int .i64 (i64 ((i64 ((i64 (r2.1 + 1)) + 1)) + 1))), V.sc (.int .i64 x1.At), V.ow 3])] v2.toNat = some (V.agg [V.ow 1, V.sc (.int .i64 r1.1), V.ow 2, V.sc (.int .i64 r2.1), V.sc (.int .i64 (i64 (r2.1 + 1))), V.sc (.int .i64 (i64 ((i64 (r2.1 + 1)) + 1))), V.sc (.int .i64 (i64 ((i64 ((i64 (r2.1 + 1)) + 1)) + 1))), V.sc (.int .i64 x1.At), V.ow 3]),
            v2.toNat < (List.map E92 v3).length,
            v2.toNat = v2.toNat,
            (0 : Int) ≤ v2,
            (v2 : Int) < ((List.map E92 v3).length : Int),
            look [(v2.toNat, V.agg [V.ow 1, V.sc (.int .i64 r1.1), V.ow 2, V.sc (.int .i64 r2.1), V.sc (.int .i64 (i64 (r2.1 + 1))), V.sc (.int .i64 (i64 ((i64 (r2.1 + 1)) + 1))), V.sc (.int .i64 (i64 ((i64 ((i64 (r2.1 + 1)) + 1)) + 1))), V.sc (.int .i64 (i64 ((i64 ((i64 ((i64 (r2.1 + 1)) + 1)) + 1)) + 1))), V.ow 3])] v2.toNat = some (V.agg [V.ow 1, V.sc (.int .i64 r1.1), V.ow 2, V.sc (.int .i64 r2.1), V.sc (.int .i64 (i64 (r2.1 + 1))), V.sc (.int .i64 (i64 ((i64 (r2.1 + 1)) + 1))), V.sc (.int .i64 (i64 ((i64 ((i64 (r2.1 + 1)) + 1)) + 1))), V.sc (.int .i64 (i64 ((i64 ((i64 ((i64 (r2.1 + 1)) + 1)) + 1)) + 1))), V.ow 3]),
            v2.toNat < (List.map E92 v3).length,
            Fn Try.prog 160 [(true, E47 x1.Reply), (false, E3 (i64 ((i64 ((i64 ((i64 ((i64 (r2.1 + 1)) + 1)) + 1)) + 1)) + 1)))] (E3 r3.1) [V.sl true 5 (List.map E5 r3.2)],
            (true || ((E3 r3.1).nv && nvL [V.sl true 5 (List.map E5 r3.2)])) = true,
            Blk.row 92 ((List.map E92 v3).set v2.toNat (V.agg [V.sl true 5 (List.map E5 r1.2), V.sc (.int .i64 r1.1), V.sl true 3 (List.map E3 r2.2), V.sc (.int .i64 r2.1), V.sc (.int .i64 (i64 (r2.1 + 1))), V.sc (.int .i64 (i64 ((i64 (r2.1 + 1)) + 1))), V.sc (.int .i64 (i64 ((i64 ((i64 (r2.1 + 1)) + 1)) + 1))), V.sc (.int .i64 (i64 ((i64 ((i64 ((i64 (r2.1 + 1)) + 1)) + 1)) + 1))), V.sl true 5 (List.map E5 r3.2)])) [] = Blk.row 92 (List.map E92 (v3.set v2.toNat (Task.mk r1.2 r1.1 r2.2 r2.1 (i64 (r2.1 + 1)) (i64 ((i64 (r2.1 + 1)) + 1)) (i64 ((i64 ((i64 (r2.1 + 1)) + 1)) + 1)) (i64 ((i64 ((i64 ((i64 (r2.1 + 1)) + 1)) + 1)) + 1)) r3.2))) []]) (by kernel_rfl) (cj (len_nm _ _) (cj h1 (cj (od h2) (cj (map_ltN (od h2) h3) (cj rfl (cj (map_get h3) (cj (look_cons_self _ _ _) (cj (map_lt h3) (cj (laws_markByteS_ok x1.Data v1 r1 h4) (cj rfl (cj (od h2) (cj (map_ltN (od h2) h3) (cj (look_cons_self _ _ _) (cj (map_lt h3) (cj rfl (cj (od h2) (cj (map_ltN (od h2) h3) (cj (look_cons_self _ _ _) (cj (map_lt h3) (cj (laws_markIntS_ok x1.Set (i64 (r1.1 + 1)) r2 h5) (cj rfl (cj (od h2) (cj (map_ltN (od h2) h3) (cj (look_cons_self _ _ _) (cj (map_lt h3) (cj rfl (cj (od h2) (cj (map_ltN (od h2) h3) (cj (look_cons_self _ _ _) (cj (map_lt h3) (cj rfl (cj (od h2) (cj (map_ltN (od h2) h3) (cj (look_cons_self _ _ _) (cj (map_lt h3) (cj rfl (cj (od h2) (cj (map_ltN (od h2) h3) (cj (look_cons_self _ _ _) (cj (map_lt h3) (cj rfl (cj (od h2) (cj (map_ltN (od h2) h3) (cj (look_cons_self _ _ _) (cj (map_lt h3) (cj rfl (cj (od h2) (cj (map_ltN (od h2) h3) (cj (look_cons_self _ _ _) (cj (map_lt h3) (cj (laws_markByteS_ok x1.Reply (i64 ((i64 ((i64 ((i64 ((i64 (r2.1 + 1)) + 1)) + 1)) + 1)) + 1)) r3 h6) (cj rfl (cj1 (nb_set E92 _ _ (Task.mk r1.2 r1.1 r2.2 r2.1 (i64 (r2.1 + 1)) (i64 ((i64 (r2.1 + 1)) + 1)) (i64 ((i64 ((i64 (r2.1 + 1)) + 1)) + 1)) (i64 ((i64 ((i64 ((i64 (r2.1 + 1)) + 1)) + 1)) + 1)) r3.2))))))))))))))))))))))))))))))))))))))))))))))))))))))) (laws_markTaskS_l0_ok n r3.1 (i64 (v2 + 1)) (v3.set v2.toNat (Task.mk r1.2 r1.1 r2.2 r2.1 (i64 (r2.1 + 1)) (i64 ((i64 (r2.1 + 1)) + 1)) (i64 ((i64 ((i64 (r2.1 + 1)) + 1)) + 1)) (i64 ((i64 ((i64 ((i64 (r2.1 + 1)) + 1)) + 1)) + 1)) r3.2)))))))) (fun h2 =>
       Pn.none)) (fun h1 =>
      Pn.some (LpO.out [.wait 3, .nm 8 (V.sc (.int .i64 (v3.length : Int))), .bit false, .mask [1], .ren [0]] (p := [V.sc (.int .i64 ((List.map E92 v3).length : Int)) = V.sc (.int .i64 (v3.length : Int)),
       (decide (v2 < (v3.length : Int))) = false]) (by kernel_rfl) (show X.out 0 ≠ X.go from nofun) (cj (len_nm _ _) (cj1 h1))))
def laws_markTaskS (o : List Task) (o_ : Int) : Option (Int × (List Task)) :=
 (laws_markTaskS_l0 FUEL o_ 0 o).bind fun r4 =>
 some (r4.1, r4.2)
theorem laws_markTaskS_ok (o : List Task) (o_ : Int) : Pn (fun y => Fn Try.prog 95 [(true, E29 o), (false, E3 o_)] (E3 y.1) [V.sl true 92 (List.map E92 y.2)]) (laws_markTaskS o o_) := by
  unfold laws_markTaskS
  exact
   Pn.bind (fun r4 h7 =>
    Pn.some (Fn.of [.wait 3, .mask [0, 1, 5], .ren [0], .loop (X.out 0) (st 76 [(1, V.sc (.int .i64 r4.1))] [Blk.row 92 (List.map E92 r4.2) []] [some 0])] (p := [Loop Try.prog (sub (codeOf Try.prog 95) [1, 0, 1, 0, 0]) (st 76 [(0, V.ow 0), (1, V.sc (.int .i64 o_)), (5, V.sc (.int .i64 0))] [Blk.row 92 (List.map E92 o) []] [some 0]) (X.out 0) (st 76 [(1, V.sc (.int .i64 r4.1))] [Blk.row 92 (List.map E92 r4.2) []] [some 0])]) (by kernel_rfl) (cj1 (laws_markTaskS_l0_ok FUEL o_ 0 o r4 h7))))
def laws_markWorld (a : World) (k : Int) : Option (Int × (List Stripe) × (List Task)) :=
 (laws_markStripeS a.Stripes k).bind fun r1 =>
 (laws_markTaskS a.Tasks r1.1).bind fun r2 =>
 some (r2.1, r1.2, r2.2)
theorem laws_markWorld_ok (a : World) (k : Int) : Pn (fun y => Fn Try.prog 36 [(true, E31 a), (false, E3 k)] (E3 y.1) [V.sl true 124 (List.map E124 y.2.1), V.sl true 92 (List.map E92 y.2.2)]) (laws_markWorld a k) := by
  unfold laws_markWorld
  exact
   Pn.bind (fun r1 h1 =>
    Pn.bind (fun r2 h2 =>
     Pn.some (Fn.of [.call [true, false] (E3 r1.1) [V.sl true 124 (List.map E124 r1.2)], .call [true, false] (E3 r2.1) [V.sl true 92 (List.map E92 r2.2)]] (p := [Fn Try.prog 47 [(true, E28 a.Stripes), (false, E3 k)] (E3 r1.1) [V.sl true 124 (List.map E124 r1.2)],
      (true || ((E3 r1.1).nv && nvL [V.sl true 124 (List.map E124 r1.2)])) = true,
      Fn Try.prog 95 [(true, E29 a.Tasks), (false, E3 r1.1)] (E3 r2.1) [V.sl true 92 (List.map E92 r2.2)],
      (true || ((E3 r2.1).nv && nvL [V.sl true 92 (List.map E92 r2.2)])) = true]) (by kernel_rfl) (cj (laws_markStripeS_ok a.Stripes k r1 h1) (cj rfl (cj (laws_markTaskS_ok a.Tasks r1.1 r2 h2) (cj1 rfl)))))))
def laws_heldIntS_l0 (a : List Int) : List Int → Int → Option (Lo Int Unit)
  | [], v1 =>
   some (.out v1)
  | x1 :: t1, v1 =>
   if (x1 != v1) = true then
    some (.ret ())
   else
    laws_heldIntS_l0 a t1 (i64 (v1 + 1))
theorem laws_heldIntS_l0_ok (a : List Int) (h2 : capOk a.length = true) : ∀ (t1 p1 : List Int) (_ : a = p1 ++ t1) (v1 : Int), Pn (LpO Try.prog (sub (codeOf Try.prog 38) [1, 0, 1, 0, 0]) (st 21 [(0, V.sl false 3 (List.map E3 a)), (1, V.sc (.int .i64 v1)), (5, V.sc (.int .i64 (p1.length : Int)))] [] []) (fun (y : Lo Int Unit) => Lo.elim y (fun s => (X.out 0, st 21 [(1, V.sc (.int .i64 s))] [] [])) (fun s => (X.ret, st 21 [(4, V.sc (.int .i64 (-1)))] [] [])))) (laws_heldIntS_l0 a t1 v1)
  | [], p1, h1, v1 => by
    unfold laws_heldIntS_l0
    exact
     Pn.some (LpO.out [.wait 3, .nm 8 (V.sc (.int .i64 (a.length : Int))), .bit false, .mask [1], .ren []] (p := [V.sc (.int .i64 ((List.map E3 a).length : Int)) = V.sc (.int .i64 (a.length : Int)),
      (decide ((p1.length : Int) < (a.length : Int))) = false]) (by kernel_rfl) (show X.out 0 ≠ X.go from nofun) (cj (len_nm _ _) (cj1 (rng_end h1))))
  | x1 :: t1, p1, h1, v1 => by
    unfold laws_heldIntS_l0
    exact
     Pn.ite (fun h3 =>
      Pn.some (LpO.out [.wait 3, .nm 8 (V.sc (.int .i64 (a.length : Int))), .bit true, .el (E3 x1), .bit true, .wait 1, .mask [4], .ren []] (p := [V.sc (.int .i64 ((List.map E3 a).length : Int)) = V.sc (.int .i64 (a.length : Int)),
       (decide ((p1.length : Int) < (a.length : Int))) = true,
       (0 : Int) ≤ (p1.length : Int),
       (List.map E3 a)[(p1.length : Int).toNat]? = some (E3 x1),
       (x1 != v1) = true]) (by kernel_rfl) (show X.ret ≠ X.go from nofun) (cj (len_nm _ _) (cj (rng_lt h1) (cj (by omega) (cj (rng_get _ h1) (cj1 h3))))))) (fun h3 =>
      LpO.go [.wait 3, .nm 8 (V.sc (.int .i64 (a.length : Int))), .bit true, .el (E3 x1), .bit false, .wait 6, .mask [0, 1, 5], .ren [], .nm 5 (V.sc (.int .i64 ((p1 ++ [x1]).length : Int)))] (p := [V.sc (.int .i64 ((List.map E3 a).length : Int)) = V.sc (.int .i64 (a.length : Int)),
       (decide ((p1.length : Int) < (a.length : Int))) = true,
       (0 : Int) ≤ (p1.length : Int),
       (List.map E3 a)[(p1.length : Int).toNat]? = some (E3 x1),
       (x1 != v1) = false,
       V.sc (.int .i64 (i64 ((p1.length : Int) + 1))) = V.sc (.int .i64 ((p1 ++ [x1]).length : Int))]) (by kernel_rfl) (cj (len_nm _ _) (cj (rng_lt h1) (cj (by omega) (cj (rng_get _ h1) (cj h3 (cj1 (rng_next h1 h2))))))) (laws_heldIntS_l0_ok a h2 t1 (p1 ++ [x1]) (rng_step h1) (i64 (v1 + 1))))
def laws_heldIntS (a : List Int) (k : Int) : Option (Int) :=
 if (capOk a.length) = true then
  (laws_heldIntS_l0 a a k).bind fun r1 =>
  Lo.elim r1 (fun s1 =>
   some s1) (fun s2 =>
   some (-1))
 else none
theorem laws_heldIntS_ok (a : List Int) (k : Int) : Pn (fun y => Fn Try.prog 38 [(false, E49 a), (false, E3 k)] (E3 y) []) (laws_heldIntS a k) := by
  unfold laws_heldIntS
  exact
   Pn.ite (fun h4 =>
    Pn.bind (fun r1 h5 =>
     Pn.lo (fun s1 h6 =>
      Pn.some (Fn.of [.wait 3, .mask [0, 1, 5], .ren [], .loop (X.out 0) (st 21 [(1, V.sc (.int .i64 s1))] [] [])] (p := [Loop Try.prog (sub (codeOf Try.prog 38) [1, 0, 1, 0, 0]) (st 21 [(0, V.sl false 3 (List.map E3 a)), (1, V.sc (.int .i64 k)), (5, V.sc (.int .i64 0))] [] []) (X.out 0) (st 21 [(1, V.sc (.int .i64 s1))] [] [])]) (by kernel_rfl) (cj1 ((laws_heldIntS_l0_ok a h4 a [] rfl k r1 h5).at h6)))) (fun s2 h7 =>
      Pn.some (Fn.of [.wait 3, .mask [0, 1, 5], .ren [], .loop (X.ret) (st 21 [(4, V.sc (.int .i64 (-1)))] [] [])] (p := [Loop Try.prog (sub (codeOf Try.prog 38) [1, 0, 1, 0, 0]) (st 21 [(0, V.sl false 3 (List.map E3 a)), (1, V.sc (.int .i64 k)), (5, V.sc (.int .i64 0))] [] []) (X.ret) (st 21 [(4, V.sc (.int .i64 (-1)))] [] [])]) (by kernel_rfl) (cj1 ((laws_heldIntS_l0_ok a h4 a [] rfl k r1 h5).at h7)))))) (fun h4 =>
    Pn.none)
def laws_FnExactLoads (o : World) : Option (Bool) :=
 (laws_szWorld o 1048576).bind fun r1 =>
 if (decide (r1 < 0)) = true then
  some true
 else
  (laws_toWorld o).bind fun r2 =>
  (spec_Loads r2).bind fun r3 =>
  (laws_toWorld o).bind fun r4 =>
  (impl_Loads r4).bind fun r5 =>
  (laws_eqIntS r5 r3).bind fun r6 =>
  if r6 = true then
   (laws_toWorld o).bind fun r7 =>
   (laws_eqWorld r4 r7).bind fun r8 =>
   if r8 = true then
    (laws_markWorld (World.mk r4.Stripes r4.Now r4.Step r4.Tasks) 1).bind fun r9 =>
    if (decide (r9.1 < 0)) = true then
     some false
    else
     (laws_eqIntS r5 r3).bind fun r10 =>
     if r10 = true then
      (laws_markIntS r5 1).bind fun r11 =>
      (laws_heldIntS r11.2 1).bind fun r12 =>
      if (decide (r12 < 0)) = true then
       some false
      else
       if (r12 != r11.1) = true then
        some false
       else
        (laws_toWorld (World.mk o.Stripes o.Now o.Step o.Tasks)).bind fun r13 =>
        (impl_Loads r13).bind fun r14 =>
        (laws_eqIntS r14 r3).bind fun r15 =>
        if r15 = true then
         (laws_heldIntS r11.2 1).bind fun r16 =>
         if (decide (r16 < 0)) = true then
          some false
         else
          if (r16 != r11.1) = true then
           some false
          else
           some true
        else
         some false
     else
      some false
   else
    some false
  else
   some false
theorem laws_FnExactLoads_ok (o : World) : Pn (fun y => Fn Try.prog 6 [(false, E25 o)] (E4 y) []) (laws_FnExactLoads o) := by
  unfold laws_FnExactLoads
  exact
   Pn.bind (fun r1 h1 =>
    Pn.ite (fun h2 =>
     Pn.some (Fn.of [.call [] (E3 r1) [], .bit true] (p := [Fn Try.prog 13 [(false, E25 o), (false, E3 1048576)] (E3 r1) [],
      (true || ((E3 r1).nv && nvL [])) = true,
      (decide (r1 < 0)) = true]) (by kernel_rfl) (cj (laws_szWorld_ok o 1048576 r1 h1) (cj rfl (cj1 h2))))) (fun h2 =>
     Pn.bind (fun r2 h3 =>
      Pn.bind (fun r3 h4 =>
       Pn.bind (fun r4 h5 =>
        Pn.bind (fun r5 h6 =>
         Pn.bind (fun r6 h7 =>
          Pn.ite (fun h8 =>
           Pn.bind (fun r7 h9 =>
            Pn.bind (fun r8 h10 =>
             Pn.ite (fun h11 =>
              Pn.bind (fun r9 h12 =>
               Pn.ite (fun h13 =>
                Pn.some (Fn.of [.call [] (E3 r1) [], .bit false, .call [] (E31 r2) [], .call [] (E49 r3) [], .call [] (E31 r4) [], .call [] (E49 r5) [], .call [] (E4 r6) [], .bit false, .draw [], .call [] (E31 r7) [], .call [] (E4 r8) [], .bit false, .call [true, false] (E3 r9.1) [V.sl true 124 (List.map E124 r9.2.1), V.sl true 92 (List.map E92 r9.2.2)], .bit true, .bit true, .bit true, .bit true, .bit true, .bit true] (p := [Fn Try.prog 13 [(false, E25 o), (false, E3 1048576)] (E3 r1) [],
                 (true || ((E3 r1).nv && nvL [])) = true,
                 (decide (r1 < 0)) = false,
                 Fn Try.prog 15 [(false, E25 o)] (E31 r2) [],
                 (true || ((E31 r2).nv && nvL [])) = true,
                 Fn Try.prog 33 [(false, E31 r2)] (E49 r3) [],
                 (false || ((E49 r3).nv && nvL [])) = true,
                 Fn Try.prog 15 [(false, E25 o)] (E31 r4) [],
                 (true || ((E31 r4).nv && nvL [])) = true,
                 Fn Try.prog 34 [(false, E31 r4)] (E49 r5) [],
                 (false || ((E49 r5).nv && nvL [])) = true,
                 Fn Try.prog 35 [(false, E49 r5), (false, E49 r3)] (E4 r6) [],
                 (false || ((E4 r6).nv && nvL [])) = true,
                 (!r6) = false,
                 Fn Try.prog 15 [(false, E25 o)] (E31 r7) [],
                 (true || ((E31 r7).nv && nvL [])) = true,
                 Fn Try.prog 17 [(false, E31 r4), (false, E31 r7)] (E4 r8) [],
                 (false || ((E4 r8).nv && nvL [])) = true,
                 (!r8) = false,
                 Fn Try.prog 36 [(true, E31 (World.mk r4.Stripes r4.Now r4.Step r4.Tasks)), (false, E3 1)] (E3 r9.1) [V.sl true 124 (List.map E124 r9.2.1), V.sl true 92 (List.map E92 r9.2.2)],
                 (true || ((E3 r9.1).nv && nvL [V.sl true 124 (List.map E124 r9.2.1), V.sl true 92 (List.map E92 r9.2.2)])) = true,
                 (decide (r9.1 < 0)) = true,
                 (decide (r9.1 < 0)) = true,
                 (decide (r9.1 < 0)) = true,
                 (decide (r9.1 < 0)) = true,
                 (decide (r9.1 < 0)) = true,
                 true = true]) (by kernel_rfl) (cj (laws_szWorld_ok o 1048576 r1 h1) (cj rfl (cj h2 (cj (laws_toWorld_ok o r2 h3) (cj rfl (cj (spec_Loads_ok r2 r3 h4) (cj (by simp [V.nv, nvL, nvL_all, nv_E3, nv_E49]) (cj (laws_toWorld_ok o r4 h5) (cj rfl (cj (impl_Loads_ok r4 r5 h6) (cj (by simp [V.nv, nvL, nvL_all, nv_E3, nv_E49]) (cj (laws_eqIntS_ok r5 r3 r6 h7) (cj (by simp [V.nv, nvL, nvL_all, nv_E4]) (cj (nf h8) (cj (laws_toWorld_ok o r7 h9) (cj rfl (cj (laws_eqWorld_ok r4 r7 r8 h10) (cj (by simp [V.nv, nvL, nvL_all, nv_E4]) (cj (nf h11) (cj (laws_markWorld_ok (World.mk r4.Stripes r4.Now r4.Step r4.Tasks) 1 r9 h12) (cj rfl (cj h13 (cj h13 (cj h13 (cj h13 (cj h13 (cj1 rfl))))))))))))))))))))))))))))) (fun h13 =>
                Pn.bind (fun r10 h14 =>
                 Pn.ite (fun h15 =>
                  Pn.bind (fun r11 h16 =>
                   Pn.bind (fun r12 h17 =>
                    Pn.ite (fun h18 =>
                     Pn.some (Fn.of [.call [] (E3 r1) [], .bit false, .call [] (E31 r2) [], .call [] (E49 r3) [], .call [] (E31 r4) [], .call [] (E49 r5) [], .call [] (E4 r6) [], .bit false, .draw [], .call [] (E31 r7) [], .call [] (E4 r8) [], .bit false, .call [true, false] (E3 r9.1) [V.sl true 124 (List.map E124 r9.2.1), V.sl true 92 (List.map E92 r9.2.2)], .bit false, .bit false, .bit false, .call [] (E4 r10) [], .bit false, .bit false, .bit false, .call [true, false] (E3 r11.1) [V.sl true 3 (List.map E3 r11.2)], .call [] (E3 r12) [], .bit true] (p := [Fn Try.prog 13 [(false, E25 o), (false, E3 1048576)] (E3 r1) [],
                      (true || ((E3 r1).nv && nvL [])) = true,
                      (decide (r1 < 0)) = false,
                      Fn Try.prog 15 [(false, E25 o)] (E31 r2) [],
                      (true || ((E31 r2).nv && nvL [])) = true,
                      Fn Try.prog 33 [(false, E31 r2)] (E49 r3) [],
                      (false || ((E49 r3).nv && nvL [])) = true,
                      Fn Try.prog 15 [(false, E25 o)] (E31 r4) [],
                      (true || ((E31 r4).nv && nvL [])) = true,
                      Fn Try.prog 34 [(false, E31 r4)] (E49 r5) [],
                      (false || ((E49 r5).nv && nvL [])) = true,
                      Fn Try.prog 35 [(false, E49 r5), (false, E49 r3)] (E4 r6) [],
                      (false || ((E4 r6).nv && nvL [])) = true,
                      (!r6) = false,
                      Fn Try.prog 15 [(false, E25 o)] (E31 r7) [],
                      (true || ((E31 r7).nv && nvL [])) = true,
                      Fn Try.prog 17 [(false, E31 r4), (false, E31 r7)] (E4 r8) [],
                      (false || ((E4 r8).nv && nvL [])) = true,
                      (!r8) = false,
                      Fn Try.prog 36 [(true, E31 (World.mk r4.Stripes r4.Now r4.Step r4.Tasks)), (false, E3 1)] (E3 r9.1) [V.sl true 124 (List.map E124 r9.2.1), V.sl true 92 (List.map E92 r9.2.2)],
                      (true || ((E3 r9.1).nv && nvL [V.sl true 124 (List.map E124 r9.2.1), V.sl true 92 (List.map E92 r9.2.2)])) = true,
                      (decide (r9.1 < 0)) = false,
                      (decide (r9.1 < 0)) = false,
                      (decide (r9.1 < 0)) = false,
                      Fn Try.prog 35 [(false, E49 r5), (false, E49 r3)] (E4 r10) [],
                      (false || ((E4 r10).nv && nvL [])) = true,
                      (decide (r9.1 < 0)) = false,
                      (decide (r9.1 < 0)) = false,
                      (!r10) = false,
                      Fn Try.prog 37 [(true, E49 r5), (false, E3 1)] (E3 r11.1) [V.sl true 3 (List.map E3 r11.2)],
                      (true || ((E3 r11.1).nv && nvL [V.sl true 3 (List.map E3 r11.2)])) = true,
                      Fn Try.prog 38 [(false, E49 r11.2), (false, E3 1)] (E3 r12) [],
                      (false || ((E3 r12).nv && nvL [])) = true,
                      (decide (r12 < 0)) = true]) (by kernel_rfl) (cj (laws_szWorld_ok o 1048576 r1 h1) (cj rfl (cj h2 (cj (laws_toWorld_ok o r2 h3) (cj rfl (cj (spec_Loads_ok r2 r3 h4) (cj (by simp [V.nv, nvL, nvL_all, nv_E3, nv_E49]) (cj (laws_toWorld_ok o r4 h5) (cj rfl (cj (impl_Loads_ok r4 r5 h6) (cj (by simp [V.nv, nvL, nvL_all, nv_E3, nv_E49]) (cj (laws_eqIntS_ok r5 r3 r6 h7) (cj (by simp [V.nv, nvL, nvL_all, nv_E4]) (cj (nf h8) (cj (laws_toWorld_ok o r7 h9) (cj rfl (cj (laws_eqWorld_ok r4 r7 r8 h10) (cj (by simp [V.nv, nvL, nvL_all, nv_E4]) (cj (nf h11) (cj (laws_markWorld_ok (World.mk r4.Stripes r4.Now r4.Step r4.Tasks) 1 r9 h12) (cj rfl (cj h13 (cj h13 (cj h13 (cj (laws_eqIntS_ok r5 r3 r10 h14) (cj (by simp [V.nv, nvL, nvL_all, nv_E4]) (cj h13 (cj h13 (cj (nf h15) (cj (laws_markIntS_ok r5 1 r11 h16) (cj rfl (cj (laws_heldIntS_ok r11.2 1 r12 h17) (cj (by simp [V.nv, nvL, nvL_all, nv_E3]) (cj1 h18)))))))))))))))))))))))))))))))))))) (fun h18 =>
                     Pn.ite (fun h19 =>
                      Pn.some (Fn.of [.call [] (E3 r1) [], .bit false, .call [] (E31 r2) [], .call [] (E49 r3) [], .call [] (E31 r4) [], .call [] (E49 r5) [], .call [] (E4 r6) [], .bit false, .draw [], .call [] (E31 r7) [], .call [] (E4 r8) [], .bit false, .call [true, false] (E3 r9.1) [V.sl true 124 (List.map E124 r9.2.1), V.sl true 92 (List.map E92 r9.2.2)], .bit false, .bit false, .bit false, .call [] (E4 r10) [], .bit false, .bit false, .bit false, .call [true, false] (E3 r11.1) [V.sl true 3 (List.map E3 r11.2)], .call [] (E3 r12) [], .bit false, .bit true] (p := [Fn Try.prog 13 [(false, E25 o), (false, E3 1048576)] (E3 r1) [],
                       (true || ((E3 r1).nv && nvL [])) = true,
                       (decide (r1 < 0)) = false,
                       Fn Try.prog 15 [(false, E25 o)] (E31 r2) [],
                       (true || ((E31 r2).nv && nvL [])) = true,
                       Fn Try.prog 33 [(false, E31 r2)] (E49 r3) [],
                       (false || ((E49 r3).nv && nvL [])) = true,
                       Fn Try.prog 15 [(false, E25 o)] (E31 r4) [],
                       (true || ((E31 r4).nv && nvL [])) = true,
                       Fn Try.prog 34 [(false, E31 r4)] (E49 r5) [],
                       (false || ((E49 r5).nv && nvL [])) = true,
                       Fn Try.prog 35 [(false, E49 r5), (false, E49 r3)] (E4 r6) [],
                       (false || ((E4 r6).nv && nvL [])) = true,
                       (!r6) = false,
                       Fn Try.prog 15 [(false, E25 o)] (E31 r7) [],
                       (true || ((E31 r7).nv && nvL [])) = true,
                       Fn Try.prog 17 [(false, E31 r4), (false, E31 r7)] (E4 r8) [],
                       (false || ((E4 r8).nv && nvL [])) = true,
                       (!r8) = false,
                       Fn Try.prog 36 [(true, E31 (World.mk r4.Stripes r4.Now r4.Step r4.Tasks)), (false, E3 1)] (E3 r9.1) [V.sl true 124 (List.map E124 r9.2.1), V.sl true 92 (List.map E92 r9.2.2)],
                       (true || ((E3 r9.1).nv && nvL [V.sl true 124 (List.map E124 r9.2.1), V.sl true 92 (List.map E92 r9.2.2)])) = true,
                       (decide (r9.1 < 0)) = false,
                       (decide (r9.1 < 0)) = false,
                       (decide (r9.1 < 0)) = false,
                       Fn Try.prog 35 [(false, E49 r5), (false, E49 r3)] (E4 r10) [],
                       (false || ((E4 r10).nv && nvL [])) = true,
                       (decide (r9.1 < 0)) = false,
                       (decide (r9.1 < 0)) = false,
                       (!r10) = false,
                       Fn Try.prog 37 [(true, E49 r5), (false, E3 1)] (E3 r11.1) [V.sl true 3 (List.map E3 r11.2)],
                       (true || ((E3 r11.1).nv && nvL [V.sl true 3 (List.map E3 r11.2)])) = true,
                       Fn Try.prog 38 [(false, E49 r11.2), (false, E3 1)] (E3 r12) [],
                       (false || ((E3 r12).nv && nvL [])) = true,
                       (decide (r12 < 0)) = false,
                       (r12 != r11.1) = true]) (by kernel_rfl) (cj (laws_szWorld_ok o 1048576 r1 h1) (cj rfl (cj h2 (cj (laws_toWorld_ok o r2 h3) (cj rfl (cj (spec_Loads_ok r2 r3 h4) (cj (by simp [V.nv, nvL, nvL_all, nv_E3, nv_E49]) (cj (laws_toWorld_ok o r4 h5) (cj rfl (cj (impl_Loads_ok r4 r5 h6) (cj (by simp [V.nv, nvL, nvL_all, nv_E3, nv_E49]) (cj (laws_eqIntS_ok r5 r3 r6 h7) (cj (by simp [V.nv, nvL, nvL_all, nv_E4]) (cj (nf h8) (cj (laws_toWorld_ok o r7 h9) (cj rfl (cj (laws_eqWorld_ok r4 r7 r8 h10) (cj (by simp [V.nv, nvL, nvL_all, nv_E4]) (cj (nf h11) (cj (laws_markWorld_ok (World.mk r4.Stripes r4.Now r4.Step r4.Tasks) 1 r9 h12) (cj rfl (cj h13 (cj h13 (cj h13 (cj (laws_eqIntS_ok r5 r3 r10 h14) (cj (by simp [V.nv, nvL, nvL_all, nv_E4]) (cj h13 (cj h13 (cj (nf h15) (cj (laws_markIntS_ok r5 1 r11 h16) (cj rfl (cj (laws_heldIntS_ok r11.2 1 r12 h17) (cj (by simp [V.nv, nvL, nvL_all, nv_E3]) (cj h18 (cj1 h19))))))))))))))))))))))))))))))))))))) (fun h19 =>
                      Pn.bind (fun r13 h20 =>
                       Pn.bind (fun r14 h21 =>
                        Pn.bind (fun r15 h22 =>
                         Pn.ite (fun h23 =>
                          Pn.bind (fun r16 h24 =>
                           Pn.ite (fun h25 =>
                            Pn.some (Fn.of [.call [] (E3 r1) [], .bit false, .call [] (E31 r2) [], .call [] (E49 r3) [], .call [] (E31 r4) [], .call [] (E49 r5) [], .call [] (E4 r6) [], .bit false, .draw [], .call [] (E31 r7) [], .call [] (E4 r8) [], .bit false, .call [true, false] (E3 r9.1) [V.sl true 124 (List.map E124 r9.2.1), V.sl true 92 (List.map E92 r9.2.2)], .bit false, .bit false, .bit false, .call [] (E4 r10) [], .bit false, .bit false, .bit false, .call [true, false] (E3 r11.1) [V.sl true 3 (List.map E3 r11.2)], .call [] (E3 r12) [], .bit false, .bit false, .call [] (E31 r13) [], .call [] (E49 r14) [], .call [] (E4 r15) [], .bit false, .call [] (E3 r16) [], .bit true] (p := [Fn Try.prog 13 [(false, E25 o), (false, E3 1048576)] (E3 r1) [],
                             (true || ((E3 r1).nv && nvL [])) = true,
                             (decide (r1 < 0)) = false,
                             Fn Try.prog 15 [(false, E25 o)] (E31 r2) [],
                             (true || ((E31 r2).nv && nvL [])) = true,
                             Fn Try.prog 33 [(false, E31 r2)] (E49 r3) [],
                             (false || ((E49 r3).nv && nvL [])) = true,
                             Fn Try.prog 15 [(false, E25 o)] (E31 r4) [],
                             (true || ((E31 r4).nv && nvL [])) = true,
                             Fn Try.prog 34 [(false, E31 r4)] (E49 r5) [],
                             (false || ((E49 r5).nv && nvL [])) = true,
                             Fn Try.prog 35 [(false, E49 r5), (false, E49 r3)] (E4 r6) [],
                             (false || ((E4 r6).nv && nvL [])) = true,
                             (!r6) = false,
                             Fn Try.prog 15 [(false, E25 o)] (E31 r7) [],
                             (true || ((E31 r7).nv && nvL [])) = true,
                             Fn Try.prog 17 [(false, E31 r4), (false, E31 r7)] (E4 r8) [],
                             (false || ((E4 r8).nv && nvL [])) = true,
                             (!r8) = false,
                             Fn Try.prog 36 [(true, E31 (World.mk r4.Stripes r4.Now r4.Step r4.Tasks)), (false, E3 1)] (E3 r9.1) [V.sl true 124 (List.map E124 r9.2.1), V.sl true 92 (List.map E92 r9.2.2)],
                             (true || ((E3 r9.1).nv && nvL [V.sl true 124 (List.map E124 r9.2.1), V.sl true 92 (List.map E92 r9.2.2)])) = true,
                             (decide (r9.1 < 0)) = false,
                             (decide (r9.1 < 0)) = false,
                             (decide (r9.1 < 0)) = false,
                             Fn Try.prog 35 [(false, E49 r5), (false, E49 r3)] (E4 r10) [],
                             (false || ((E4 r10).nv && nvL [])) = true,
                             (decide (r9.1 < 0)) = false,
                             (decide (r9.1 < 0)) = false,
                             (!r10) = false,
                             Fn Try.prog 37 [(true, E49 r5), (false, E3 1)] (E3 r11.1) [V.sl true 3 (List.map E3 r11.2)],
                             (true || ((E3 r11.1).nv && nvL [V.sl true 3 (List.map E3 r11.2)])) = true,
                             Fn Try.prog 38 [(false, E49 r11.2), (false, E3 1)] (E3 r12) [],
                             (false || ((E3 r12).nv && nvL [])) = true,
                             (decide (r12 < 0)) = false,
                             (r12 != r11.1) = false,
                             Fn Try.prog 15 [(false, E25 (World.mk o.Stripes o.Now o.Step o.Tasks))] (E31 r13) [],
                             (true || ((E31 r13).nv && nvL [])) = true,
                             Fn Try.prog 34 [(false, E31 r13)] (E49 r14) [],
                             (false || ((E49 r14).nv && nvL [])) = true,
                             Fn Try.prog 35 [(false, E49 r14), (false, E49 r3)] (E4 r15) [],
                             (false || ((E4 r15).nv && nvL [])) = true,
                             (!r15) = false,
                             Fn Try.prog 38 [(false, E49 r11.2), (false, E3 1)] (E3 r16) [],
                             (false || ((E3 r16).nv && nvL [])) = true,
                             (decide (r16 < 0)) = true]) (by kernel_rfl) (cj (laws_szWorld_ok o 1048576 r1 h1) (cj rfl (cj h2 (cj (laws_toWorld_ok o r2 h3) (cj rfl (cj (spec_Loads_ok r2 r3 h4) (cj (by simp [V.nv, nvL, nvL_all, nv_E3, nv_E49]) (cj (laws_toWorld_ok o r4 h5) (cj rfl (cj (impl_Loads_ok r4 r5 h6) (cj (by simp [V.nv, nvL, nvL_all, nv_E3, nv_E49]) (cj (laws_eqIntS_ok r5 r3 r6 h7) (cj (by simp [V.nv, nvL, nvL_all, nv_E4]) (cj (nf h8) (cj (laws_toWorld_ok o r7 h9) (cj rfl (cj (laws_eqWorld_ok r4 r7 r8 h10) (cj (by simp [V.nv, nvL, nvL_all, nv_E4]) (cj (nf h11) (cj (laws_markWorld_ok (World.mk r4.Stripes r4.Now r4.Step r4.Tasks) 1 r9 h12) (cj rfl (cj h13 (cj h13 (cj h13 (cj (laws_eqIntS_ok r5 r3 r10 h14) (cj (by simp [V.nv, nvL, nvL_all, nv_E4]) (cj h13 (cj h13 (cj (nf h15) (cj (laws_markIntS_ok r5 1 r11 h16) (cj rfl (cj (laws_heldIntS_ok r11.2 1 r12 h17) (cj (by simp [V.nv, nvL, nvL_all, nv_E3]) (cj h18 (cj h19 (cj (laws_toWorld_ok (World.mk o.Stripes o.Now o.Step o.Tasks) r13 h20) (cj rfl (cj (impl_Loads_ok r13 r14 h21) (cj (by simp [V.nv, nvL, nvL_all, nv_E3, nv_E49]) (cj (laws_eqIntS_ok r14 r3 r15 h22) (cj (by simp [V.nv, nvL, nvL_all, nv_E4]) (cj (nf h23) (cj (laws_heldIntS_ok r11.2 1 r16 h24) (cj (by simp [V.nv, nvL, nvL_all, nv_E3]) (cj1 h25))))))))))))))))))))))))))))))))))))))))))))))) (fun h25 =>
                            Pn.ite (fun h26 =>
                             Pn.some (Fn.of [.call [] (E3 r1) [], .bit false, .call [] (E31 r2) [], .call [] (E49 r3) [], .call [] (E31 r4) [], .call [] (E49 r5) [], .call [] (E4 r6) [], .bit false, .draw [], .call [] (E31 r7) [], .call [] (E4 r8) [], .bit false, .call [true, false] (E3 r9.1) [V.sl true 124 (List.map E124 r9.2.1), V.sl true 92 (List.map E92 r9.2.2)], .bit false, .bit false, .bit false, .call [] (E4 r10) [], .bit false, .bit false, .bit false, .call [true, false] (E3 r11.1) [V.sl true 3 (List.map E3 r11.2)], .call [] (E3 r12) [], .bit false, .bit false, .call [] (E31 r13) [], .call [] (E49 r14) [], .call [] (E4 r15) [], .bit false, .call [] (E3 r16) [], .bit false, .bit true] (p := [Fn Try.prog 13 [(false, E25 o), (false, E3 1048576)] (E3 r1) [],
                              (true || ((E3 r1).nv && nvL [])) = true,
                              (decide (r1 < 0)) = false,
                              Fn Try.prog 15 [(false, E25 o)] (E31 r2) [],
                              (true || ((E31 r2).nv && nvL [])) = true,
                              Fn Try.prog 33 [(false, E31 r2)] (E49 r3) [],
                              (false || ((E49 r3).nv && nvL [])) = true,
                              Fn Try.prog 15 [(false, E25 o)] (E31 r4) [],
                              (true || ((E31 r4).nv && nvL [])) = true,
                              Fn Try.prog 34 [(false, E31 r4)] (E49 r5) [],
                              (false || ((E49 r5).nv && nvL [])) = true,
                              Fn Try.prog 35 [(false, E49 r5), (false, E49 r3)] (E4 r6) [],
                              (false || ((E4 r6).nv && nvL [])) = true,
                              (!r6) = false,
                              Fn Try.prog 15 [(false, E25 o)] (E31 r7) [],
                              (true || ((E31 r7).nv && nvL [])) = true,
                              Fn Try.prog 17 [(false, E31 r4), (false, E31 r7)] (E4 r8) [],
                              (false || ((E4 r8).nv && nvL [])) = true,
                              (!r8) = false,
                              Fn Try.prog 36 [(true, E31 (World.mk r4.Stripes r4.Now r4.Step r4.Tasks)), (false, E3 1)] (E3 r9.1) [V.sl true 124 (List.map E124 r9.2.1), V.sl true 92 (List.map E92 r9.2.2)],
                              (true || ((E3 r9.1).nv && nvL [V.sl true 124 (List.map E124 r9.2.1), V.sl true 92 (List.map E92 r9.2.2)])) = true,
                              (decide (r9.1 < 0)) = false,
                              (decide (r9.1 < 0)) = false,
                              (decide (r9.1 < 0)) = false,
                              Fn Try.prog 35 [(false, E49 r5), (false, E49 r3)] (E4 r10) [],
                              (false || ((E4 r10).nv && nvL [])) = true,
                              (decide (r9.1 < 0)) = false,
                              (decide (r9.1 < 0)) = false,
                              (!r10) = false,
                              Fn Try.prog 37 [(true, E49 r5), (false, E3 1)] (E3 r11.1) [V.sl true 3 (List.map E3 r11.2)],
                              (true || ((E3 r11.1).nv && nvL [V.sl true 3 (List.map E3 r11.2)])) = true,
                              Fn Try.prog 38 [(false, E49 r11.2), (false, E3 1)] (E3 r12) [],
                              (false || ((E3 r12).nv && nvL [])) = true,
                              (decide (r12 < 0)) = false,
                              (r12 != r11.1) = false,
                              Fn Try.prog 15 [(false, E25 (World.mk o.Stripes o.Now o.Step o.Tasks))] (E31 r13) [],
                              (true || ((E31 r13).nv && nvL [])) = true,
                              Fn Try.prog 34 [(false, E31 r13)] (E49 r14) [],
                              (false || ((E49 r14).nv && nvL [])) = true,
                              Fn Try.prog 35 [(false, E49 r14), (false, E49 r3)] (E4 r15) [],
                              (false || ((E4 r15).nv && nvL [])) = true,
                              (!r15) = false,
                              Fn Try.prog 38 [(false, E49 r11.2), (false, E3 1)] (E3 r16) [],
                              (false || ((E3 r16).nv && nvL [])) = true,
                              (decide (r16 < 0)) = false,
                              (r16 != r11.1) = true]) (by kernel_rfl) (cj (laws_szWorld_ok o 1048576 r1 h1) (cj rfl (cj h2 (cj (laws_toWorld_ok o r2 h3) (cj rfl (cj (spec_Loads_ok r2 r3 h4) (cj (by simp [V.nv, nvL, nvL_all, nv_E3, nv_E49]) (cj (laws_toWorld_ok o r4 h5) (cj rfl (cj (impl_Loads_ok r4 r5 h6) (cj (by simp [V.nv, nvL, nvL_all, nv_E3, nv_E49]) (cj (laws_eqIntS_ok r5 r3 r6 h7) (cj (by simp [V.nv, nvL, nvL_all, nv_E4]) (cj (nf h8) (cj (laws_toWorld_ok o r7 h9) (cj rfl (cj (laws_eqWorld_ok r4 r7 r8 h10) (cj (by simp [V.nv, nvL, nvL_all, nv_E4]) (cj (nf h11) (cj (laws_markWorld_ok (World.mk r4.Stripes r4.Now r4.Step r4.Tasks) 1 r9 h12) (cj rfl (cj h13 (cj h13 (cj h13 (cj (laws_eqIntS_ok r5 r3 r10 h14) (cj (by simp [V.nv, nvL, nvL_all, nv_E4]) (cj h13 (cj h13 (cj (nf h15) (cj (laws_markIntS_ok r5 1 r11 h16) (cj rfl (cj (laws_heldIntS_ok r11.2 1 r12 h17) (cj (by simp [V.nv, nvL, nvL_all, nv_E3]) (cj h18 (cj h19 (cj (laws_toWorld_ok (World.mk o.Stripes o.Now o.Step o.Tasks) r13 h20) (cj rfl (cj (impl_Loads_ok r13 r14 h21) (cj (by simp [V.nv, nvL, nvL_all, nv_E3, nv_E49]) (cj (laws_eqIntS_ok r14 r3 r15 h22) (cj (by simp [V.nv, nvL, nvL_all, nv_E4]) (cj (nf h23) (cj (laws_heldIntS_ok r11.2 1 r16 h24) (cj (by simp [V.nv, nvL, nvL_all, nv_E3]) (cj h25 (cj1 h26)))))))))))))))))))))))))))))))))))))))))))))))) (fun h26 =>
                             Pn.some (Fn.of [.call [] (E3 r1) [], .bit false, .call [] (E31 r2) [], .call [] (E49 r3) [], .call [] (E31 r4) [], .call [] (E49 r5) [], .call [] (E4 r6) [], .bit false, .draw [], .call [] (E31 r7) [], .call [] (E4 r8) [], .bit false, .call [true, false] (E3 r9.1) [V.sl true 124 (List.map E124 r9.2.1), V.sl true 92 (List.map E92 r9.2.2)], .bit false, .bit false, .bit false, .call [] (E4 r10) [], .bit false, .bit false, .bit false, .call [true, false] (E3 r11.1) [V.sl true 3 (List.map E3 r11.2)], .call [] (E3 r12) [], .bit false, .bit false, .call [] (E31 r13) [], .call [] (E49 r14) [], .call [] (E4 r15) [], .bit false, .call [] (E3 r16) [], .bit false, .bit false] (p := [Fn Try.prog 13 [(false, E25 o), (false, E3 1048576)] (E3 r1) [],
                              (true || ((E3 r1).nv && nvL [])) = true,
                              (decide (r1 < 0)) = false,
                              Fn Try.prog 15 [(false, E25 o)] (E31 r2) [],
                              (true || ((E31 r2).nv && nvL [])) = true,
                              Fn Try.prog 33 [(false, E31 r2)] (E49 r3) [],
                              (false || ((E49 r3).nv && nvL [])) = true,
                              Fn Try.prog 15 [(false, E25 o)] (E31 r4) [],
                              (true || ((E31 r4).nv && nvL [])) = true,
                              Fn Try.prog 34 [(false, E31 r4)] (E49 r5) [],
                              (false || ((E49 r5).nv && nvL [])) = true,
                              Fn Try.prog 35 [(false, E49 r5), (false, E49 r3)] (E4 r6) [],
                              (false || ((E4 r6).nv && nvL [])) = true,
                              (!r6) = false,
                              Fn Try.prog 15 [(false, E25 o)] (E31 r7) [],
                              (true || ((E31 r7).nv && nvL [])) = true,
                              Fn Try.prog 17 [(false, E31 r4), (false, E31 r7)] (E4 r8) [],
                              (false || ((E4 r8).nv && nvL [])) = true,
                              (!r8) = false,
                              Fn Try.prog 36 [(true, E31 (World.mk r4.Stripes r4.Now r4.Step r4.Tasks)), (false, E3 1)] (E3 r9.1) [V.sl true 124 (List.map E124 r9.2.1), V.sl true 92 (List.map E92 r9.2.2)],
                              (true || ((E3 r9.1).nv && nvL [V.sl true 124 (List.map E124 r9.2.1), V.sl true 92 (List.map E92 r9.2.2)])) = true,
                              (decide (r9.1 < 0)) = false,
                              (decide (r9.1 < 0)) = false,
                              (decide (r9.1 < 0)) = false,
                              Fn Try.prog 35 [(false, E49 r5), (false, E49 r3)] (E4 r10) [],
                              (false || ((E4 r10).nv && nvL [])) = true,
                              (decide (r9.1 < 0)) = false,
                              (decide (r9.1 < 0)) = false,
                              (!r10) = false,
                              Fn Try.prog 37 [(true, E49 r5), (false, E3 1)] (E3 r11.1) [V.sl true 3 (List.map E3 r11.2)],
                              (true || ((E3 r11.1).nv && nvL [V.sl true 3 (List.map E3 r11.2)])) = true,
                              Fn Try.prog 38 [(false, E49 r11.2), (false, E3 1)] (E3 r12) [],
                              (false || ((E3 r12).nv && nvL [])) = true,
                              (decide (r12 < 0)) = false,
                              (r12 != r11.1) = false,
                              Fn Try.prog 15 [(false, E25 (World.mk o.Stripes o.Now o.Step o.Tasks))] (E31 r13) [],
                              (true || ((E31 r13).nv && nvL [])) = true,
                              Fn Try.prog 34 [(false, E31 r13)] (E49 r14) [],
                              (false || ((E49 r14).nv && nvL [])) = true,
                              Fn Try.prog 35 [(false, E49 r14), (false, E49 r3)] (E4 r15) [],
                              (false || ((E4 r15).nv && nvL [])) = true,
                              (!r15) = false,
                              Fn Try.prog 38 [(false, E49 r11.2), (false, E3 1)] (E3 r16) [],
                              (false || ((E3 r16).nv && nvL [])) = true,
                              (decide (r16 < 0)) = false,
                              (r16 != r11.1) = false]) (by kernel_rfl) (cj (laws_szWorld_ok o 1048576 r1 h1) (cj rfl (cj h2 (cj (laws_toWorld_ok o r2 h3) (cj rfl (cj (spec_Loads_ok r2 r3 h4) (cj (by simp [V.nv, nvL, nvL_all, nv_E3, nv_E49]) (cj (laws_toWorld_ok o r4 h5) (cj rfl (cj (impl_Loads_ok r4 r5 h6) (cj (by simp [V.nv, nvL, nvL_all, nv_E3, nv_E49]) (cj (laws_eqIntS_ok r5 r3 r6 h7) (cj (by simp [V.nv, nvL, nvL_all, nv_E4]) (cj (nf h8) (cj (laws_toWorld_ok o r7 h9) (cj rfl (cj (laws_eqWorld_ok r4 r7 r8 h10) (cj (by simp [V.nv, nvL, nvL_all, nv_E4]) (cj (nf h11) (cj (laws_markWorld_ok (World.mk r4.Stripes r4.Now r4.Step r4.Tasks) 1 r9 h12) (cj rfl (cj h13 (cj h13 (cj h13 (cj (laws_eqIntS_ok r5 r3 r10 h14) (cj (by simp [V.nv, nvL, nvL_all, nv_E4]) (cj h13 (cj h13 (cj (nf h15) (cj (laws_markIntS_ok r5 1 r11 h16) (cj rfl (cj (laws_heldIntS_ok r11.2 1 r12 h17) (cj (by simp [V.nv, nvL, nvL_all, nv_E3]) (cj h18 (cj h19 (cj (laws_toWorld_ok (World.mk o.Stripes o.Now o.Step o.Tasks) r13 h20) (cj rfl (cj (impl_Loads_ok r13 r14 h21) (cj (by simp [V.nv, nvL, nvL_all, nv_E3, nv_E49]) (cj (laws_eqIntS_ok r14 r3 r15 h22) (cj (by simp [V.nv, nvL, nvL_all, nv_E4]) (cj (nf h23) (cj (laws_heldIntS_ok r11.2 1 r16 h24) (cj (by simp [V.nv, nvL, nvL_all, nv_E3]) (cj h25 (cj1 h26))))))))))))))))))))))))))))))))))))))))))))))))))) (fun h23 =>
                          Pn.some (Fn.of [.call [] (E3 r1) [], .bit false, .call [] (E31 r2) [], .call [] (E49 r3) [], .call [] (E31 r4) [], .call [] (E49 r5) [], .call [] (E4 r6) [], .bit false, .draw [], .call [] (E31 r7) [], .call [] (E4 r8) [], .bit false, .call [true, false] (E3 r9.1) [V.sl true 124 (List.map E124 r9.2.1), V.sl true 92 (List.map E92 r9.2.2)], .bit false, .bit false, .bit false, .call [] (E4 r10) [], .bit false, .bit false, .bit false, .call [true, false] (E3 r11.1) [V.sl true 3 (List.map E3 r11.2)], .call [] (E3 r12) [], .bit false, .bit false, .call [] (E31 r13) [], .call [] (E49 r14) [], .call [] (E4 r15) [], .bit true] (p := [Fn Try.prog 13 [(false, E25 o), (false, E3 1048576)] (E3 r1) [],
                           (true || ((E3 r1).nv && nvL [])) = true,
                           (decide (r1 < 0)) = false,
                           Fn Try.prog 15 [(false, E25 o)] (E31 r2) [],
                           (true || ((E31 r2).nv && nvL [])) = true,
                           Fn Try.prog 33 [(false, E31 r2)] (E49 r3) [],
                           (false || ((E49 r3).nv && nvL [])) = true,
                           Fn Try.prog 15 [(false, E25 o)] (E31 r4) [],
                           (true || ((E31 r4).nv && nvL [])) = true,
                           Fn Try.prog 34 [(false, E31 r4)] (E49 r5) [],
                           (false || ((E49 r5).nv && nvL [])) = true,
                           Fn Try.prog 35 [(false, E49 r5), (false, E49 r3)] (E4 r6) [],
                           (false || ((E4 r6).nv && nvL [])) = true,
                           (!r6) = false,
                           Fn Try.prog 15 [(false, E25 o)] (E31 r7) [],
                           (true || ((E31 r7).nv && nvL [])) = true,
                           Fn Try.prog 17 [(false, E31 r4), (false, E31 r7)] (E4 r8) [],
                           (false || ((E4 r8).nv && nvL [])) = true,
                           (!r8) = false,
                           Fn Try.prog 36 [(true, E31 (World.mk r4.Stripes r4.Now r4.Step r4.Tasks)), (false, E3 1)] (E3 r9.1) [V.sl true 124 (List.map E124 r9.2.1), V.sl true 92 (List.map E92 r9.2.2)],
                           (true || ((E3 r9.1).nv && nvL [V.sl true 124 (List.map E124 r9.2.1), V.sl true 92 (List.map E92 r9.2.2)])) = true,
                           (decide (r9.1 < 0)) = false,
                           (decide (r9.1 < 0)) = false,
                           (decide (r9.1 < 0)) = false,
                           Fn Try.prog 35 [(false, E49 r5), (false, E49 r3)] (E4 r10) [],
                           (false || ((E4 r10).nv && nvL [])) = true,
                           (decide (r9.1 < 0)) = false,
                           (decide (r9.1 < 0)) = false,
                           (!r10) = false,
                           Fn Try.prog 37 [(true, E49 r5), (false, E3 1)] (E3 r11.1) [V.sl true 3 (List.map E3 r11.2)],
                           (true || ((E3 r11.1).nv && nvL [V.sl true 3 (List.map E3 r11.2)])) = true,
                           Fn Try.prog 38 [(false, E49 r11.2), (false, E3 1)] (E3 r12) [],
                           (false || ((E3 r12).nv && nvL [])) = true,
                           (decide (r12 < 0)) = false,
                           (r12 != r11.1) = false,
                           Fn Try.prog 15 [(false, E25 (World.mk o.Stripes o.Now o.Step o.Tasks))] (E31 r13) [],
                           (true || ((E31 r13).nv && nvL [])) = true,
                           Fn Try.prog 34 [(false, E31 r13)] (E49 r14) [],
                           (false || ((E49 r14).nv && nvL [])) = true,
                           Fn Try.prog 35 [(false, E49 r14), (false, E49 r3)] (E4 r15) [],
                           (false || ((E4 r15).nv && nvL [])) = true,
                           (!r15) = true]) (by kernel_rfl) (cj (laws_szWorld_ok o 1048576 r1 h1) (cj rfl (cj h2 (cj (laws_toWorld_ok o r2 h3) (cj rfl (cj (spec_Loads_ok r2 r3 h4) (cj (by simp [V.nv, nvL, nvL_all, nv_E3, nv_E49]) (cj (laws_toWorld_ok o r4 h5) (cj rfl (cj (impl_Loads_ok r4 r5 h6) (cj (by simp [V.nv, nvL, nvL_all, nv_E3, nv_E49]) (cj (laws_eqIntS_ok r5 r3 r6 h7) (cj (by simp [V.nv, nvL, nvL_all, nv_E4]) (cj (nf h8) (cj (laws_toWorld_ok o r7 h9) (cj rfl (cj (laws_eqWorld_ok r4 r7 r8 h10) (cj (by simp [V.nv, nvL, nvL_all, nv_E4]) (cj (nf h11) (cj (laws_markWorld_ok (World.mk r4.Stripes r4.Now r4.Step r4.Tasks) 1 r9 h12) (cj rfl (cj h13 (cj h13 (cj h13 (cj (laws_eqIntS_ok r5 r3 r10 h14) (cj (by simp [V.nv, nvL, nvL_all, nv_E4]) (cj h13 (cj h13 (cj (nf h15) (cj (laws_markIntS_ok r5 1 r11 h16) (cj rfl (cj (laws_heldIntS_ok r11.2 1 r12 h17) (cj (by simp [V.nv, nvL, nvL_all, nv_E3]) (cj h18 (cj h19 (cj (laws_toWorld_ok (World.mk o.Stripes o.Now o.Step o.Tasks) r13 h20) (cj rfl (cj (impl_Loads_ok r13 r14 h21) (cj (by simp [V.nv, nvL, nvL_all, nv_E3, nv_E49]) (cj (laws_eqIntS_ok r14 r3 r15 h22) (cj (by simp [V.nv, nvL, nvL_all, nv_E4]) (cj1 (nt h23))))))))))))))))))))))))))))))))))))))))))))))))))))) (fun h15 =>
                  Pn.some (Fn.of [.call [] (E3 r1) [], .bit false, .call [] (E31 r2) [], .call [] (E49 r3) [], .call [] (E31 r4) [], .call [] (E49 r5) [], .call [] (E4 r6) [], .bit false, .draw [], .call [] (E31 r7) [], .call [] (E4 r8) [], .bit false, .call [true, false] (E3 r9.1) [V.sl true 124 (List.map E124 r9.2.1), V.sl true 92 (List.map E92 r9.2.2)], .bit false, .bit false, .bit false, .call [] (E4 r10) [], .bit false, .bit false, .bit true] (p := [Fn Try.prog 13 [(false, E25 o), (false, E3 1048576)] (E3 r1) [],
                   (true || ((E3 r1).nv && nvL [])) = true,
                   (decide (r1 < 0)) = false,
                   Fn Try.prog 15 [(false, E25 o)] (E31 r2) [],
                   (true || ((E31 r2).nv && nvL [])) = true,
                   Fn Try.prog 33 [(false, E31 r2)] (E49 r3) [],
                   (false || ((E49 r3).nv && nvL [])) = true,
                   Fn Try.prog 15 [(false, E25 o)] (E31 r4) [],
                   (true || ((E31 r4).nv && nvL [])) = true,
                   Fn Try.prog 34 [(false, E31 r4)] (E49 r5) [],
                   (false || ((E49 r5).nv && nvL [])) = true,
                   Fn Try.prog 35 [(false, E49 r5), (false, E49 r3)] (E4 r6) [],
                   (false || ((E4 r6).nv && nvL [])) = true,
                   (!r6) = false,
                   Fn Try.prog 15 [(false, E25 o)] (E31 r7) [],
                   (true || ((E31 r7).nv && nvL [])) = true,
                   Fn Try.prog 17 [(false, E31 r4), (false, E31 r7)] (E4 r8) [],
                   (false || ((E4 r8).nv && nvL [])) = true,
                   (!r8) = false,
                   Fn Try.prog 36 [(true, E31 (World.mk r4.Stripes r4.Now r4.Step r4.Tasks)), (false, E3 1)] (E3 r9.1) [V.sl true 124 (List.map E124 r9.2.1), V.sl true 92 (List.map E92 r9.2.2)],
                   (true || ((E3 r9.1).nv && nvL [V.sl true 124 (List.map E124 r9.2.1), V.sl true 92 (List.map E92 r9.2.2)])) = true,
                   (decide (r9.1 < 0)) = false,
                   (decide (r9.1 < 0)) = false,
                   (decide (r9.1 < 0)) = false,
                   Fn Try.prog 35 [(false, E49 r5), (false, E49 r3)] (E4 r10) [],
                   (false || ((E4 r10).nv && nvL [])) = true,
                   (decide (r9.1 < 0)) = false,
                   (decide (r9.1 < 0)) = false,
                   (!r10) = true]) (by kernel_rfl) (cj (laws_szWorld_ok o 1048576 r1 h1) (cj rfl (cj h2 (cj (laws_toWorld_ok o r2 h3) (cj rfl (cj (spec_Loads_ok r2 r3 h4) (cj (by simp [V.nv, nvL, nvL_all, nv_E3, nv_E49]) (cj (laws_toWorld_ok o r4 h5) (cj rfl (cj (impl_Loads_ok r4 r5 h6) (cj (by simp [V.nv, nvL, nvL_all, nv_E3, nv_E49]) (cj (laws_eqIntS_ok r5 r3 r6 h7) (cj (by simp [V.nv, nvL, nvL_all, nv_E4]) (cj (nf h8) (cj (laws_toWorld_ok o r7 h9) (cj rfl (cj (laws_eqWorld_ok r4 r7 r8 h10) (cj (by simp [V.nv, nvL, nvL_all, nv_E4]) (cj (nf h11) (cj (laws_markWorld_ok (World.mk r4.Stripes r4.Now r4.Step r4.Tasks) 1 r9 h12) (cj rfl (cj h13 (cj h13 (cj h13 (cj (laws_eqIntS_ok r5 r3 r10 h14) (cj (by simp [V.nv, nvL, nvL_all, nv_E4]) (cj h13 (cj h13 (cj1 (nt h15)))))))))))))))))))))))))))))))))))) (fun h11 =>
              Pn.some (Fn.of [.call [] (E3 r1) [], .bit false, .call [] (E31 r2) [], .call [] (E49 r3) [], .call [] (E31 r4) [], .call [] (E49 r5) [], .call [] (E4 r6) [], .bit false, .draw [], .call [] (E31 r7) [], .call [] (E4 r8) [], .bit true] (p := [Fn Try.prog 13 [(false, E25 o), (false, E3 1048576)] (E3 r1) [],
               (true || ((E3 r1).nv && nvL [])) = true,
               (decide (r1 < 0)) = false,
               Fn Try.prog 15 [(false, E25 o)] (E31 r2) [],
               (true || ((E31 r2).nv && nvL [])) = true,
               Fn Try.prog 33 [(false, E31 r2)] (E49 r3) [],
               (false || ((E49 r3).nv && nvL [])) = true,
               Fn Try.prog 15 [(false, E25 o)] (E31 r4) [],
               (true || ((E31 r4).nv && nvL [])) = true,
               Fn Try.prog 34 [(false, E31 r4)] (E49 r5) [],
               (false || ((E49 r5).nv && nvL [])) = true,
               Fn Try.prog 35 [(false, E49 r5), (false, E49 r3)] (E4 r6) [],
               (false || ((E4 r6).nv && nvL [])) = true,
               (!r6) = false,
               Fn Try.prog 15 [(false, E25 o)] (E31 r7) [],
               (true || ((E31 r7).nv && nvL [])) = true,
               Fn Try.prog 17 [(false, E31 r4), (false, E31 r7)] (E4 r8) [],
               (false || ((E4 r8).nv && nvL [])) = true,
               (!r8) = true]) (by kernel_rfl) (cj (laws_szWorld_ok o 1048576 r1 h1) (cj rfl (cj h2 (cj (laws_toWorld_ok o r2 h3) (cj rfl (cj (spec_Loads_ok r2 r3 h4) (cj (by simp [V.nv, nvL, nvL_all, nv_E3, nv_E49]) (cj (laws_toWorld_ok o r4 h5) (cj rfl (cj (impl_Loads_ok r4 r5 h6) (cj (by simp [V.nv, nvL, nvL_all, nv_E3, nv_E49]) (cj (laws_eqIntS_ok r5 r3 r6 h7) (cj (by simp [V.nv, nvL, nvL_all, nv_E4]) (cj (nf h8) (cj (laws_toWorld_ok o r7 h9) (cj rfl (cj (laws_eqWorld_ok r4 r7 r8 h10) (cj (by simp [V.nv, nvL, nvL_all, nv_E4]) (cj1 (nt h11))))))))))))))))))))))))) (fun h8 =>
           Pn.some (Fn.of [.call [] (E3 r1) [], .bit false, .call [] (E31 r2) [], .call [] (E49 r3) [], .call [] (E31 r4) [], .call [] (E49 r5) [], .call [] (E4 r6) [], .bit true] (p := [Fn Try.prog 13 [(false, E25 o), (false, E3 1048576)] (E3 r1) [],
            (true || ((E3 r1).nv && nvL [])) = true,
            (decide (r1 < 0)) = false,
            Fn Try.prog 15 [(false, E25 o)] (E31 r2) [],
            (true || ((E31 r2).nv && nvL [])) = true,
            Fn Try.prog 33 [(false, E31 r2)] (E49 r3) [],
            (false || ((E49 r3).nv && nvL [])) = true,
            Fn Try.prog 15 [(false, E25 o)] (E31 r4) [],
            (true || ((E31 r4).nv && nvL [])) = true,
            Fn Try.prog 34 [(false, E31 r4)] (E49 r5) [],
            (false || ((E49 r5).nv && nvL [])) = true,
            Fn Try.prog 35 [(false, E49 r5), (false, E49 r3)] (E4 r6) [],
            (false || ((E4 r6).nv && nvL [])) = true,
            (!r6) = true]) (by kernel_rfl) (cj (laws_szWorld_ok o 1048576 r1 h1) (cj rfl (cj h2 (cj (laws_toWorld_ok o r2 h3) (cj rfl (cj (spec_Loads_ok r2 r3 h4) (cj (by simp [V.nv, nvL, nvL_all, nv_E3, nv_E49]) (cj (laws_toWorld_ok o r4 h5) (cj rfl (cj (impl_Loads_ok r4 r5 h6) (cj (by simp [V.nv, nvL, nvL_all, nv_E3, nv_E49]) (cj (laws_eqIntS_ok r5 r3 r6 h7) (cj (by simp [V.nv, nvL, nvL_all, nv_E4]) (cj1 (nt h8))))))))))))))))))))))))
def laws_szBook (a : Book) (left : Int) : Option (Int) :=
 (laws_szAcctS a.Accts left).bind fun r1 =>
 if (decide (r1 < 0)) = true then
  some (-1)
 else
  some r1
theorem laws_szBook_ok (a : Book) (left : Int) : Pn (fun y => Fn Try.prog 18 [(false, E37 a), (false, E3 left)] (E3 y) []) (laws_szBook a left) := by
  unfold laws_szBook
  exact
   Pn.bind (fun r1 h1 =>
    Pn.ite (fun h2 =>
     Pn.some (Fn.of [.call [] (E3 r1) [], .bit true] (p := [Fn Try.prog 66 [(false, E35 a.Accts), (false, E3 left)] (E3 r1) [],
      (true || ((E3 r1).nv && nvL [])) = true,
      (decide (r1 < 0)) = true]) (by kernel_rfl) (cj (laws_szAcctS_ok a.Accts left r1 h1) (cj rfl (cj1 h2))))) (fun h2 =>
     Pn.some (Fn.of [.call [] (E3 r1) [], .bit false] (p := [Fn Try.prog 66 [(false, E35 a.Accts), (false, E3 left)] (E3 r1) [],
      (true || ((E3 r1).nv && nvL [])) = true,
      (decide (r1 < 0)) = false]) (by kernel_rfl) (cj (laws_szAcctS_ok a.Accts left r1 h1) (cj rfl (cj1 h2))))))
def laws_toBook (a : Book) : Option (Book) :=
 (laws_toAcctS a.Accts).bind fun r1 =>
 some (Book.mk r1)
theorem laws_toBook_ok (a : Book) : Pn (fun y => Fn Try.prog 20 [(false, E37 a)] (E41 y) []) (laws_toBook a) := by
  unfold laws_toBook
  exact
   Pn.bind (fun r1 h1 =>
    Pn.some (Fn.of [.call [] (E39 r1) []] (p := [Fn Try.prog 68 [(false, E35 a.Accts)] (E39 r1) [],
     (true || ((E39 r1).nv && nvL [])) = true]) (by kernel_rfl) (cj (laws_toAcctS_ok a.Accts r1 h1) (cj1 rfl))))
def spec_l06Copy (r_ : Ring) : Option (Ring) :=
 if (capOk (0 + r_.Counts.length)) = true then
  if (capOk (0 + r_.Sums.length)) = true then
   some r_
  else none
 else none
theorem spec_l06Copy_ok (r_ : Ring) : Pn (fun y => Fn Try.prog 145 [(false, E51 r_)] (E51 y) []) (spec_l06Copy r_) := by
  unfold spec_l06Copy
  exact
   Pn.ite (fun h1 =>
    Pn.ite (fun h2 =>
     Pn.some (Fn.of [.cp (List.map E3 r_.Counts), .nb 3 (.row 3 (List.map E3 r_.Counts) []), .cp (List.map E3 r_.Sums), .nb 5 (.row 3 (List.map E3 r_.Sums) [])] (p := [(List.map E3 r_.Counts).map V.vw = (List.map E3 r_.Counts),
      ([] : List V).length + (List.map E3 r_.Counts).length ≤ 9223372036854775807,
      (([] : List V).length + (List.map E3 r_.Counts).length) * 8 ≤ 140737488355328,
      Blk.row 3 (([] : List V) ++ (List.map E3 r_.Counts)) [] = Blk.row 3 (List.map E3 r_.Counts) [],
      (List.map E3 r_.Sums).map V.vw = (List.map E3 r_.Sums),
      ([] : List V).length + (List.map E3 r_.Sums).length ≤ 9223372036854775807,
      (([] : List V).length + (List.map E3 r_.Sums).length) * 8 ≤ 140737488355328,
      Blk.row 3 (([] : List V) ++ (List.map E3 r_.Sums)) [] = Blk.row 3 (List.map E3 r_.Sums) []]) (by kernel_rfl) (cj (vw_id (fun _ => rfl) _) (cj (cap1 (capN (by simp) h1)) (cj (cap2 (capN (by simp) h1) (by decide)) (cj rfl (cj (vw_id (fun _ => rfl) _) (cj (cap1 (capN (by simp) h2)) (cj (cap2 (capN (by simp) h2) (by decide)) (cj1 rfl)))))))))) (fun h2 =>
     Pn.none)) (fun h1 =>
    Pn.none)
def spec_l08Copy_l0 (l : List Slot) : List Slot → (List Slot) → Option ((List Slot))
  | [], v1 =>
   some v1
  | x1 :: t1, v1 =>
   if (capOk (0 + x1.Reply.length)) = true then
    if (capOk (v1.length + 1)) = true then
     spec_l08Copy_l0 l t1 (v1 ++ [x1])
    else none
   else none
theorem spec_l08Copy_l0_ok (l : List Slot) (h2 : capOk l.length = true) : ∀ (t1 p1 : List Slot) (_ : l = p1 ++ t1) (v1 : List Slot), Pn (LpO Try.prog (sub (codeOf Try.prog 146) [1, 1, 0, 1, 0, 0]) (st 24 [(3, V.ow 0), (7, V.sl false 177 (List.map E177 l)), (8, V.sc (.int .i64 (l.length : Int))), (9, V.sc (.int .i64 (p1.length : Int)))] [Blk.row 177 (List.map E177 v1) []] []) (fun (y : (List Slot)) => (X.out 0, st 24 [(3, V.ow 0)] [Blk.row 177 (List.map E177 y) []] []))) (spec_l08Copy_l0 l t1 v1)
  | [], p1, h1, v1 => by
    unfold spec_l08Copy_l0
    exact
     Pn.some (LpO.out [.bit false, .mask [3], .ren [0]] (p := [(decide ((p1.length : Int) < (l.length : Int))) = false]) (by kernel_rfl) (show X.out 0 ≠ X.go from nofun) (cj1 (rng_end h1)))
  | x1 :: t1, p1, h1, v1 => by
    unfold spec_l08Copy_l0
    exact
     Pn.ite (fun h3 =>
      Pn.ite (fun h4 =>
       LpO.go [.bit true, .el (E177 x1), .cp (List.map E5 x1.Reply), .nb 3 (.row 5 (List.map E5 x1.Reply) []), .wait 5, .shut 4, .mv, .nb 5 (.row 177 (List.map E177 (v1 ++ [x1])) []), .wait 4, .mask [3, 7, 8, 9], .ren [5], .nm 9 (V.sc (.int .i64 ((p1 ++ [x1]).length : Int)))] (p := [(decide ((p1.length : Int) < (l.length : Int))) = true,
        (0 : Int) ≤ (p1.length : Int),
        (List.map E177 l)[(p1.length : Int).toNat]? = some (E177 x1),
        (List.map E5 x1.Reply).map V.vw = (List.map E5 x1.Reply),
        ([] : List V).length + (List.map E5 x1.Reply).length ≤ 9223372036854775807,
        (([] : List V).length + (List.map E5 x1.Reply).length) * 1 ≤ 140737488355328,
        Blk.row 5 (([] : List V) ++ (List.map E5 x1.Reply)) [] = Blk.row 5 (List.map E5 x1.Reply) [],
        (List.map E177 v1).length + [V.agg [V.sc (.string x1.Trace), V.sc (.string x1.Mti), V.sl true 5 (List.map E5 x1.Reply)]].length ≤ 9223372036854775807,
        ((List.map E177 v1).length + [V.agg [V.sc (.string x1.Trace), V.sc (.string x1.Mti), V.sl true 5 (List.map E5 x1.Reply)]].length) * 56 ≤ 140737488355328,
        Blk.row 177 ((List.map E177 v1) ++ [V.agg [V.sc (.string x1.Trace), V.sc (.string x1.Mti), V.sl true 5 (List.map E5 x1.Reply)]]) [] = Blk.row 177 (List.map E177 (v1 ++ [x1])) [],
        V.sc (.int .i64 (i64 ((p1.length : Int) + 1))) = V.sc (.int .i64 ((p1 ++ [x1]).length : Int))]) (by kernel_rfl) (cj (rng_lt h1) (cj (by omega) (cj (rng_get _ h1) (cj (vw_id (fun _ => rfl) _) (cj (cap1 (capN (by simp) h3)) (cj (cap2 (capN (by simp) h3) (by decide)) (cj rfl (cj (cap1 (capN (by simp) h4)) (cj (cap2 (capN (by simp) h4) (by decide)) (cj (nb_app E177 v1 [x1]) (cj1 (rng_next h1 h2)))))))))))) (spec_l08Copy_l0_ok l h2 t1 (p1 ++ [x1]) (rng_step h1) (v1 ++ [x1]))) (fun h4 =>
       Pn.none)) (fun h3 =>
      Pn.none)
def spec_l08Copy (l : List Slot) : Option ((List Slot)) :=
 if (capOk l.length) = true then
  (spec_l08Copy_l0 l l []).bind fun r1 =>
  some r1
 else none
theorem spec_l08Copy_ok (l : List Slot) : Pn (fun y => Fn Try.prog 146 [(false, E52 l)] (E52 y) []) (spec_l08Copy l) := by
  unfold spec_l08Copy
  exact
   Pn.ite (fun h5 =>
    Pn.bind (fun r1 h6 =>
     Pn.some (Fn.of [.wait 5, .nm 8 (V.sc (.int .i64 (l.length : Int))), .wait 2, .mask [3, 7, 8, 9], .ren [0], .loop (X.out 0) (st 24 [(3, V.ow 0)] [Blk.row 177 (List.map E177 r1) []] [])] (p := [V.sc (.int .i64 ((List.map E177 l).length : Int)) = V.sc (.int .i64 (l.length : Int)),
      Loop Try.prog (sub (codeOf Try.prog 146) [1, 1, 0, 1, 0, 0]) (st 24 [(3, V.ow 0), (7, V.sl false 177 (List.map E177 l)), (8, V.sc (.int .i64 (l.length : Int))), (9, V.sc (.int .i64 0))] [Blk.row 177 ([] : List V) []] []) (X.out 0) (st 24 [(3, V.ow 0)] [Blk.row 177 (List.map E177 r1) []] [])]) (by kernel_rfl) (cj (len_nm _ _) (cj1 (spec_l08Copy_l0_ok l h5 l [] rfl [] r1 h6)))))) (fun h5 =>
    Pn.none)
def spec_l09Copy (a : Acct) : Option (Acct) :=
 if (capOk (0 + a.Holds.length)) = true then
  (spec_l06Copy a.Ring).bind fun r1 =>
  (spec_l08Copy a.Slots).bind fun r2 =>
  some (Acct.mk a.Id a.Limit a.Posted a.Most a.MostSum a.Holds (Ring.mk r1.Span r1.Head r1.Counts r1.Sums) r2)
 else none
theorem spec_l09Copy_ok (a : Acct) : Pn (fun y => Fn Try.prog 80 [(false, E54 a)] (E54 y) []) (spec_l09Copy a) := by
  unfold spec_l09Copy
  exact
   Pn.ite (fun h1 =>
    Pn.bind (fun r1 h2 =>
     Pn.bind (fun r2 h3 =>
      Pn.some (Fn.of [.cp (List.map E61 a.Holds), .nb 3 (.row 61 (List.map E61 a.Holds) []), .call [] (E51 r1) [], .call [] (E52 r2) []] (p := [(List.map E61 a.Holds).map V.vw = (List.map E61 a.Holds),
       ([] : List V).length + (List.map E61 a.Holds).length ≤ 9223372036854775807,
       (([] : List V).length + (List.map E61 a.Holds).length) * 32 ≤ 140737488355328,
       Blk.row 61 (([] : List V) ++ (List.map E61 a.Holds)) [] = Blk.row 61 (List.map E61 a.Holds) [],
       Fn Try.prog 145 [(false, E51 a.Ring)] (E51 r1) [],
       (true || ((E51 r1).nv && nvL [])) = true,
       Fn Try.prog 146 [(false, E52 a.Slots)] (E52 r2) [],
       (true || ((E52 r2).nv && nvL [])) = true]) (by kernel_rfl) (cj (vw_id (fun _ => rfl) _) (cj (cap1 (capN (by simp) h1)) (cj (cap2 (capN (by simp) h1) (by decide)) (cj rfl (cj (spec_l06Copy_ok a.Ring r1 h2) (cj rfl (cj (spec_l08Copy_ok a.Slots r2 h3) (cj1 rfl)))))))))))) (fun h1 =>
    Pn.none)
end Go.Proofs.YtdpbcmajmojolaaM
