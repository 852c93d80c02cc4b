/- Printed by gen.py: functions on plain data, and that the program computes them. No condition. -/
import Derived.Test.YtdcejeemommkfaaGreatM18
import Derived.Test.YtdcejeemommkfaaGreatProg
namespace Go.Proofs.YtdcejeemommkfaaGreatM
set_option linter.unusedVariables false
set_option linter.unusedSimpArgs false
open Go.RowKit
set_option maxRecDepth 100000

structure Hold where
  Id : ByteArray
  Amount : Int
  Due : Int
structure Ring where
  Span : Int
  Head : Int
  Counts : List Int
  Sums : List Int
structure Slot where
  Trace : ByteArray
  Mti : ByteArray
  Reply : List Int
structure Acct where
  Id : ByteArray
  Limit : Int
  Posted : Int
  Most : Int
  MostSum : Int
  Holds : List Hold
  Ring : Ring
  Slots : List Slot
structure Stripe where
  Owner : Int
  Accts : List Acct
structure Book where
  Accts : List Acct
def E3 (x : Int) : V := V.sc (.int .i64 x)
def E9 (x : ByteArray) : V := V.sc (.string x)
def E107 (x : Hold) : V := V.agg [V.sc (.string x.Id), V.sc (.int .i64 x.Amount), V.sc (.int .i64 x.Due)]
def E61 (x : List Hold) : V := V.sl true 107 (List.map E107 x)
def E38 (x : List Int) : V := V.sl true 3 (List.map E3 x)
def E62 (x : Ring) : V := V.agg [V.sc (.int .i64 x.Span), V.sc (.int .i64 x.Head), V.sl true 3 (List.map E3 x.Counts), V.sl true 3 (List.map E3 x.Sums)]
def E5 (x : Int) : V := V.sc (.int .u8 x)
def E87 (x : List Int) : V := V.sl true 5 (List.map E5 x)
def E110 (x : Slot) : V := V.agg [V.sc (.string x.Trace), V.sc (.string x.Mti), V.sl true 5 (List.map E5 x.Reply)]
def E63 (x : List Slot) : V := V.sl true 110 (List.map E110 x)
def E65 (x : Acct) : V := V.agg [V.sc (.string x.Id), V.sc (.int .i64 x.Limit), V.sc (.int .i64 x.Posted), V.sc (.int .i64 x.Most), V.sc (.int .i64 x.MostSum), V.sl true 107 (List.map E107 x.Holds), V.sc (.int .i64 x.Ring.Span), V.sc (.int .i64 x.Ring.Head), V.sl true 3 (List.map E3 x.Ring.Counts), V.sl true 3 (List.map E3 x.Ring.Sums), V.sl true 110 (List.map E110 x.Slots)]
def E30 (x : List Acct) : V := V.sl true 65 (List.map E65 x)
def E32 (x : Stripe) : V := V.agg [V.sc (.int .i64 x.Owner), V.sl true 65 (List.map E65 x.Accts)]
def E22 (x : List Stripe) : V := V.sl true 32 (List.map E32 x)
def E4 (x : Bool) : V := V.sc (.bool x)
def E85 (x : Hold) : V := V.agg [V.sc (.string x.Id), V.sc (.int .i64 x.Amount), V.sc (.int .i64 x.Due)]
def E37 (x : List Hold) : V := V.sl true 85 (List.map E85 x)
def E40 (x : Ring) : V := V.agg [V.sc (.int .i64 x.Span), V.sc (.int .i64 x.Head), V.sl true 3 (List.map E3 x.Counts), V.sl true 3 (List.map E3 x.Sums)]
def E89 (x : Slot) : V := V.agg [V.sc (.string x.Trace), V.sc (.string x.Mti), V.sl true 5 (List.map E5 x.Reply)]
def E41 (x : List Slot) : V := V.sl true 89 (List.map E89 x)
def E43 (x : Acct) : V := V.agg [V.sc (.string x.Id), V.sc (.int .i64 x.Limit), V.sc (.int .i64 x.Posted), V.sc (.int .i64 x.Most), V.sc (.int .i64 x.MostSum), V.sl true 85 (List.map E85 x.Holds), V.sc (.int .i64 x.Ring.Span), V.sc (.int .i64 x.Ring.Head), V.sl true 3 (List.map E3 x.Ring.Counts), V.sl true 3 (List.map E3 x.Ring.Sums), V.sl true 89 (List.map E89 x.Slots)]
def E34 (x : List Acct) : V := V.sl true 43 (List.map E43 x)
def E36 (x : Stripe) : V := V.agg [V.sc (.int .i64 x.Owner), V.sl true 43 (List.map E43 x.Accts)]
def E25 (x : List Stripe) : V := V.sl true 36 (List.map E36 x)
def E47 (x : Book) : V := V.agg [V.sl true 43 (List.map E43 x.Accts)]
def E114 (x : List (List Int)) : V := V.sl true 38 (List.map E38 x)
theorem nv_E3 (x : Int) : (E3 x).nv = true := by
  simp [E3, V.nv, nvL, nvL_all]
theorem nv_E9 (x : ByteArray) : (E9 x).nv = true := by
  simp [E9, V.nv, nvL, nvL_all]
theorem nv_E107 (x : Hold) : (E107 x).nv = true := by
  simp [E107, V.nv, nvL, nvL_all]
theorem nv_E61 (x : List Hold) : (E61 x).nv = true := by
  simp [E61, V.nv, nvL, nvL_all, nv_E107]
theorem nv_E38 (x : List Int) : (E38 x).nv = true := by
  simp [E38, V.nv, nvL, nvL_all, nv_E3]
theorem nv_E62 (x : Ring) : (E62 x).nv = true := by
  simp [E62, V.nv, nvL, nvL_all, nv_E3, nv_E3]
theorem nv_E5 (x : Int) : (E5 x).nv = true := by
  simp [E5, V.nv, nvL, nvL_all]
theorem nv_E87 (x : List Int) : (E87 x).nv = true := by
  simp [E87, V.nv, nvL, nvL_all, nv_E5]
theorem nv_E110 (x : Slot) : (E110 x).nv = true := by
  simp [E110, V.nv, nvL, nvL_all, nv_E5]
theorem nv_E63 (x : List Slot) : (E63 x).nv = true := by
  simp [E63, V.nv, nvL, nvL_all, nv_E110]
theorem nv_E65 (x : Acct) : (E65 x).nv = true := by
  simp [E65, V.nv, nvL, nvL_all, nv_E107, nv_E3, nv_E3, nv_E110]
theorem nv_E30 (x : List Acct) : (E30 x).nv = true := by
  simp [E30, V.nv, nvL, nvL_all, nv_E65]
theorem nv_E32 (x : Stripe) : (E32 x).nv = true := by
  simp [E32, V.nv, nvL, nvL_all, nv_E65]
theorem nv_E22 (x : List Stripe) : (E22 x).nv = true := by
  simp [E22, V.nv, nvL, nvL_all, nv_E32]
theorem nv_E4 (x : Bool) : (E4 x).nv = true := by
  simp [E4, V.nv, nvL, nvL_all]
theorem nv_E85 (x : Hold) : (E85 x).nv = true := by
  simp [E85, V.nv, nvL, nvL_all]
theorem nv_E37 (x : List Hold) : (E37 x).nv = true := by
  simp [E37, V.nv, nvL, nvL_all, nv_E85]
theorem nv_E40 (x : Ring) : (E40 x).nv = true := by
  simp [E40, V.nv, nvL, nvL_all, nv_E3, nv_E3]
theorem nv_E89 (x : Slot) : (E89 x).nv = true := by
  simp [E89, V.nv, nvL, nvL_all, nv_E5]
theorem nv_E41 (x : List Slot) : (E41 x).nv = true := by
  simp [E41, V.nv, nvL, nvL_all, nv_E89]
theorem nv_E43 (x : Acct) : (E43 x).nv = true := by
  simp [E43, V.nv, nvL, nvL_all, nv_E85, nv_E3, nv_E3, nv_E89]
theorem nv_E34 (x : List Acct) : (E34 x).nv = true := by
  simp [E34, V.nv, nvL, nvL_all, nv_E43]
theorem nv_E36 (x : Stripe) : (E36 x).nv = true := by
  simp [E36, V.nv, nvL, nvL_all, nv_E43]
theorem nv_E25 (x : List Stripe) : (E25 x).nv = true := by
  simp [E25, V.nv, nvL, nvL_all, nv_E36]
theorem nv_E47 (x : Book) : (E47 x).nv = true := by
  simp [E47, V.nv, nvL, nvL_all, nv_E43]
theorem nv_E114 (x : List (List Int)) : (E114 x).nv = true := by
  simp [E114, V.nv, nvL, nvL_all, nv_E38]
def laws_szHold (a : Hold) (left : Int) : Option (Int) :=
 if (decide ((i64 (left - (a.Id.size : Int))) < 0)) = true then
 some (-1)
 else
 some (i64 (left - (a.Id.size : Int)))
theorem laws_szHold_ok (a : Hold) (left : Int) : Pn (fun y => Fn Tryz.prog 79 [(false, E107 a), (false, E3 left)] (E3 y) []) (laws_szHold a left) := by
  unfold laws_szHold
  exact
   Pn.ite (fun h1 =>
   Pn.some (Fn.of [.bit true] (p := [(decide ((i64 (left - (a.Id.size : Int))) < 0)) = true]) (by kernel_rfl) (cj1 h1))) (fun h1 =>
   Pn.some (Fn.of [.bit false] (p := [(decide ((i64 (left - (a.Id.size : Int))) < 0)) = false]) (by kernel_rfl) (cj1 h1)))
def laws_szHoldS_l0 (a : List Hold) : List Hold → Int → Option (Lo Int Unit)
  | [], v1 =>
   some (.out v1)
  | x1 :: t1, v1 =>
   (laws_szHold x1 v1).bind fun r1 =>
   if (decide (r1 < 0)) = true then
   some (.ret ())
   else
   laws_szHoldS_l0 a t1 r1
theorem laws_szHoldS_l0_ok (a : List Hold) (h3 : capOk a.length = true) : ∀ (t1 p1 : List Hold) (_ : a = p1 ++ t1) (v1 : Int), Pn (LpO Tryz.prog (sub (codeOf Tryz.prog 53) [1, 1, 1, 0, 1, 0, 0]) (st 27 [(0, V.sl false 107 (List.map E107 a)), (1, V.sc (.int .i64 v1)), (5, V.sc (.int .i64 (p1.length : Int)))] [] []) (fun (y : Lo Int Unit) => Lo.elim y (fun s => (X.out 0, st 27 [(1, V.sc (.int .i64 s))] [] [])) (fun s => (X.ret, st 27 [(4, V.sc (.int .i64 (-1)))] [] [])))) (laws_szHoldS_l0 a t1 v1)
  | [], p1, h2, v1 => by
    unfold laws_szHoldS_l0
    exact
     Pn.some (LpO.out [.wait 3, .nm 14 (V.sc (.int .i64 (a.length : Int))), .bit false, .mask [1], .ren []] (p := [V.sc (.int .i64 ((List.map E107 a).length : Int)) = V.sc (.int .i64 (a.length : Int)),
      (decide ((p1.length : Int) < (a.length : Int))) = false]) (by kernel_rfl) (show X.out 0 ≠ X.go from nofun) (cj (len_nm _ _) (cj1 (rng_end h2))))
  | x1 :: t1, p1, h2, v1 => by
    unfold laws_szHoldS_l0
    exact
     Pn.bind (fun r1 h4 =>
     Pn.ite (fun h5 =>
     Pn.some (LpO.out [.wait 3, .nm 14 (V.sc (.int .i64 (a.length : Int))), .bit true, .el (E107 x1), .call [] (E3 r1) [], .bit true, .wait 1, .mask [4], .ren []] (p := [V.sc (.int .i64 ((List.map E107 a).length : Int)) = V.sc (.int .i64 (a.length : Int)),
      (decide ((p1.length : Int) < (a.length : Int))) = true,
      (0 : Int) ≤ (p1.length : Int),
      (List.map E107 a)[(p1.length : Int).toNat]? = some (E107 x1),
      Fn Tryz.prog 79 [(false, E107 x1), (false, E3 v1)] (E3 r1) [],
      (true || ((E3 r1).nv && nvL [])) = true,
      (decide (r1 < 0)) = true]) (by kernel_rfl) (show X.ret ≠ X.go from nofun) (cj (len_nm _ _) (cj (rng_lt h2) (cj (by omega) (cj (rng_get _ h2) (cj (laws_szHold_ok x1 v1 r1 h4) (cj rfl (cj1 h5))))))))) (fun h5 =>
     LpO.go [.wait 3, .nm 14 (V.sc (.int .i64 (a.length : Int))), .bit true, .el (E107 x1), .call [] (E3 r1) [], .bit false, .wait 3, .mask [0, 1, 5], .ren [], .nm 5 (V.sc (.int .i64 ((p1 ++ [x1]).length : Int)))] (p := [V.sc (.int .i64 ((List.map E107 a).length : Int)) = V.sc (.int .i64 (a.length : Int)),
      (decide ((p1.length : Int) < (a.length : Int))) = true,
      (0 : Int) ≤ (p1.length : Int),
      (List.map E107 a)[(p1.length : Int).toNat]? = some (E107 x1),
      Fn Tryz.prog 79 [(false, E107 x1), (false, E3 v1)] (E3 r1) [],
      (true || ((E3 r1).nv && nvL [])) = true,
      (decide (r1 < 0)) = false,
      V.sc (.int .i64 (i64 ((p1.length : Int) + 1))) = V.sc (.int .i64 ((p1 ++ [x1]).length : Int))]) (by kernel_rfl) (cj (len_nm _ _) (cj (rng_lt h2) (cj (by omega) (cj (rng_get _ h2) (cj (laws_szHold_ok x1 v1 r1 h4) (cj rfl (cj h5 (cj1 (rng_next h2 h3))))))))) (laws_szHoldS_l0_ok a h3 t1 (p1 ++ [x1]) (rng_step h2) r1)))
def laws_szHoldS (a : List Hold) (left : Int) : Option (Int) :=
 if (decide ((i64 (left - (a.length : Int))) < 0)) = true then
 some (-1)
 else
 if (capOk a.length) = true then
 (laws_szHoldS_l0 a a (i64 (left - (a.length : Int)))).bind fun r2 =>
 Lo.elim r2 (fun s1 =>
 some s1) (fun s2 =>
 some (-1))
 else none
theorem laws_szHoldS_ok (a : List Hold) (left : Int) : Pn (fun y => Fn Tryz.prog 53 [(false, E61 a), (false, E3 left)] (E3 y) []) (laws_szHoldS a left) := by
  unfold laws_szHoldS
  exact
   Pn.ite (fun h1 =>
   Pn.some (Fn.of [.wait 4, .nm 8 (V.sc (.int .i64 (a.length : Int))), .bit true] (p := [V.sc (.int .i64 ((List.map E107 a).length : Int)) = V.sc (.int .i64 (a.length : Int)),
    (decide ((i64 (left - (a.length : Int))) < 0)) = true]) (by kernel_rfl) (cj (len_nm _ _) (cj1 h1)))) (fun h1 =>
   Pn.ite (fun h6 =>
   Pn.bind (fun r2 h7 =>
   Pn.lo (fun s1 h8 =>
   Pn.some (Fn.of [.wait 4, .nm 8 (V.sc (.int .i64 (a.length : Int))), .bit false, .wait 1, .mask [0, 1, 5], .ren [], .loop (X.out 0) (st 27 [(1, V.sc (.int .i64 s1))] [] [])] (p := [V.sc (.int .i64 ((List.map E107 a).length : Int)) = V.sc (.int .i64 (a.length : Int)),
    (decide ((i64 (left - (a.length : Int))) < 0)) = false,
    Loop Tryz.prog (sub (codeOf Tryz.prog 53) [1, 1, 1, 0, 1, 0, 0]) (st 27 [(0, V.sl false 107 (List.map E107 a)), (1, V.sc (.int .i64 (i64 (left - (a.length : Int))))), (5, V.sc (.int .i64 0))] [] []) (X.out 0) (st 27 [(1, V.sc (.int .i64 s1))] [] [])]) (by kernel_rfl) (cj (len_nm _ _) (cj h1 (cj1 ((laws_szHoldS_l0_ok a h6 a [] rfl (i64 (left - (a.length : Int))) r2 h7).at h8)))))) (fun s2 h9 =>
   Pn.some (Fn.of [.wait 4, .nm 8 (V.sc (.int .i64 (a.length : Int))), .bit false, .wait 1, .mask [0, 1, 5], .ren [], .loop (X.ret) (st 27 [(4, V.sc (.int .i64 (-1)))] [] [])] (p := [V.sc (.int .i64 ((List.map E107 a).length : Int)) = V.sc (.int .i64 (a.length : Int)),
    (decide ((i64 (left - (a.length : Int))) < 0)) = false,
    Loop Tryz.prog (sub (codeOf Tryz.prog 53) [1, 1, 1, 0, 1, 0, 0]) (st 27 [(0, V.sl false 107 (List.map E107 a)), (1, V.sc (.int .i64 (i64 (left - (a.length : Int))))), (5, V.sc (.int .i64 0))] [] []) (X.ret) (st 27 [(4, V.sc (.int .i64 (-1)))] [] [])]) (by kernel_rfl) (cj (len_nm _ _) (cj h1 (cj1 ((laws_szHoldS_l0_ok a h6 a [] rfl (i64 (left - (a.length : Int))) r2 h7).at h9)))))))) (fun h6 =>
   Pn.none))
def laws_szIntS (a : List Int) (left : Int) : Option (Int) :=
 if (decide ((i64 (left - (a.length : Int))) < 0)) = true then
 some (-1)
 else
 some (i64 (left - (a.length : Int)))
theorem laws_szIntS_ok (a : List Int) (left : Int) : Pn (fun y => Fn Tryz.prog 80 [(false, E38 a), (false, E3 left)] (E3 y) []) (laws_szIntS a left) := by
  unfold laws_szIntS
  exact
   Pn.ite (fun h1 =>
   Pn.some (Fn.of [.wait 4, .nm 7 (V.sc (.int .i64 (a.length : Int))), .bit true] (p := [V.sc (.int .i64 ((List.map E3 a).length : Int)) = V.sc (.int .i64 (a.length : Int)),
    (decide ((i64 (left - (a.length : Int))) < 0)) = true]) (by kernel_rfl) (cj (len_nm _ _) (cj1 h1)))) (fun h1 =>
   Pn.some (Fn.of [.wait 4, .nm 7 (V.sc (.int .i64 (a.length : Int))), .bit false] (p := [V.sc (.int .i64 ((List.map E3 a).length : Int)) = V.sc (.int .i64 (a.length : Int)),
    (decide ((i64 (left - (a.length : Int))) < 0)) = false]) (by kernel_rfl) (cj (len_nm _ _) (cj1 h1))))
def laws_szRing (a : Ring) (left : Int) : Option (Int) :=
 (laws_szIntS a.Counts left).bind fun r1 =>
 if (decide (r1 < 0)) = true then
 some (-1)
 else
 (laws_szIntS a.Sums r1).bind fun r2 =>
 if (decide (r2 < 0)) = true then
 some (-1)
 else
 some r2
theorem laws_szRing_ok (a : Ring) (left : Int) : Pn (fun y => Fn Tryz.prog 54 [(false, E62 a), (false, E3 left)] (E3 y) []) (laws_szRing a left) := by
  unfold laws_szRing
  exact
   Pn.bind (fun r1 h1 =>
   Pn.ite (fun h2 =>
   Pn.some (Fn.of [.call [] (E3 r1) [], .bit true] (p := [Fn Tryz.prog 80 [(false, E38 a.Counts), (false, E3 left)] (E3 r1) [],
    (true || ((E3 r1).nv && nvL [])) = true,
    (decide (r1 < 0)) = true]) (by kernel_rfl) (cj (laws_szIntS_ok a.Counts left r1 h1) (cj rfl (cj1 h2))))) (fun h2 =>
   Pn.bind (fun r2 h3 =>
   Pn.ite (fun h4 =>
   Pn.some (Fn.of [.call [] (E3 r1) [], .bit false, .call [] (E3 r2) [], .bit true] (p := [Fn Tryz.prog 80 [(false, E38 a.Counts), (false, E3 left)] (E3 r1) [],
    (true || ((E3 r1).nv && nvL [])) = true,
    (decide (r1 < 0)) = false,
    Fn Tryz.prog 80 [(false, E38 a.Sums), (false, E3 r1)] (E3 r2) [],
    (true || ((E3 r2).nv && nvL [])) = true,
    (decide (r2 < 0)) = true]) (by kernel_rfl) (cj (laws_szIntS_ok a.Counts left r1 h1) (cj rfl (cj h2 (cj (laws_szIntS_ok a.Sums r1 r2 h3) (cj rfl (cj1 h4)))))))) (fun h4 =>
   Pn.some (Fn.of [.call [] (E3 r1) [], .bit false, .call [] (E3 r2) [], .bit false] (p := [Fn Tryz.prog 80 [(false, E38 a.Counts), (false, E3 left)] (E3 r1) [],
    (true || ((E3 r1).nv && nvL [])) = true,
    (decide (r1 < 0)) = false,
    Fn Tryz.prog 80 [(false, E38 a.Sums), (false, E3 r1)] (E3 r2) [],
    (true || ((E3 r2).nv && nvL [])) = true,
    (decide (r2 < 0)) = false]) (by kernel_rfl) (cj (laws_szIntS_ok a.Counts left r1 h1) (cj rfl (cj h2 (cj (laws_szIntS_ok a.Sums r1 r2 h3) (cj rfl (cj1 h4)))))))))))
def laws_szByteS (a : List Int) (left : Int) : Option (Int) :=
 if (decide ((i64 (left - (a.length : Int))) < 0)) = true then
 some (-1)
 else
 some (i64 (left - (a.length : Int)))
theorem laws_szByteS_ok (a : List Int) (left : Int) : Pn (fun y => Fn Tryz.prog 101 [(false, E87 a), (false, E3 left)] (E3 y) []) (laws_szByteS a left) := by
  unfold laws_szByteS
  exact
   Pn.ite (fun h1 =>
   Pn.some (Fn.of [.wait 4, .nm 7 (V.sc (.int .i64 (a.length : Int))), .bit true] (p := [V.sc (.int .i64 ((List.map E5 a).length : Int)) = V.sc (.int .i64 (a.length : Int)),
    (decide ((i64 (left - (a.length : Int))) < 0)) = true]) (by kernel_rfl) (cj (len_nm _ _) (cj1 h1)))) (fun h1 =>
   Pn.some (Fn.of [.wait 4, .nm 7 (V.sc (.int .i64 (a.length : Int))), .bit false] (p := [V.sc (.int .i64 ((List.map E5 a).length : Int)) = V.sc (.int .i64 (a.length : Int)),
    (decide ((i64 (left - (a.length : Int))) < 0)) = false]) (by kernel_rfl) (cj (len_nm _ _) (cj1 h1))))
def laws_szSlot (a : Slot) (left : Int) : Option (Int) :=
 if (decide ((i64 (left - (a.Trace.size : Int))) < 0)) = true then
 some (-1)
 else
 if (decide ((i64 ((i64 (left - (a.Trace.size : Int))) - (a.Mti.size : Int))) < 0)) = true then
 some (-1)
 else
 (laws_szByteS a.Reply (i64 ((i64 (left - (a.Trace.size : Int))) - (a.Mti.size : Int)))).bind fun r1 =>
 if (decide (r1 < 0)) = true then
 some (-1)
 else
 some r1
theorem laws_szSlot_ok (a : Slot) (left : Int) : Pn (fun y => Fn Tryz.prog 81 [(false, E110 a), (false, E3 left)] (E3 y) []) (laws_szSlot a left) := by
  unfold laws_szSlot
  exact
   Pn.ite (fun h1 =>
   Pn.some (Fn.of [.bit true] (p := [(decide ((i64 (left - (a.Trace.size : Int))) < 0)) = true]) (by kernel_rfl) (cj1 h1))) (fun h1 =>
   Pn.ite (fun h2 =>
   Pn.some (Fn.of [.bit false, .bit true] (p := [(decide ((i64 (left - (a.Trace.size : Int))) < 0)) = false,
    (decide ((i64 ((i64 (left - (a.Trace.size : Int))) - (a.Mti.size : Int))) < 0)) = true]) (by kernel_rfl) (cj h1 (cj1 h2)))) (fun h2 =>
   Pn.bind (fun r1 h3 =>
   Pn.ite (fun h4 =>
   Pn.some (Fn.of [.bit false, .bit false, .call [] (E3 r1) [], .bit true] (p := [(decide ((i64 (left - (a.Trace.size : Int))) < 0)) = false,
    (decide ((i64 ((i64 (left - (a.Trace.size : Int))) - (a.Mti.size : Int))) < 0)) = false,
    Fn Tryz.prog 101 [(false, E87 a.Reply), (false, E3 (i64 ((i64 (left - (a.Trace.size : Int))) - (a.Mti.size : Int))))] (E3 r1) [],
    (true || ((E3 r1).nv && nvL [])) = true,
    (decide (r1 < 0)) = true]) (by kernel_rfl) (cj h1 (cj h2 (cj (laws_szByteS_ok a.Reply (i64 ((i64 (left - (a.Trace.size : Int))) - (a.Mti.size : Int))) r1 h3) (cj rfl (cj1 h4))))))) (fun h4 =>
   Pn.some (Fn.of [.bit false, .bit false, .call [] (E3 r1) [], .bit false] (p := [(decide ((i64 (left - (a.Trace.size : Int))) < 0)) = false,
    (decide ((i64 ((i64 (left - (a.Trace.size : Int))) - (a.Mti.size : Int))) < 0)) = false,
    Fn Tryz.prog 101 [(false, E87 a.Reply), (false, E3 (i64 ((i64 (left - (a.Trace.size : Int))) - (a.Mti.size : Int))))] (E3 r1) [],
    (true || ((E3 r1).nv && nvL [])) = true,
    (decide (r1 < 0)) = false]) (by kernel_rfl) (cj h1 (cj h2 (cj (laws_szByteS_ok a.Reply (i64 ((i64 (left - (a.Trace.size : Int))) - (a.Mti.size : Int))) r1 h3) (cj rfl (cj1 h4))))))))))
def laws_szSlotS_l0 (a : List Slot) : List Slot → Int → Option (Lo Int Unit)
  | [], v1 =>
   some (.out v1)
  | x1 :: t1, v1 =>
   (laws_szSlot x1 v1).bind fun r1 =>
   if (decide (r1 < 0)) = true then
   some (.ret ())
   else
   laws_szSlotS_l0 a t1 r1
theorem laws_szSlotS_l0_ok (a : List Slot) (h3 : capOk a.length = true) : ∀ (t1 p1 : List Slot) (_ : a = p1 ++ t1) (v1 : Int), Pn (LpO Tryz.prog (sub (codeOf Tryz.prog 55) [1, 1, 1, 0, 1, 0, 0]) (st 27 [(0, V.sl false 110 (List.map E110 a)), (1, V.sc (.int .i64 v1)), (5, V.sc (.int .i64 (p1.length : Int)))] [] []) (fun (y : Lo Int Unit) => Lo.elim y (fun s => (X.out 0, st 27 [(1, V.sc (.int .i64 s))] [] [])) (fun s => (X.ret, st 27 [(4, V.sc (.int .i64 (-1)))] [] [])))) (laws_szSlotS_l0 a t1 v1)
  | [], p1, h2, v1 => by
    unfold laws_szSlotS_l0
    exact
     Pn.some (LpO.out [.wait 3, .nm 14 (V.sc (.int .i64 (a.length : Int))), .bit false, .mask [1], .ren []] (p := [V.sc (.int .i64 ((List.map E110 a).length : Int)) = V.sc (.int .i64 (a.length : Int)),
      (decide ((p1.length : Int) < (a.length : Int))) = false]) (by kernel_rfl) (show X.out 0 ≠ X.go from nofun) (cj (len_nm _ _) (cj1 (rng_end h2))))
  | x1 :: t1, p1, h2, v1 => by
    unfold laws_szSlotS_l0
    exact
     Pn.bind (fun r1 h4 =>
     Pn.ite (fun h5 =>
     Pn.some (LpO.out [.wait 3, .nm 14 (V.sc (.int .i64 (a.length : Int))), .bit true, .el (E110 x1), .call [] (E3 r1) [], .bit true, .wait 1, .mask [4], .ren []] (p := [V.sc (.int .i64 ((List.map E110 a).length : Int)) = V.sc (.int .i64 (a.length : Int)),
      (decide ((p1.length : Int) < (a.length : Int))) = true,
      (0 : Int) ≤ (p1.length : Int),
      (List.map E110 a)[(p1.length : Int).toNat]? = some (E110 x1),
      Fn Tryz.prog 81 [(false, E110 x1), (false, E3 v1)] (E3 r1) [],
      (true || ((E3 r1).nv && nvL [])) = true,
      (decide (r1 < 0)) = true]) (by kernel_rfl) (show X.ret ≠ X.go from nofun) (cj (len_nm _ _) (cj (rng_lt h2) (cj (by omega) (cj (rng_get _ h2) (cj (laws_szSlot_ok x1 v1 r1 h4) (cj rfl (cj1 h5))))))))) (fun h5 =>
     LpO.go [.wait 3, .nm 14 (V.sc (.int .i64 (a.length : Int))), .bit true, .el (E110 x1), .call [] (E3 r1) [], .bit false, .wait 3, .mask [0, 1, 5], .ren [], .nm 5 (V.sc (.int .i64 ((p1 ++ [x1]).length : Int)))] (p := [V.sc (.int .i64 ((List.map E110 a).length : Int)) = V.sc (.int .i64 (a.length : Int)),
      (decide ((p1.length : Int) < (a.length : Int))) = true,
      (0 : Int) ≤ (p1.length : Int),
      (List.map E110 a)[(p1.length : Int).toNat]? = some (E110 x1),
      Fn Tryz.prog 81 [(false, E110 x1), (false, E3 v1)] (E3 r1) [],
      (true || ((E3 r1).nv && nvL [])) = true,
      (decide (r1 < 0)) = false,
      V.sc (.int .i64 (i64 ((p1.length : Int) + 1))) = V.sc (.int .i64 ((p1 ++ [x1]).length : Int))]) (by kernel_rfl) (cj (len_nm _ _) (cj (rng_lt h2) (cj (by omega) (cj (rng_get _ h2) (cj (laws_szSlot_ok x1 v1 r1 h4) (cj rfl (cj h5 (cj1 (rng_next h2 h3))))))))) (laws_szSlotS_l0_ok a h3 t1 (p1 ++ [x1]) (rng_step h2) r1)))
def laws_szSlotS (a : List Slot) (left : Int) : Option (Int) :=
 if (decide ((i64 (left - (a.length : Int))) < 0)) = true then
 some (-1)
 else
 if (capOk a.length) = true then
 (laws_szSlotS_l0 a a (i64 (left - (a.length : Int)))).bind fun r2 =>
 Lo.elim r2 (fun s1 =>
 some s1) (fun s2 =>
 some (-1))
 else none
theorem laws_szSlotS_ok (a : List Slot) (left : Int) : Pn (fun y => Fn Tryz.prog 55 [(false, E63 a), (false, E3 left)] (E3 y) []) (laws_szSlotS a left) := by
  unfold laws_szSlotS
  exact
   Pn.ite (fun h1 =>
   Pn.some (Fn.of [.wait 4, .nm 8 (V.sc (.int .i64 (a.length : Int))), .bit true] (p := [V.sc (.int .i64 ((List.map E110 a).length : Int)) = V.sc (.int .i64 (a.length : Int)),
    (decide ((i64 (left - (a.length : Int))) < 0)) = true]) (by kernel_rfl) (cj (len_nm _ _) (cj1 h1)))) (fun h1 =>
   Pn.ite (fun h6 =>
   Pn.bind (fun r2 h7 =>
   Pn.lo (fun s1 h8 =>
   Pn.some (Fn.of [.wait 4, .nm 8 (V.sc (.int .i64 (a.length : Int))), .bit false, .wait 1, .mask [0, 1, 5], .ren [], .loop (X.out 0) (st 27 [(1, V.sc (.int .i64 s1))] [] [])] (p := [V.sc (.int .i64 ((List.map E110 a).length : Int)) = V.sc (.int .i64 (a.length : Int)),
    (decide ((i64 (left - (a.length : Int))) < 0)) = false,
    Loop Tryz.prog (sub (codeOf Tryz.prog 55) [1, 1, 1, 0, 1, 0, 0]) (st 27 [(0, V.sl false 110 (List.map E110 a)), (1, V.sc (.int .i64 (i64 (left - (a.length : Int))))), (5, V.sc (.int .i64 0))] [] []) (X.out 0) (st 27 [(1, V.sc (.int .i64 s1))] [] [])]) (by kernel_rfl) (cj (len_nm _ _) (cj h1 (cj1 ((laws_szSlotS_l0_ok a h6 a [] rfl (i64 (left - (a.length : Int))) r2 h7).at h8)))))) (fun s2 h9 =>
   Pn.some (Fn.of [.wait 4, .nm 8 (V.sc (.int .i64 (a.length : Int))), .bit false, .wait 1, .mask [0, 1, 5], .ren [], .loop (X.ret) (st 27 [(4, V.sc (.int .i64 (-1)))] [] [])] (p := [V.sc (.int .i64 ((List.map E110 a).length : Int)) = V.sc (.int .i64 (a.length : Int)),
    (decide ((i64 (left - (a.length : Int))) < 0)) = false,
    Loop Tryz.prog (sub (codeOf Tryz.prog 55) [1, 1, 1, 0, 1, 0, 0]) (st 27 [(0, V.sl false 110 (List.map E110 a)), (1, V.sc (.int .i64 (i64 (left - (a.length : Int))))), (5, V.sc (.int .i64 0))] [] []) (X.ret) (st 27 [(4, V.sc (.int .i64 (-1)))] [] [])]) (by kernel_rfl) (cj (len_nm _ _) (cj h1 (cj1 ((laws_szSlotS_l0_ok a h6 a [] rfl (i64 (left - (a.length : Int))) r2 h7).at h9)))))))) (fun h6 =>
   Pn.none))
def laws_szAcct (a : Acct) (left : Int) : Option (Int) :=
 if (decide ((i64 (left - (a.Id.size : Int))) < 0)) = true then
 some (-1)
 else
 (laws_szHoldS a.Holds (i64 (left - (a.Id.size : Int)))).bind fun r1 =>
 if (decide (r1 < 0)) = true then
 some (-1)
 else
 (laws_szRing a.Ring r1).bind fun r2 =>
 if (decide (r2 < 0)) = true then
 some (-1)
 else
 (laws_szSlotS a.Slots r2).bind fun r3 =>
 if (decide (r3 < 0)) = true then
 some (-1)
 else
 some r3
theorem laws_szAcct_ok (a : Acct) (left : Int) : Pn (fun y => Fn Tryz.prog 31 [(false, E65 a), (false, E3 left)] (E3 y) []) (laws_szAcct a left) := by
  unfold laws_szAcct
  exact
   Pn.ite (fun h1 =>
   Pn.some (Fn.of [.bit true] (p := [(decide ((i64 (left - (a.Id.size : Int))) < 0)) = true]) (by kernel_rfl) (cj1 h1))) (fun h1 =>
   Pn.bind (fun r1 h2 =>
   Pn.ite (fun h3 =>
   Pn.some (Fn.of [.bit false, .call [] (E3 r1) [], .bit true] (p := [(decide ((i64 (left - (a.Id.size : Int))) < 0)) = false,
    Fn Tryz.prog 53 [(false, E61 a.Holds), (false, E3 (i64 (left - (a.Id.size : Int))))] (E3 r1) [],
    (true || ((E3 r1).nv && nvL [])) = true,
    (decide (r1 < 0)) = true]) (by kernel_rfl) (cj h1 (cj (laws_szHoldS_ok a.Holds (i64 (left - (a.Id.size : Int))) r1 h2) (cj rfl (cj1 h3)))))) (fun h3 =>
   Pn.bind (fun r2 h4 =>
   Pn.ite (fun h5 =>
   Pn.some (Fn.of [.bit false, .call [] (E3 r1) [], .bit false, .call [] (E3 r2) [], .bit true] (p := [(decide ((i64 (left - (a.Id.size : Int))) < 0)) = false,
    Fn Tryz.prog 53 [(false, E61 a.Holds), (false, E3 (i64 (left - (a.Id.size : Int))))] (E3 r1) [],
    (true || ((E3 r1).nv && nvL [])) = true,
    (decide (r1 < 0)) = false,
    Fn Tryz.prog 54 [(false, E62 a.Ring), (false, E3 r1)] (E3 r2) [],
    (true || ((E3 r2).nv && nvL [])) = true,
    (decide (r2 < 0)) = true]) (by kernel_rfl) (cj h1 (cj (laws_szHoldS_ok a.Holds (i64 (left - (a.Id.size : Int))) r1 h2) (cj rfl (cj h3 (cj (laws_szRing_ok a.Ring r1 r2 h4) (cj rfl (cj1 h5))))))))) (fun h5 =>
   Pn.bind (fun r3 h6 =>
   Pn.ite (fun h7 =>
   Pn.some (Fn.of [.bit false, .call [] (E3 r1) [], .bit false, .call [] (E3 r2) [], .bit false, .call [] (E3 r3) [], .bit true] (p := [(decide ((i64 (left - (a.Id.size : Int))) < 0)) = false,
    Fn Tryz.prog 53 [(false, E61 a.Holds), (false, E3 (i64 (left - (a.Id.size : Int))))] (E3 r1) [],
    (true || ((E3 r1).nv && nvL [])) = true,
    (decide (r1 < 0)) = false,
    Fn Tryz.prog 54 [(false, E62 a.Ring), (false, E3 r1)] (E3 r2) [],
    (true || ((E3 r2).nv && nvL [])) = true,
    (decide (r2 < 0)) = false,
    Fn Tryz.prog 55 [(false, E63 a.Slots), (false, E3 r2)] (E3 r3) [],
    (true || ((E3 r3).nv && nvL [])) = true,
    (decide (r3 < 0)) = true]) (by kernel_rfl) (cj h1 (cj (laws_szHoldS_ok a.Holds (i64 (left - (a.Id.size : Int))) r1 h2) (cj rfl (cj h3 (cj (laws_szRing_ok a.Ring r1 r2 h4) (cj rfl (cj h5 (cj (laws_szSlotS_ok a.Slots r2 r3 h6) (cj rfl (cj1 h7)))))))))))) (fun h7 =>
   Pn.some (Fn.of [.bit false, .call [] (E3 r1) [], .bit false, .call [] (E3 r2) [], .bit false, .call [] (E3 r3) [], .bit false] (p := [(decide ((i64 (left - (a.Id.size : Int))) < 0)) = false,
    Fn Tryz.prog 53 [(false, E61 a.Holds), (false, E3 (i64 (left - (a.Id.size : Int))))] (E3 r1) [],
    (true || ((E3 r1).nv && nvL [])) = true,
    (decide (r1 < 0)) = false,
    Fn Tryz.prog 54 [(false, E62 a.Ring), (false, E3 r1)] (E3 r2) [],
    (true || ((E3 r2).nv && nvL [])) = true,
    (decide (r2 < 0)) = false,
    Fn Tryz.prog 55 [(false, E63 a.Slots), (false, E3 r2)] (E3 r3) [],
    (true || ((E3 r3).nv && nvL [])) = true,
    (decide (r3 < 0)) = false]) (by kernel_rfl) (cj h1 (cj (laws_szHoldS_ok a.Holds (i64 (left - (a.Id.size : Int))) r1 h2) (cj rfl (cj h3 (cj (laws_szRing_ok a.Ring r1 r2 h4) (cj rfl (cj h5 (cj (laws_szSlotS_ok a.Slots r2 r3 h6) (cj rfl (cj1 h7))))))))))))))))))
def laws_szAcctS_l0 (a : List Acct) : List Acct → Int → Option (Lo Int Unit)
  | [], v1 =>
   some (.out v1)
  | x1 :: t1, v1 =>
   (laws_szAcct x1 v1).bind fun r1 =>
   if (decide (r1 < 0)) = true then
   some (.ret ())
   else
   laws_szAcctS_l0 a t1 r1
theorem laws_szAcctS_l0_ok (a : List Acct) (h3 : capOk a.length = true) : ∀ (t1 p1 : List Acct) (_ : a = p1 ++ t1) (v1 : Int), Pn (LpO Tryz.prog (sub (codeOf Tryz.prog 20) [1, 1, 1, 0, 1, 0, 0]) (st 27 [(0, V.sl false 65 (List.map E65 a)), (1, V.sc (.int .i64 v1)), (5, V.sc (.int .i64 (p1.length : Int)))] [] []) (fun (y : Lo Int Unit) => Lo.elim y (fun s => (X.out 0, st 27 [(1, V.sc (.int .i64 s))] [] [])) (fun s => (X.ret, st 27 [(4, V.sc (.int .i64 (-1)))] [] [])))) (laws_szAcctS_l0 a t1 v1)
  | [], p1, h2, v1 => by
    unfold laws_szAcctS_l0
    exact
     Pn.some (LpO.out [.wait 3, .nm 14 (V.sc (.int .i64 (a.length : Int))), .bit false, .mask [1], .ren []] (p := [V.sc (.int .i64 ((List.map E65 a).length : Int)) = V.sc (.int .i64 (a.length : Int)),
      (decide ((p1.length : Int) < (a.length : Int))) = false]) (by kernel_rfl) (show X.out 0 ≠ X.go from nofun) (cj (len_nm _ _) (cj1 (rng_end h2))))
  | x1 :: t1, p1, h2, v1 => by
    unfold laws_szAcctS_l0
    exact
     Pn.bind (fun r1 h4 =>
     Pn.ite (fun h5 =>
     Pn.some (LpO.out [.wait 3, .nm 14 (V.sc (.int .i64 (a.length : Int))), .bit true, .el (E65 x1), .call [] (E3 r1) [], .bit true, .wait 1, .mask [4], .ren []] (p := [V.sc (.int .i64 ((List.map E65 a).length : Int)) = V.sc (.int .i64 (a.length : Int)),
      (decide ((p1.length : Int) < (a.length : Int))) = true,
      (0 : Int) ≤ (p1.length : Int),
      (List.map E65 a)[(p1.length : Int).toNat]? = some (E65 x1),
      Fn Tryz.prog 31 [(false, E65 x1), (false, E3 v1)] (E3 r1) [],
      (true || ((E3 r1).nv && nvL [])) = true,
      (decide (r1 < 0)) = true]) (by kernel_rfl) (show X.ret ≠ X.go from nofun) (cj (len_nm _ _) (cj (rng_lt h2) (cj (by omega) (cj (rng_get _ h2) (cj (laws_szAcct_ok x1 v1 r1 h4) (cj rfl (cj1 h5))))))))) (fun h5 =>
     LpO.go [.wait 3, .nm 14 (V.sc (.int .i64 (a.length : Int))), .bit true, .el (E65 x1), .call [] (E3 r1) [], .bit false, .wait 3, .mask [0, 1, 5], .ren [], .nm 5 (V.sc (.int .i64 ((p1 ++ [x1]).length : Int)))] (p := [V.sc (.int .i64 ((List.map E65 a).length : Int)) = V.sc (.int .i64 (a.length : Int)),
      (decide ((p1.length : Int) < (a.length : Int))) = true,
      (0 : Int) ≤ (p1.length : Int),
      (List.map E65 a)[(p1.length : Int).toNat]? = some (E65 x1),
      Fn Tryz.prog 31 [(false, E65 x1), (false, E3 v1)] (E3 r1) [],
      (true || ((E3 r1).nv && nvL [])) = true,
      (decide (r1 < 0)) = false,
      V.sc (.int .i64 (i64 ((p1.length : Int) + 1))) = V.sc (.int .i64 ((p1 ++ [x1]).length : Int))]) (by kernel_rfl) (cj (len_nm _ _) (cj (rng_lt h2) (cj (by omega) (cj (rng_get _ h2) (cj (laws_szAcct_ok x1 v1 r1 h4) (cj rfl (cj h5 (cj1 (rng_next h2 h3))))))))) (laws_szAcctS_l0_ok a h3 t1 (p1 ++ [x1]) (rng_step h2) r1)))
def laws_szAcctS (a : List Acct) (left : Int) : Option (Int) :=
 if (decide ((i64 (left - (a.length : Int))) < 0)) = true then
 some (-1)
 else
 if (capOk a.length) = true then
 (laws_szAcctS_l0 a a (i64 (left - (a.length : Int)))).bind fun r2 =>
 Lo.elim r2 (fun s1 =>
 some s1) (fun s2 =>
 some (-1))
 else none
theorem laws_szAcctS_ok (a : List Acct) (left : Int) : Pn (fun y => Fn Tryz.prog 20 [(false, E30 a), (false, E3 left)] (E3 y) []) (laws_szAcctS a left) := by
  unfold laws_szAcctS
  exact
   Pn.ite (fun h1 =>
   Pn.some (Fn.of [.wait 4, .nm 8 (V.sc (.int .i64 (a.length : Int))), .bit true] (p := [V.sc (.int .i64 ((List.map E65 a).length : Int)) = V.sc (.int .i64 (a.length : Int)),
    (decide ((i64 (left - (a.length : Int))) < 0)) = true]) (by kernel_rfl) (cj (len_nm _ _) (cj1 h1)))) (fun h1 =>
   Pn.ite (fun h6 =>
   Pn.bind (fun r2 h7 =>
   Pn.lo (fun s1 h8 =>
   Pn.some (Fn.of [.wait 4, .nm 8 (V.sc (.int .i64 (a.length : Int))), .bit false, .wait 1, .mask [0, 1, 5], .ren [], .loop (X.out 0) (st 27 [(1, V.sc (.int .i64 s1))] [] [])] (p := [V.sc (.int .i64 ((List.map E65 a).length : Int)) = V.sc (.int .i64 (a.length : Int)),
    (decide ((i64 (left - (a.length : Int))) < 0)) = false,
    Loop Tryz.prog (sub (codeOf Tryz.prog 20) [1, 1, 1, 0, 1, 0, 0]) (st 27 [(0, V.sl false 65 (List.map E65 a)), (1, V.sc (.int .i64 (i64 (left - (a.length : Int))))), (5, V.sc (.int .i64 0))] [] []) (X.out 0) (st 27 [(1, V.sc (.int .i64 s1))] [] [])]) (by kernel_rfl) (cj (len_nm _ _) (cj h1 (cj1 ((laws_szAcctS_l0_ok a h6 a [] rfl (i64 (left - (a.length : Int))) r2 h7).at h8)))))) (fun s2 h9 =>
   Pn.some (Fn.of [.wait 4, .nm 8 (V.sc (.int .i64 (a.length : Int))), .bit false, .wait 1, .mask [0, 1, 5], .ren [], .loop (X.ret) (st 27 [(4, V.sc (.int .i64 (-1)))] [] [])] (p := [V.sc (.int .i64 ((List.map E65 a).length : Int)) = V.sc (.int .i64 (a.length : Int)),
    (decide ((i64 (left - (a.length : Int))) < 0)) = false,
    Loop Tryz.prog (sub (codeOf Tryz.prog 20) [1, 1, 1, 0, 1, 0, 0]) (st 27 [(0, V.sl false 65 (List.map E65 a)), (1, V.sc (.int .i64 (i64 (left - (a.length : Int))))), (5, V.sc (.int .i64 0))] [] []) (X.ret) (st 27 [(4, V.sc (.int .i64 (-1)))] [] [])]) (by kernel_rfl) (cj (len_nm _ _) (cj h1 (cj1 ((laws_szAcctS_l0_ok a h6 a [] rfl (i64 (left - (a.length : Int))) r2 h7).at h9)))))))) (fun h6 =>
   Pn.none))
def laws_szStripe (a : Stripe) (left : Int) : Option (Int) :=
 (laws_szAcctS a.Accts left).bind fun r1 =>
 if (decide (r1 < 0)) = true then
 some (-1)
 else
 some r1
theorem laws_szStripe_ok (a : Stripe) (left : Int) : Pn (fun y => Fn Tryz.prog 9 [(false, E32 a), (false, E3 left)] (E3 y) []) (laws_szStripe a left) := by
  unfold laws_szStripe
  exact
   Pn.bind (fun r1 h1 =>
   Pn.ite (fun h2 =>
   Pn.some (Fn.of [.call [] (E3 r1) [], .bit true] (p := [Fn Tryz.prog 20 [(false, E30 a.Accts), (false, E3 left)] (E3 r1) [],
    (true || ((E3 r1).nv && nvL [])) = true,
    (decide (r1 < 0)) = true]) (by kernel_rfl) (cj (laws_szAcctS_ok a.Accts left r1 h1) (cj rfl (cj1 h2))))) (fun h2 =>
   Pn.some (Fn.of [.call [] (E3 r1) [], .bit false] (p := [Fn Tryz.prog 20 [(false, E30 a.Accts), (false, E3 left)] (E3 r1) [],
    (true || ((E3 r1).nv && nvL [])) = true,
    (decide (r1 < 0)) = false]) (by kernel_rfl) (cj (laws_szAcctS_ok a.Accts left r1 h1) (cj rfl (cj1 h2))))))
def laws_szStripeS_l0 (a : List Stripe) : List Stripe → Int → Option (Lo Int Unit)
  | [], v1 =>
   some (.out v1)
  | x1 :: t1, v1 =>
   (laws_szStripe x1 v1).bind fun r1 =>
   if (decide (r1 < 0)) = true then
   some (.ret ())
   else
   laws_szStripeS_l0 a t1 r1
theorem laws_szStripeS_l0_ok (a : List Stripe) (h3 : capOk a.length = true) : ∀ (t1 p1 : List Stripe) (_ : a = p1 ++ t1) (v1 : Int), Pn (LpO Tryz.prog (sub (codeOf Tryz.prog 4) [1, 1, 1, 0, 1, 0, 0]) (st 27 [(0, V.sl false 32 (List.map E32 a)), (1, V.sc (.int .i64 v1)), (5, V.sc (.int .i64 (p1.length : Int)))] [] []) (fun (y : Lo Int Unit) => Lo.elim y (fun s => (X.out 0, st 27 [(1, V.sc (.int .i64 s))] [] [])) (fun s => (X.ret, st 27 [(4, V.sc (.int .i64 (-1)))] [] [])))) (laws_szStripeS_l0 a t1 v1)
  | [], p1, h2, v1 => by
    unfold laws_szStripeS_l0
    exact
     Pn.some (LpO.out [.wait 3, .nm 14 (V.sc (.int .i64 (a.length : Int))), .bit false, .mask [1], .ren []] (p := [V.sc (.int .i64 ((List.map E32 a).length : Int)) = V.sc (.int .i64 (a.length : Int)),
      (decide ((p1.length : Int) < (a.length : Int))) = false]) (by kernel_rfl) (show X.out 0 ≠ X.go from nofun) (cj (len_nm _ _) (cj1 (rng_end h2))))
  | x1 :: t1, p1, h2, v1 => by
    unfold laws_szStripeS_l0
    exact
     Pn.bind (fun r1 h4 =>
     Pn.ite (fun h5 =>
     Pn.some (LpO.out [.wait 3, .nm 14 (V.sc (.int .i64 (a.length : Int))), .bit true, .el (E32 x1), .call [] (E3 r1) [], .bit true, .wait 1, .mask [4], .ren []] (p := [V.sc (.int .i64 ((List.map E32 a).length : Int)) = V.sc (.int .i64 (a.length : Int)),
      (decide ((p1.length : Int) < (a.length : Int))) = true,
      (0 : Int) ≤ (p1.length : Int),
      (List.map E32 a)[(p1.length : Int).toNat]? = some (E32 x1),
      Fn Tryz.prog 9 [(false, E32 x1), (false, E3 v1)] (E3 r1) [],
      (true || ((E3 r1).nv && nvL [])) = true,
      (decide (r1 < 0)) = true]) (by kernel_rfl) (show X.ret ≠ X.go from nofun) (cj (len_nm _ _) (cj (rng_lt h2) (cj (by omega) (cj (rng_get _ h2) (cj (laws_szStripe_ok x1 v1 r1 h4) (cj rfl (cj1 h5))))))))) (fun h5 =>
     LpO.go [.wait 3, .nm 14 (V.sc (.int .i64 (a.length : Int))), .bit true, .el (E32 x1), .call [] (E3 r1) [], .bit false, .wait 3, .mask [0, 1, 5], .ren [], .nm 5 (V.sc (.int .i64 ((p1 ++ [x1]).length : Int)))] (p := [V.sc (.int .i64 ((List.map E32 a).length : Int)) = V.sc (.int .i64 (a.length : Int)),
      (decide ((p1.length : Int) < (a.length : Int))) = true,
      (0 : Int) ≤ (p1.length : Int),
      (List.map E32 a)[(p1.length : Int).toNat]? = some (E32 x1),
      Fn Tryz.prog 9 [(false, E32 x1), (false, E3 v1)] (E3 r1) [],
      (true || ((E3 r1).nv && nvL [])) = true,
      (decide (r1 < 0)) = false,
      V.sc (.int .i64 (i64 ((p1.length : Int) + 1))) = V.sc (.int .i64 ((p1 ++ [x1]).length : Int))]) (by kernel_rfl) (cj (len_nm _ _) (cj (rng_lt h2) (cj (by omega) (cj (rng_get _ h2) (cj (laws_szStripe_ok x1 v1 r1 h4) (cj rfl (cj h5 (cj1 (rng_next h2 h3))))))))) (laws_szStripeS_l0_ok a h3 t1 (p1 ++ [x1]) (rng_step h2) r1)))
def laws_szStripeS (a : List Stripe) (left : Int) : Option (Int) :=
 if (decide ((i64 (left - (a.length : Int))) < 0)) = true then
 some (-1)
 else
 if (capOk a.length) = true then
 (laws_szStripeS_l0 a a (i64 (left - (a.length : Int)))).bind fun r2 =>
 Lo.elim r2 (fun s1 =>
 some s1) (fun s2 =>
 some (-1))
 else none
theorem laws_szStripeS_ok (a : List Stripe) (left : Int) : Pn (fun y => Fn Tryz.prog 4 [(false, E22 a), (false, E3 left)] (E3 y) []) (laws_szStripeS a left) := by
  unfold laws_szStripeS
  exact
   Pn.ite (fun h1 =>
   Pn.some (Fn.of [.wait 4, .nm 8 (V.sc (.int .i64 (a.length : Int))), .bit true] (p := [V.sc (.int .i64 ((List.map E32 a).length : Int)) = V.sc (.int .i64 (a.length : Int)),
    (decide ((i64 (left - (a.length : Int))) < 0)) = true]) (by kernel_rfl) (cj (len_nm _ _) (cj1 h1)))) (fun h1 =>
   Pn.ite (fun h6 =>
   Pn.bind (fun r2 h7 =>
   Pn.lo (fun s1 h8 =>
   Pn.some (Fn.of [.wait 4, .nm 8 (V.sc (.int .i64 (a.length : Int))), .bit false, .wait 1, .mask [0, 1, 5], .ren [], .loop (X.out 0) (st 27 [(1, V.sc (.int .i64 s1))] [] [])] (p := [V.sc (.int .i64 ((List.map E32 a).length : Int)) = V.sc (.int .i64 (a.length : Int)),
    (decide ((i64 (left - (a.length : Int))) < 0)) = false,
    Loop Tryz.prog (sub (codeOf Tryz.prog 4) [1, 1, 1, 0, 1, 0, 0]) (st 27 [(0, V.sl false 32 (List.map E32 a)), (1, V.sc (.int .i64 (i64 (left - (a.length : Int))))), (5, V.sc (.int .i64 0))] [] []) (X.out 0) (st 27 [(1, V.sc (.int .i64 s1))] [] [])]) (by kernel_rfl) (cj (len_nm _ _) (cj h1 (cj1 ((laws_szStripeS_l0_ok a h6 a [] rfl (i64 (left - (a.length : Int))) r2 h7).at h8)))))) (fun s2 h9 =>
   Pn.some (Fn.of [.wait 4, .nm 8 (V.sc (.int .i64 (a.length : Int))), .bit false, .wait 1, .mask [0, 1, 5], .ren [], .loop (X.ret) (st 27 [(4, V.sc (.int .i64 (-1)))] [] [])] (p := [V.sc (.int .i64 ((List.map E32 a).length : Int)) = V.sc (.int .i64 (a.length : Int)),
    (decide ((i64 (left - (a.length : Int))) < 0)) = false,
    Loop Tryz.prog (sub (codeOf Tryz.prog 4) [1, 1, 1, 0, 1, 0, 0]) (st 27 [(0, V.sl false 32 (List.map E32 a)), (1, V.sc (.int .i64 (i64 (left - (a.length : Int))))), (5, V.sc (.int .i64 0))] [] []) (X.ret) (st 27 [(4, V.sc (.int .i64 (-1)))] [] [])]) (by kernel_rfl) (cj (len_nm _ _) (cj h1 (cj1 ((laws_szStripeS_l0_ok a h6 a [] rfl (i64 (left - (a.length : Int))) r2 h7).at h9)))))))) (fun h6 =>
   Pn.none))
def laws_toHold (a : Hold) : Option (Hold) :=
 some a
theorem laws_toHold_ok (a : Hold) : Pn (fun y => Fn Tryz.prog 85 [(false, E107 a)] (E85 y) []) (laws_toHold a) := by
  unfold laws_toHold
  exact
   Pn.some (Fn.of [] (p := []) (by kernel_rfl) trivial)
def laws_toHoldS_l0 (a : List Hold) : List Hold → List Hold → (List Hold) → Option ((List Hold))
  | [], p1, v1 =>
   some v1
  | x1 :: t1, p1, v1 =>
   (laws_toHold x1).bind fun r1 =>
   (v1[(p1.length : Int).toNat]?).bind fun x2 =>
   laws_toHoldS_l0 a t1 (p1 ++ [x1]) (v1.set ((p1.length : Int).toNat) r1)
theorem laws_toHoldS_l0_ok (a : List Hold) (h4 : capOk a.length = true) : ∀ (t1 p1 : List Hold) (_ : a = p1 ++ t1) (v1 : List Hold), Pn (LpO Tryz.prog (sub (codeOf Tryz.prog 62) [1, 1, 0, 1, 0, 0]) (st 23 [(0, V.sl false 107 (List.map E107 a)), (3, V.ow 0), (4, V.sc (.int .i64 (p1.length : Int)))] [Blk.row 85 (List.map E85 v1) []] []) (fun (y : (List Hold)) => (X.out 0, st 23 [(3, V.ow 0)] [Blk.row 85 (List.map E85 y) []] []))) (laws_toHoldS_l0 a t1 p1 v1)
  | [], p1, h3, v1 => by
    unfold laws_toHoldS_l0
    exact
     Pn.some (LpO.out [.wait 3, .nm 10 (V.sc (.int .i64 (a.length : Int))), .bit false, .mask [3], .ren [0]] (p := [V.sc (.int .i64 ((List.map E107 a).length : Int)) = V.sc (.int .i64 (a.length : Int)),
      (decide ((p1.length : Int) < (a.length : Int))) = false]) (by kernel_rfl) (show X.out 0 ≠ X.go from nofun) (cj (len_nm _ _) (cj1 (rng_end h3))))
  | x1 :: t1, p1, h3, v1 => by
    unfold laws_toHoldS_l0
    exact
     Pn.bind (fun r1 h5 =>
     Pn.bind (fun x2 h6 =>
     LpO.go [.wait 3, .nm 10 (V.sc (.int .i64 (a.length : Int))), .bit true, .el (E107 x1), .call [] (E85 r1) [], .el (E85 x2), .nb 0 (.row 85 (List.map E85 (v1.set ((p1.length : Int).toNat) r1)) []), .wait 4, .mask [0, 3, 4], .ren [0], .nm 4 (V.sc (.int .i64 ((p1 ++ [x1]).length : Int)))] (p := [V.sc (.int .i64 ((List.map E107 a).length : Int)) = V.sc (.int .i64 (a.length : Int)),
      (decide ((p1.length : Int) < (a.length : Int))) = true,
      (0 : Int) ≤ (p1.length : Int),
      (List.map E107 a)[(p1.length : Int).toNat]? = some (E107 x1),
      Fn Tryz.prog 85 [(false, E107 x1)] (E85 r1) [],
      (true || ((E85 r1).nv && nvL [])) = true,
      (0 : Int) ≤ (p1.length : Int),
      ((p1.length : Int) : Int) < ((List.map E85 v1).length : Int),
      look [] ((p1.length : Int).toNat) = none,
      (List.map E85 v1)[(p1.length : Int).toNat]? = some (E85 x2),
      Blk.row 85 ((List.map E85 v1).set ((p1.length : Int).toNat) (V.agg [V.sc (.string r1.Id), V.sc (.int .i64 r1.Amount), V.sc (.int .i64 r1.Due)])) [] = Blk.row 85 (List.map E85 (v1.set ((p1.length : Int).toNat) r1)) [],
      V.sc (.int .i64 (i64 ((p1.length : Int) + 1))) = V.sc (.int .i64 ((p1 ++ [x1]).length : Int))]) (by kernel_rfl) (cj (len_nm _ _) (cj (rng_lt h3) (cj (by omega) (cj (rng_get _ h3) (cj (laws_toHold_ok x1 r1 h5) (cj rfl (cj (by omega) (cj (map_ltN (by omega) h6) (cj rfl (cj (map_get h6) (cj (nb_set E85 _ _ r1) (cj1 (rng_next h3 h4))))))))))))) (laws_toHoldS_l0_ok a h4 t1 (p1 ++ [x1]) (rng_step h3) (v1.set ((p1.length : Int).toNat) r1))))
def laws_toHoldS (a : List Hold) : Option ((List Hold)) :=
 if (decide (0 ≤ (a.length : Int))) = true then
 if (capOk (a.length : Int).toNat) = true then
 if (capOk a.length) = true then
 (laws_toHoldS_l0 a a [] (List.replicate ((a.length : Int).toNat) (Hold.mk ByteArray.empty 0 0))).bind fun r2 =>
 some r2
 else none
 else none
 else none
theorem laws_toHoldS_ok (a : List Hold) : Pn (fun y => Fn Tryz.prog 62 [(false, E61 a)] (E37 y) []) (laws_toHoldS a) := by
  unfold laws_toHoldS
  exact
   Pn.ite (fun h1 =>
   Pn.ite (fun h2 =>
   Pn.ite (fun h7 =>
   Pn.bind (fun r2 h8 =>
   Pn.some (Fn.of [.wait 3, .nm 6 (V.sc (.int .i64 (a.length : Int))), .wait 1, .nb 0 (.row 85 (List.map E85 (List.replicate ((a.length : Int).toNat) (Hold.mk ByteArray.empty 0 0))) []), .wait 3, .mask [0, 3, 4], .ren [0], .loop (X.out 0) (st 23 [(3, V.ow 0)] [Blk.row 85 (List.map E85 r2) []] [])] (p := [V.sc (.int .i64 ((List.map E107 a).length : Int)) = V.sc (.int .i64 (a.length : Int)),
    ((a.length : Int) : Int) = (a.length : Int),
    (0 : Int) ≤ (a.length : Int),
    ((a.length : Int) : Int) ≤ 9223372036854775807,
    32 * (a.length : Int).toNat ≤ 281474976710656,
    Blk.row 85 (List.replicate ((a.length : Int).toNat) (V.agg [V.sc (.string ByteArray.empty), V.sc (.int .i64 0), V.sc (.int .i64 0)])) [] = Blk.row 85 (List.map E85 (List.replicate ((a.length : Int).toNat) (Hold.mk ByteArray.empty 0 0))) [],
    Loop Tryz.prog (sub (codeOf Tryz.prog 62) [1, 1, 0, 1, 0, 0]) (st 23 [(0, V.sl false 107 (List.map E107 a)), (3, V.ow 0), (4, V.sc (.int .i64 0))] [Blk.row 85 (List.map E85 (List.replicate ((a.length : Int).toNat) (Hold.mk ByteArray.empty 0 0))) []] []) (X.out 0) (st 23 [(3, V.ow 0)] [Blk.row 85 (List.map E85 r2) []] [])]) (by kernel_rfl) (cj (len_nm _ _) (cj rfl (cj (od h1) (cj (cap3 h1 h2) (cj (cap4 h2 (by decide)) (cj (nb_rep E85 _ (Hold.mk ByteArray.empty 0 0)) (cj1 (laws_toHoldS_l0_ok a h7 a [] rfl (List.replicate ((a.length : Int).toNat) (Hold.mk ByteArray.empty 0 0)) r2 h8))))))))))) (fun h7 =>
   Pn.none)) (fun h2 =>
   Pn.none)) (fun h1 =>
   Pn.none)
def laws_toIntS_l0 (a : List Int) : List Int → List Int → (List Int) → Option ((List Int))
  | [], p1, v1 =>
   some v1
  | x1 :: t1, p1, v1 =>
   (v1[(p1.length : Int).toNat]?).bind fun x2 =>
   laws_toIntS_l0 a t1 (p1 ++ [x1]) (v1.set ((p1.length : Int).toNat) x1)
theorem laws_toIntS_l0_ok (a : List Int) (h4 : capOk a.length = true) : ∀ (t1 p1 : List Int) (_ : a = p1 ++ t1) (v1 : List Int), Pn (LpO Tryz.prog (sub (codeOf Tryz.prog 86) [1, 1, 0, 1, 0, 0]) (st 22 [(0, V.sl false 3 (List.map E3 a)), (3, V.ow 0), (4, V.sc (.int .i64 (p1.length : Int)))] [Blk.row 3 (List.map E3 v1) []] []) (fun (y : (List Int)) => (X.out 0, st 22 [(3, V.ow 0)] [Blk.row 3 (List.map E3 y) []] []))) (laws_toIntS_l0 a t1 p1 v1)
  | [], p1, h3, v1 => by
    unfold laws_toIntS_l0
    exact
     Pn.some (LpO.out [.wait 3, .nm 10 (V.sc (.int .i64 (a.length : Int))), .bit false, .mask [3], .ren [0]] (p := [V.sc (.int .i64 ((List.map E3 a).length : Int)) = V.sc (.int .i64 (a.length : Int)),
      (decide ((p1.length : Int) < (a.length : Int))) = false]) (by kernel_rfl) (show X.out 0 ≠ X.go from nofun) (cj (len_nm _ _) (cj1 (rng_end h3))))
  | x1 :: t1, p1, h3, v1 => by
    unfold laws_toIntS_l0
    exact
     Pn.bind (fun x2 h5 =>
     LpO.go [.wait 3, .nm 10 (V.sc (.int .i64 (a.length : Int))), .bit true, .el (E3 x1), .el (E3 x2), .nb 0 (.row 3 (List.map E3 (v1.set ((p1.length : Int).toNat) x1)) []), .wait 4, .mask [0, 3, 4], .ren [0], .nm 4 (V.sc (.int .i64 ((p1 ++ [x1]).length : Int)))] (p := [V.sc (.int .i64 ((List.map E3 a).length : Int)) = V.sc (.int .i64 (a.length : Int)),
      (decide ((p1.length : Int) < (a.length : Int))) = true,
      (0 : Int) ≤ (p1.length : Int),
      (List.map E3 a)[(p1.length : Int).toNat]? = some (E3 x1),
      (0 : Int) ≤ (p1.length : Int),
      ((p1.length : Int) : Int) < ((List.map E3 v1).length : Int),
      look [] ((p1.length : Int).toNat) = none,
      (List.map E3 v1)[(p1.length : Int).toNat]? = some (E3 x2),
      Blk.row 3 ((List.map E3 v1).set ((p1.length : Int).toNat) (V.sc (.int .i64 x1))) [] = Blk.row 3 (List.map E3 (v1.set ((p1.length : Int).toNat) x1)) [],
      V.sc (.int .i64 (i64 ((p1.length : Int) + 1))) = V.sc (.int .i64 ((p1 ++ [x1]).length : Int))]) (by kernel_rfl) (cj (len_nm _ _) (cj (rng_lt h3) (cj (by omega) (cj (rng_get _ h3) (cj (by omega) (cj (map_ltN (by omega) h5) (cj rfl (cj (map_get h5) (cj (nb_set E3 _ _ x1) (cj1 (rng_next h3 h4))))))))))) (laws_toIntS_l0_ok a h4 t1 (p1 ++ [x1]) (rng_step h3) (v1.set ((p1.length : Int).toNat) x1)))
def laws_toIntS (a : List Int) : Option ((List Int)) :=
 if (decide (0 ≤ (a.length : Int))) = true then
 if (capOk (a.length : Int).toNat) = true then
 if (capOk a.length) = true then
 (laws_toIntS_l0 a a [] (List.replicate ((a.length : Int).toNat) 0)).bind fun r1 =>
 some r1
 else none
 else none
 else none
theorem laws_toIntS_ok (a : List Int) : Pn (fun y => Fn Tryz.prog 86 [(false, E38 a)] (E38 y) []) (laws_toIntS a) := by
  unfold laws_toIntS
  exact
   Pn.ite (fun h1 =>
   Pn.ite (fun h2 =>
   Pn.ite (fun h6 =>
   Pn.bind (fun r1 h7 =>
   Pn.some (Fn.of [.wait 3, .nm 6 (V.sc (.int .i64 (a.length : Int))), .wait 1, .nb 0 (.row 3 (List.map E3 (List.replicate ((a.length : Int).toNat) 0)) []), .wait 3, .mask [0, 3, 4], .ren [0], .loop (X.out 0) (st 22 [(3, V.ow 0)] [Blk.row 3 (List.map E3 r1) []] [])] (p := [V.sc (.int .i64 ((List.map E3 a).length : Int)) = V.sc (.int .i64 (a.length : Int)),
    ((a.length : Int) : Int) = (a.length : Int),
    (0 : Int) ≤ (a.length : Int),
    ((a.length : Int) : Int) ≤ 9223372036854775807,
    8 * (a.length : Int).toNat ≤ 281474976710656,
    Blk.row 3 (List.replicate ((a.length : Int).toNat) (V.sc (.int .i64 0))) [] = Blk.row 3 (List.map E3 (List.replicate ((a.length : Int).toNat) 0)) [],
    Loop Tryz.prog (sub (codeOf Tryz.prog 86) [1, 1, 0, 1, 0, 0]) (st 22 [(0, V.sl false 3 (List.map E3 a)), (3, V.ow 0), (4, V.sc (.int .i64 0))] [Blk.row 3 (List.map E3 (List.replicate ((a.length : Int).toNat) 0)) []] []) (X.out 0) (st 22 [(3, V.ow 0)] [Blk.row 3 (List.map E3 r1) []] [])]) (by kernel_rfl) (cj (len_nm _ _) (cj rfl (cj (od h1) (cj (cap3 h1 h2) (cj (cap4 h2 (by decide)) (cj (nb_rep E3 _ 0) (cj1 (laws_toIntS_l0_ok a h6 a [] rfl (List.replicate ((a.length : Int).toNat) 0) r1 h7))))))))))) (fun h6 =>
   Pn.none)) (fun h2 =>
   Pn.none)) (fun h1 =>
   Pn.none)
def laws_toRing (a : Ring) : Option (Ring) :=
 (laws_toIntS a.Counts).bind fun r1 =>
 (laws_toIntS a.Sums).bind fun r2 =>
 some (Ring.mk a.Span a.Head r1 r2)
theorem laws_toRing_ok (a : Ring) : Pn (fun y => Fn Tryz.prog 63 [(false, E62 a)] (E40 y) []) (laws_toRing a) := by
  unfold laws_toRing
  exact
   Pn.bind (fun r1 h1 =>
   Pn.bind (fun r2 h2 =>
   Pn.some (Fn.of [.call [] (E38 r1) [], .call [] (E38 r2) []] (p := [Fn Tryz.prog 86 [(false, E38 a.Counts)] (E38 r1) [],
    (true || ((E38 r1).nv && nvL [])) = true,
    Fn Tryz.prog 86 [(false, E38 a.Sums)] (E38 r2) [],
    (true || ((E38 r2).nv && nvL [])) = true]) (by kernel_rfl) (cj (laws_toIntS_ok a.Counts r1 h1) (cj rfl (cj (laws_toIntS_ok a.Sums r2 h2) (cj1 rfl)))))))
def laws_toByteS_l0 (a : List Int) : List Int → List Int → (List Int) → Option ((List Int))
  | [], p1, v1 =>
   some v1
  | x1 :: t1, p1, v1 =>
   (v1[(p1.length : Int).toNat]?).bind fun x2 =>
   laws_toByteS_l0 a t1 (p1 ++ [x1]) (v1.set ((p1.length : Int).toNat) x1)
theorem laws_toByteS_l0_ok (a : List Int) (h4 : capOk a.length = true) : ∀ (t1 p1 : List Int) (_ : a = p1 ++ t1) (v1 : List Int), Pn (LpO Tryz.prog (sub (codeOf Tryz.prog 102) [1, 1, 0, 1, 0, 0]) (st 22 [(0, V.sl false 5 (List.map E5 a)), (3, V.ow 0), (4, V.sc (.int .i64 (p1.length : Int)))] [Blk.row 5 (List.map E5 v1) []] []) (fun (y : (List Int)) => (X.out 0, st 22 [(3, V.ow 0)] [Blk.row 5 (List.map E5 y) []] []))) (laws_toByteS_l0 a t1 p1 v1)
  | [], p1, h3, v1 => by
    unfold laws_toByteS_l0
    exact
     Pn.some (LpO.out [.wait 3, .nm 10 (V.sc (.int .i64 (a.length : Int))), .bit false, .mask [3], .ren [0]] (p := [V.sc (.int .i64 ((List.map E5 a).length : Int)) = V.sc (.int .i64 (a.length : Int)),
      (decide ((p1.length : Int) < (a.length : Int))) = false]) (by kernel_rfl) (show X.out 0 ≠ X.go from nofun) (cj (len_nm _ _) (cj1 (rng_end h3))))
  | x1 :: t1, p1, h3, v1 => by
    unfold laws_toByteS_l0
    exact
     Pn.bind (fun x2 h5 =>
     LpO.go [.wait 3, .nm 10 (V.sc (.int .i64 (a.length : Int))), .bit true, .el (E5 x1), .el (E5 x2), .nb 0 (.row 5 (List.map E5 (v1.set ((p1.length : Int).toNat) x1)) []), .wait 4, .mask [0, 3, 4], .ren [0], .nm 4 (V.sc (.int .i64 ((p1 ++ [x1]).length : Int)))] (p := [V.sc (.int .i64 ((List.map E5 a).length : Int)) = V.sc (.int .i64 (a.length : Int)),
      (decide ((p1.length : Int) < (a.length : Int))) = true,
      (0 : Int) ≤ (p1.length : Int),
      (List.map E5 a)[(p1.length : Int).toNat]? = some (E5 x1),
      (0 : Int) ≤ (p1.length : Int),
      ((p1.length : Int) : Int) < ((List.map E5 v1).length : Int),
      look [] ((p1.length : Int).toNat) = none,
      (List.map E5 v1)[(p1.length : Int).toNat]? = some (E5 x2),
      Blk.row 5 ((List.map E5 v1).set ((p1.length : Int).toNat) (V.sc (.int .u8 x1))) [] = Blk.row 5 (List.map E5 (v1.set ((p1.length : Int).toNat) x1)) [],
      V.sc (.int .i64 (i64 ((p1.length : Int) + 1))) = V.sc (.int .i64 ((p1 ++ [x1]).length : Int))]) (by kernel_rfl) (cj (len_nm _ _) (cj (rng_lt h3) (cj (by omega) (cj (rng_get _ h3) (cj (by omega) (cj (map_ltN (by omega) h5) (cj rfl (cj (map_get h5) (cj (nb_set E5 _ _ x1) (cj1 (rng_next h3 h4))))))))))) (laws_toByteS_l0_ok a h4 t1 (p1 ++ [x1]) (rng_step h3) (v1.set ((p1.length : Int).toNat) x1)))
def laws_toByteS (a : List Int) : Option ((List Int)) :=
 if (decide (0 ≤ (a.length : Int))) = true then
 if (capOk (a.length : Int).toNat) = true then
 if (capOk a.length) = true then
 (laws_toByteS_l0 a a [] (List.replicate ((a.length : Int).toNat) 0)).bind fun r1 =>
 some r1
 else none
 else none
 else none
theorem laws_toByteS_ok (a : List Int) : Pn (fun y => Fn Tryz.prog 102 [(false, E87 a)] (E87 y) []) (laws_toByteS a) := by
  unfold laws_toByteS
  exact
   Pn.ite (fun h1 =>
   Pn.ite (fun h2 =>
   Pn.ite (fun h6 =>
   Pn.bind (fun r1 h7 =>
   Pn.some (Fn.of [.wait 3, .nm 6 (V.sc (.int .i64 (a.length : Int))), .wait 1, .nb 0 (.row 5 (List.map E5 (List.replicate ((a.length : Int).toNat) 0)) []), .wait 3, .mask [0, 3, 4], .ren [0], .loop (X.out 0) (st 22 [(3, V.ow 0)] [Blk.row 5 (List.map E5 r1) []] [])] (p := [V.sc (.int .i64 ((List.map E5 a).length : Int)) = V.sc (.int .i64 (a.length : Int)),
    ((a.length : Int) : Int) = (a.length : Int),
    (0 : Int) ≤ (a.length : Int),
    ((a.length : Int) : Int) ≤ 9223372036854775807,
    1 * (a.length : Int).toNat ≤ 281474976710656,
    Blk.row 5 (List.replicate ((a.length : Int).toNat) (V.sc (.int .u8 0))) [] = Blk.row 5 (List.map E5 (List.replicate ((a.length : Int).toNat) 0)) [],
    Loop Tryz.prog (sub (codeOf Tryz.prog 102) [1, 1, 0, 1, 0, 0]) (st 22 [(0, V.sl false 5 (List.map E5 a)), (3, V.ow 0), (4, V.sc (.int .i64 0))] [Blk.row 5 (List.map E5 (List.replicate ((a.length : Int).toNat) 0)) []] []) (X.out 0) (st 22 [(3, V.ow 0)] [Blk.row 5 (List.map E5 r1) []] [])]) (by kernel_rfl) (cj (len_nm _ _) (cj rfl (cj (od h1) (cj (cap3 h1 h2) (cj (cap4 h2 (by decide)) (cj (nb_rep E5 _ 0) (cj1 (laws_toByteS_l0_ok a h6 a [] rfl (List.replicate ((a.length : Int).toNat) 0) r1 h7))))))))))) (fun h6 =>
   Pn.none)) (fun h2 =>
   Pn.none)) (fun h1 =>
   Pn.none)
def laws_toSlot (a : Slot) : Option (Slot) :=
 (laws_toByteS a.Reply).bind fun r1 =>
 some (Slot.mk a.Trace a.Mti r1)
theorem laws_toSlot_ok (a : Slot) : Pn (fun y => Fn Tryz.prog 87 [(false, E110 a)] (E89 y) []) (laws_toSlot a) := by
  unfold laws_toSlot
  exact
   Pn.bind (fun r1 h1 =>
   Pn.some (Fn.of [.call [] (E87 r1) []] (p := [Fn Tryz.prog 102 [(false, E87 a.Reply)] (E87 r1) [],
    (true || ((E87 r1).nv && nvL [])) = true]) (by kernel_rfl) (cj (laws_toByteS_ok a.Reply r1 h1) (cj1 rfl))))
def laws_toSlotS_l0 (a : List Slot) : List Slot → List Slot → (List Slot) → Option ((List Slot))
  | [], p1, v1 =>
   some v1
  | x1 :: t1, p1, v1 =>
   (laws_toSlot x1).bind fun r1 =>
   (v1[(p1.length : Int).toNat]?).bind fun x2 =>
   laws_toSlotS_l0 a t1 (p1 ++ [x1]) (v1.set ((p1.length : Int).toNat) r1)
theorem laws_toSlotS_l0_ok (a : List Slot) (h4 : capOk a.length = true) : ∀ (t1 p1 : List Slot) (_ : a = p1 ++ t1) (v1 : List Slot), Pn (LpO Tryz.prog (sub (codeOf Tryz.prog 64) [1, 1, 0, 1, 0, 0]) (st 23 [(0, V.sl false 110 (List.map E110 a)), (3, V.ow 0), (4, V.sc (.int .i64 (p1.length : Int)))] [Blk.row 89 (List.map E89 v1) []] []) (fun (y : (List Slot)) => (X.out 0, st 23 [(3, V.ow 0)] [Blk.row 89 (List.map E89 y) []] []))) (laws_toSlotS_l0 a t1 p1 v1)
  | [], p1, h3, v1 => by
    unfold laws_toSlotS_l0
    exact
     Pn.some (LpO.out [.wait 3, .nm 10 (V.sc (.int .i64 (a.length : Int))), .bit false, .mask [3], .ren [0]] (p := [V.sc (.int .i64 ((List.map E110 a).length : Int)) = V.sc (.int .i64 (a.length : Int)),
      (decide ((p1.length : Int) < (a.length : Int))) = false]) (by kernel_rfl) (show X.out 0 ≠ X.go from nofun) (cj (len_nm _ _) (cj1 (rng_end h3))))
  | x1 :: t1, p1, h3, v1 => by
    unfold laws_toSlotS_l0
    exact
     Pn.bind (fun r1 h5 =>
     Pn.bind (fun x2 h6 =>
     LpO.go [.wait 3, .nm 10 (V.sc (.int .i64 (a.length : Int))), .bit true, .el (E110 x1), .call [] (E89 r1) [], .wait 1, .foc 0 ((p1.length : Int).toNat) (E89 x2), .fo 0, .wait 4, .shut 0, .nb 0 (.row 89 (List.map E89 (v1.set ((p1.length : Int).toNat) r1)) []), .mask [0, 3, 4], .ren [0], .nm 4 (V.sc (.int .i64 ((p1 ++ [x1]).length : Int)))] (p := [V.sc (.int .i64 ((List.map E110 a).length : Int)) = V.sc (.int .i64 (a.length : Int)),
      (decide ((p1.length : Int) < (a.length : Int))) = true,
      (0 : Int) ≤ (p1.length : Int),
      (List.map E110 a)[(p1.length : Int).toNat]? = some (E110 x1),
      Fn Tryz.prog 87 [(false, E110 x1)] (E89 r1) [],
      (true || ((E89 r1).nv && nvL [])) = true,
      (0 : Int) ≤ (p1.length : Int),
      ((p1.length : Int) : Int) < ((List.map E89 v1).length : Int),
      look [] ((p1.length : Int).toNat) = none,
      (List.map E89 v1)[(p1.length : Int).toNat]? = some (E89 x2),
      look [((p1.length : Int).toNat, V.agg [V.sc (.string x2.Trace), V.sc (.string x2.Mti), V.ow 2])] ((p1.length : Int).toNat) = some (V.agg [V.sc (.string x2.Trace), V.sc (.string x2.Mti), V.ow 2]),
      ((p1.length : Int).toNat) < (List.map E89 v1).length,
      ((p1.length : Int).toNat) = ((p1.length : Int).toNat),
      Blk.row 89 ((List.map E89 v1).set ((p1.length : Int).toNat) (V.agg [V.sc (.string r1.Trace), V.sc (.string r1.Mti), V.sl true 5 (List.map E5 r1.Reply)])) [] = Blk.row 89 (List.map E89 (v1.set ((p1.length : Int).toNat) r1)) [],
      V.sc (.int .i64 (i64 ((p1.length : Int) + 1))) = V.sc (.int .i64 ((p1 ++ [x1]).length : Int))]) (by kernel_rfl) (cj (len_nm _ _) (cj (rng_lt h3) (cj (by omega) (cj (rng_get _ h3) (cj (laws_toSlot_ok x1 r1 h5) (cj rfl (cj (by omega) (cj (map_ltN (by omega) h6) (cj rfl (cj (map_get h6) (cj (look_cons_self _ _ _) (cj (map_lt h6) (cj rfl (cj (nb_set E89 _ _ r1) (cj1 (rng_next h3 h4)))))))))))))))) (laws_toSlotS_l0_ok a h4 t1 (p1 ++ [x1]) (rng_step h3) (v1.set ((p1.length : Int).toNat) r1))))
def laws_toSlotS (a : List Slot) : Option ((List Slot)) :=
 if (decide (0 ≤ (a.length : Int))) = true then
 if (capOk (a.length : Int).toNat) = true then
 if (capOk a.length) = true then
 (laws_toSlotS_l0 a a [] (List.replicate ((a.length : Int).toNat) (Slot.mk ByteArray.empty ByteArray.empty []))).bind fun r2 =>
 some r2
 else none
 else none
 else none
theorem laws_toSlotS_ok (a : List Slot) : Pn (fun y => Fn Tryz.prog 64 [(false, E63 a)] (E41 y) []) (laws_toSlotS a) := by
  unfold laws_toSlotS
  exact
   Pn.ite (fun h1 =>
   Pn.ite (fun h2 =>
   Pn.ite (fun h7 =>
   Pn.bind (fun r2 h8 =>
   Pn.some (Fn.of [.wait 3, .nm 6 (V.sc (.int .i64 (a.length : Int))), .wait 1, .nb 0 (.row 89 (List.map E89 (List.replicate ((a.length : Int).toNat) (Slot.mk ByteArray.empty ByteArray.empty []))) []), .wait 3, .mask [0, 3, 4], .ren [0], .loop (X.out 0) (st 23 [(3, V.ow 0)] [Blk.row 89 (List.map E89 r2) []] [])] (p := [V.sc (.int .i64 ((List.map E110 a).length : Int)) = V.sc (.int .i64 (a.length : Int)),
    ((a.length : Int) : Int) = (a.length : Int),
    (0 : Int) ≤ (a.length : Int),
    ((a.length : Int) : Int) ≤ 9223372036854775807,
    56 * (a.length : Int).toNat ≤ 281474976710656,
    Blk.row 89 (List.replicate ((a.length : Int).toNat) (V.agg [V.sc (.string ByteArray.empty), V.sc (.string ByteArray.empty), V.sl true 5 ([] : List V)])) [] = Blk.row 89 (List.map E89 (List.replicate ((a.length : Int).toNat) (Slot.mk ByteArray.empty ByteArray.empty []))) [],
    Loop Tryz.prog (sub (codeOf Tryz.prog 64) [1, 1, 0, 1, 0, 0]) (st 23 [(0, V.sl false 110 (List.map E110 a)), (3, V.ow 0), (4, V.sc (.int .i64 0))] [Blk.row 89 (List.map E89 (List.replicate ((a.length : Int).toNat) (Slot.mk ByteArray.empty ByteArray.empty []))) []] []) (X.out 0) (st 23 [(3, V.ow 0)] [Blk.row 89 (List.map E89 r2) []] [])]) (by kernel_rfl) (cj (len_nm _ _) (cj rfl (cj (od h1) (cj (cap3 h1 h2) (cj (cap4 h2 (by decide)) (cj (nb_rep E89 _ (Slot.mk ByteArray.empty ByteArray.empty [])) (cj1 (laws_toSlotS_l0_ok a h7 a [] rfl (List.replicate ((a.length : Int).toNat) (Slot.mk ByteArray.empty ByteArray.empty [])) r2 h8))))))))))) (fun h7 =>
   Pn.none)) (fun h2 =>
   Pn.none)) (fun h1 =>
   Pn.none)
def laws_toAcct (a : Acct) : Option (Acct) :=
 (laws_toHoldS a.Holds).bind fun r1 =>
 (laws_toRing a.Ring).bind fun r2 =>
 (laws_toSlotS a.Slots).bind fun r3 =>
 some (Acct.mk a.Id a.Limit a.Posted a.Most a.MostSum r1 r2 r3)
theorem laws_toAcct_ok (a : Acct) : Pn (fun y => Fn Tryz.prog 41 [(false, E65 a)] (E43 y) []) (laws_toAcct a) := by
  unfold laws_toAcct
  exact
   Pn.bind (fun r1 h1 =>
   Pn.bind (fun r2 h2 =>
   Pn.bind (fun r3 h3 =>
   Pn.some (Fn.of [.call [] (E37 r1) [], .call [] (E40 r2) [], .call [] (E41 r3) []] (p := [Fn Tryz.prog 62 [(false, E61 a.Holds)] (E37 r1) [],
    (true || ((E37 r1).nv && nvL [])) = true,
    Fn Tryz.prog 63 [(false, E62 a.Ring)] (E40 r2) [],
    (true || ((E40 r2).nv && nvL [])) = true,
    Fn Tryz.prog 64 [(false, E63 a.Slots)] (E41 r3) [],
    (true || ((E41 r3).nv && nvL [])) = true]) (by kernel_rfl) (cj (laws_toHoldS_ok a.Holds r1 h1) (cj rfl (cj (laws_toRing_ok a.Ring r2 h2) (cj rfl (cj (laws_toSlotS_ok a.Slots r3 h3) (cj1 rfl))))))))))
def laws_toAcctS_l0 (a : List Acct) : List Acct → List Acct → (List Acct) → Option ((List Acct))
  | [], p1, v1 =>
   some v1
  | x1 :: t1, p1, v1 =>
   (laws_toAcct x1).bind fun r1 =>
   (v1[(p1.length : Int).toNat]?).bind fun x2 =>
   laws_toAcctS_l0 a t1 (p1 ++ [x1]) (v1.set ((p1.length : Int).toNat) r1)
theorem laws_toAcctS_l0_ok (a : List Acct) (h4 : capOk a.length = true) : ∀ (t1 p1 : List Acct) (_ : a = p1 ++ t1) (v1 : List Acct), Pn (LpO Tryz.prog (sub (codeOf Tryz.prog 24) [1, 1, 0, 1, 0, 0]) (st 23 [(0, V.sl false 65 (List.map E65 a)), (3, V.ow 0), (4, V.sc (.int .i64 (p1.length : Int)))] [Blk.row 43 (List.map E43 v1) []] []) (fun (y : (List Acct)) => (X.out 0, st 23 [(3, V.ow 0)] [Blk.row 43 (List.map E43 y) []] []))) (laws_toAcctS_l0 a t1 p1 v1)
  | [], p1, h3, v1 => by
    unfold laws_toAcctS_l0
    exact
     Pn.some (LpO.out [.wait 3, .nm 10 (V.sc (.int .i64 (a.length : Int))), .bit false, .mask [3], .ren [0]] (p := [V.sc (.int .i64 ((List.map E65 a).length : Int)) = V.sc (.int .i64 (a.length : Int)),
      (decide ((p1.length : Int) < (a.length : Int))) = false]) (by kernel_rfl) (show X.out 0 ≠ X.go from nofun) (cj (len_nm _ _) (cj1 (rng_end h3))))
  | x1 :: t1, p1, h3, v1 => by
    unfold laws_toAcctS_l0
    exact
     Pn.bind (fun r1 h5 =>
     Pn.bind (fun x2 h6 =>
     LpO.go [.wait 3, .nm 10 (V.sc (.int .i64 (a.length : Int))), .bit true, .el (E65 x1), .call [] (E43 r1) [], .wait 1, .foc 0 ((p1.length : Int).toNat) (E43 x2), .fo 0, .wait 4, .shut 0, .nb 0 (.row 43 (List.map E43 (v1.set ((p1.length : Int).toNat) r1)) []), .mask [0, 3, 4], .ren [0], .nm 4 (V.sc (.int .i64 ((p1 ++ [x1]).length : Int)))] (p := [V.sc (.int .i64 ((List.map E65 a).length : Int)) = V.sc (.int .i64 (a.length : Int)),
      (decide ((p1.length : Int) < (a.length : Int))) = true,
      (0 : Int) ≤ (p1.length : Int),
      (List.map E65 a)[(p1.length : Int).toNat]? = some (E65 x1),
      Fn Tryz.prog 41 [(false, E65 x1)] (E43 r1) [],
      (true || ((E43 r1).nv && nvL [])) = true,
      (0 : Int) ≤ (p1.length : Int),
      ((p1.length : Int) : Int) < ((List.map E43 v1).length : Int),
      look [] ((p1.length : Int).toNat) = none,
      (List.map E43 v1)[(p1.length : Int).toNat]? = some (E43 x2),
      look [((p1.length : Int).toNat, V.agg [V.sc (.string x2.Id), V.sc (.int .i64 x2.Limit), V.sc (.int .i64 x2.Posted), V.sc (.int .i64 x2.Most), V.sc (.int .i64 x2.MostSum), V.ow 5, V.sc (.int .i64 x2.Ring.Span), V.sc (.int .i64 x2.Ring.Head), V.ow 6, V.ow 7, V.ow 8])] ((p1.length : Int).toNat) = some (V.agg [V.sc (.string x2.Id), V.sc (.int .i64 x2.Limit), V.sc (.int .i64 x2.Posted), V.sc (.int .i64 x2.Most), V.sc (.int .i64 x2.MostSum), V.ow 5, V.sc (.int .i64 x2.Ring.Span), V.sc (.int .i64 x2.Ring.Head), V.ow 6, V.ow 7, V.ow 8]),
      ((p1.length : Int).toNat) < (List.map E43 v1).length,
      ((p1.length : Int).toNat) = ((p1.length : Int).toNat),
      Blk.row 43 ((List.map E43 v1).set ((p1.length : Int).toNat) (V.agg [V.sc (.string r1.Id), V.sc (.int .i64 r1.Limit), V.sc (.int .i64 r1.Posted), V.sc (.int .i64 r1.Most), V.sc (.int .i64 r1.MostSum), V.sl true 85 (List.map E85 r1.Holds), V.sc (.int .i64 r1.Ring.Span), V.sc (.int .i64 r1.Ring.Head), V.sl true 3 (List.map E3 r1.Ring.Counts), V.sl true 3 (List.map E3 r1.Ring.Sums), V.sl true 89 (List.map E89 r1.Slots)])) [] = Blk.row 43 (List.map E43 (v1.set ((p1.length : Int).toNat) r1)) [],
      V.sc (.int .i64 (i64 ((p1.length : Int) + 1))) = V.sc (.int .i64 ((p1 ++ [x1]).length : Int))]) (by kernel_rfl) (cj (len_nm _ _) (cj (rng_lt h3) (cj (by omega) (cj (rng_get _ h3) (cj (laws_toAcct_ok x1 r1 h5) (cj rfl (cj (by omega) (cj (map_ltN (by omega) h6) (cj rfl (cj (map_get h6) (cj (look_cons_self _ _ _) (cj (map_lt h6) (cj rfl (cj (nb_set E43 _ _ r1) (cj1 (rng_next h3 h4)))))))))))))))) (laws_toAcctS_l0_ok a h4 t1 (p1 ++ [x1]) (rng_step h3) (v1.set ((p1.length : Int).toNat) r1))))
def laws_toAcctS (a : List Acct) : Option ((List Acct)) :=
 if (decide (0 ≤ (a.length : Int))) = true then
 if (capOk (a.length : Int).toNat) = true then
 if (capOk a.length) = true then
 (laws_toAcctS_l0 a a [] (List.replicate ((a.length : Int).toNat) (Acct.mk ByteArray.empty 0 0 0 0 [] (Ring.mk 0 0 [] []) []))).bind fun r2 =>
 some r2
 else none
 else none
 else none
theorem laws_toAcctS_ok (a : List Acct) : Pn (fun y => Fn Tryz.prog 24 [(false, E30 a)] (E34 y) []) (laws_toAcctS a) := by
  unfold laws_toAcctS
  exact
   Pn.ite (fun h1 =>
   Pn.ite (fun h2 =>
   Pn.ite (fun h7 =>
   Pn.bind (fun r2 h8 =>
   Pn.some (Fn.of [.wait 3, .nm 6 (V.sc (.int .i64 (a.length : Int))), .wait 1, .nb 0 (.row 43 (List.map E43 (List.replicate ((a.length : Int).toNat) (Acct.mk ByteArray.empty 0 0 0 0 [] (Ring.mk 0 0 [] []) []))) []), .wait 3, .mask [0, 3, 4], .ren [0], .loop (X.out 0) (st 23 [(3, V.ow 0)] [Blk.row 43 (List.map E43 r2) []] [])] (p := [V.sc (.int .i64 ((List.map E65 a).length : Int)) = V.sc (.int .i64 (a.length : Int)),
    ((a.length : Int) : Int) = (a.length : Int),
    (0 : Int) ≤ (a.length : Int),
    ((a.length : Int) : Int) ≤ 9223372036854775807,
    160 * (a.length : Int).toNat ≤ 281474976710656,
    Blk.row 43 (List.replicate ((a.length : Int).toNat) (V.agg [V.sc (.string ByteArray.empty), V.sc (.int .i64 0), V.sc (.int .i64 0), V.sc (.int .i64 0), V.sc (.int .i64 0), V.sl true 85 ([] : List V), V.sc (.int .i64 0), V.sc (.int .i64 0), V.sl true 3 ([] : List V), V.sl true 3 ([] : List V), V.sl true 89 ([] : List V)])) [] = Blk.row 43 (List.map E43 (List.replicate ((a.length : Int).toNat) (Acct.mk ByteArray.empty 0 0 0 0 [] (Ring.mk 0 0 [] []) []))) [],
    Loop Tryz.prog (sub (codeOf Tryz.prog 24) [1, 1, 0, 1, 0, 0]) (st 23 [(0, V.sl false 65 (List.map E65 a)), (3, V.ow 0), (4, V.sc (.int .i64 0))] [Blk.row 43 (List.map E43 (List.replicate ((a.length : Int).toNat) (Acct.mk ByteArray.empty 0 0 0 0 [] (Ring.mk 0 0 [] []) []))) []] []) (X.out 0) (st 23 [(3, V.ow 0)] [Blk.row 43 (List.map E43 r2) []] [])]) (by kernel_rfl) (cj (len_nm _ _) (cj rfl (cj (od h1) (cj (cap3 h1 h2) (cj (cap4 h2 (by decide)) (cj (nb_rep E43 _ (Acct.mk ByteArray.empty 0 0 0 0 [] (Ring.mk 0 0 [] []) [])) (cj1 (laws_toAcctS_l0_ok a h7 a [] rfl (List.replicate ((a.length : Int).toNat) (Acct.mk ByteArray.empty 0 0 0 0 [] (Ring.mk 0 0 [] []) [])) r2 h8))))))))))) (fun h7 =>
   Pn.none)) (fun h2 =>
   Pn.none)) (fun h1 =>
   Pn.none)
def laws_toStripe (a : Stripe) : Option (Stripe) :=
 (laws_toAcctS a.Accts).bind fun r1 =>
 some (Stripe.mk a.Owner r1)
theorem laws_toStripe_ok (a : Stripe) : Pn (fun y => Fn Tryz.prog 14 [(false, E32 a)] (E36 y) []) (laws_toStripe a) := by
  unfold laws_toStripe
  exact
   Pn.bind (fun r1 h1 =>
   Pn.some (Fn.of [.call [] (E34 r1) []] (p := [Fn Tryz.prog 24 [(false, E30 a.Accts)] (E34 r1) [],
    (true || ((E34 r1).nv && nvL [])) = true]) (by kernel_rfl) (cj (laws_toAcctS_ok a.Accts r1 h1) (cj1 rfl))))
def laws_toStripeS_l0 (a : List Stripe) : List Stripe → List Stripe → (List Stripe) → Option ((List Stripe))
  | [], p1, v1 =>
   some v1
  | x1 :: t1, p1, v1 =>
   (laws_toStripe x1).bind fun r1 =>
   (v1[(p1.length : Int).toNat]?).bind fun x2 =>
   laws_toStripeS_l0 a t1 (p1 ++ [x1]) (v1.set ((p1.length : Int).toNat) r1)
theorem laws_toStripeS_l0_ok (a : List Stripe) (h4 : capOk a.length = true) : ∀ (t1 p1 : List Stripe) (_ : a = p1 ++ t1) (v1 : List Stripe), Pn (LpO Tryz.prog (sub (codeOf Tryz.prog 6) [1, 1, 0, 1, 0, 0]) (st 23 [(0, V.sl false 32 (List.map E32 a)), (3, V.ow 0), (4, V.sc (.int .i64 (p1.length : Int)))] [Blk.row 36 (List.map E36 v1) []] []) (fun (y : (List Stripe)) => (X.out 0, st 23 [(3, V.ow 0)] [Blk.row 36 (List.map E36 y) []] []))) (laws_toStripeS_l0 a t1 p1 v1)
  | [], p1, h3, v1 => by
    unfold laws_toStripeS_l0
    exact
     Pn.some (LpO.out [.wait 3, .nm 10 (V.sc (.int .i64 (a.length : Int))), .bit false, .mask [3], .ren [0]] (p := [V.sc (.int .i64 ((List.map E32 a).length : Int)) = V.sc (.int .i64 (a.length : Int)),
      (decide ((p1.length : Int) < (a.length : Int))) = false]) (by kernel_rfl) (show X.out 0 ≠ X.go from nofun) (cj (len_nm _ _) (cj1 (rng_end h3))))
  | x1 :: t1, p1, h3, v1 => by
    unfold laws_toStripeS_l0
    exact
     Pn.bind (fun r1 h5 =>
     Pn.bind (fun x2 h6 =>
     LpO.go [.wait 3, .nm 10 (V.sc (.int .i64 (a.length : Int))), .bit true, .el (E32 x1), .call [] (E36 r1) [], .wait 1, .foc 0 ((p1.length : Int).toNat) (E36 x2), .fo 0, .wait 4, .shut 0, .nb 0 (.row 36 (List.map E36 (v1.set ((p1.length : Int).toNat) r1)) []), .mask [0, 3, 4], .ren [0], .nm 4 (V.sc (.int .i64 ((p1 ++ [x1]).length : Int)))] (p := [V.sc (.int .i64 ((List.map E32 a).length : Int)) = V.sc (.int .i64 (a.length : Int)),
      (decide ((p1.length : Int) < (a.length : Int))) = true,
      (0 : Int) ≤ (p1.length : Int),
      (List.map E32 a)[(p1.length : Int).toNat]? = some (E32 x1),
      Fn Tryz.prog 14 [(false, E32 x1)] (E36 r1) [],
      (true || ((E36 r1).nv && nvL [])) = true,
      (0 : Int) ≤ (p1.length : Int),
      ((p1.length : Int) : Int) < ((List.map E36 v1).length : Int),
      look [] ((p1.length : Int).toNat) = none,
      (List.map E36 v1)[(p1.length : Int).toNat]? = some (E36 x2),
      look [((p1.length : Int).toNat, V.agg [V.sc (.int .i64 x2.Owner), V.ow 2])] ((p1.length : Int).toNat) = some (V.agg [V.sc (.int .i64 x2.Owner), V.ow 2]),
      ((p1.length : Int).toNat) < (List.map E36 v1).length,
      ((p1.length : Int).toNat) = ((p1.length : Int).toNat),
      Blk.row 36 ((List.map E36 v1).set ((p1.length : Int).toNat) (V.agg [V.sc (.int .i64 r1.Owner), V.sl true 43 (List.map E43 r1.Accts)])) [] = Blk.row 36 (List.map E36 (v1.set ((p1.length : Int).toNat) r1)) [],
      V.sc (.int .i64 (i64 ((p1.length : Int) + 1))) = V.sc (.int .i64 ((p1 ++ [x1]).length : Int))]) (by kernel_rfl) (cj (len_nm _ _) (cj (rng_lt h3) (cj (by omega) (cj (rng_get _ h3) (cj (laws_toStripe_ok x1 r1 h5) (cj rfl (cj (by omega) (cj (map_ltN (by omega) h6) (cj rfl (cj (map_get h6) (cj (look_cons_self _ _ _) (cj (map_lt h6) (cj rfl (cj (nb_set E36 _ _ r1) (cj1 (rng_next h3 h4)))))))))))))))) (laws_toStripeS_l0_ok a h4 t1 (p1 ++ [x1]) (rng_step h3) (v1.set ((p1.length : Int).toNat) r1))))
def laws_toStripeS (a : List Stripe) : Option ((List Stripe)) :=
 if (decide (0 ≤ (a.length : Int))) = true then
 if (capOk (a.length : Int).toNat) = true then
 if (capOk a.length) = true then
 (laws_toStripeS_l0 a a [] (List.replicate ((a.length : Int).toNat) (Stripe.mk 0 []))).bind fun r2 =>
 some r2
 else none
 else none
 else none
theorem laws_toStripeS_ok (a : List Stripe) : Pn (fun y => Fn Tryz.prog 6 [(false, E22 a)] (E25 y) []) (laws_toStripeS a) := by
  unfold laws_toStripeS
  exact
   Pn.ite (fun h1 =>
   Pn.ite (fun h2 =>
   Pn.ite (fun h7 =>
   Pn.bind (fun r2 h8 =>
   Pn.some (Fn.of [.wait 3, .nm 6 (V.sc (.int .i64 (a.length : Int))), .wait 1, .nb 0 (.row 36 (List.map E36 (List.replicate ((a.length : Int).toNat) (Stripe.mk 0 []))) []), .wait 3, .mask [0, 3, 4], .ren [0], .loop (X.out 0) (st 23 [(3, V.ow 0)] [Blk.row 36 (List.map E36 r2) []] [])] (p := [V.sc (.int .i64 ((List.map E32 a).length : Int)) = V.sc (.int .i64 (a.length : Int)),
    ((a.length : Int) : Int) = (a.length : Int),
    (0 : Int) ≤ (a.length : Int),
    ((a.length : Int) : Int) ≤ 9223372036854775807,
    32 * (a.length : Int).toNat ≤ 281474976710656,
    Blk.row 36 (List.replicate ((a.length : Int).toNat) (V.agg [V.sc (.int .i64 0), V.sl true 43 ([] : List V)])) [] = Blk.row 36 (List.map E36 (List.replicate ((a.length : Int).toNat) (Stripe.mk 0 []))) [],
    Loop Tryz.prog (sub (codeOf Tryz.prog 6) [1, 1, 0, 1, 0, 0]) (st 23 [(0, V.sl false 32 (List.map E32 a)), (3, V.ow 0), (4, V.sc (.int .i64 0))] [Blk.row 36 (List.map E36 (List.replicate ((a.length : Int).toNat) (Stripe.mk 0 []))) []] []) (X.out 0) (st 23 [(3, V.ow 0)] [Blk.row 36 (List.map E36 r2) []] [])]) (by kernel_rfl) (cj (len_nm _ _) (cj rfl (cj (od h1) (cj (cap3 h1 h2) (cj (cap4 h2 (by decide)) (cj (nb_rep E36 _ (Stripe.mk 0 [])) (cj1 (laws_toStripeS_l0_ok a h7 a [] rfl (List.replicate ((a.length : Int).toNat) (Stripe.mk 0 [])) r2 h8))))))))))) (fun h7 =>
   Pn.none)) (fun h2 =>
   Pn.none)) (fun h1 =>
   Pn.none)
def spec_l01In (n : Int) (lo : Int) (hi : Int) : Option (Bool) :=
 if (decide (lo ≤ n)) = true then
 some (decide (n ≤ hi))
 else
 some false
theorem spec_l01In_ok (n : Int) (lo : Int) (hi : Int) : Pn (fun y => Fn Tryz.prog 10 [(false, E3 n), (false, E3 lo), (false, E3 hi)] (E4 y) []) (spec_l01In n lo hi) := by
  unfold spec_l01In
  exact
   Pn.ite (fun h1 =>
   Pn.some (Fn.of [.bit true, .bit true, .bit true, .bit true] (p := [(decide (lo ≤ n)) = true,
    (decide (lo ≤ n)) = true,
    (decide (lo ≤ n)) = true,
    (decide (lo ≤ n)) = true]) (by kernel_rfl) (cj h1 (cj h1 (cj h1 (cj1 h1)))))) (fun h1 =>
   Pn.some (Fn.of [.bit false, .bit false, .bit false, .bit false] (p := [(decide (lo ≤ n)) = false,
    (decide (lo ≤ n)) = false,
    (decide (lo ≤ n)) = false,
    (decide (lo ≤ n)) = false]) (by kernel_rfl) (cj h1 (cj h1 (cj h1 (cj1 h1))))))
def spec_Fnv_l0 (s_ : ByteArray) : Nat → Int → Int → Option (Int)
  | 0, _, _ => none
  | fuel + 1, v1, v2 =>
   if (decide (v2 < (s_.size : Int))) = true then
   if (decide (0 ≤ v2)) = true then
   if (decide ((v2 : Int) < (s_.size : Int))) = true then
   spec_Fnv_l0 s_ fuel (band .i64 (i64 ((bxor .i64 v1 (i64 (sAt s_ v2))) * 16777619)) 4294967295) (i64 (v2 + 1))
   else none
   else none
   else
   some v1
theorem spec_Fnv_l0_ok (s_ : ByteArray) : ∀ (fuel : Nat) (v1 : Int) (v2 : Int), Pn (LpO Tryz.prog (sub (codeOf Tryz.prog 21) [1, 1, 0, 1, 0, 0]) (st 20 [(0, V.sc (.string s_)), (3, V.sc (.int .i64 v1)), (4, V.sc (.int .i64 v2))] [] []) (fun (y : Int) => (X.out 0, st 20 [(3, V.sc (.int .i64 y))] [] []))) (spec_Fnv_l0 s_ fuel v1 v2)
  | 0, _, _ => Pn.none
  | fuel + 1, v1, v2 => by
    unfold spec_Fnv_l0
    exact
     Pn.ite (fun h1 =>
     Pn.ite (fun h2 =>
     Pn.ite (fun h3 =>
     LpO.go [.bit true, .wait 12, .mask [0, 3, 4], .ren []] (p := [(decide (v2 < (s_.size : Int))) = true,
      (0 : Int) ≤ v2,
      (v2 : Int) < s_.size]) (by kernel_rfl) (cj h1 (cj (od h2) (cj1 (od h3)))) (spec_Fnv_l0_ok s_ fuel (band .i64 (i64 ((bxor .i64 v1 (i64 (sAt s_ v2))) * 16777619)) 4294967295) (i64 (v2 + 1)))) (fun h3 =>
     Pn.none)) (fun h2 =>
     Pn.none)) (fun h1 =>
     Pn.some (LpO.out [.bit false, .mask [3], .ren []] (p := [(decide (v2 < (s_.size : Int))) = false]) (by kernel_rfl) (show X.out 0 ≠ X.go from nofun) (cj1 h1)))
def spec_Fnv (s_ : ByteArray) : Option (Int) :=
 (spec_Fnv_l0 s_ FUEL 2166136261 0).bind fun r1 =>
 some r1
theorem spec_Fnv_ok (s_ : ByteArray) : Pn (fun y => Fn Tryz.prog 21 [(false, E9 s_)] (E3 y) []) (spec_Fnv s_) := by
  unfold spec_Fnv
  exact
   Pn.bind (fun r1 h4 =>
   Pn.some (Fn.of [.wait 4, .mask [0, 3, 4], .ren [], .loop (X.out 0) (st 20 [(3, V.sc (.int .i64 r1))] [] [])] (p := [Loop Tryz.prog (sub (codeOf Tryz.prog 21) [1, 1, 0, 1, 0, 0]) (st 20 [(0, V.sc (.string s_)), (3, V.sc (.int .i64 2166136261)), (4, V.sc (.int .i64 0))] [] []) (X.out 0) (st 20 [(3, V.sc (.int .i64 r1))] [] [])]) (by kernel_rfl) (cj1 (spec_Fnv_l0_ok s_ FUEL 2166136261 0 r1 h4))))
def spec_StripeNo (id : ByteArray) (n : Int) : Option (Int) :=
 if (decide (n < 1)) = true then
 some 0
 else
 (spec_Fnv id).bind fun r1 =>
 if (decide (n ≠ 0)) = true then
 some (Int.tmod r1 n)
 else none
theorem spec_StripeNo_ok (id : ByteArray) (n : Int) : Pn (fun y => Fn Tryz.prog 11 [(false, E9 id), (false, E3 n)] (E3 y) []) (spec_StripeNo id n) := by
  unfold spec_StripeNo
  exact
   Pn.ite (fun h1 =>
   Pn.some (Fn.of [.bit true] (p := [(decide (n < 1)) = true]) (by kernel_rfl) (cj1 h1))) (fun h1 =>
   Pn.bind (fun r1 h2 =>
   Pn.ite (fun h3 =>
   Pn.some (Fn.of [.bit false, .call [] (E3 r1) []] (p := [(decide (n < 1)) = false,
    Fn Tryz.prog 21 [(false, E9 id)] (E3 r1) [],
    (true || ((E3 r1).nv && nvL [])) = true,
    (n : Int) ≠ 0]) (by kernel_rfl) (cj h1 (cj (spec_Fnv_ok id r1 h2) (cj rfl (cj1 (od h3))))))) (fun h3 =>
   Pn.none)))
def spec_l06Copy (r_ : Ring) : Option (Ring) :=
 if (capOk (0 + r_.Counts.length)) = true then
 if (capOk (0 + r_.Sums.length)) = true then
 some r_
 else none
 else none
theorem spec_l06Copy_ok (r_ : Ring) : Pn (fun y => Fn Tryz.prog 39 [(false, E40 r_)] (E40 y) []) (spec_l06Copy r_) := by
  unfold spec_l06Copy
  exact
   Pn.ite (fun h1 =>
   Pn.ite (fun h2 =>
   Pn.some (Fn.of [.cp (List.map E3 r_.Counts), .nb 3 (.row 3 (List.map E3 r_.Counts) []), .cp (List.map E3 r_.Sums), .nb 5 (.row 3 (List.map E3 r_.Sums) [])] (p := [(List.map E3 r_.Counts).map V.vw = (List.map E3 r_.Counts),
    ([] : List V).length + (List.map E3 r_.Counts).length ≤ 9223372036854775807,
    (([] : List V).length + (List.map E3 r_.Counts).length) * 8 ≤ 140737488355328,
    Blk.row 3 (([] : List V) ++ (List.map E3 r_.Counts)) [] = Blk.row 3 (List.map E3 r_.Counts) [],
    (List.map E3 r_.Sums).map V.vw = (List.map E3 r_.Sums),
    ([] : List V).length + (List.map E3 r_.Sums).length ≤ 9223372036854775807,
    (([] : List V).length + (List.map E3 r_.Sums).length) * 8 ≤ 140737488355328,
    Blk.row 3 (([] : List V) ++ (List.map E3 r_.Sums)) [] = Blk.row 3 (List.map E3 r_.Sums) []]) (by kernel_rfl) (cj (vw_id (fun _ => rfl) _) (cj (cap1 (capN (by simp) h1)) (cj (cap2 (capN (by simp) h1) (by decide)) (cj rfl (cj (vw_id (fun _ => rfl) _) (cj (cap1 (capN (by simp) h2)) (cj (cap2 (capN (by simp) h2) (by decide)) (cj1 rfl)))))))))) (fun h2 =>
   Pn.none)) (fun h1 =>
   Pn.none)
def spec_l08Copy_l0 (l : List Slot) : List Slot → (List Slot) → Option ((List Slot))
  | [], v1 =>
   some v1
  | x1 :: t1, v1 =>
   if (capOk (0 + x1.Reply.length)) = true then
   if (capOk (v1.length + 1)) = true then
   spec_l08Copy_l0 l t1 (v1 ++ [x1])
   else none
   else none
theorem spec_l08Copy_l0_ok (l : List Slot) (h2 : capOk l.length = true) : ∀ (t1 p1 : List Slot) (_ : l = p1 ++ t1) (v1 : List Slot), Pn (LpO Tryz.prog (sub (codeOf Tryz.prog 40) [1, 1, 0, 1, 0, 0]) (st 24 [(3, V.ow 0), (7, V.sl false 89 (List.map E89 l)), (8, V.sc (.int .i64 (l.length : Int))), (9, V.sc (.int .i64 (p1.length : Int)))] [Blk.row 89 (List.map E89 v1) []] []) (fun (y : (List Slot)) => (X.out 0, st 24 [(3, V.ow 0)] [Blk.row 89 (List.map E89 y) []] []))) (spec_l08Copy_l0 l t1 v1)
  | [], p1, h1, v1 => by
    unfold spec_l08Copy_l0
    exact
     Pn.some (LpO.out [.bit false, .mask [3], .ren [0]] (p := [(decide ((p1.length : Int) < (l.length : Int))) = false]) (by kernel_rfl) (show X.out 0 ≠ X.go from nofun) (cj1 (rng_end h1)))
  | x1 :: t1, p1, h1, v1 => by
    unfold spec_l08Copy_l0
    exact
     Pn.ite (fun h3 =>
     Pn.ite (fun h4 =>
     LpO.go [.bit true, .el (E89 x1), .cp (List.map E5 x1.Reply), .nb 3 (.row 5 (List.map E5 x1.Reply) []), .wait 5, .shut 4, .mv, .nb 5 (.row 89 (List.map E89 (v1 ++ [x1])) []), .wait 4, .mask [3, 7, 8, 9], .ren [5], .nm 9 (V.sc (.int .i64 ((p1 ++ [x1]).length : Int)))] (p := [(decide ((p1.length : Int) < (l.length : Int))) = true,
      (0 : Int) ≤ (p1.length : Int),
      (List.map E89 l)[(p1.length : Int).toNat]? = some (E89 x1),
      (List.map E5 x1.Reply).map V.vw = (List.map E5 x1.Reply),
      ([] : List V).length + (List.map E5 x1.Reply).length ≤ 9223372036854775807,
      (([] : List V).length + (List.map E5 x1.Reply).length) * 1 ≤ 140737488355328,
      Blk.row 5 (([] : List V) ++ (List.map E5 x1.Reply)) [] = Blk.row 5 (List.map E5 x1.Reply) [],
      (List.map E89 v1).length + [V.agg [V.sc (.string x1.Trace), V.sc (.string x1.Mti), V.sl true 5 (List.map E5 x1.Reply)]].length ≤ 9223372036854775807,
      ((List.map E89 v1).length + [V.agg [V.sc (.string x1.Trace), V.sc (.string x1.Mti), V.sl true 5 (List.map E5 x1.Reply)]].length) * 56 ≤ 140737488355328,
      Blk.row 89 ((List.map E89 v1) ++ [V.agg [V.sc (.string x1.Trace), V.sc (.string x1.Mti), V.sl true 5 (List.map E5 x1.Reply)]]) [] = Blk.row 89 (List.map E89 (v1 ++ [x1])) [],
      V.sc (.int .i64 (i64 ((p1.length : Int) + 1))) = V.sc (.int .i64 ((p1 ++ [x1]).length : Int))]) (by kernel_rfl) (cj (rng_lt h1) (cj (by omega) (cj (rng_get _ h1) (cj (vw_id (fun _ => rfl) _) (cj (cap1 (capN (by simp) h3)) (cj (cap2 (capN (by simp) h3) (by decide)) (cj rfl (cj (cap1 (capN (by simp) h4)) (cj (cap2 (capN (by simp) h4) (by decide)) (cj (nb_app E89 v1 [x1]) (cj1 (rng_next h1 h2)))))))))))) (spec_l08Copy_l0_ok l h2 t1 (p1 ++ [x1]) (rng_step h1) (v1 ++ [x1]))) (fun h4 =>
     Pn.none)) (fun h3 =>
     Pn.none)
def spec_l08Copy (l : List Slot) : Option ((List Slot)) :=
 if (capOk l.length) = true then
 (spec_l08Copy_l0 l l []).bind fun r1 =>
 some r1
 else none
theorem spec_l08Copy_ok (l : List Slot) : Pn (fun y => Fn Tryz.prog 40 [(false, E41 l)] (E41 y) []) (spec_l08Copy l) := by
  unfold spec_l08Copy
  exact
   Pn.ite (fun h5 =>
   Pn.bind (fun r1 h6 =>
   Pn.some (Fn.of [.wait 5, .nm 8 (V.sc (.int .i64 (l.length : Int))), .wait 2, .mask [3, 7, 8, 9], .ren [0], .loop (X.out 0) (st 24 [(3, V.ow 0)] [Blk.row 89 (List.map E89 r1) []] [])] (p := [V.sc (.int .i64 ((List.map E89 l).length : Int)) = V.sc (.int .i64 (l.length : Int)),
    Loop Tryz.prog (sub (codeOf Tryz.prog 40) [1, 1, 0, 1, 0, 0]) (st 24 [(3, V.ow 0), (7, V.sl false 89 (List.map E89 l)), (8, V.sc (.int .i64 (l.length : Int))), (9, V.sc (.int .i64 0))] [Blk.row 89 ([] : List V) []] []) (X.out 0) (st 24 [(3, V.ow 0)] [Blk.row 89 (List.map E89 r1) []] [])]) (by kernel_rfl) (cj (len_nm _ _) (cj1 (spec_l08Copy_l0_ok l h5 l [] rfl [] r1 h6)))))) (fun h5 =>
   Pn.none)
def spec_l09Copy (a : Acct) : Option (Acct) :=
 if (capOk (0 + a.Holds.length)) = true then
 (spec_l06Copy a.Ring).bind fun r1 =>
 (spec_l08Copy a.Slots).bind fun r2 =>
 some (Acct.mk a.Id a.Limit a.Posted a.Most a.MostSum a.Holds r1 r2)
 else none
theorem spec_l09Copy_ok (a : Acct) : Pn (fun y => Fn Tryz.prog 23 [(false, E43 a)] (E43 y) []) (spec_l09Copy a) := by
  unfold spec_l09Copy
  exact
   Pn.ite (fun h1 =>
   Pn.bind (fun r1 h2 =>
   Pn.bind (fun r2 h3 =>
   Pn.some (Fn.of [.cp (List.map E85 a.Holds), .nb 3 (.row 85 (List.map E85 a.Holds) []), .call [] (E40 r1) [], .call [] (E41 r2) []] (p := [(List.map E85 a.Holds).map V.vw = (List.map E85 a.Holds),
    ([] : List V).length + (List.map E85 a.Holds).length ≤ 9223372036854775807,
    (([] : List V).length + (List.map E85 a.Holds).length) * 32 ≤ 140737488355328,
    Blk.row 85 (([] : List V) ++ (List.map E85 a.Holds)) [] = Blk.row 85 (List.map E85 a.Holds) [],
    Fn Tryz.prog 39 [(false, E40 a.Ring)] (E40 r1) [],
    (true || ((E40 r1).nv && nvL [])) = true,
    Fn Tryz.prog 40 [(false, E41 a.Slots)] (E41 r2) [],
    (true || ((E41 r2).nv && nvL [])) = true]) (by kernel_rfl) (cj (vw_id (fun _ => rfl) _) (cj (cap1 (capN (by simp) h1)) (cj (cap2 (capN (by simp) h1) (by decide)) (cj rfl (cj (spec_l06Copy_ok a.Ring r1 h2) (cj rfl (cj (spec_l08Copy_ok a.Slots r2 h3) (cj1 rfl)))))))))))) (fun h1 =>
   Pn.none)
def spec_Gather_l2 (l : List Stripe) (p1 : List Stripe) (x1 : Stripe) (p2 : List Acct) (x2 : Acct) : Nat → Int → (List Acct) → Option (Int × (List Acct))
  | 0, _, _ => none
  | fuel + 1, v3, v4 =>
   if (decide (0 < v3)) = true then
   if (decide (0 ≤ (i64 (v3 - 1)))) = true then
   (v4[(i64 (v3 - 1)).toNat]?).bind fun x3 =>
   if (Op.bytesLess x3.Id.toList x2.Id.toList || (x3.Id == x2.Id)) = true then
   some (v3, (v4.set ((i64 (v3 - 1)).toNat) x3))
   else
   spec_Gather_l2 l p1 x1 p2 x2 fuel (i64 (v3 - 1)) (v4.set ((i64 (v3 - 1)).toNat) x3)
   else none
   else
   some (v3, v4)
theorem spec_Gather_l2_ok (l : List Stripe) (p1 : List Stripe) (x1 : Stripe) (p2 : List Acct) (x2 : Acct) : ∀ (fuel : Nat) (v3 : Int) (v4 : List Acct), Pn (LpO Tryz.prog (sub (codeOf Tryz.prog 13) [1, 1, 0, 1, 0, 0, 1, 1, 0, 0, 1, 1, 0, 0, 1, 1, 0, 0, 1, 1, 0, 0, 0]) (st 60 [(2, V.ptr 0 0), (3, V.ow 1), (7, V.ptr 2 0), (8, V.sc (.int .i64 v3)), (11, V.sl false 36 (List.map E36 l)), (12, V.sc (.int .i64 (l.length : Int))), (13, V.sc (.int .i64 (p1.length : Int))), (18, V.sl false 43 (List.map E43 x1.Accts)), (19, V.sc (.int .i64 (x1.Accts.length : Int))), (20, V.sc (.int .i64 (p2.length : Int)))] [Blk.box 47 [V.nl 43], Blk.row 43 (List.map E43 v4) [], Blk.box 43 [V.sc (.string x2.Id), V.sc (.int .i64 x2.Limit), V.sc (.int .i64 x2.Posted), V.sc (.int .i64 x2.Most), V.sc (.int .i64 x2.MostSum), V.sl false 85 (List.map E85 x2.Holds), V.sc (.int .i64 x2.Ring.Span), V.sc (.int .i64 x2.Ring.Head), V.sl false 3 (List.map E3 x2.Ring.Counts), V.sl false 3 (List.map E3 x2.Ring.Sums), V.sl false 89 (List.map E89 x2.Slots)]] []) (fun (y : Int × (List Acct)) => (X.out 4, st 60 [(2, V.ptr 0 0), (3, V.ow 1), (7, V.ptr 2 0), (8, V.sc (.int .i64 y.1)), (11, V.sl false 36 (List.map E36 l)), (12, V.sc (.int .i64 (l.length : Int))), (13, V.sc (.int .i64 (p1.length : Int))), (18, V.sl false 43 (List.map E43 x1.Accts)), (19, V.sc (.int .i64 (x1.Accts.length : Int))), (20, V.sc (.int .i64 (p2.length : Int)))] [Blk.box 47 [V.nl 43], Blk.row 43 (List.map E43 y.2) [], Blk.box 43 [V.sc (.string x2.Id), V.sc (.int .i64 x2.Limit), V.sc (.int .i64 x2.Posted), V.sc (.int .i64 x2.Most), V.sc (.int .i64 x2.MostSum), V.sl false 85 (List.map E85 x2.Holds), V.sc (.int .i64 x2.Ring.Span), V.sc (.int .i64 x2.Ring.Head), V.sl false 3 (List.map E3 x2.Ring.Counts), V.sl false 3 (List.map E3 x2.Ring.Sums), V.sl false 89 (List.map E89 x2.Slots)]] []))) (spec_Gather_l2 l p1 x1 p2 x2 fuel v3 v4)
  | 0, _, _ => Pn.none
  | fuel + 1, v3, v4 => by
    unfold spec_Gather_l2
    exact
     Pn.ite (fun h5 =>
     Pn.ite (fun h6 =>
     Pn.bind (fun x3 h7 =>
     Pn.ite (fun h8 =>
     Pn.some (LpO.out [.draw [], .bit true, .bit true, .bit true, .bit true, .foc 1 ((i64 (v3 - 1)).toNat) (E43 x3), .bit true, .bit true, .fo 0, .bit true, .bit true, .bit true, .bit true, .bit false, .shut 1, .nb 1 (.row 43 (List.map E43 (v4.set ((i64 (v3 - 1)).toNat) x3)) []), .mask [2, 3, 7, 8, 11, 12, 13, 18, 19, 20], .ren [0, 1, 2]] (p := [(decide (0 < v3)) = true,
      (decide (0 < v3)) = true,
      (decide (0 < v3)) = true,
      (decide (0 < v3)) = true,
      (0 : Int) ≤ (i64 (v3 - 1)),
      ((i64 (v3 - 1)) : Int) < ((List.map E43 v4).length : Int),
      look [] ((i64 (v3 - 1)).toNat) = none,
      (List.map E43 v4)[(i64 (v3 - 1)).toNat]? = some (E43 x3),
      (decide (0 < v3)) = true,
      (decide (0 < v3)) = true,
      look [((i64 (v3 - 1)).toNat, V.agg [V.sc (.string x3.Id), V.sc (.int .i64 x3.Limit), V.sc (.int .i64 x3.Posted), V.sc (.int .i64 x3.Most), V.sc (.int .i64 x3.MostSum), V.ow 3, V.sc (.int .i64 x3.Ring.Span), V.sc (.int .i64 x3.Ring.Head), V.ow 4, V.ow 5, V.ow 6])] ((i64 (v3 - 1)).toNat) = some (V.agg [V.sc (.string x3.Id), V.sc (.int .i64 x3.Limit), V.sc (.int .i64 x3.Posted), V.sc (.int .i64 x3.Most), V.sc (.int .i64 x3.MostSum), V.ow 3, V.sc (.int .i64 x3.Ring.Span), V.sc (.int .i64 x3.Ring.Head), V.ow 4, V.ow 5, V.ow 6]),
      ((i64 (v3 - 1)).toNat) < (List.map E43 v4).length,
      (decide (0 < v3)) = true,
      (decide (0 < v3)) = true,
      (decide (0 < v3)) = true,
      (decide (0 < v3)) = true,
      (!(Op.bytesLess x3.Id.toList x2.Id.toList || (x3.Id == x2.Id))) = false,
      Blk.row 43 ((List.map E43 v4).set ((i64 (v3 - 1)).toNat) (V.agg [V.sc (.string x3.Id), V.sc (.int .i64 x3.Limit), V.sc (.int .i64 x3.Posted), V.sc (.int .i64 x3.Most), V.sc (.int .i64 x3.MostSum), V.sl true 85 (List.map E85 x3.Holds), V.sc (.int .i64 x3.Ring.Span), V.sc (.int .i64 x3.Ring.Head), V.sl true 3 (List.map E3 x3.Ring.Counts), V.sl true 3 (List.map E3 x3.Ring.Sums), V.sl true 89 (List.map E89 x3.Slots)])) [] = Blk.row 43 (List.map E43 (v4.set ((i64 (v3 - 1)).toNat) x3)) []]) (by kernel_rfl) (show X.out 4 ≠ X.go from nofun) (cj h5 (cj h5 (cj h5 (cj h5 (cj (od h6) (cj (map_ltN (od h6) h7) (cj rfl (cj (map_get h7) (cj h5 (cj h5 (cj (look_cons_self _ _ _) (cj (map_lt h7) (cj h5 (cj h5 (cj h5 (cj h5 (cj (nf h8) (cj1 (nb_set E43 _ _ x3))))))))))))))))))))) (fun h8 =>
     LpO.go [.draw [], .bit true, .bit true, .bit true, .bit true, .foc 1 ((i64 (v3 - 1)).toNat) (E43 x3), .bit true, .bit true, .fo 0, .bit true, .bit true, .bit true, .bit true, .bit true, .wait 3, .shut 1, .nb 1 (.row 43 (List.map E43 (v4.set ((i64 (v3 - 1)).toNat) x3)) []), .mask [2, 3, 7, 8, 11, 12, 13, 18, 19, 20], .ren [0, 1, 2]] (p := [(decide (0 < v3)) = true,
      (decide (0 < v3)) = true,
      (decide (0 < v3)) = true,
      (decide (0 < v3)) = true,
      (0 : Int) ≤ (i64 (v3 - 1)),
      ((i64 (v3 - 1)) : Int) < ((List.map E43 v4).length : Int),
      look [] ((i64 (v3 - 1)).toNat) = none,
      (List.map E43 v4)[(i64 (v3 - 1)).toNat]? = some (E43 x3),
      (decide (0 < v3)) = true,
      (decide (0 < v3)) = true,
      look [((i64 (v3 - 1)).toNat, V.agg [V.sc (.string x3.Id), V.sc (.int .i64 x3.Limit), V.sc (.int .i64 x3.Posted), V.sc (.int .i64 x3.Most), V.sc (.int .i64 x3.MostSum), V.ow 3, V.sc (.int .i64 x3.Ring.Span), V.sc (.int .i64 x3.Ring.Head), V.ow 4, V.ow 5, V.ow 6])] ((i64 (v3 - 1)).toNat) = some (V.agg [V.sc (.string x3.Id), V.sc (.int .i64 x3.Limit), V.sc (.int .i64 x3.Posted), V.sc (.int .i64 x3.Most), V.sc (.int .i64 x3.MostSum), V.ow 3, V.sc (.int .i64 x3.Ring.Span), V.sc (.int .i64 x3.Ring.Head), V.ow 4, V.ow 5, V.ow 6]),
      ((i64 (v3 - 1)).toNat) < (List.map E43 v4).length,
      (decide (0 < v3)) = true,
      (decide (0 < v3)) = true,
      (decide (0 < v3)) = true,
      (decide (0 < v3)) = true,
      (!(Op.bytesLess x3.Id.toList x2.Id.toList || (x3.Id == x2.Id))) = true,
      Blk.row 43 ((List.map E43 v4).set ((i64 (v3 - 1)).toNat) (V.agg [V.sc (.string x3.Id), V.sc (.int .i64 x3.Limit), V.sc (.int .i64 x3.Posted), V.sc (.int .i64 x3.Most), V.sc (.int .i64 x3.MostSum), V.sl true 85 (List.map E85 x3.Holds), V.sc (.int .i64 x3.Ring.Span), V.sc (.int .i64 x3.Ring.Head), V.sl true 3 (List.map E3 x3.Ring.Counts), V.sl true 3 (List.map E3 x3.Ring.Sums), V.sl true 89 (List.map E89 x3.Slots)])) [] = Blk.row 43 (List.map E43 (v4.set ((i64 (v3 - 1)).toNat) x3)) []]) (by kernel_rfl) (cj h5 (cj h5 (cj h5 (cj h5 (cj (od h6) (cj (map_ltN (od h6) h7) (cj rfl (cj (map_get h7) (cj h5 (cj h5 (cj (look_cons_self _ _ _) (cj (map_lt h7) (cj h5 (cj h5 (cj h5 (cj h5 (cj (nt h8) (cj1 (nb_set E43 _ _ x3))))))))))))))))))) (spec_Gather_l2_ok l p1 x1 p2 x2 fuel (i64 (v3 - 1)) (v4.set ((i64 (v3 - 1)).toNat) x3))))) (fun h6 =>
     Pn.none)) (fun h5 =>
     Pn.some (LpO.out [.draw [], .bit false, .bit false, .bit false, .bit false, .bit false, .bit false, .bit false, .bit false, .bit false, .bit false, .bit false, .mask [2, 3, 7, 8, 11, 12, 13, 18, 19, 20], .ren [0, 1, 2]] (p := [(decide (0 < v3)) = false,
      (decide (0 < v3)) = false,
      (decide (0 < v3)) = false,
      (decide (0 < v3)) = false,
      (decide (0 < v3)) = false,
      (decide (0 < v3)) = false,
      (decide (0 < v3)) = false,
      (decide (0 < v3)) = false,
      (decide (0 < v3)) = false,
      (decide (0 < v3)) = false,
      false = false]) (by kernel_rfl) (show X.out 4 ≠ X.go from nofun) (cj h5 (cj h5 (cj h5 (cj h5 (cj h5 (cj h5 (cj h5 (cj h5 (cj h5 (cj h5 (cj1 rfl)))))))))))))
def spec_Gather_l1 (l : List Stripe) (p1 : List Stripe) (x1 : Stripe) : List Acct → List Acct → (List Acct) → Option ((List Acct))
  | [], p2, v2 =>
   some v2
  | x2 :: t2, p2, v2 =>
   (spec_Gather_l2 l p1 x1 p2 x2 FUEL (v2.length : Int) v2).bind fun r1 =>
   if (decide (0 ≤ r1.1)) = true then
   if (decide (r1.1 ≤ (r1.2.length : Int))) = true then
   if (capOk (0 + (r1.2.take r1.1.toNat).length)) = true then
   (spec_l09Copy x2).bind fun r2 =>
   if (capOk ((r1.2.take r1.1.toNat).length + 1)) = true then
   if (capOk (((r1.2.take r1.1.toNat) ++ [r2]).length + (r1.2.drop r1.1.toNat).length)) = true then
   spec_Gather_l1 l p1 x1 t2 (p2 ++ [x2]) (((r1.2.take r1.1.toNat) ++ [r2]) ++ (r1.2.drop r1.1.toNat))
   else none
   else none
   else none
   else none
   else none
theorem spec_Gather_l1_ok (l : List Stripe) (p1 : List Stripe) (x1 : Stripe) (h4 : capOk x1.Accts.length = true) : ∀ (t2 p2 : List Acct) (_ : x1.Accts = p2 ++ t2) (v2 : List Acct), Pn (LpO Tryz.prog (sub (codeOf Tryz.prog 13) [1, 1, 0, 1, 0, 0, 1, 1, 0, 0, 1, 1, 0, 0]) (st 60 [(2, V.ptr 0 0), (3, V.ow 1), (11, V.sl false 36 (List.map E36 l)), (12, V.sc (.int .i64 (l.length : Int))), (13, V.sc (.int .i64 (p1.length : Int))), (18, V.sl false 43 (List.map E43 x1.Accts)), (19, V.sc (.int .i64 (x1.Accts.length : Int))), (20, V.sc (.int .i64 (p2.length : Int)))] [Blk.box 47 [V.nl 43], Blk.row 43 (List.map E43 v2) []] []) (fun (y : (List Acct)) => (X.out 2, st 60 [(2, V.ptr 0 0), (3, V.ow 1), (11, V.sl false 36 (List.map E36 l)), (12, V.sc (.int .i64 (l.length : Int))), (13, V.sc (.int .i64 (p1.length : Int)))] [Blk.box 47 [V.nl 43], Blk.row 43 (List.map E43 y) []] []))) (spec_Gather_l1 l p1 x1 t2 p2 v2)
  | [], p2, h3, v2 => by
    unfold spec_Gather_l1
    exact
     Pn.some (LpO.out [.bit false, .mask [2, 3, 11, 12, 13], .ren [0, 1]] (p := [(decide ((p2.length : Int) < (x1.Accts.length : Int))) = false]) (by kernel_rfl) (show X.out 2 ≠ X.go from nofun) (cj1 (rng_end h3)))
  | x2 :: t2, p2, h3, v2 => by
    unfold spec_Gather_l1
    exact
     Pn.bind (fun r1 h9 =>
     Pn.ite (fun h10 =>
     Pn.ite (fun h11 =>
     Pn.ite (fun h12 =>
     Pn.bind (fun r2 h13 =>
     Pn.ite (fun h14 =>
     Pn.ite (fun h15 =>
     LpO.go [.bit true, .el (E43 x2), .wait 5, .nm 25 (V.sc (.int .i64 (v2.length : Int))), .wait 2, .mask [2, 3, 7, 8, 11, 12, 13, 18, 19, 20], .ren [0, 1, 2], .loop (X.out 4) (st 60 [(2, V.ptr 0 0), (3, V.ow 1), (7, V.ptr 2 0), (8, V.sc (.int .i64 r1.1)), (11, V.sl false 36 (List.map E36 l)), (12, V.sc (.int .i64 (l.length : Int))), (13, V.sc (.int .i64 (p1.length : Int))), (18, V.sl false 43 (List.map E43 x1.Accts)), (19, V.sc (.int .i64 (x1.Accts.length : Int))), (20, V.sc (.int .i64 (p2.length : Int)))] [Blk.box 47 [V.nl 43], Blk.row 43 (List.map E43 r1.2) [], Blk.box 43 [V.sc (.string x2.Id), V.sc (.int .i64 x2.Limit), V.sc (.int .i64 x2.Posted), V.sc (.int .i64 x2.Most), V.sc (.int .i64 x2.MostSum), V.sl false 85 (List.map E85 x2.Holds), V.sc (.int .i64 x2.Ring.Span), V.sc (.int .i64 x2.Ring.Head), V.sl false 3 (List.map E3 x2.Ring.Counts), V.sl false 3 (List.map E3 x2.Ring.Sums), V.sl false 89 (List.map E89 x2.Slots)]] []), .mv, .nb 1 (.row 43 (gap 11 r1.1.toNat ++ List.map E43 (r1.2.drop r1.1.toNat)) []), .nb 4 (.row 43 (List.map E43 (r1.2.take r1.1.toNat)) []), .call [] (E43 r2) [], .wait 1, .shut 9, .mv, .nb 10 (.row 43 (List.map E43 ((r1.2.take r1.1.toNat) ++ [r2])) []), .wait 5, .nm 54 (V.sb 1 11 r1.1.toNat ((r1.2.drop r1.1.toNat).length)), .mv, .nb 11 (.row 43 (List.map E43 (((r1.2.take r1.1.toNat) ++ [r2]) ++ (r1.2.drop r1.1.toNat))) []), .wait 4, .mask [2, 3, 11, 12, 13, 18, 19, 20], .ren [0, 11], .nm 20 (V.sc (.int .i64 ((p2 ++ [x2]).length : Int)))] (p := [(decide ((p2.length : Int) < (x1.Accts.length : Int))) = true,
      (0 : Int) ≤ (p2.length : Int),
      (List.map E43 x1.Accts)[(p2.length : Int).toNat]? = some (E43 x2),
      V.sc (.int .i64 ((List.map E43 v2).length : Int)) = V.sc (.int .i64 (v2.length : Int)),
      Loop Tryz.prog (sub (codeOf Tryz.prog 13) [1, 1, 0, 1, 0, 0, 1, 1, 0, 0, 1, 1, 0, 0, 1, 1, 0, 0, 1, 1, 0, 0, 0]) (st 60 [(2, V.ptr 0 0), (3, V.ow 1), (7, V.ptr 2 0), (8, V.sc (.int .i64 (v2.length : Int))), (11, V.sl false 36 (List.map E36 l)), (12, V.sc (.int .i64 (l.length : Int))), (13, V.sc (.int .i64 (p1.length : Int))), (18, V.sl false 43 (List.map E43 x1.Accts)), (19, V.sc (.int .i64 (x1.Accts.length : Int))), (20, V.sc (.int .i64 (p2.length : Int)))] [Blk.box 47 [V.nl 43], Blk.row 43 (List.map E43 v2) [], Blk.box 43 [V.sc (.string x2.Id), V.sc (.int .i64 x2.Limit), V.sc (.int .i64 x2.Posted), V.sc (.int .i64 x2.Most), V.sc (.int .i64 x2.MostSum), V.sl false 85 (List.map E85 x2.Holds), V.sc (.int .i64 x2.Ring.Span), V.sc (.int .i64 x2.Ring.Head), V.sl false 3 (List.map E3 x2.Ring.Counts), V.sl false 3 (List.map E3 x2.Ring.Sums), V.sl false 89 (List.map E89 x2.Slots)]] []) (X.out 4) (st 60 [(2, V.ptr 0 0), (3, V.ow 1), (7, V.ptr 2 0), (8, V.sc (.int .i64 r1.1)), (11, V.sl false 36 (List.map E36 l)), (12, V.sc (.int .i64 (l.length : Int))), (13, V.sc (.int .i64 (p1.length : Int))), (18, V.sl false 43 (List.map E43 x1.Accts)), (19, V.sc (.int .i64 (x1.Accts.length : Int))), (20, V.sc (.int .i64 (p2.length : Int)))] [Blk.box 47 [V.nl 43], Blk.row 43 (List.map E43 r1.2) [], Blk.box 43 [V.sc (.string x2.Id), V.sc (.int .i64 x2.Limit), V.sc (.int .i64 x2.Posted), V.sc (.int .i64 x2.Most), V.sc (.int .i64 x2.MostSum), V.sl false 85 (List.map E85 x2.Holds), V.sc (.int .i64 x2.Ring.Span), V.sc (.int .i64 x2.Ring.Head), V.sl false 3 (List.map E3 x2.Ring.Counts), V.sl false 3 (List.map E3 x2.Ring.Sums), V.sl false 89 (List.map E89 x2.Slots)]] []),
      (0 : Int) ≤ 0,
      (0 : Int) ≤ r1.1,
      (r1.1 : Int) ≤ ((List.map E43 r1.2).length : Int),
      ([] : List V).length + (((List.map E43 r1.2).drop 0).take r1.1.toNat).length ≤ 9223372036854775807,
      (([] : List V).length + (((List.map E43 r1.2).drop 0).take r1.1.toNat).length) * 160 ≤ 140737488355328,
      Blk.row 43 ((List.map E43 r1.2).take 0 ++ (gap 11 r1.1.toNat ++ (List.map E43 r1.2).drop (0 + r1.1.toNat))) [] = Blk.row 43 (gap 11 r1.1.toNat ++ List.map E43 (r1.2.drop r1.1.toNat)) [],
      Blk.row 43 (([] : List V) ++ (((List.map E43 r1.2).drop 0).take r1.1.toNat)) [] = Blk.row 43 (List.map E43 (r1.2.take r1.1.toNat)) [],
      Fn Tryz.prog 23 [(false, E43 x2)] (E43 r2) [],
      (true || ((E43 r2).nv && nvL [])) = true,
      (List.map E43 (r1.2.take r1.1.toNat)).length + [V.agg [V.sc (.string r2.Id), V.sc (.int .i64 r2.Limit), V.sc (.int .i64 r2.Posted), V.sc (.int .i64 r2.Most), V.sc (.int .i64 r2.MostSum), V.sl true 85 (List.map E85 r2.Holds), V.sc (.int .i64 r2.Ring.Span), V.sc (.int .i64 r2.Ring.Head), V.sl true 3 (List.map E3 r2.Ring.Counts), V.sl true 3 (List.map E3 r2.Ring.Sums), V.sl true 89 (List.map E89 r2.Slots)]].length ≤ 9223372036854775807,
      ((List.map E43 (r1.2.take r1.1.toNat)).length + [V.agg [V.sc (.string r2.Id), V.sc (.int .i64 r2.Limit), V.sc (.int .i64 r2.Posted), V.sc (.int .i64 r2.Most), V.sc (.int .i64 r2.MostSum), V.sl true 85 (List.map E85 r2.Holds), V.sc (.int .i64 r2.Ring.Span), V.sc (.int .i64 r2.Ring.Head), V.sl true 3 (List.map E3 r2.Ring.Counts), V.sl true 3 (List.map E3 r2.Ring.Sums), V.sl true 89 (List.map E89 r2.Slots)]].length) * 160 ≤ 140737488355328,
      Blk.row 43 ((List.map E43 (r1.2.take r1.1.toNat)) ++ [V.agg [V.sc (.string r2.Id), V.sc (.int .i64 r2.Limit), V.sc (.int .i64 r2.Posted), V.sc (.int .i64 r2.Most), V.sc (.int .i64 r2.MostSum), V.sl true 85 (List.map E85 r2.Holds), V.sc (.int .i64 r2.Ring.Span), V.sc (.int .i64 r2.Ring.Head), V.sl true 3 (List.map E3 r2.Ring.Counts), V.sl true 3 (List.map E3 r2.Ring.Sums), V.sl true 89 (List.map E89 r2.Slots)]]) [] = Blk.row 43 (List.map E43 ((r1.2.take r1.1.toNat) ++ [r2])) [],
      (0 : Int) ≤ r1.1,
      (r1.1 : Int) ≤ ((gap 11 r1.1.toNat ++ List.map E43 (r1.2.drop r1.1.toNat)).length : Int),
      (((gap 11 r1.1.toNat ++ List.map E43 (r1.2.drop r1.1.toNat)).length : Int) : Int) ≤ ((gap 11 r1.1.toNat ++ List.map E43 (r1.2.drop r1.1.toNat)).length : Int),
      V.sb 1 11 r1.1.toNat ((((gap 11 r1.1.toNat ++ List.map E43 (r1.2.drop r1.1.toNat)).length : Int).toNat) - (r1.1.toNat)) = V.sb 1 11 r1.1.toNat ((r1.2.drop r1.1.toNat).length),
      (List.map E43 ((r1.2.take r1.1.toNat) ++ [r2])).length + (((gap 11 r1.1.toNat ++ List.map E43 (r1.2.drop r1.1.toNat)).drop r1.1.toNat).take ((r1.2.drop r1.1.toNat).length)).length ≤ 9223372036854775807,
      ((List.map E43 ((r1.2.take r1.1.toNat) ++ [r2])).length + (((gap 11 r1.1.toNat ++ List.map E43 (r1.2.drop r1.1.toNat)).drop r1.1.toNat).take ((r1.2.drop r1.1.toNat).length)).length) * 160 ≤ 140737488355328,
      Blk.row 43 ((List.map E43 ((r1.2.take r1.1.toNat) ++ [r2])) ++ (((gap 11 r1.1.toNat ++ List.map E43 (r1.2.drop r1.1.toNat)).drop r1.1.toNat).take ((r1.2.drop r1.1.toNat).length))) [] = Blk.row 43 (List.map E43 (((r1.2.take r1.1.toNat) ++ [r2]) ++ (r1.2.drop r1.1.toNat))) [],
      V.sc (.int .i64 (i64 ((p2.length : Int) + 1))) = V.sc (.int .i64 ((p2 ++ [x2]).length : Int))]) (by kernel_rfl) (cj (rng_lt h3) (cj (by omega) (cj (rng_get _ h3) (cj (len_nm _ _) (cj (spec_Gather_l2_ok l p1 x1 p2 x2 FUEL (v2.length : Int) v2 r1 h9) (cj (by decide) (cj (od h10) (cj (by rw [List.length_map]; exact (od h11)) (cj (cap1 (capN (by simp [gap]) h12)) (cj (cap2 (capN (by simp [gap]) h12) (by decide)) (cj (gap_nb _ _ _) (cj (by simp) (cj (spec_l09Copy_ok x2 r2 h13) (cj rfl (cj (cap1 (capN (by simp) h14)) (cj (cap2 (capN (by simp) h14) (by decide)) (cj (nb_app E43 (r1.2.take r1.1.toNat) [r2]) (cj (od h10) (cj (by simp [gap]; omega) (cj (Int.le_refl _) (cj (by simp [gap]; try omega) (cj (cap1 (capN (by simp [gap]) h15)) (cj (cap2 (capN (by simp [gap]) h15) (by decide)) (cj (gap_app _ _ _ _ _ (by simp)) (cj1 (rng_next h3 h4)))))))))))))))))))))))))) (spec_Gather_l1_ok l p1 x1 h4 t2 (p2 ++ [x2]) (rng_step h3) (((r1.2.take r1.1.toNat) ++ [r2]) ++ (r1.2.drop r1.1.toNat)))) (fun h15 =>
     Pn.none)) (fun h14 =>
     Pn.none))) (fun h12 =>
     Pn.none)) (fun h11 =>
     Pn.none)) (fun h10 =>
     Pn.none))
def spec_Gather_l0 (l : List Stripe) : List Stripe → List Stripe → (List Acct) → Option ((List Acct))
  | [], p1, v1 =>
   some v1
  | x1 :: t1, p1, v1 =>
   if (capOk x1.Accts.length) = true then
   (spec_Gather_l1 l p1 x1 x1.Accts [] v1).bind fun r3 =>
   spec_Gather_l0 l t1 (p1 ++ [x1]) r3
   else none
theorem spec_Gather_l0_ok (l : List Stripe) (h2 : capOk l.length = true) : ∀ (t1 p1 : List Stripe) (_ : l = p1 ++ t1) (v1 : List Acct), Pn (LpO Tryz.prog (sub (codeOf Tryz.prog 13) [1, 1, 0, 1, 0, 0]) (st 60 [(2, V.ptr 0 0), (3, V.ow 1), (11, V.sl false 36 (List.map E36 l)), (12, V.sc (.int .i64 (l.length : Int))), (13, V.sc (.int .i64 (p1.length : Int)))] [Blk.box 47 [V.nl 43], Blk.row 43 (List.map E43 v1) []] []) (fun (y : (List Acct)) => (X.out 0, st 60 [(2, V.ptr 0 0), (3, V.ow 1)] [Blk.box 47 [V.nl 43], Blk.row 43 (List.map E43 y) []] []))) (spec_Gather_l0 l t1 p1 v1)
  | [], p1, h1, v1 => by
    unfold spec_Gather_l0
    exact
     Pn.some (LpO.out [.bit false, .mask [2, 3], .ren [0, 1]] (p := [(decide ((p1.length : Int) < (l.length : Int))) = false]) (by kernel_rfl) (show X.out 0 ≠ X.go from nofun) (cj1 (rng_end h1)))
  | x1 :: t1, p1, h1, v1 => by
    unfold spec_Gather_l0
    exact
     Pn.ite (fun h16 =>
     Pn.bind (fun r3 h17 =>
     LpO.go [.bit true, .el (E36 x1), .wait 6, .nm 19 (V.sc (.int .i64 (x1.Accts.length : Int))), .wait 2, .mask [2, 3, 11, 12, 13, 18, 19, 20], .ren [0, 1], .loop (X.out 2) (st 60 [(2, V.ptr 0 0), (3, V.ow 1), (11, V.sl false 36 (List.map E36 l)), (12, V.sc (.int .i64 (l.length : Int))), (13, V.sc (.int .i64 (p1.length : Int)))] [Blk.box 47 [V.nl 43], Blk.row 43 (List.map E43 r3) []] []), .wait 3, .mask [2, 3, 11, 12, 13], .ren [0, 1], .nm 13 (V.sc (.int .i64 ((p1 ++ [x1]).length : Int)))] (p := [(decide ((p1.length : Int) < (l.length : Int))) = true,
      (0 : Int) ≤ (p1.length : Int),
      (List.map E36 l)[(p1.length : Int).toNat]? = some (E36 x1),
      V.sc (.int .i64 ((List.map E43 x1.Accts).length : Int)) = V.sc (.int .i64 (x1.Accts.length : Int)),
      Loop Tryz.prog (sub (codeOf Tryz.prog 13) [1, 1, 0, 1, 0, 0, 1, 1, 0, 0, 1, 1, 0, 0]) (st 60 [(2, V.ptr 0 0), (3, V.ow 1), (11, V.sl false 36 (List.map E36 l)), (12, V.sc (.int .i64 (l.length : Int))), (13, V.sc (.int .i64 (p1.length : Int))), (18, V.sl false 43 (List.map E43 x1.Accts)), (19, V.sc (.int .i64 (x1.Accts.length : Int))), (20, V.sc (.int .i64 0))] [Blk.box 47 [V.nl 43], Blk.row 43 (List.map E43 v1) []] []) (X.out 2) (st 60 [(2, V.ptr 0 0), (3, V.ow 1), (11, V.sl false 36 (List.map E36 l)), (12, V.sc (.int .i64 (l.length : Int))), (13, V.sc (.int .i64 (p1.length : Int)))] [Blk.box 47 [V.nl 43], Blk.row 43 (List.map E43 r3) []] []),
      V.sc (.int .i64 (i64 ((p1.length : Int) + 1))) = V.sc (.int .i64 ((p1 ++ [x1]).length : Int))]) (by kernel_rfl) (cj (rng_lt h1) (cj (by omega) (cj (rng_get _ h1) (cj (len_nm _ _) (cj (spec_Gather_l1_ok l p1 x1 h16 x1.Accts [] rfl v1 r3 h17) (cj1 (rng_next h1 h2))))))) (spec_Gather_l0_ok l h2 t1 (p1 ++ [x1]) (rng_step h1) r3))) (fun h16 =>
     Pn.none)
def spec_Gather (l : List Stripe) : Option (Book) :=
 if (capOk l.length) = true then
 (spec_Gather_l0 l l [] []).bind fun r4 =>
 some (Book.mk r4)
 else none
theorem spec_Gather_ok (l : List Stripe) : Pn (fun y => Fn Tryz.prog 13 [(false, E25 l)] (E47 y) []) (spec_Gather l) := by
  unfold spec_Gather
  exact
   Pn.ite (fun h18 =>
   Pn.bind (fun r4 h19 =>
   Pn.some (Fn.of [.wait 5, .nm 12 (V.sc (.int .i64 (l.length : Int))), .wait 2, .mask [2, 3, 11, 12, 13], .ren [0, 1], .loop (X.out 0) (st 60 [(2, V.ptr 0 0), (3, V.ow 1)] [Blk.box 47 [V.nl 43], Blk.row 43 (List.map E43 r4) []] [])] (p := [V.sc (.int .i64 ((List.map E36 l).length : Int)) = V.sc (.int .i64 (l.length : Int)),
    Loop Tryz.prog (sub (codeOf Tryz.prog 13) [1, 1, 0, 1, 0, 0]) (st 60 [(2, V.ptr 0 0), (3, V.ow 1), (11, V.sl false 36 (List.map E36 l)), (12, V.sc (.int .i64 (l.length : Int))), (13, V.sc (.int .i64 0))] [Blk.box 47 [V.nl 43], Blk.row 43 ([] : List V) []] []) (X.out 0) (st 60 [(2, V.ptr 0 0), (3, V.ow 1)] [Blk.box 47 [V.nl 43], Blk.row 43 (List.map E43 r4) []] [])]) (by kernel_rfl) (cj (len_nm _ _) (cj1 (spec_Gather_l0_ok l h18 l [] rfl [] r4 h19)))))) (fun h18 =>
   Pn.none)
def spec_Digits_l0 (s_ : ByteArray) : Nat → Int → Option (Lo Unit Unit)
  | 0, _ => none
  | fuel + 1, v1 =>
   if (decide (v1 < (s_.size : Int))) = true then
   if (decide (0 ≤ v1)) = true then
   if (decide ((v1 : Int) < (s_.size : Int))) = true then
   if (decide ((sAt s_ v1) < 48)) = true then
   some (.ret ())
   else
   if (decide (57 < (sAt s_ v1))) = true then
   some (.ret ())
   else
   spec_Digits_l0 s_ fuel (i64 (v1 + 1))
   else none
   else none
   else
   some (.out ())
theorem spec_Digits_l0_ok (s_ : ByteArray) : ∀ (fuel : Nat) (v1 : Int), Pn (LpO Tryz.prog (sub (codeOf Tryz.prog 82) [1, 0, 1, 0, 0]) (st 23 [(0, V.sc (.string s_)), (3, V.sc (.int .i64 v1))] [] []) (fun (y : Lo Unit Unit) => Lo.elim y (fun s => (X.out 0, st 23 [(0, V.sc (.string s_))] [] [])) (fun s => (X.ret, st 23 [(2, V.sc (.bool false))] [] [])))) (spec_Digits_l0 s_ fuel v1)
  | 0, _ => Pn.none
  | fuel + 1, v1 => by
    unfold spec_Digits_l0
    exact
     Pn.ite (fun h1 =>
     Pn.ite (fun h2 =>
     Pn.ite (fun h3 =>
     Pn.ite (fun h4 =>
     Pn.some (LpO.out [.bit true, .bit true, .bit true, .bit true, .bit true, .bit true, .bit true, .wait 1, .mask [2], .ren []] (p := [(decide (v1 < (s_.size : Int))) = true,
      (0 : Int) ≤ v1,
      (v1 : Int) < s_.size,
      (decide ((sAt s_ v1) < 48)) = true,
      (decide ((sAt s_ v1) < 48)) = true,
      (decide ((sAt s_ v1) < 48)) = true,
      (decide ((sAt s_ v1) < 48)) = true,
      (decide ((sAt s_ v1) < 48)) = true,
      true = true]) (by kernel_rfl) (show X.ret ≠ X.go from nofun) (cj h1 (cj (od h2) (cj (od h3) (cj h4 (cj h4 (cj h4 (cj h4 (cj h4 (cj1 rfl))))))))))) (fun h4 =>
     Pn.ite (fun h5 =>
     Pn.some (LpO.out [.bit true, .bit false, .bit false, .bit false, .bit false, .bit false, .bit true, .wait 1, .mask [2], .ren []] (p := [(decide (v1 < (s_.size : Int))) = true,
      (0 : Int) ≤ v1,
      (v1 : Int) < s_.size,
      (decide ((sAt s_ v1) < 48)) = false,
      (decide ((sAt s_ v1) < 48)) = false,
      (decide ((sAt s_ v1) < 48)) = false,
      (0 : Int) ≤ v1,
      (v1 : Int) < s_.size,
      (decide ((sAt s_ v1) < 48)) = false,
      (decide ((sAt s_ v1) < 48)) = false,
      (decide (57 < (sAt s_ v1))) = true]) (by kernel_rfl) (show X.ret ≠ X.go from nofun) (cj h1 (cj (od h2) (cj (od h3) (cj h4 (cj h4 (cj h4 (cj (od h2) (cj (od h3) (cj h4 (cj h4 (cj1 h5))))))))))))) (fun h5 =>
     LpO.go [.bit true, .bit false, .bit false, .bit false, .bit false, .bit false, .bit false, .wait 3, .mask [0, 3], .ren []] (p := [(decide (v1 < (s_.size : Int))) = true,
      (0 : Int) ≤ v1,
      (v1 : Int) < s_.size,
      (decide ((sAt s_ v1) < 48)) = false,
      (decide ((sAt s_ v1) < 48)) = false,
      (decide ((sAt s_ v1) < 48)) = false,
      (0 : Int) ≤ v1,
      (v1 : Int) < s_.size,
      (decide ((sAt s_ v1) < 48)) = false,
      (decide ((sAt s_ v1) < 48)) = false,
      (decide (57 < (sAt s_ v1))) = false]) (by kernel_rfl) (cj h1 (cj (od h2) (cj (od h3) (cj h4 (cj h4 (cj h4 (cj (od h2) (cj (od h3) (cj h4 (cj h4 (cj1 h5))))))))))) (spec_Digits_l0_ok s_ fuel (i64 (v1 + 1)))))) (fun h3 =>
     Pn.none)) (fun h2 =>
     Pn.none)) (fun h1 =>
     Pn.some (LpO.out [.bit false, .mask [0], .ren []] (p := [(decide (v1 < (s_.size : Int))) = false]) (by kernel_rfl) (show X.out 0 ≠ X.go from nofun) (cj1 h1)))
def spec_Digits (s_ : ByteArray) : Option (Bool) :=
 (spec_Digits_l0 s_ FUEL 0).bind fun r1 =>
 Lo.elim r1 (fun s1 =>
 some (decide (0 < (s_.size : Int)))) (fun s2 =>
 some false)
theorem spec_Digits_ok (s_ : ByteArray) : Pn (fun y => Fn Tryz.prog 82 [(false, E9 s_)] (E4 y) []) (spec_Digits s_) := by
  unfold spec_Digits
  exact
   Pn.bind (fun r1 h6 =>
   Pn.lo (fun s1 h7 =>
   Pn.some (Fn.of [.wait 3, .mask [0, 3], .ren [], .loop (X.out 0) (st 23 [(0, V.sc (.string s_))] [] [])] (p := [Loop Tryz.prog (sub (codeOf Tryz.prog 82) [1, 0, 1, 0, 0]) (st 23 [(0, V.sc (.string s_)), (3, V.sc (.int .i64 0))] [] []) (X.out 0) (st 23 [(0, V.sc (.string s_))] [] [])]) (by kernel_rfl) (cj1 ((spec_Digits_l0_ok s_ FUEL 0 r1 h6).at h7)))) (fun s2 h8 =>
   Pn.some (Fn.of [.wait 3, .mask [0, 3], .ren [], .loop (X.ret) (st 23 [(2, V.sc (.bool false))] [] [])] (p := [Loop Tryz.prog (sub (codeOf Tryz.prog 82) [1, 0, 1, 0, 0]) (st 23 [(0, V.sc (.string s_)), (3, V.sc (.int .i64 0))] [] []) (X.ret) (st 23 [(2, V.sc (.bool false))] [] [])]) (by kernel_rfl) (cj1 ((spec_Digits_l0_ok s_ FUEL 0 r1 h6).at h8)))))
def spec_Luhn_l0 (s_ : ByteArray) : Nat → Int → Bool → Int → Option (Int)
  | 0, _, _, _ => none
  | fuel + 1, v1, v2, v3 =>
   if (decide (0 ≤ v3)) = true then
   if (decide ((v3 : Int) < (s_.size : Int))) = true then
   if v2 = true then
   if (decide (9 < (i64 (2 * (i64 ((i64 (sAt s_ v3)) - 48)))))) = true then
   spec_Luhn_l0 s_ fuel (Int.tmod (i64 (v1 + (i64 ((i64 (2 * (i64 ((i64 (sAt s_ v3)) - 48)))) - 9)))) 10) (!v2) (i64 (v3 - 1))
   else
   spec_Luhn_l0 s_ fuel (Int.tmod (i64 (v1 + (i64 (2 * (i64 ((i64 (sAt s_ v3)) - 48)))))) 10) (!v2) (i64 (v3 - 1))
   else
   spec_Luhn_l0 s_ fuel (Int.tmod (i64 (v1 + (i64 ((i64 (sAt s_ v3)) - 48)))) 10) (!v2) (i64 (v3 - 1))
   else none
   else
   some v1
theorem spec_Luhn_l0_ok (s_ : ByteArray) : ∀ (fuel : Nat) (v1 : Int) (v2 : Bool) (v3 : Int), Pn (LpO Tryz.prog (sub (codeOf Tryz.prog 83) [1, 1, 1, 1, 0, 1, 0, 0]) (st 38 [(0, V.sc (.string s_)), (3, V.sc (.int .i64 v1)), (4, V.sc (.bool v2)), (5, V.sc (.int .i64 v3))] [] []) (fun (y : Int) => (X.out 0, st 38 [(3, V.sc (.int .i64 y))] [] []))) (spec_Luhn_l0 s_ fuel v1 v2 v3)
  | 0, _, _, _ => Pn.none
  | fuel + 1, v1, v2, v3 => by
    unfold spec_Luhn_l0
    exact
     Pn.ite (fun h3 =>
     Pn.ite (fun h4 =>
     Pn.ite (fun h5 =>
     Pn.ite (fun h6 =>
     LpO.go [.bit true, .bit true, .bit true, .wait 14, .mask [0, 3, 4, 5], .ren []] (p := [(decide (0 ≤ v3)) = true,
      (0 : Int) ≤ v3,
      (v3 : Int) < s_.size,
      v2 = true,
      (decide (9 < (i64 (2 * (i64 ((i64 (sAt s_ v3)) - 48)))))) = true,
      (10 : Int) ≠ 0]) (by kernel_rfl) (cj h3 (cj (od h3) (cj (od h4) (cj h5 (cj h6 (cj1 (by decide))))))) (spec_Luhn_l0_ok s_ fuel (Int.tmod (i64 (v1 + (i64 ((i64 (2 * (i64 ((i64 (sAt s_ v3)) - 48)))) - 9)))) 10) (!v2) (i64 (v3 - 1)))) (fun h6 =>
     LpO.go [.bit true, .bit true, .bit false, .wait 11, .mask [0, 3, 4, 5], .ren []] (p := [(decide (0 ≤ v3)) = true,
      (0 : Int) ≤ v3,
      (v3 : Int) < s_.size,
      v2 = true,
      (decide (9 < (i64 (2 * (i64 ((i64 (sAt s_ v3)) - 48)))))) = false,
      (10 : Int) ≠ 0]) (by kernel_rfl) (cj h3 (cj (od h3) (cj (od h4) (cj h5 (cj h6 (cj1 (by decide))))))) (spec_Luhn_l0_ok s_ fuel (Int.tmod (i64 (v1 + (i64 (2 * (i64 ((i64 (sAt s_ v3)) - 48)))))) 10) (!v2) (i64 (v3 - 1))))) (fun h5 =>
     LpO.go [.bit true, .bit false, .wait 11, .mask [0, 3, 4, 5], .ren []] (p := [(decide (0 ≤ v3)) = true,
      (0 : Int) ≤ v3,
      (v3 : Int) < s_.size,
      v2 = false,
      (10 : Int) ≠ 0]) (by kernel_rfl) (cj h3 (cj (od h3) (cj (od h4) (cj h5 (cj1 (by decide)))))) (spec_Luhn_l0_ok s_ fuel (Int.tmod (i64 (v1 + (i64 ((i64 (sAt s_ v3)) - 48)))) 10) (!v2) (i64 (v3 - 1))))) (fun h4 =>
     Pn.none)) (fun h3 =>
     Pn.some (LpO.out [.bit false, .mask [3], .ren []] (p := [(decide (0 ≤ v3)) = false]) (by kernel_rfl) (show X.out 0 ≠ X.go from nofun) (cj1 h3)))
def spec_Luhn (s_ : ByteArray) : Option (Int) :=
 (spec_Digits s_).bind fun r1 =>
 if r1 = true then
 (spec_Luhn_l0 s_ FUEL 0 true (i64 ((s_.size : Int) - 1))).bind fun r2 =>
 some (Int.tmod (i64 (10 - r2)) 10)
 else
 some (-1)
theorem spec_Luhn_ok (s_ : ByteArray) : Pn (fun y => Fn Tryz.prog 83 [(false, E9 s_)] (E3 y) []) (spec_Luhn s_) := by
  unfold spec_Luhn
  exact
   Pn.bind (fun r1 h1 =>
   Pn.ite (fun h2 =>
   Pn.bind (fun r2 h7 =>
   Pn.some (Fn.of [.call [] (E4 r1) [], .bit false, .wait 6, .mask [0, 3, 4, 5], .ren [], .loop (X.out 0) (st 38 [(3, V.sc (.int .i64 r2))] [] [])] (p := [Fn Tryz.prog 82 [(false, E9 s_)] (E4 r1) [],
    (true || ((E4 r1).nv && nvL [])) = true,
    (!r1) = false,
    Loop Tryz.prog (sub (codeOf Tryz.prog 83) [1, 1, 1, 1, 0, 1, 0, 0]) (st 38 [(0, V.sc (.string s_)), (3, V.sc (.int .i64 0)), (4, V.sc (.bool true)), (5, V.sc (.int .i64 (i64 ((s_.size : Int) - 1))))] [] []) (X.out 0) (st 38 [(3, V.sc (.int .i64 r2))] [] []),
    (10 : Int) ≠ 0]) (by kernel_rfl) (cj (spec_Digits_ok s_ r1 h1) (cj rfl (cj (nf h2) (cj (spec_Luhn_l0_ok s_ FUEL 0 true (i64 ((s_.size : Int) - 1)) r2 h7) (cj1 (by decide))))))))) (fun h2 =>
   Pn.some (Fn.of [.call [] (E4 r1) [], .bit true] (p := [Fn Tryz.prog 82 [(false, E9 s_)] (E4 r1) [],
    (true || ((E4 r1).nv && nvL [])) = true,
    (!r1) = true]) (by kernel_rfl) (cj (spec_Digits_ok s_ r1 h1) (cj rfl (cj1 (nt h2)))))))
def spec_LuhnOk (s_ : ByteArray) : Option (Bool) :=
 (spec_Digits s_).bind fun r1 =>
 if r1 = true then
 if (decide ((s_.size : Int) < 2)) = true then
 some false
 else
 if (decide (0 ≤ (i64 ((s_.size : Int) - 1)))) = true then
 if (decide ((i64 ((s_.size : Int) - 1)) ≤ (s_.size : Int))) = true then
 if (decide (0 ≤ i64 ((s_.size : Int) - 1))) = true then
 if (decide ((i64 ((s_.size : Int) - 1) : Int) < (s_.size : Int))) = true then
 (spec_Luhn (s_.extract 0 (i64 ((s_.size : Int) - 1)).toNat)).bind fun r2 =>
 some (r2 == (i64 ((i64 (sAt s_ (i64 ((s_.size : Int) - 1)))) - 48)))
 else none
 else none
 else none
 else none
 else
 some false
theorem spec_LuhnOk_ok (s_ : ByteArray) : Pn (fun y => Fn Tryz.prog 56 [(false, E9 s_)] (E4 y) []) (spec_LuhnOk s_) := by
  unfold spec_LuhnOk
  exact
   Pn.bind (fun r1 h1 =>
   Pn.ite (fun h2 =>
   Pn.ite (fun h3 =>
   Pn.some (Fn.of [.call [] (E4 r1) [], .bit false, .bit false, .bit false, .bit false, .bit true] (p := [Fn Tryz.prog 82 [(false, E9 s_)] (E4 r1) [],
    (true || ((E4 r1).nv && nvL [])) = true,
    (!r1) = false,
    (!r1) = false,
    (!r1) = false,
    (!r1) = false,
    (decide ((s_.size : Int) < 2)) = true]) (by kernel_rfl) (cj (spec_Digits_ok s_ r1 h1) (cj rfl (cj (nf h2) (cj (nf h2) (cj (nf h2) (cj (nf h2) (cj1 h3))))))))) (fun h3 =>
   Pn.ite (fun h4 =>
   Pn.ite (fun h5 =>
   Pn.ite (fun h6 =>
   Pn.ite (fun h7 =>
   Pn.bind (fun r2 h8 =>
   Pn.some (Fn.of [.call [] (E4 r1) [], .bit false, .bit false, .bit false, .bit false, .bit false, .draw [], .call [] (E3 r2) []] (p := [Fn Tryz.prog 82 [(false, E9 s_)] (E4 r1) [],
    (true || ((E4 r1).nv && nvL [])) = true,
    (!r1) = false,
    (!r1) = false,
    (!r1) = false,
    (!r1) = false,
    (decide ((s_.size : Int) < 2)) = false,
    (0 : Int) ≤ 0,
    (0 : Int) ≤ (i64 ((s_.size : Int) - 1)),
    ((i64 ((s_.size : Int) - 1)) : Int) ≤ (s_.size : Int),
    (0 : Int) ≤ i64 ((s_.size : Int) - 1),
    (i64 ((s_.size : Int) - 1) : Int) < s_.size,
    Fn Tryz.prog 83 [(false, E9 (s_.extract 0 (i64 ((s_.size : Int) - 1)).toNat))] (E3 r2) [],
    (true || ((E3 r2).nv && nvL [])) = true]) (by kernel_rfl) (cj (spec_Digits_ok s_ r1 h1) (cj rfl (cj (nf h2) (cj (nf h2) (cj (nf h2) (cj (nf h2) (cj h3 (cj (by decide) (cj (od h4) (cj (od h5) (cj (od h6) (cj (od h7) (cj (spec_Luhn_ok (s_.extract 0 (i64 ((s_.size : Int) - 1)).toNat) r2 h8) (cj1 rfl))))))))))))))))) (fun h7 =>
   Pn.none)) (fun h6 =>
   Pn.none)) (fun h5 =>
   Pn.none)) (fun h4 =>
   Pn.none))) (fun h2 =>
   Pn.some (Fn.of [.call [] (E4 r1) [], .bit true, .bit true, .bit true, .bit true, .bit true] (p := [Fn Tryz.prog 82 [(false, E9 s_)] (E4 r1) [],
    (true || ((E4 r1).nv && nvL [])) = true,
    (!r1) = true,
    (!r1) = true,
    (!r1) = true,
    (!r1) = true,
    true = true]) (by kernel_rfl) (cj (spec_Digits_ok s_ r1 h1) (cj rfl (cj (nt h2) (cj (nt h2) (cj (nt h2) (cj (nt h2) (cj1 rfl))))))))))
def spec_AcctIdOk (s_ : ByteArray) : Option (Bool) :=
 if (decide ((s_.size : Int) ≤ 19)) = true then
 (spec_LuhnOk s_).bind fun r1 =>
 some r1
 else
 some false
theorem spec_AcctIdOk_ok (s_ : ByteArray) : Pn (fun y => Fn Tryz.prog 32 [(false, E9 s_)] (E4 y) []) (spec_AcctIdOk s_) := by
  unfold spec_AcctIdOk
  exact
   Pn.ite (fun h1 =>
   Pn.bind (fun r1 h2 =>
   Pn.some (Fn.of [.bit true, .bit true, .call [] (E4 r1) [], .bit true] (p := [(decide ((s_.size : Int) ≤ 19)) = true,
    (decide ((s_.size : Int) ≤ 19)) = true,
    Fn Tryz.prog 56 [(false, E9 s_)] (E4 r1) [],
    (true || ((E4 r1).nv && nvL [])) = true,
    (decide ((s_.size : Int) ≤ 19)) = true]) (by kernel_rfl) (cj h1 (cj h1 (cj (spec_LuhnOk_ok s_ r1 h2) (cj rfl (cj1 h1)))))))) (fun h1 =>
   Pn.some (Fn.of [.bit false, .bit false, .bit false] (p := [(decide ((s_.size : Int) ≤ 19)) = false,
    (decide ((s_.size : Int) ≤ 19)) = false,
    (decide ((s_.size : Int) ≤ 19)) = false]) (by kernel_rfl) (cj h1 (cj h1 (cj1 h1)))))
def spec_l01Money (n : Int) : Option (Bool) :=
 if (decide (0 ≤ n)) = true then
 some (decide (n ≤ 4611686018427387904))
 else
 some false
theorem spec_l01Money_ok (n : Int) : Pn (fun y => Fn Tryz.prog 33 [(false, E3 n)] (E4 y) []) (spec_l01Money n) := by
  unfold spec_l01Money
  exact
   Pn.ite (fun h1 =>
   Pn.some (Fn.of [.bit true, .bit true, .bit true] (p := [(decide (0 ≤ n)) = true,
    (decide (0 ≤ n)) = true,
    (decide (0 ≤ n)) = true]) (by kernel_rfl) (cj h1 (cj h1 (cj1 h1))))) (fun h1 =>
   Pn.some (Fn.of [.bit false, .bit false, .bit false] (p := [(decide (0 ≤ n)) = false,
    (decide (0 ≤ n)) = false,
    (decide (0 ≤ n)) = false]) (by kernel_rfl) (cj h1 (cj h1 (cj1 h1)))))
def spec_HoldIdOk_l0 (s_ : ByteArray) : Nat → Int → Option (Lo Unit Unit)
  | 0, _ => none
  | fuel + 1, v1 =>
   if (decide (v1 < (s_.size : Int))) = true then
   if (decide (0 ≤ v1)) = true then
   if (decide ((v1 : Int) < (s_.size : Int))) = true then
   if (decide ((sAt s_ v1) < 48)) = true then
   if (decide ((sAt s_ v1) < 97)) = true then
   some (.ret ())
   else
   if (decide (122 < (sAt s_ v1))) = true then
   some (.ret ())
   else
   spec_HoldIdOk_l0 s_ fuel (i64 (v1 + 1))
   else
   if (decide (57 < (sAt s_ v1))) = true then
   if (decide ((sAt s_ v1) < 97)) = true then
   some (.ret ())
   else
   if (decide (122 < (sAt s_ v1))) = true then
   some (.ret ())
   else
   spec_HoldIdOk_l0 s_ fuel (i64 (v1 + 1))
   else
   spec_HoldIdOk_l0 s_ fuel (i64 (v1 + 1))
   else none
   else none
   else
   some (.out ())
theorem spec_HoldIdOk_l0_ok (s_ : ByteArray) : ∀ (fuel : Nat) (v1 : Int), Pn (LpO Tryz.prog (sub (codeOf Tryz.prog 84) [1, 0, 1, 0, 0]) (st 35 [(0, V.sc (.string s_)), (3, V.sc (.int .i64 v1))] [] []) (fun (y : Lo Unit Unit) => Lo.elim y (fun s => (X.out 0, st 35 [(0, V.sc (.string s_))] [] [])) (fun s => (X.ret, st 35 [(2, V.sc (.bool false))] [] [])))) (spec_HoldIdOk_l0 s_ fuel v1)
  | 0, _ => Pn.none
  | fuel + 1, v1 => by
    unfold spec_HoldIdOk_l0
    exact
     Pn.ite (fun h1 =>
     Pn.ite (fun h2 =>
     Pn.ite (fun h3 =>
     Pn.ite (fun h4 =>
     Pn.ite (fun h5 =>
     Pn.some (LpO.out [.bit true, .bit true, .bit true, .bit true, .bit true, .bit true, .bit true, .bit true, .bit true, .bit true, .bit true, .bit true, .bit true, .bit true, .bit true, .bit true, .bit true, .bit true, .bit true, .wait 1, .mask [2], .ren []] (p := [(decide (v1 < (s_.size : Int))) = true,
      (0 : Int) ≤ v1,
      (v1 : Int) < s_.size,
      (decide ((sAt s_ v1) < 48)) = true,
      (decide ((sAt s_ v1) < 48)) = true,
      (decide ((sAt s_ v1) < 48)) = true,
      (decide ((sAt s_ v1) < 48)) = true,
      (decide ((sAt s_ v1) < 48)) = true,
      true = true,
      true = true,
      true = true,
      (0 : Int) ≤ v1,
      (v1 : Int) < s_.size,
      true = true,
      true = true,
      (decide ((sAt s_ v1) < 97)) = true,
      (decide ((sAt s_ v1) < 97)) = true,
      (decide ((sAt s_ v1) < 97)) = true,
      (decide ((sAt s_ v1) < 97)) = true,
      true = true,
      (decide ((sAt s_ v1) < 97)) = true,
      true = true,
      true = true]) (by kernel_rfl) (show X.ret ≠ X.go from nofun) (cj h1 (cj (od h2) (cj (od h3) (cj h4 (cj h4 (cj h4 (cj h4 (cj h4 (cj rfl (cj rfl (cj rfl (cj (od h2) (cj (od h3) (cj rfl (cj rfl (cj h5 (cj h5 (cj h5 (cj h5 (cj rfl (cj h5 (cj rfl (cj1 rfl))))))))))))))))))))))))) (fun h5 =>
     Pn.ite (fun h6 =>
     Pn.some (LpO.out [.bit true, .bit true, .bit true, .bit true, .bit true, .bit true, .bit true, .bit true, .bit true, .bit true, .bit true, .bit false, .bit false, .bit false, .bit false, .bit true, .bit false, .bit true, .bit true, .wait 1, .mask [2], .ren []] (p := [(decide (v1 < (s_.size : Int))) = true,
      (0 : Int) ≤ v1,
      (v1 : Int) < s_.size,
      (decide ((sAt s_ v1) < 48)) = true,
      (decide ((sAt s_ v1) < 48)) = true,
      (decide ((sAt s_ v1) < 48)) = true,
      (decide ((sAt s_ v1) < 48)) = true,
      (decide ((sAt s_ v1) < 48)) = true,
      true = true,
      true = true,
      true = true,
      (0 : Int) ≤ v1,
      (v1 : Int) < s_.size,
      true = true,
      true = true,
      (decide ((sAt s_ v1) < 97)) = false,
      (decide ((sAt s_ v1) < 97)) = false,
      (decide ((sAt s_ v1) < 97)) = false,
      (0 : Int) ≤ v1,
      (v1 : Int) < s_.size,
      (decide ((sAt s_ v1) < 97)) = false,
      true = true,
      (decide ((sAt s_ v1) < 97)) = false,
      true = true,
      (decide (122 < (sAt s_ v1))) = true]) (by kernel_rfl) (show X.ret ≠ X.go from nofun) (cj h1 (cj (od h2) (cj (od h3) (cj h4 (cj h4 (cj h4 (cj h4 (cj h4 (cj rfl (cj rfl (cj rfl (cj (od h2) (cj (od h3) (cj rfl (cj rfl (cj h5 (cj h5 (cj h5 (cj (od h2) (cj (od h3) (cj h5 (cj rfl (cj h5 (cj rfl (cj1 h6))))))))))))))))))))))))))) (fun h6 =>
     LpO.go [.bit true, .bit true, .bit true, .bit true, .bit true, .bit true, .bit true, .bit true, .bit true, .bit true, .bit true, .bit false, .bit false, .bit false, .bit false, .bit true, .bit false, .bit true, .bit false, .wait 3, .mask [0, 3], .ren []] (p := [(decide (v1 < (s_.size : Int))) = true,
      (0 : Int) ≤ v1,
      (v1 : Int) < s_.size,
      (decide ((sAt s_ v1) < 48)) = true,
      (decide ((sAt s_ v1) < 48)) = true,
      (decide ((sAt s_ v1) < 48)) = true,
      (decide ((sAt s_ v1) < 48)) = true,
      (decide ((sAt s_ v1) < 48)) = true,
      true = true,
      true = true,
      true = true,
      (0 : Int) ≤ v1,
      (v1 : Int) < s_.size,
      true = true,
      true = true,
      (decide ((sAt s_ v1) < 97)) = false,
      (decide ((sAt s_ v1) < 97)) = false,
      (decide ((sAt s_ v1) < 97)) = false,
      (0 : Int) ≤ v1,
      (v1 : Int) < s_.size,
      (decide ((sAt s_ v1) < 97)) = false,
      true = true,
      (decide ((sAt s_ v1) < 97)) = false,
      true = true,
      (decide (122 < (sAt s_ v1))) = false]) (by kernel_rfl) (cj h1 (cj (od h2) (cj (od h3) (cj h4 (cj h4 (cj h4 (cj h4 (cj h4 (cj rfl (cj rfl (cj rfl (cj (od h2) (cj (od h3) (cj rfl (cj rfl (cj h5 (cj h5 (cj h5 (cj (od h2) (cj (od h3) (cj h5 (cj rfl (cj h5 (cj rfl (cj1 h6))))))))))))))))))))))))) (spec_HoldIdOk_l0_ok s_ fuel (i64 (v1 + 1)))))) (fun h4 =>
     Pn.ite (fun h7 =>
     Pn.ite (fun h8 =>
     Pn.some (LpO.out [.bit true, .bit false, .bit false, .bit false, .bit false, .bit false, .bit true, .bit true, .bit true, .bit true, .bit true, .bit true, .bit true, .bit true, .bit true, .bit true, .bit true, .bit true, .bit true, .wait 1, .mask [2], .ren []] (p := [(decide (v1 < (s_.size : Int))) = true,
      (0 : Int) ≤ v1,
      (v1 : Int) < s_.size,
      (decide ((sAt s_ v1) < 48)) = false,
      (decide ((sAt s_ v1) < 48)) = false,
      (decide ((sAt s_ v1) < 48)) = false,
      (0 : Int) ≤ v1,
      (v1 : Int) < s_.size,
      (decide ((sAt s_ v1) < 48)) = false,
      (decide ((sAt s_ v1) < 48)) = false,
      (decide (57 < (sAt s_ v1))) = true,
      (decide (57 < (sAt s_ v1))) = true,
      (decide (57 < (sAt s_ v1))) = true,
      (0 : Int) ≤ v1,
      (v1 : Int) < s_.size,
      (decide (57 < (sAt s_ v1))) = true,
      (decide (57 < (sAt s_ v1))) = true,
      (decide ((sAt s_ v1) < 97)) = true,
      (decide ((sAt s_ v1) < 97)) = true,
      (decide ((sAt s_ v1) < 97)) = true,
      (decide ((sAt s_ v1) < 97)) = true,
      (decide (57 < (sAt s_ v1))) = true,
      (decide ((sAt s_ v1) < 97)) = true,
      (decide (57 < (sAt s_ v1))) = true,
      true = true]) (by kernel_rfl) (show X.ret ≠ X.go from nofun) (cj h1 (cj (od h2) (cj (od h3) (cj h4 (cj h4 (cj h4 (cj (od h2) (cj (od h3) (cj h4 (cj h4 (cj h7 (cj h7 (cj h7 (cj (od h2) (cj (od h3) (cj h7 (cj h7 (cj h8 (cj h8 (cj h8 (cj h8 (cj h7 (cj h8 (cj h7 (cj1 rfl))))))))))))))))))))))))))) (fun h8 =>
     Pn.ite (fun h9 =>
     Pn.some (LpO.out [.bit true, .bit false, .bit false, .bit false, .bit false, .bit false, .bit true, .bit true, .bit true, .bit true, .bit true, .bit false, .bit false, .bit false, .bit false, .bit true, .bit false, .bit true, .bit true, .wait 1, .mask [2], .ren []] (p := [(decide (v1 < (s_.size : Int))) = true,
      (0 : Int) ≤ v1,
      (v1 : Int) < s_.size,
      (decide ((sAt s_ v1) < 48)) = false,
      (decide ((sAt s_ v1) < 48)) = false,
      (decide ((sAt s_ v1) < 48)) = false,
      (0 : Int) ≤ v1,
      (v1 : Int) < s_.size,
      (decide ((sAt s_ v1) < 48)) = false,
      (decide ((sAt s_ v1) < 48)) = false,
      (decide (57 < (sAt s_ v1))) = true,
      (decide (57 < (sAt s_ v1))) = true,
      (decide (57 < (sAt s_ v1))) = true,
      (0 : Int) ≤ v1,
      (v1 : Int) < s_.size,
      (decide (57 < (sAt s_ v1))) = true,
      (decide (57 < (sAt s_ v1))) = true,
      (decide ((sAt s_ v1) < 97)) = false,
      (decide ((sAt s_ v1) < 97)) = false,
      (decide ((sAt s_ v1) < 97)) = false,
      (0 : Int) ≤ v1,
      (v1 : Int) < s_.size,
      (decide ((sAt s_ v1) < 97)) = false,
      (decide (57 < (sAt s_ v1))) = true,
      (decide ((sAt s_ v1) < 97)) = false,
      (decide (57 < (sAt s_ v1))) = true,
      (decide (122 < (sAt s_ v1))) = true]) (by kernel_rfl) (show X.ret ≠ X.go from nofun) (cj h1 (cj (od h2) (cj (od h3) (cj h4 (cj h4 (cj h4 (cj (od h2) (cj (od h3) (cj h4 (cj h4 (cj h7 (cj h7 (cj h7 (cj (od h2) (cj (od h3) (cj h7 (cj h7 (cj h8 (cj h8 (cj h8 (cj (od h2) (cj (od h3) (cj h8 (cj h7 (cj h8 (cj h7 (cj1 h9))))))))))))))))))))))))))))) (fun h9 =>
     LpO.go [.bit true, .bit false, .bit false, .bit false, .bit false, .bit false, .bit true, .bit true, .bit true, .bit true, .bit true, .bit false, .bit false, .bit false, .bit false, .bit true, .bit false, .bit true, .bit false, .wait 3, .mask [0, 3], .ren []] (p := [(decide (v1 < (s_.size : Int))) = true,
      (0 : Int) ≤ v1,
      (v1 : Int) < s_.size,
      (decide ((sAt s_ v1) < 48)) = false,
      (decide ((sAt s_ v1) < 48)) = false,
      (decide ((sAt s_ v1) < 48)) = false,
      (0 : Int) ≤ v1,
      (v1 : Int) < s_.size,
      (decide ((sAt s_ v1) < 48)) = false,
      (decide ((sAt s_ v1) < 48)) = false,
      (decide (57 < (sAt s_ v1))) = true,
      (decide (57 < (sAt s_ v1))) = true,
      (decide (57 < (sAt s_ v1))) = true,
      (0 : Int) ≤ v1,
      (v1 : Int) < s_.size,
      (decide (57 < (sAt s_ v1))) = true,
      (decide (57 < (sAt s_ v1))) = true,
      (decide ((sAt s_ v1) < 97)) = false,
      (decide ((sAt s_ v1) < 97)) = false,
      (decide ((sAt s_ v1) < 97)) = false,
      (0 : Int) ≤ v1,
      (v1 : Int) < s_.size,
      (decide ((sAt s_ v1) < 97)) = false,
      (decide (57 < (sAt s_ v1))) = true,
      (decide ((sAt s_ v1) < 97)) = false,
      (decide (57 < (sAt s_ v1))) = true,
      (decide (122 < (sAt s_ v1))) = false]) (by kernel_rfl) (cj h1 (cj (od h2) (cj (od h3) (cj h4 (cj h4 (cj h4 (cj (od h2) (cj (od h3) (cj h4 (cj h4 (cj h7 (cj h7 (cj h7 (cj (od h2) (cj (od h3) (cj h7 (cj h7 (cj h8 (cj h8 (cj h8 (cj (od h2) (cj (od h3) (cj h8 (cj h7 (cj h8 (cj h7 (cj1 h9))))))))))))))))))))))))))) (spec_HoldIdOk_l0_ok s_ fuel (i64 (v1 + 1)))))) (fun h7 =>
     LpO.go [.bit true, .bit false, .bit false, .bit false, .bit false, .bit false, .bit false, .bit false, .bit false, .bit false, .bit false, .bit false, .bit false, .bit false, .wait 3, .mask [0, 3], .ren []] (p := [(decide (v1 < (s_.size : Int))) = true,
      (0 : Int) ≤ v1,
      (v1 : Int) < s_.size,
      (decide ((sAt s_ v1) < 48)) = false,
      (decide ((sAt s_ v1) < 48)) = false,
      (decide ((sAt s_ v1) < 48)) = false,
      (0 : Int) ≤ v1,
      (v1 : Int) < s_.size,
      (decide ((sAt s_ v1) < 48)) = false,
      (decide ((sAt s_ v1) < 48)) = false,
      (decide (57 < (sAt s_ v1))) = false,
      (decide (57 < (sAt s_ v1))) = false,
      (decide (57 < (sAt s_ v1))) = false,
      (decide (57 < (sAt s_ v1))) = false,
      (decide (57 < (sAt s_ v1))) = false,
      (decide (57 < (sAt s_ v1))) = false,
      (decide (57 < (sAt s_ v1))) = false,
      false = false]) (by kernel_rfl) (cj h1 (cj (od h2) (cj (od h3) (cj h4 (cj h4 (cj h4 (cj (od h2) (cj (od h3) (cj h4 (cj h4 (cj h7 (cj h7 (cj h7 (cj h7 (cj h7 (cj h7 (cj h7 (cj1 rfl)))))))))))))))))) (spec_HoldIdOk_l0_ok s_ fuel (i64 (v1 + 1)))))) (fun h3 =>
     Pn.none)) (fun h2 =>
     Pn.none)) (fun h1 =>
     Pn.some (LpO.out [.bit false, .mask [0], .ren []] (p := [(decide (v1 < (s_.size : Int))) = false]) (by kernel_rfl) (show X.out 0 ≠ X.go from nofun) (cj1 h1)))
def spec_HoldIdOk (s_ : ByteArray) : Option (Bool) :=
 (spec_HoldIdOk_l0 s_ FUEL 0).bind fun r1 =>
 Lo.elim r1 (fun s1 =>
 (spec_l01In (s_.size : Int) 1 6).bind fun r2 =>
 some r2) (fun s2 =>
 some false)
theorem spec_HoldIdOk_ok (s_ : ByteArray) : Pn (fun y => Fn Tryz.prog 84 [(false, E9 s_)] (E4 y) []) (spec_HoldIdOk s_) := by
  unfold spec_HoldIdOk
  exact
   Pn.bind (fun r1 h10 =>
   Pn.lo (fun s1 h11 =>
   Pn.bind (fun r2 h13 =>
   Pn.some (Fn.of [.wait 3, .mask [0, 3], .ren [], .loop (X.out 0) (st 35 [(0, V.sc (.string s_))] [] []), .call [] (E4 r2) []] (p := [Loop Tryz.prog (sub (codeOf Tryz.prog 84) [1, 0, 1, 0, 0]) (st 35 [(0, V.sc (.string s_)), (3, V.sc (.int .i64 0))] [] []) (X.out 0) (st 35 [(0, V.sc (.string s_))] [] []),
    Fn Tryz.prog 10 [(false, E3 (s_.size : Int)), (false, E3 1), (false, E3 6)] (E4 r2) [],
    (true || ((E4 r2).nv && nvL [])) = true]) (by kernel_rfl) (cj ((spec_HoldIdOk_l0_ok s_ FUEL 0 r1 h10).at h11) (cj (spec_l01In_ok (s_.size : Int) 1 6 r2 h13) (cj1 rfl)))))) (fun s2 h12 =>
   Pn.some (Fn.of [.wait 3, .mask [0, 3], .ren [], .loop (X.ret) (st 35 [(2, V.sc (.bool false))] [] [])] (p := [Loop Tryz.prog (sub (codeOf Tryz.prog 84) [1, 0, 1, 0, 0]) (st 35 [(0, V.sc (.string s_)), (3, V.sc (.int .i64 0))] [] []) (X.ret) (st 35 [(2, V.sc (.bool false))] [] [])]) (by kernel_rfl) (cj1 ((spec_HoldIdOk_l0_ok s_ FUEL 0 r1 h10).at h12)))))
def spec_l06Time (n : Int) : Option (Bool) :=
 (spec_l01In n 0 1000000000).bind fun r1 =>
 some r1
theorem spec_l06Time_ok (n : Int) : Pn (fun y => Fn Tryz.prog 58 [(false, E3 n)] (E4 y) []) (spec_l06Time n) := by
  unfold spec_l06Time
  exact
   Pn.bind (fun r1 h1 =>
   Pn.some (Fn.of [.call [] (E4 r1) []] (p := [Fn Tryz.prog 10 [(false, E3 n), (false, E3 0), (false, E3 1000000000)] (E4 r1) [],
    (true || ((E4 r1).nv && nvL [])) = true]) (by kernel_rfl) (cj (spec_l01In_ok n 0 1000000000 r1 h1) (cj1 rfl))))
def spec_HoldOk (h_ : Hold) : Option (Bool) :=
 (spec_HoldIdOk h_.Id).bind fun r1 =>
 if r1 = true then
 (spec_l01In h_.Amount 1 9007199254740992).bind fun r2 =>
 if r2 = true then
 (spec_l06Time h_.Due).bind fun r3 =>
 some r3
 else
 some false
 else
 some false
theorem spec_HoldOk_ok (h_ : Hold) : Pn (fun y => Fn Tryz.prog 57 [(false, E85 h_)] (E4 y) []) (spec_HoldOk h_) := by
  unfold spec_HoldOk
  exact
   Pn.bind (fun r1 h1 =>
   Pn.ite (fun h2 =>
   Pn.bind (fun r2 h3 =>
   Pn.ite (fun h4 =>
   Pn.bind (fun r3 h5 =>
   Pn.some (Fn.of [.call [] (E4 r1) [], .bit true, .bit true, .bit true, .call [] (E4 r2) [], .bit true, .bit true, .bit true, .bit true, .call [] (E4 r3) [], .bit true] (p := [Fn Tryz.prog 84 [(false, E9 h_.Id)] (E4 r1) [],
    (true || ((E4 r1).nv && nvL [])) = true,
    r1 = true,
    r1 = true,
    r1 = true,
    Fn Tryz.prog 10 [(false, E3 h_.Amount), (false, E3 1), (false, E3 9007199254740992)] (E4 r2) [],
    (true || ((E4 r2).nv && nvL [])) = true,
    r1 = true,
    r2 = true,
    r2 = true,
    r2 = true,
    Fn Tryz.prog 58 [(false, E3 h_.Due)] (E4 r3) [],
    (true || ((E4 r3).nv && nvL [])) = true,
    r2 = true]) (by kernel_rfl) (cj (spec_HoldIdOk_ok h_.Id r1 h1) (cj rfl (cj h2 (cj h2 (cj h2 (cj (spec_l01In_ok h_.Amount 1 9007199254740992 r2 h3) (cj rfl (cj h2 (cj h4 (cj h4 (cj h4 (cj (spec_l06Time_ok h_.Due r3 h5) (cj rfl (cj1 h4))))))))))))))))) (fun h4 =>
   Pn.some (Fn.of [.call [] (E4 r1) [], .bit true, .bit true, .bit true, .call [] (E4 r2) [], .bit true, .bit false, .bit false, .bit false, .bit false] (p := [Fn Tryz.prog 84 [(false, E9 h_.Id)] (E4 r1) [],
    (true || ((E4 r1).nv && nvL [])) = true,
    r1 = true,
    r1 = true,
    r1 = true,
    Fn Tryz.prog 10 [(false, E3 h_.Amount), (false, E3 1), (false, E3 9007199254740992)] (E4 r2) [],
    (true || ((E4 r2).nv && nvL [])) = true,
    r1 = true,
    r2 = false,
    r2 = false,
    r2 = false,
    r2 = false]) (by kernel_rfl) (cj (spec_HoldIdOk_ok h_.Id r1 h1) (cj rfl (cj h2 (cj h2 (cj h2 (cj (spec_l01In_ok h_.Amount 1 9007199254740992 r2 h3) (cj rfl (cj h2 (cj h4 (cj h4 (cj h4 (cj1 h4)))))))))))))))) (fun h2 =>
   Pn.some (Fn.of [.call [] (E4 r1) [], .bit false, .bit false, .bit false, .bit false, .bit false, .bit false, .bit false, .bit false] (p := [Fn Tryz.prog 84 [(false, E9 h_.Id)] (E4 r1) [],
    (true || ((E4 r1).nv && nvL [])) = true,
    r1 = false,
    r1 = false,
    r1 = false,
    r1 = false,
    false = false,
    false = false,
    false = false,
    false = false]) (by kernel_rfl) (cj (spec_HoldIdOk_ok h_.Id r1 h1) (cj rfl (cj h2 (cj h2 (cj h2 (cj h2 (cj rfl (cj rfl (cj rfl (cj1 rfl)))))))))))))
def spec_HoldsOk_l0 (l : List Hold) : List Hold → List Hold → Option (Lo Unit Unit)
  | [], p1 =>
   some (.out ())
  | x1 :: t1, p1 =>
   (spec_HoldOk x1).bind fun r1 =>
   if r1 = true then
   if (decide (0 < (p1.length : Int))) = true then
   if (decide (0 ≤ (i64 ((p1.length : Int) - 1)))) = true then
   (l[(i64 ((p1.length : Int) - 1)).toNat]?).bind fun x2 =>
   if (Op.bytesLess x2.Id.toList x1.Id.toList) = true then
   spec_HoldsOk_l0 l t1 (p1 ++ [x1])
   else
   some (.ret ())
   else none
   else
   spec_HoldsOk_l0 l t1 (p1 ++ [x1])
   else
   some (.ret ())
theorem spec_HoldsOk_l0_ok (l : List Hold) (h2 : capOk l.length = true) : ∀ (t1 p1 : List Hold) (_ : l = p1 ++ t1) , Pn (LpO Tryz.prog (sub (codeOf Tryz.prog 34) [1, 0, 1, 0, 0]) (st 34 [(0, V.sl false 85 (List.map E85 l)), (5, V.sl false 85 (List.map E85 l)), (6, V.sc (.int .i64 (l.length : Int))), (7, V.sc (.int .i64 (p1.length : Int)))] [] []) (fun (y : Lo Unit Unit) => Lo.elim y (fun s => (X.out 0, st 34 [(0, V.sl false 85 (List.map E85 l))] [] [])) (fun s => (X.ret, st 34 [(2, V.sc (.bool false))] [] [])))) (spec_HoldsOk_l0 l t1 p1)
  | [], p1, h1 => by
    unfold spec_HoldsOk_l0
    exact
     Pn.some (LpO.out [.bit false, .mask [0], .ren []] (p := [(decide ((p1.length : Int) < (l.length : Int))) = false]) (by kernel_rfl) (show X.out 0 ≠ X.go from nofun) (cj1 (rng_end h1)))
  | x1 :: t1, p1, h1 => by
    unfold spec_HoldsOk_l0
    exact
     Pn.bind (fun r1 h3 =>
     Pn.ite (fun h4 =>
     Pn.ite (fun h5 =>
     Pn.ite (fun h6 =>
     Pn.bind (fun x2 h7 =>
     Pn.ite (fun h8 =>
     LpO.go [.bit true, .el (E85 x1), .draw [], .call [] (E4 r1) [], .bit false, .bit false, .bit false, .bit true, .bit true, .bit true, .bit true, .el (E85 x2), .bit true, .bit true, .bit true, .bit true, .bit true, .bit false, .bit true, .bit false, .bit false, .wait 2, .mask [0, 5, 6, 7], .ren [], .nm 7 (V.sc (.int .i64 ((p1 ++ [x1]).length : Int)))] (p := [(decide ((p1.length : Int) < (l.length : Int))) = true,
      (0 : Int) ≤ (p1.length : Int),
      (List.map E85 l)[(p1.length : Int).toNat]? = some (E85 x1),
      Fn Tryz.prog 57 [(false, E85 x1)] (E4 r1) [],
      (true || ((E4 r1).nv && nvL [])) = true,
      (!r1) = false,
      (!r1) = false,
      (!r1) = false,
      (decide (0 < (p1.length : Int))) = true,
      (decide (0 < (p1.length : Int))) = true,
      (decide (0 < (p1.length : Int))) = true,
      (decide (0 < (p1.length : Int))) = true,
      (0 : Int) ≤ (i64 ((p1.length : Int) - 1)),
      (List.map E85 l)[(i64 ((p1.length : Int) - 1)).toNat]? = some (E85 x2),
      (decide (0 < (p1.length : Int))) = true,
      (decide (0 < (p1.length : Int))) = true,
      (decide (0 < (p1.length : Int))) = true,
      (decide (0 < (p1.length : Int))) = true,
      (decide (0 < (p1.length : Int))) = true,
      (!r1) = false,
      (decide (0 < (p1.length : Int))) = true,
      (!r1) = false,
      (!(Op.bytesLess x2.Id.toList x1.Id.toList)) = false,
      V.sc (.int .i64 (i64 ((p1.length : Int) + 1))) = V.sc (.int .i64 ((p1 ++ [x1]).length : Int))]) (by kernel_rfl) (cj (rng_lt h1) (cj (by omega) (cj (rng_get _ h1) (cj (spec_HoldOk_ok x1 r1 h3) (cj rfl (cj (nf h4) (cj (nf h4) (cj (nf h4) (cj h5 (cj h5 (cj h5 (cj h5 (cj (od h6) (cj (map_get h7) (cj h5 (cj h5 (cj h5 (cj h5 (cj h5 (cj (nf h4) (cj h5 (cj (nf h4) (cj (nf h8) (cj1 (rng_next h1 h2))))))))))))))))))))))))) (spec_HoldsOk_l0_ok l h2 t1 (p1 ++ [x1]) (rng_step h1))) (fun h8 =>
     Pn.some (LpO.out [.bit true, .el (E85 x1), .draw [], .call [] (E4 r1) [], .bit false, .bit false, .bit false, .bit true, .bit true, .bit true, .bit true, .el (E85 x2), .bit true, .bit true, .bit true, .bit true, .bit true, .bit false, .bit true, .bit false, .bit true, .wait 1, .mask [2], .ren []] (p := [(decide ((p1.length : Int) < (l.length : Int))) = true,
      (0 : Int) ≤ (p1.length : Int),
      (List.map E85 l)[(p1.length : Int).toNat]? = some (E85 x1),
      Fn Tryz.prog 57 [(false, E85 x1)] (E4 r1) [],
      (true || ((E4 r1).nv && nvL [])) = true,
      (!r1) = false,
      (!r1) = false,
      (!r1) = false,
      (decide (0 < (p1.length : Int))) = true,
      (decide (0 < (p1.length : Int))) = true,
      (decide (0 < (p1.length : Int))) = true,
      (decide (0 < (p1.length : Int))) = true,
      (0 : Int) ≤ (i64 ((p1.length : Int) - 1)),
      (List.map E85 l)[(i64 ((p1.length : Int) - 1)).toNat]? = some (E85 x2),
      (decide (0 < (p1.length : Int))) = true,
      (decide (0 < (p1.length : Int))) = true,
      (decide (0 < (p1.length : Int))) = true,
      (decide (0 < (p1.length : Int))) = true,
      (decide (0 < (p1.length : Int))) = true,
      (!r1) = false,
      (decide (0 < (p1.length : Int))) = true,
      (!r1) = false,
      (!(Op.bytesLess x2.Id.toList x1.Id.toList)) = true]) (by kernel_rfl) (show X.ret ≠ X.go from nofun) (cj (rng_lt h1) (cj (by omega) (cj (rng_get _ h1) (cj (spec_HoldOk_ok x1 r1 h3) (cj rfl (cj (nf h4) (cj (nf h4) (cj (nf h4) (cj h5 (cj h5 (cj h5 (cj h5 (cj (od h6) (cj (map_get h7) (cj h5 (cj h5 (cj h5 (cj h5 (cj h5 (cj (nf h4) (cj h5 (cj (nf h4) (cj1 (nt h8)))))))))))))))))))))))))))) (fun h6 =>
     Pn.none)) (fun h5 =>
     LpO.go [.bit true, .el (E85 x1), .draw [], .call [] (E4 r1) [], .bit false, .bit false, .bit false, .bit false, .bit false, .bit false, .bit false, .bit false, .bit false, .bit false, .bit false, .bit false, .bit false, .bit false, .bit false, .bit false, .wait 2, .mask [0, 5, 6, 7], .ren [], .nm 7 (V.sc (.int .i64 ((p1 ++ [x1]).length : Int)))] (p := [(decide ((p1.length : Int) < (l.length : Int))) = true,
      (0 : Int) ≤ (p1.length : Int),
      (List.map E85 l)[(p1.length : Int).toNat]? = some (E85 x1),
      Fn Tryz.prog 57 [(false, E85 x1)] (E4 r1) [],
      (true || ((E4 r1).nv && nvL [])) = true,
      (!r1) = false,
      (!r1) = false,
      (!r1) = false,
      (decide (0 < (p1.length : Int))) = false,
      (decide (0 < (p1.length : Int))) = false,
      (decide (0 < (p1.length : Int))) = false,
      (decide (0 < (p1.length : Int))) = false,
      (decide (0 < (p1.length : Int))) = false,
      (decide (0 < (p1.length : Int))) = false,
      (decide (0 < (p1.length : Int))) = false,
      (decide (0 < (p1.length : Int))) = false,
      (decide (0 < (p1.length : Int))) = false,
      (!r1) = false,
      (decide (0 < (p1.length : Int))) = false,
      (!r1) = false,
      false = false,
      V.sc (.int .i64 (i64 ((p1.length : Int) + 1))) = V.sc (.int .i64 ((p1 ++ [x1]).length : Int))]) (by kernel_rfl) (cj (rng_lt h1) (cj (by omega) (cj (rng_get _ h1) (cj (spec_HoldOk_ok x1 r1 h3) (cj rfl (cj (nf h4) (cj (nf h4) (cj (nf h4) (cj h5 (cj h5 (cj h5 (cj h5 (cj h5 (cj h5 (cj h5 (cj h5 (cj h5 (cj (nf h4) (cj h5 (cj (nf h4) (cj rfl (cj1 (rng_next h1 h2))))))))))))))))))))))) (spec_HoldsOk_l0_ok l h2 t1 (p1 ++ [x1]) (rng_step h1)))) (fun h4 =>
     Pn.some (LpO.out [.bit true, .el (E85 x1), .draw [], .call [] (E4 r1) [], .bit true, .bit true, .bit true, .bit true, .bit true, .bit true, .wait 1, .mask [2], .ren []] (p := [(decide ((p1.length : Int) < (l.length : Int))) = true,
      (0 : Int) ≤ (p1.length : Int),
      (List.map E85 l)[(p1.length : Int).toNat]? = some (E85 x1),
      Fn Tryz.prog 57 [(false, E85 x1)] (E4 r1) [],
      (true || ((E4 r1).nv && nvL [])) = true,
      (!r1) = true,
      (!r1) = true,
      (!r1) = true,
      (!r1) = true,
      (!r1) = true,
      true = true]) (by kernel_rfl) (show X.ret ≠ X.go from nofun) (cj (rng_lt h1) (cj (by omega) (cj (rng_get _ h1) (cj (spec_HoldOk_ok x1 r1 h3) (cj rfl (cj (nt h4) (cj (nt h4) (cj (nt h4) (cj (nt h4) (cj (nt h4) (cj1 rfl))))))))))))))
def spec_HoldsOk (l : List Hold) : Option (Bool) :=
 if (capOk l.length) = true then
 (spec_HoldsOk_l0 l l []).bind fun r2 =>
 Lo.elim r2 (fun s1 =>
 some (decide ((l.length : Int) ≤ 4))) (fun s2 =>
 some false)
 else none
theorem spec_HoldsOk_ok (l : List Hold) : Pn (fun y => Fn Tryz.prog 34 [(false, E37 l)] (E4 y) []) (spec_HoldsOk l) := by
  unfold spec_HoldsOk
  exact
   Pn.ite (fun h9 =>
   Pn.bind (fun r2 h10 =>
   Pn.lo (fun s1 h11 =>
   Pn.some (Fn.of [.wait 3, .nm 6 (V.sc (.int .i64 (l.length : Int))), .wait 2, .mask [0, 5, 6, 7], .ren [], .loop (X.out 0) (st 34 [(0, V.sl false 85 (List.map E85 l))] [] []), .wait 2, .nm 32 (V.sc (.int .i64 (l.length : Int)))] (p := [V.sc (.int .i64 ((List.map E85 l).length : Int)) = V.sc (.int .i64 (l.length : Int)),
    Loop Tryz.prog (sub (codeOf Tryz.prog 34) [1, 0, 1, 0, 0]) (st 34 [(0, V.sl false 85 (List.map E85 l)), (5, V.sl false 85 (List.map E85 l)), (6, V.sc (.int .i64 (l.length : Int))), (7, V.sc (.int .i64 0))] [] []) (X.out 0) (st 34 [(0, V.sl false 85 (List.map E85 l))] [] []),
    V.sc (.int .i64 ((List.map E85 l).length : Int)) = V.sc (.int .i64 (l.length : Int))]) (by kernel_rfl) (cj (len_nm _ _) (cj ((spec_HoldsOk_l0_ok l h9 l [] rfl r2 h10).at h11) (cj1 (len_nm _ _)))))) (fun s2 h12 =>
   Pn.some (Fn.of [.wait 3, .nm 6 (V.sc (.int .i64 (l.length : Int))), .wait 2, .mask [0, 5, 6, 7], .ren [], .loop (X.ret) (st 34 [(2, V.sc (.bool false))] [] [])] (p := [V.sc (.int .i64 ((List.map E85 l).length : Int)) = V.sc (.int .i64 (l.length : Int)),
    Loop Tryz.prog (sub (codeOf Tryz.prog 34) [1, 0, 1, 0, 0]) (st 34 [(0, V.sl false 85 (List.map E85 l)), (5, V.sl false 85 (List.map E85 l)), (6, V.sc (.int .i64 (l.length : Int))), (7, V.sc (.int .i64 0))] [] []) (X.ret) (st 34 [(2, V.sc (.bool false))] [] [])]) (by kernel_rfl) (cj (len_nm _ _) (cj1 ((spec_HoldsOk_l0_ok l h9 l [] rfl r2 h10).at h12))))))) (fun h9 =>
   Pn.none)
def spec_RingOk_l0 (r_ : Ring) : List Int → List Int → Option (Lo Unit Unit)
  | [], p1 =>
   some (.out ())
  | x1 :: t1, p1 =>
   (spec_l01Money x1).bind fun r4 =>
   if r4 = true then
   (r_.Sums[(p1.length : Int).toNat]?).bind fun x2 =>
   (spec_l01Money x2).bind fun r5 =>
   if r5 = true then
   spec_RingOk_l0 r_ t1 (p1 ++ [x1])
   else
   some (.ret ())
   else
   some (.ret ())
theorem spec_RingOk_l0_ok (r_ : Ring) (h9 : capOk r_.Counts.length = true) : ∀ (t1 p1 : List Int) (_ : r_.Counts = p1 ++ t1) , Pn (LpO Tryz.prog (sub (codeOf Tryz.prog 35) [1, 1, 0, 1, 0, 0]) (st 53 [(1, V.ptr 0 0), (32, V.sc (.int .i64 (r_.Counts.length : Int))), (33, V.sc (.int .i64 (p1.length : Int)))] [Blk.box 40 [V.sc (.int .i64 r_.Span), V.sc (.int .i64 r_.Head), V.sl false 3 (List.map E3 r_.Counts), V.sl false 3 (List.map E3 r_.Sums)]] []) (fun (y : Lo Unit Unit) => Lo.elim y (fun s => (X.out 0, st 53 [] [] [])) (fun s => (X.ret, st 53 [(2, V.sc (.bool false))] [] [])))) (spec_RingOk_l0 r_ t1 p1)
  | [], p1, h8 => by
    unfold spec_RingOk_l0
    exact
     Pn.some (LpO.out [.bit false, .mask [], .ren []] (p := [(decide ((p1.length : Int) < (r_.Counts.length : Int))) = false]) (by kernel_rfl) (show X.out 0 ≠ X.go from nofun) (cj1 (rng_end h8)))
  | x1 :: t1, p1, h8 => by
    unfold spec_RingOk_l0
    exact
     Pn.bind (fun r4 h10 =>
     Pn.ite (fun h11 =>
     Pn.bind (fun x2 h12 =>
     Pn.bind (fun r5 h13 =>
     Pn.ite (fun h14 =>
     LpO.go [.bit true, .el (E3 x1), .call [] (E4 r4) [], .bit false, .bit false, .bit false, .bit false, .el (E3 x2), .bit false, .bit false, .call [] (E4 r5) [], .bit false, .bit false, .bit false, .wait 2, .mask [1, 32, 33], .ren [0], .nm 33 (V.sc (.int .i64 ((p1 ++ [x1]).length : Int)))] (p := [(decide ((p1.length : Int) < (r_.Counts.length : Int))) = true,
      (0 : Int) ≤ (p1.length : Int),
      (List.map E3 r_.Counts)[(p1.length : Int).toNat]? = some (E3 x1),
      Fn Tryz.prog 33 [(false, E3 x1)] (E4 r4) [],
      (true || ((E4 r4).nv && nvL [])) = true,
      (!r4) = false,
      (!r4) = false,
      (!r4) = false,
      (!r4) = false,
      (0 : Int) ≤ (p1.length : Int),
      (List.map E3 r_.Sums)[(p1.length : Int).toNat]? = some (E3 x2),
      (!r4) = false,
      (!r4) = false,
      Fn Tryz.prog 33 [(false, E3 x2)] (E4 r5) [],
      (true || ((E4 r5).nv && nvL [])) = true,
      (!r4) = false,
      (!r4) = false,
      (!r5) = false,
      V.sc (.int .i64 (i64 ((p1.length : Int) + 1))) = V.sc (.int .i64 ((p1 ++ [x1]).length : Int))]) (by kernel_rfl) (cj (rng_lt h8) (cj (by omega) (cj (rng_get _ h8) (cj (spec_l01Money_ok x1 r4 h10) (cj rfl (cj (nf h11) (cj (nf h11) (cj (nf h11) (cj (nf h11) (cj (by omega) (cj (map_get h12) (cj (nf h11) (cj (nf h11) (cj (spec_l01Money_ok x2 r5 h13) (cj rfl (cj (nf h11) (cj (nf h11) (cj (nf h14) (cj1 (rng_next h8 h9)))))))))))))))))))) (spec_RingOk_l0_ok r_ h9 t1 (p1 ++ [x1]) (rng_step h8))) (fun h14 =>
     Pn.some (LpO.out [.bit true, .el (E3 x1), .call [] (E4 r4) [], .bit false, .bit false, .bit false, .bit false, .el (E3 x2), .bit false, .bit false, .call [] (E4 r5) [], .bit false, .bit false, .bit true, .wait 1, .mask [2], .ren []] (p := [(decide ((p1.length : Int) < (r_.Counts.length : Int))) = true,
      (0 : Int) ≤ (p1.length : Int),
      (List.map E3 r_.Counts)[(p1.length : Int).toNat]? = some (E3 x1),
      Fn Tryz.prog 33 [(false, E3 x1)] (E4 r4) [],
      (true || ((E4 r4).nv && nvL [])) = true,
      (!r4) = false,
      (!r4) = false,
      (!r4) = false,
      (!r4) = false,
      (0 : Int) ≤ (p1.length : Int),
      (List.map E3 r_.Sums)[(p1.length : Int).toNat]? = some (E3 x2),
      (!r4) = false,
      (!r4) = false,
      Fn Tryz.prog 33 [(false, E3 x2)] (E4 r5) [],
      (true || ((E4 r5).nv && nvL [])) = true,
      (!r4) = false,
      (!r4) = false,
      (!r5) = true]) (by kernel_rfl) (show X.ret ≠ X.go from nofun) (cj (rng_lt h8) (cj (by omega) (cj (rng_get _ h8) (cj (spec_l01Money_ok x1 r4 h10) (cj rfl (cj (nf h11) (cj (nf h11) (cj (nf h11) (cj (nf h11) (cj (by omega) (cj (map_get h12) (cj (nf h11) (cj (nf h11) (cj (spec_l01Money_ok x2 r5 h13) (cj rfl (cj (nf h11) (cj (nf h11) (cj1 (nt h14)))))))))))))))))))))))) (fun h11 =>
     Pn.some (LpO.out [.bit true, .el (E3 x1), .call [] (E4 r4) [], .bit true, .bit true, .bit true, .bit true, .bit true, .bit true, .bit true, .bit true, .bit true, .wait 1, .mask [2], .ren []] (p := [(decide ((p1.length : Int) < (r_.Counts.length : Int))) = true,
      (0 : Int) ≤ (p1.length : Int),
      (List.map E3 r_.Counts)[(p1.length : Int).toNat]? = some (E3 x1),
      Fn Tryz.prog 33 [(false, E3 x1)] (E4 r4) [],
      (true || ((E4 r4).nv && nvL [])) = true,
      (!r4) = true,
      (!r4) = true,
      (!r4) = true,
      (!r4) = true,
      (!r4) = true,
      (!r4) = true,
      (!r4) = true,
      (!r4) = true,
      true = true]) (by kernel_rfl) (show X.ret ≠ X.go from nofun) (cj (rng_lt h8) (cj (by omega) (cj (rng_get _ h8) (cj (spec_l01Money_ok x1 r4 h10) (cj rfl (cj (nt h11) (cj (nt h11) (cj (nt h11) (cj (nt h11) (cj (nt h11) (cj (nt h11) (cj (nt h11) (cj (nt h11) (cj1 rfl)))))))))))))))))
def spec_RingOk (r_ : Ring) : Option (Bool) :=
 (spec_l01In r_.Span 1 1000).bind fun r1 =>
 if r1 = true then
 (spec_l01In (r_.Counts.length : Int) 1 8).bind fun r2 =>
 if r2 = true then
 if ((r_.Sums.length : Int) != (r_.Counts.length : Int)) = true then
 some false
 else
 (spec_l06Time r_.Head).bind fun r3 =>
 if r3 = true then
 if (capOk r_.Counts.length) = true then
 (spec_RingOk_l0 r_ r_.Counts []).bind fun r6 =>
 Lo.elim r6 (fun s1 =>
 some true) (fun s2 =>
 some false)
 else none
 else
 some false
 else
 some false
 else
 some false
theorem spec_RingOk_ok (r_ : Ring) : Pn (fun y => Fn Tryz.prog 35 [(false, E40 r_)] (E4 y) []) (spec_RingOk r_) := by
  unfold spec_RingOk
  exact
   Pn.bind (fun r1 h1 =>
   Pn.ite (fun h2 =>
   Pn.bind (fun r2 h3 =>
   Pn.ite (fun h4 =>
   Pn.ite (fun h5 =>
   Pn.some (Fn.of [.call [] (E4 r1) [], .bit false, .bit false, .bit false, .nm 11 (V.sc (.int .i64 (r_.Counts.length : Int))), .bit false, .call [] (E4 r2) [], .bit false, .bit false, .bit false, .bit false, .bit false, .nm 18 (V.sc (.int .i64 (r_.Sums.length : Int))), .bit false, .bit false, .bit false, .nm 21 (V.sc (.int .i64 (r_.Counts.length : Int))), .bit false, .bit false, .bit true, .bit true, .bit true, .bit true, .bit true, .bit true] (p := [Fn Tryz.prog 10 [(false, E3 r_.Span), (false, E3 1), (false, E3 1000)] (E4 r1) [],
    (true || ((E4 r1).nv && nvL [])) = true,
    (!r1) = false,
    (!r1) = false,
    (!r1) = false,
    V.sc (.int .i64 ((List.map E3 r_.Counts).length : Int)) = V.sc (.int .i64 (r_.Counts.length : Int)),
    (!r1) = false,
    Fn Tryz.prog 10 [(false, E3 (r_.Counts.length : Int)), (false, E3 1), (false, E3 8)] (E4 r2) [],
    (true || ((E4 r2).nv && nvL [])) = true,
    (!r1) = false,
    (!r1) = false,
    (!r2) = false,
    (!r2) = false,
    (!r2) = false,
    V.sc (.int .i64 ((List.map E3 r_.Sums).length : Int)) = V.sc (.int .i64 (r_.Sums.length : Int)),
    (!r2) = false,
    (!r2) = false,
    (!r2) = false,
    V.sc (.int .i64 ((List.map E3 r_.Counts).length : Int)) = V.sc (.int .i64 (r_.Counts.length : Int)),
    (!r2) = false,
    (!r2) = false,
    ((r_.Sums.length : Int) != (r_.Counts.length : Int)) = true,
    ((r_.Sums.length : Int) != (r_.Counts.length : Int)) = true,
    ((r_.Sums.length : Int) != (r_.Counts.length : Int)) = true,
    ((r_.Sums.length : Int) != (r_.Counts.length : Int)) = true,
    ((r_.Sums.length : Int) != (r_.Counts.length : Int)) = true,
    true = true]) (by kernel_rfl) (cj (spec_l01In_ok r_.Span 1 1000 r1 h1) (cj rfl (cj (nf h2) (cj (nf h2) (cj (nf h2) (cj (len_nm _ _) (cj (nf h2) (cj (spec_l01In_ok (r_.Counts.length : Int) 1 8 r2 h3) (cj rfl (cj (nf h2) (cj (nf h2) (cj (nf h4) (cj (nf h4) (cj (nf h4) (cj (len_nm _ _) (cj (nf h4) (cj (nf h4) (cj (nf h4) (cj (len_nm _ _) (cj (nf h4) (cj (nf h4) (cj h5 (cj h5 (cj h5 (cj h5 (cj h5 (cj1 rfl))))))))))))))))))))))))))))) (fun h5 =>
   Pn.bind (fun r3 h6 =>
   Pn.ite (fun h7 =>
   Pn.ite (fun h15 =>
   Pn.bind (fun r6 h16 =>
   Pn.lo (fun s1 h17 =>
   Pn.some (Fn.of [.call [] (E4 r1) [], .bit false, .bit false, .bit false, .nm 11 (V.sc (.int .i64 (r_.Counts.length : Int))), .bit false, .call [] (E4 r2) [], .bit false, .bit false, .bit false, .bit false, .bit false, .nm 18 (V.sc (.int .i64 (r_.Sums.length : Int))), .bit false, .bit false, .bit false, .nm 21 (V.sc (.int .i64 (r_.Counts.length : Int))), .bit false, .bit false, .bit false, .bit false, .bit false, .call [] (E4 r3) [], .bit false, .bit false, .bit false, .wait 2, .nm 32 (V.sc (.int .i64 (r_.Counts.length : Int))), .wait 2, .mask [1, 32, 33], .ren [0], .loop (X.out 0) (st 53 [] [] [])] (p := [Fn Tryz.prog 10 [(false, E3 r_.Span), (false, E3 1), (false, E3 1000)] (E4 r1) [],
    (true || ((E4 r1).nv && nvL [])) = true,
    (!r1) = false,
    (!r1) = false,
    (!r1) = false,
    V.sc (.int .i64 ((List.map E3 r_.Counts).length : Int)) = V.sc (.int .i64 (r_.Counts.length : Int)),
    (!r1) = false,
    Fn Tryz.prog 10 [(false, E3 (r_.Counts.length : Int)), (false, E3 1), (false, E3 8)] (E4 r2) [],
    (true || ((E4 r2).nv && nvL [])) = true,
    (!r1) = false,
    (!r1) = false,
    (!r2) = false,
    (!r2) = false,
    (!r2) = false,
    V.sc (.int .i64 ((List.map E3 r_.Sums).length : Int)) = V.sc (.int .i64 (r_.Sums.length : Int)),
    (!r2) = false,
    (!r2) = false,
    (!r2) = false,
    V.sc (.int .i64 ((List.map E3 r_.Counts).length : Int)) = V.sc (.int .i64 (r_.Counts.length : Int)),
    (!r2) = false,
    (!r2) = false,
    ((r_.Sums.length : Int) != (r_.Counts.length : Int)) = false,
    ((r_.Sums.length : Int) != (r_.Counts.length : Int)) = false,
    ((r_.Sums.length : Int) != (r_.Counts.length : Int)) = false,
    Fn Tryz.prog 58 [(false, E3 r_.Head)] (E4 r3) [],
    (true || ((E4 r3).nv && nvL [])) = true,
    ((r_.Sums.length : Int) != (r_.Counts.length : Int)) = false,
    ((r_.Sums.length : Int) != (r_.Counts.length : Int)) = false,
    (!r3) = false,
    V.sc (.int .i64 ((List.map E3 r_.Counts).length : Int)) = V.sc (.int .i64 (r_.Counts.length : Int)),
    Loop Tryz.prog (sub (codeOf Tryz.prog 35) [1, 1, 0, 1, 0, 0]) (st 53 [(1, V.ptr 0 0), (32, V.sc (.int .i64 (r_.Counts.length : Int))), (33, V.sc (.int .i64 0))] [Blk.box 40 [V.sc (.int .i64 r_.Span), V.sc (.int .i64 r_.Head), V.sl false 3 (List.map E3 r_.Counts), V.sl false 3 (List.map E3 r_.Sums)]] []) (X.out 0) (st 53 [] [] [])]) (by kernel_rfl) (cj (spec_l01In_ok r_.Span 1 1000 r1 h1) (cj rfl (cj (nf h2) (cj (nf h2) (cj (nf h2) (cj (len_nm _ _) (cj (nf h2) (cj (spec_l01In_ok (r_.Counts.length : Int) 1 8 r2 h3) (cj rfl (cj (nf h2) (cj (nf h2) (cj (nf h4) (cj (nf h4) (cj (nf h4) (cj (len_nm _ _) (cj (nf h4) (cj (nf h4) (cj (nf h4) (cj (len_nm _ _) (cj (nf h4) (cj (nf h4) (cj h5 (cj h5 (cj h5 (cj (spec_l06Time_ok r_.Head r3 h6) (cj rfl (cj h5 (cj h5 (cj (nf h7) (cj (len_nm _ _) (cj1 ((spec_RingOk_l0_ok r_ h15 r_.Counts [] rfl r6 h16).at h17)))))))))))))))))))))))))))))))))) (fun s2 h18 =>
   Pn.some (Fn.of [.call [] (E4 r1) [], .bit false, .bit false, .bit false, .nm 11 (V.sc (.int .i64 (r_.Counts.length : Int))), .bit false, .call [] (E4 r2) [], .bit false, .bit false, .bit false, .bit false, .bit false, .nm 18 (V.sc (.int .i64 (r_.Sums.length : Int))), .bit false, .bit false, .bit false, .nm 21 (V.sc (.int .i64 (r_.Counts.length : Int))), .bit false, .bit false, .bit false, .bit false, .bit false, .call [] (E4 r3) [], .bit false, .bit false, .bit false, .wait 2, .nm 32 (V.sc (.int .i64 (r_.Counts.length : Int))), .wait 2, .mask [1, 32, 33], .ren [0], .loop (X.ret) (st 53 [(2, V.sc (.bool false))] [] [])] (p := [Fn Tryz.prog 10 [(false, E3 r_.Span), (false, E3 1), (false, E3 1000)] (E4 r1) [],
    (true || ((E4 r1).nv && nvL [])) = true,
    (!r1) = false,
    (!r1) = false,
    (!r1) = false,
    V.sc (.int .i64 ((List.map E3 r_.Counts).length : Int)) = V.sc (.int .i64 (r_.Counts.length : Int)),
    (!r1) = false,
    Fn Tryz.prog 10 [(false, E3 (r_.Counts.length : Int)), (false, E3 1), (false, E3 8)] (E4 r2) [],
    (true || ((E4 r2).nv && nvL [])) = true,
    (!r1) = false,
    (!r1) = false,
    (!r2) = false,
    (!r2) = false,
    (!r2) = false,
    V.sc (.int .i64 ((List.map E3 r_.Sums).length : Int)) = V.sc (.int .i64 (r_.Sums.length : Int)),
    (!r2) = false,
    (!r2) = false,
    (!r2) = false,
    V.sc (.int .i64 ((List.map E3 r_.Counts).length : Int)) = V.sc (.int .i64 (r_.Counts.length : Int)),
    (!r2) = false,
    (!r2) = false,
    ((r_.Sums.length : Int) != (r_.Counts.length : Int)) = false,
    ((r_.Sums.length : Int) != (r_.Counts.length : Int)) = false,
    ((r_.Sums.length : Int) != (r_.Counts.length : Int)) = false,
    Fn Tryz.prog 58 [(false, E3 r_.Head)] (E4 r3) [],
    (true || ((E4 r3).nv && nvL [])) = true,
    ((r_.Sums.length : Int) != (r_.Counts.length : Int)) = false,
    ((r_.Sums.length : Int) != (r_.Counts.length : Int)) = false,
    (!r3) = false,
    V.sc (.int .i64 ((List.map E3 r_.Counts).length : Int)) = V.sc (.int .i64 (r_.Counts.length : Int)),
    Loop Tryz.prog (sub (codeOf Tryz.prog 35) [1, 1, 0, 1, 0, 0]) (st 53 [(1, V.ptr 0 0), (32, V.sc (.int .i64 (r_.Counts.length : Int))), (33, V.sc (.int .i64 0))] [Blk.box 40 [V.sc (.int .i64 r_.Span), V.sc (.int .i64 r_.Head), V.sl false 3 (List.map E3 r_.Counts), V.sl false 3 (List.map E3 r_.Sums)]] []) (X.ret) (st 53 [(2, V.sc (.bool false))] [] [])]) (by kernel_rfl) (cj (spec_l01In_ok r_.Span 1 1000 r1 h1) (cj rfl (cj (nf h2) (cj (nf h2) (cj (nf h2) (cj (len_nm _ _) (cj (nf h2) (cj (spec_l01In_ok (r_.Counts.length : Int) 1 8 r2 h3) (cj rfl (cj (nf h2) (cj (nf h2) (cj (nf h4) (cj (nf h4) (cj (nf h4) (cj (len_nm _ _) (cj (nf h4) (cj (nf h4) (cj (nf h4) (cj (len_nm _ _) (cj (nf h4) (cj (nf h4) (cj h5 (cj h5 (cj h5 (cj (spec_l06Time_ok r_.Head r3 h6) (cj rfl (cj h5 (cj h5 (cj (nf h7) (cj (len_nm _ _) (cj1 ((spec_RingOk_l0_ok r_ h15 r_.Counts [] rfl r6 h16).at h18)))))))))))))))))))))))))))))))))))) (fun h15 =>
   Pn.none)) (fun h7 =>
   Pn.some (Fn.of [.call [] (E4 r1) [], .bit false, .bit false, .bit false, .nm 11 (V.sc (.int .i64 (r_.Counts.length : Int))), .bit false, .call [] (E4 r2) [], .bit false, .bit false, .bit false, .bit false, .bit false, .nm 18 (V.sc (.int .i64 (r_.Sums.length : Int))), .bit false, .bit false, .bit false, .nm 21 (V.sc (.int .i64 (r_.Counts.length : Int))), .bit false, .bit false, .bit false, .bit false, .bit false, .call [] (E4 r3) [], .bit false, .bit false, .bit true] (p := [Fn Tryz.prog 10 [(false, E3 r_.Span), (false, E3 1), (false, E3 1000)] (E4 r1) [],
    (true || ((E4 r1).nv && nvL [])) = true,
    (!r1) = false,
    (!r1) = false,
    (!r1) = false,
    V.sc (.int .i64 ((List.map E3 r_.Counts).length : Int)) = V.sc (.int .i64 (r_.Counts.length : Int)),
    (!r1) = false,
    Fn Tryz.prog 10 [(false, E3 (r_.Counts.length : Int)), (false, E3 1), (false, E3 8)] (E4 r2) [],
    (true || ((E4 r2).nv && nvL [])) = true,
    (!r1) = false,
    (!r1) = false,
    (!r2) = false,
    (!r2) = false,
    (!r2) = false,
    V.sc (.int .i64 ((List.map E3 r_.Sums).length : Int)) = V.sc (.int .i64 (r_.Sums.length : Int)),
    (!r2) = false,
    (!r2) = false,
    (!r2) = false,
    V.sc (.int .i64 ((List.map E3 r_.Counts).length : Int)) = V.sc (.int .i64 (r_.Counts.length : Int)),
    (!r2) = false,
    (!r2) = false,
    ((r_.Sums.length : Int) != (r_.Counts.length : Int)) = false,
    ((r_.Sums.length : Int) != (r_.Counts.length : Int)) = false,
    ((r_.Sums.length : Int) != (r_.Counts.length : Int)) = false,
    Fn Tryz.prog 58 [(false, E3 r_.Head)] (E4 r3) [],
    (true || ((E4 r3).nv && nvL [])) = true,
    ((r_.Sums.length : Int) != (r_.Counts.length : Int)) = false,
    ((r_.Sums.length : Int) != (r_.Counts.length : Int)) = false,
    (!r3) = true]) (by kernel_rfl) (cj (spec_l01In_ok r_.Span 1 1000 r1 h1) (cj rfl (cj (nf h2) (cj (nf h2) (cj (nf h2) (cj (len_nm _ _) (cj (nf h2) (cj (spec_l01In_ok (r_.Counts.length : Int) 1 8 r2 h3) (cj rfl (cj (nf h2) (cj (nf h2) (cj (nf h4) (cj (nf h4) (cj (nf h4) (cj (len_nm _ _) (cj (nf h4) (cj (nf h4) (cj (nf h4) (cj (len_nm _ _) (cj (nf h4) (cj (nf h4) (cj h5 (cj h5 (cj h5 (cj (spec_l06Time_ok r_.Head r3 h6) (cj rfl (cj h5 (cj h5 (cj1 (nt h7))))))))))))))))))))))))))))))))))) (fun h4 =>
   Pn.some (Fn.of [.call [] (E4 r1) [], .bit false, .bit false, .bit false, .nm 11 (V.sc (.int .i64 (r_.Counts.length : Int))), .bit false, .call [] (E4 r2) [], .bit false, .bit false, .bit true, .bit true, .bit true, .bit true, .bit true, .bit true, .bit true, .bit true, .bit true, .bit true, .bit true, .bit true, .bit true, .bit true] (p := [Fn Tryz.prog 10 [(false, E3 r_.Span), (false, E3 1), (false, E3 1000)] (E4 r1) [],
    (true || ((E4 r1).nv && nvL [])) = true,
    (!r1) = false,
    (!r1) = false,
    (!r1) = false,
    V.sc (.int .i64 ((List.map E3 r_.Counts).length : Int)) = V.sc (.int .i64 (r_.Counts.length : Int)),
    (!r1) = false,
    Fn Tryz.prog 10 [(false, E3 (r_.Counts.length : Int)), (false, E3 1), (false, E3 8)] (E4 r2) [],
    (true || ((E4 r2).nv && nvL [])) = true,
    (!r1) = false,
    (!r1) = false,
    (!r2) = true,
    (!r2) = true,
    (!r2) = true,
    (!r2) = true,
    (!r2) = true,
    (!r2) = true,
    (!r2) = true,
    (!r2) = true,
    true = true,
    true = true,
    true = true,
    true = true,
    true = true,
    true = true]) (by kernel_rfl) (cj (spec_l01In_ok r_.Span 1 1000 r1 h1) (cj rfl (cj (nf h2) (cj (nf h2) (cj (nf h2) (cj (len_nm _ _) (cj (nf h2) (cj (spec_l01In_ok (r_.Counts.length : Int) 1 8 r2 h3) (cj rfl (cj (nf h2) (cj (nf h2) (cj (nt h4) (cj (nt h4) (cj (nt h4) (cj (nt h4) (cj (nt h4) (cj (nt h4) (cj (nt h4) (cj (nt h4) (cj rfl (cj rfl (cj rfl (cj rfl (cj rfl (cj1 rfl))))))))))))))))))))))))))))) (fun h2 =>
   Pn.some (Fn.of [.call [] (E4 r1) [], .bit true, .bit true, .bit true, .bit true, .bit true, .bit true, .bit true, .bit true, .bit true, .bit true, .bit true, .bit true, .bit true, .bit true, .bit true, .bit true, .bit true, .bit true, .bit true, .bit true] (p := [Fn Tryz.prog 10 [(false, E3 r_.Span), (false, E3 1), (false, E3 1000)] (E4 r1) [],
    (true || ((E4 r1).nv && nvL [])) = true,
    (!r1) = true,
    (!r1) = true,
    (!r1) = true,
    (!r1) = true,
    (!r1) = true,
    (!r1) = true,
    true = true,
    true = true,
    true = true,
    true = true,
    true = true,
    true = true,
    true = true,
    true = true,
    true = true,
    true = true,
    true = true,
    true = true,
    true = true,
    true = true]) (by kernel_rfl) (cj (spec_l01In_ok r_.Span 1 1000 r1 h1) (cj rfl (cj (nt h2) (cj (nt h2) (cj (nt h2) (cj (nt h2) (cj (nt h2) (cj (nt h2) (cj rfl (cj rfl (cj rfl (cj rfl (cj rfl (cj rfl (cj rfl (cj rfl (cj rfl (cj rfl (cj rfl (cj rfl (cj rfl (cj1 rfl)))))))))))))))))))))))))
def spec_SlotOk (s_ : Slot) : Option (Bool) :=
 (spec_Digits s_.Trace).bind fun r1 =>
 if r1 = true then
 if ((s_.Trace.size : Int) == 6) = true then
 (spec_Digits s_.Mti).bind fun r2 =>
 if r2 = true then
 if ((s_.Mti.size : Int) == 4) = true then
 (spec_l01In (s_.Reply.length : Int) 1 200).bind fun r3 =>
 some r3
 else
 some false
 else
 some false
 else
 some false
 else
 some false
theorem spec_SlotOk_ok (s_ : Slot) : Pn (fun y => Fn Tryz.prog 59 [(false, E89 s_)] (E4 y) []) (spec_SlotOk s_) := by
  unfold spec_SlotOk
  exact
   Pn.bind (fun r1 h1 =>
   Pn.ite (fun h2 =>
   Pn.ite (fun h3 =>
   Pn.bind (fun r2 h4 =>
   Pn.ite (fun h5 =>
   Pn.ite (fun h6 =>
   Pn.bind (fun r3 h7 =>
   Pn.some (Fn.of [.call [] (E4 r1) [], .bit true, .bit true, .bit true, .bit true, .bit true, .bit true, .bit true, .bit true, .call [] (E4 r2) [], .bit true, .bit true, .bit true, .bit true, .bit true, .bit true, .bit true, .bit true, .bit true, .nm 26 (V.sc (.int .i64 (s_.Reply.length : Int))), .bit true, .call [] (E4 r3) [], .bit true] (p := [Fn Tryz.prog 82 [(false, E9 s_.Trace)] (E4 r1) [],
    (true || ((E4 r1).nv && nvL [])) = true,
    r1 = true,
    r1 = true,
    r1 = true,
    r1 = true,
    r1 = true,
    ((s_.Trace.size : Int) == 6) = true,
    ((s_.Trace.size : Int) == 6) = true,
    ((s_.Trace.size : Int) == 6) = true,
    Fn Tryz.prog 82 [(false, E9 s_.Mti)] (E4 r2) [],
    (true || ((E4 r2).nv && nvL [])) = true,
    ((s_.Trace.size : Int) == 6) = true,
    r2 = true,
    r2 = true,
    r2 = true,
    r2 = true,
    r2 = true,
    ((s_.Mti.size : Int) == 4) = true,
    ((s_.Mti.size : Int) == 4) = true,
    ((s_.Mti.size : Int) == 4) = true,
    V.sc (.int .i64 ((List.map E5 s_.Reply).length : Int)) = V.sc (.int .i64 (s_.Reply.length : Int)),
    ((s_.Mti.size : Int) == 4) = true,
    Fn Tryz.prog 10 [(false, E3 (s_.Reply.length : Int)), (false, E3 1), (false, E3 200)] (E4 r3) [],
    (true || ((E4 r3).nv && nvL [])) = true,
    ((s_.Mti.size : Int) == 4) = true]) (by kernel_rfl) (cj (spec_Digits_ok s_.Trace r1 h1) (cj rfl (cj h2 (cj h2 (cj h2 (cj h2 (cj h2 (cj h3 (cj h3 (cj h3 (cj (spec_Digits_ok s_.Mti r2 h4) (cj rfl (cj h3 (cj h5 (cj h5 (cj h5 (cj h5 (cj h5 (cj h6 (cj h6 (cj h6 (cj (len_nm _ _) (cj h6 (cj (spec_l01In_ok (s_.Reply.length : Int) 1 200 r3 h7) (cj rfl (cj1 h6))))))))))))))))))))))))))))) (fun h6 =>
   Pn.some (Fn.of [.call [] (E4 r1) [], .bit true, .bit true, .bit true, .bit true, .bit true, .bit true, .bit true, .bit true, .call [] (E4 r2) [], .bit true, .bit true, .bit true, .bit true, .bit true, .bit true, .bit false, .bit false, .bit false, .bit false, .bit false] (p := [Fn Tryz.prog 82 [(false, E9 s_.Trace)] (E4 r1) [],
    (true || ((E4 r1).nv && nvL [])) = true,
    r1 = true,
    r1 = true,
    r1 = true,
    r1 = true,
    r1 = true,
    ((s_.Trace.size : Int) == 6) = true,
    ((s_.Trace.size : Int) == 6) = true,
    ((s_.Trace.size : Int) == 6) = true,
    Fn Tryz.prog 82 [(false, E9 s_.Mti)] (E4 r2) [],
    (true || ((E4 r2).nv && nvL [])) = true,
    ((s_.Trace.size : Int) == 6) = true,
    r2 = true,
    r2 = true,
    r2 = true,
    r2 = true,
    r2 = true,
    ((s_.Mti.size : Int) == 4) = false,
    ((s_.Mti.size : Int) == 4) = false,
    ((s_.Mti.size : Int) == 4) = false,
    ((s_.Mti.size : Int) == 4) = false,
    ((s_.Mti.size : Int) == 4) = false]) (by kernel_rfl) (cj (spec_Digits_ok s_.Trace r1 h1) (cj rfl (cj h2 (cj h2 (cj h2 (cj h2 (cj h2 (cj h3 (cj h3 (cj h3 (cj (spec_Digits_ok s_.Mti r2 h4) (cj rfl (cj h3 (cj h5 (cj h5 (cj h5 (cj h5 (cj h5 (cj h6 (cj h6 (cj h6 (cj h6 (cj1 h6)))))))))))))))))))))))))) (fun h5 =>
   Pn.some (Fn.of [.call [] (E4 r1) [], .bit true, .bit true, .bit true, .bit true, .bit true, .bit true, .bit true, .bit true, .call [] (E4 r2) [], .bit true, .bit false, .bit false, .bit false, .bit false, .bit false, .bit false, .bit false, .bit false, .bit false, .bit false] (p := [Fn Tryz.prog 82 [(false, E9 s_.Trace)] (E4 r1) [],
    (true || ((E4 r1).nv && nvL [])) = true,
    r1 = true,
    r1 = true,
    r1 = true,
    r1 = true,
    r1 = true,
    ((s_.Trace.size : Int) == 6) = true,
    ((s_.Trace.size : Int) == 6) = true,
    ((s_.Trace.size : Int) == 6) = true,
    Fn Tryz.prog 82 [(false, E9 s_.Mti)] (E4 r2) [],
    (true || ((E4 r2).nv && nvL [])) = true,
    ((s_.Trace.size : Int) == 6) = true,
    r2 = false,
    r2 = false,
    r2 = false,
    r2 = false,
    r2 = false,
    false = false,
    false = false,
    false = false,
    false = false,
    false = false]) (by kernel_rfl) (cj (spec_Digits_ok s_.Trace r1 h1) (cj rfl (cj h2 (cj h2 (cj h2 (cj h2 (cj h2 (cj h3 (cj h3 (cj h3 (cj (spec_Digits_ok s_.Mti r2 h4) (cj rfl (cj h3 (cj h5 (cj h5 (cj h5 (cj h5 (cj h5 (cj rfl (cj rfl (cj rfl (cj rfl (cj1 rfl))))))))))))))))))))))))))) (fun h3 =>
   Pn.some (Fn.of [.call [] (E4 r1) [], .bit true, .bit true, .bit true, .bit true, .bit true, .bit false, .bit false, .bit false, .bit false, .bit false, .bit false, .bit false, .bit false, .bit false, .bit false, .bit false, .bit false, .bit false, .bit false] (p := [Fn Tryz.prog 82 [(false, E9 s_.Trace)] (E4 r1) [],
    (true || ((E4 r1).nv && nvL [])) = true,
    r1 = true,
    r1 = true,
    r1 = true,
    r1 = true,
    r1 = true,
    ((s_.Trace.size : Int) == 6) = false,
    ((s_.Trace.size : Int) == 6) = false,
    ((s_.Trace.size : Int) == 6) = false,
    ((s_.Trace.size : Int) == 6) = false,
    false = false,
    false = false,
    false = false,
    false = false,
    false = false,
    false = false,
    false = false,
    false = false,
    false = false,
    false = false]) (by kernel_rfl) (cj (spec_Digits_ok s_.Trace r1 h1) (cj rfl (cj h2 (cj h2 (cj h2 (cj h2 (cj h2 (cj h3 (cj h3 (cj h3 (cj h3 (cj rfl (cj rfl (cj rfl (cj rfl (cj rfl (cj rfl (cj rfl (cj rfl (cj rfl (cj1 rfl)))))))))))))))))))))))) (fun h2 =>
   Pn.some (Fn.of [.call [] (E4 r1) [], .bit false, .bit false, .bit false, .bit false, .bit false, .bit false, .bit false, .bit false, .bit false, .bit false, .bit false, .bit false, .bit false, .bit false, .bit false, .bit false, .bit false, .bit false, .bit false] (p := [Fn Tryz.prog 82 [(false, E9 s_.Trace)] (E4 r1) [],
    (true || ((E4 r1).nv && nvL [])) = true,
    r1 = false,
    r1 = false,
    r1 = false,
    r1 = false,
    r1 = false,
    false = false,
    false = false,
    false = false,
    false = false,
    false = false,
    false = false,
    false = false,
    false = false,
    false = false,
    false = false,
    false = false,
    false = false,
    false = false,
    false = false]) (by kernel_rfl) (cj (spec_Digits_ok s_.Trace r1 h1) (cj rfl (cj h2 (cj h2 (cj h2 (cj h2 (cj h2 (cj rfl (cj rfl (cj rfl (cj rfl (cj rfl (cj rfl (cj rfl (cj rfl (cj rfl (cj rfl (cj rfl (cj rfl (cj rfl (cj1 rfl))))))))))))))))))))))))
def spec_SlotsOk_l1 (l : List Slot) (p1 : List Slot) (x1 : Slot) : List Slot → Option (Lo Unit Unit)
  | [] =>
   some (.out ())
  | x2 :: t2 =>
   if (x2.Trace == x1.Trace) = true then
   if (x2.Mti == x1.Mti) = true then
   some (.ret ())
   else
   spec_SlotsOk_l1 l p1 x1 t2
   else
   spec_SlotsOk_l1 l p1 x1 t2
theorem spec_SlotsOk_l1_ok (l : List Slot) (p1 : List Slot) (x1 : Slot) (h8 : capOk ((l.take ((p1.length : Int).toNat)).drop 0).length = true) : ∀ (t2 p2 : List Slot) (_ : ((l.take ((p1.length : Int).toNat)).drop 0) = p2 ++ t2) , Pn (LpO Tryz.prog (sub (codeOf Tryz.prog 36) [1, 0, 1, 0, 0, 1, 1, 0, 0, 1, 1, 1, 0, 0]) (st 42 [(0, V.sl false 89 (List.map E89 l)), (4, V.ptr 0 0), (7, V.sl false 89 (List.map E89 l)), (8, V.sc (.int .i64 (l.length : Int))), (9, V.sc (.int .i64 (p1.length : Int))), (19, V.sl false 89 (List.map E89 ((l.take ((p1.length : Int).toNat)).drop 0))), (20, V.sc (.int .i64 (((l.take ((p1.length : Int).toNat)).drop 0).length : Int))), (21, V.sc (.int .i64 (p2.length : Int)))] [Blk.box 89 [V.sc (.string x1.Trace), V.sc (.string x1.Mti), V.sl false 5 (List.map E5 x1.Reply)]] []) (fun (y : Lo Unit Unit) => Lo.elim y (fun s => (X.out 2, st 42 [(0, V.sl false 89 (List.map E89 l)), (7, V.sl false 89 (List.map E89 l)), (8, V.sc (.int .i64 (l.length : Int))), (9, V.sc (.int .i64 (p1.length : Int)))] [] [])) (fun s => (X.ret, st 42 [(2, V.sc (.bool false))] [] [])))) (spec_SlotsOk_l1 l p1 x1 t2)
  | [], p2, h7 => by
    unfold spec_SlotsOk_l1
    exact
     Pn.some (LpO.out [.bit false, .mask [0, 7, 8, 9], .ren []] (p := [(decide ((p2.length : Int) < (((l.take ((p1.length : Int).toNat)).drop 0).length : Int))) = false]) (by kernel_rfl) (show X.out 2 ≠ X.go from nofun) (cj1 (rng_end h7)))
  | x2 :: t2, p2, h7 => by
    unfold spec_SlotsOk_l1
    exact
     Pn.ite (fun h9 =>
     Pn.ite (fun h10 =>
     Pn.some (LpO.out [.bit true, .el (E89 x2), .bit true, .bit true, .bit true, .bit true, .bit true, .bit true, .bit true, .wait 1, .mask [2], .ren []] (p := [(decide ((p2.length : Int) < (((l.take ((p1.length : Int).toNat)).drop 0).length : Int))) = true,
      (0 : Int) ≤ (p2.length : Int),
      (List.map E89 ((l.take ((p1.length : Int).toNat)).drop 0))[(p2.length : Int).toNat]? = some (E89 x2),
      (x2.Trace == x1.Trace) = true,
      (x2.Trace == x1.Trace) = true,
      (x2.Trace == x1.Trace) = true,
      (x2.Trace == x1.Trace) = true,
      (x2.Trace == x1.Trace) = true,
      (x2.Trace == x1.Trace) = true,
      (x2.Mti == x1.Mti) = true]) (by kernel_rfl) (show X.ret ≠ X.go from nofun) (cj (rng_lt h7) (cj (by omega) (cj (rng_get _ h7) (cj h9 (cj h9 (cj h9 (cj h9 (cj h9 (cj h9 (cj1 h10)))))))))))) (fun h10 =>
     LpO.go [.bit true, .el (E89 x2), .bit true, .bit true, .bit true, .bit true, .bit true, .bit true, .bit false, .wait 2, .mask [0, 4, 7, 8, 9, 19, 20, 21], .ren [0], .nm 21 (V.sc (.int .i64 ((p2 ++ [x2]).length : Int)))] (p := [(decide ((p2.length : Int) < (((l.take ((p1.length : Int).toNat)).drop 0).length : Int))) = true,
      (0 : Int) ≤ (p2.length : Int),
      (List.map E89 ((l.take ((p1.length : Int).toNat)).drop 0))[(p2.length : Int).toNat]? = some (E89 x2),
      (x2.Trace == x1.Trace) = true,
      (x2.Trace == x1.Trace) = true,
      (x2.Trace == x1.Trace) = true,
      (x2.Trace == x1.Trace) = true,
      (x2.Trace == x1.Trace) = true,
      (x2.Trace == x1.Trace) = true,
      (x2.Mti == x1.Mti) = false,
      V.sc (.int .i64 (i64 ((p2.length : Int) + 1))) = V.sc (.int .i64 ((p2 ++ [x2]).length : Int))]) (by kernel_rfl) (cj (rng_lt h7) (cj (by omega) (cj (rng_get _ h7) (cj h9 (cj h9 (cj h9 (cj h9 (cj h9 (cj h9 (cj h10 (cj1 (rng_next h7 h8)))))))))))) (spec_SlotsOk_l1_ok l p1 x1 h8 t2 (p2 ++ [x2]) (rng_step h7)))) (fun h9 =>
     LpO.go [.bit true, .el (E89 x2), .bit false, .bit false, .bit false, .bit false, .bit false, .bit false, .bit false, .wait 2, .mask [0, 4, 7, 8, 9, 19, 20, 21], .ren [0], .nm 21 (V.sc (.int .i64 ((p2 ++ [x2]).length : Int)))] (p := [(decide ((p2.length : Int) < (((l.take ((p1.length : Int).toNat)).drop 0).length : Int))) = true,
      (0 : Int) ≤ (p2.length : Int),
      (List.map E89 ((l.take ((p1.length : Int).toNat)).drop 0))[(p2.length : Int).toNat]? = some (E89 x2),
      (x2.Trace == x1.Trace) = false,
      (x2.Trace == x1.Trace) = false,
      (x2.Trace == x1.Trace) = false,
      (x2.Trace == x1.Trace) = false,
      (x2.Trace == x1.Trace) = false,
      (x2.Trace == x1.Trace) = false,
      false = false,
      V.sc (.int .i64 (i64 ((p2.length : Int) + 1))) = V.sc (.int .i64 ((p2 ++ [x2]).length : Int))]) (by kernel_rfl) (cj (rng_lt h7) (cj (by omega) (cj (rng_get _ h7) (cj h9 (cj h9 (cj h9 (cj h9 (cj h9 (cj h9 (cj rfl (cj1 (rng_next h7 h8)))))))))))) (spec_SlotsOk_l1_ok l p1 x1 h8 t2 (p2 ++ [x2]) (rng_step h7)))
def spec_SlotsOk_l0 (l : List Slot) : List Slot → List Slot → Option (Lo Unit Unit)
  | [], p1 =>
   some (.out ())
  | x1 :: t1, p1 =>
   (spec_SlotOk x1).bind fun r1 =>
   if r1 = true then
   if (decide (0 ≤ (p1.length : Int))) = true then
   if (decide ((p1.length : Int) ≤ (l.length : Int))) = true then
   if (capOk ((l.take ((p1.length : Int).toNat)).drop 0).length) = true then
   (spec_SlotsOk_l1 l p1 x1 ((l.take ((p1.length : Int).toNat)).drop 0)).bind fun r2 =>
   Lo.elim r2 (fun s1 =>
   spec_SlotsOk_l0 l t1 (p1 ++ [x1])) (fun s2 =>
   some (.ret ()))
   else none
   else none
   else none
   else
   some (.ret ())
theorem spec_SlotsOk_l0_ok (l : List Slot) (h2 : capOk l.length = true) : ∀ (t1 p1 : List Slot) (_ : l = p1 ++ t1) , Pn (LpO Tryz.prog (sub (codeOf Tryz.prog 36) [1, 0, 1, 0, 0]) (st 42 [(0, V.sl false 89 (List.map E89 l)), (7, V.sl false 89 (List.map E89 l)), (8, V.sc (.int .i64 (l.length : Int))), (9, V.sc (.int .i64 (p1.length : Int)))] [] []) (fun (y : Lo Unit Unit) => Lo.elim y (fun s => (X.out 0, st 42 [(0, V.sl false 89 (List.map E89 l))] [] [])) (fun s => (X.ret, st 42 [(2, V.sc (.bool false))] [] [])))) (spec_SlotsOk_l0 l t1 p1)
  | [], p1, h1 => by
    unfold spec_SlotsOk_l0
    exact
     Pn.some (LpO.out [.bit false, .mask [0], .ren []] (p := [(decide ((p1.length : Int) < (l.length : Int))) = false]) (by kernel_rfl) (show X.out 0 ≠ X.go from nofun) (cj1 (rng_end h1)))
  | x1 :: t1, p1, h1 => by
    unfold spec_SlotsOk_l0
    exact
     Pn.bind (fun r1 h3 =>
     Pn.ite (fun h4 =>
     Pn.ite (fun h5 =>
     Pn.ite (fun h6 =>
     Pn.ite (fun h11 =>
     Pn.bind (fun r2 h12 =>
     Pn.lo (fun s1 h13 =>
     LpO.go [.bit true, .el (E89 x1), .call [] (E4 r1) [], .bit false, .wait 2, .nm 19 (V.sl false 89 (List.map E89 ((l.take ((p1.length : Int).toNat)).drop 0))), .wait 1, .nm 20 (V.sc (.int .i64 (((l.take ((p1.length : Int).toNat)).drop 0).length : Int))), .wait 2, .mask [0, 4, 7, 8, 9, 19, 20, 21], .ren [0], .loop (X.out 2) (st 42 [(0, V.sl false 89 (List.map E89 l)), (7, V.sl false 89 (List.map E89 l)), (8, V.sc (.int .i64 (l.length : Int))), (9, V.sc (.int .i64 (p1.length : Int)))] [] []), .wait 3, .mask [0, 7, 8, 9], .ren [], .nm 9 (V.sc (.int .i64 ((p1 ++ [x1]).length : Int)))] (p := [(decide ((p1.length : Int) < (l.length : Int))) = true,
      (0 : Int) ≤ (p1.length : Int),
      (List.map E89 l)[(p1.length : Int).toNat]? = some (E89 x1),
      Fn Tryz.prog 59 [(false, E89 x1)] (E4 r1) [],
      (true || ((E4 r1).nv && nvL [])) = true,
      (!r1) = false,
      (0 : Int) ≤ 0,
      (0 : Int) ≤ (p1.length : Int),
      ((p1.length : Int) : Int) ≤ ((List.map E89 l).length : Int),
      V.sl false 89 (((List.map E89 l).take ((p1.length : Int).toNat)).drop 0) = V.sl false 89 (List.map E89 ((l.take ((p1.length : Int).toNat)).drop 0)),
      V.sc (.int .i64 ((List.map E89 ((l.take ((p1.length : Int).toNat)).drop 0)).length : Int)) = V.sc (.int .i64 (((l.take ((p1.length : Int).toNat)).drop 0).length : Int)),
      Loop Tryz.prog (sub (codeOf Tryz.prog 36) [1, 0, 1, 0, 0, 1, 1, 0, 0, 1, 1, 1, 0, 0]) (st 42 [(0, V.sl false 89 (List.map E89 l)), (4, V.ptr 0 0), (7, V.sl false 89 (List.map E89 l)), (8, V.sc (.int .i64 (l.length : Int))), (9, V.sc (.int .i64 (p1.length : Int))), (19, V.sl false 89 (List.map E89 ((l.take ((p1.length : Int).toNat)).drop 0))), (20, V.sc (.int .i64 (((l.take ((p1.length : Int).toNat)).drop 0).length : Int))), (21, V.sc (.int .i64 0))] [Blk.box 89 [V.sc (.string x1.Trace), V.sc (.string x1.Mti), V.sl false 5 (List.map E5 x1.Reply)]] []) (X.out 2) (st 42 [(0, V.sl false 89 (List.map E89 l)), (7, V.sl false 89 (List.map E89 l)), (8, V.sc (.int .i64 (l.length : Int))), (9, V.sc (.int .i64 (p1.length : Int)))] [] []),
      V.sc (.int .i64 (i64 ((p1.length : Int) + 1))) = V.sc (.int .i64 ((p1 ++ [x1]).length : Int))]) (by kernel_rfl) (cj (rng_lt h1) (cj (by omega) (cj (rng_get _ h1) (cj (spec_SlotOk_ok x1 r1 h3) (cj rfl (cj (nf h4) (cj (by decide) (cj (od h5) (cj (by rw [List.length_map]; exact (od h6)) (cj (nm_cut _ _ _ _ _) (cj (len_nm _ _) (cj ((spec_SlotsOk_l1_ok l p1 x1 h11 ((l.take ((p1.length : Int).toNat)).drop 0) [] rfl r2 h12).at h13) (cj1 (rng_next h1 h2)))))))))))))) (spec_SlotsOk_l0_ok l h2 t1 (p1 ++ [x1]) (rng_step h1))) (fun s2 h14 =>
     Pn.some (LpO.out [.bit true, .el (E89 x1), .call [] (E4 r1) [], .bit false, .wait 2, .nm 19 (V.sl false 89 (List.map E89 ((l.take ((p1.length : Int).toNat)).drop 0))), .wait 1, .nm 20 (V.sc (.int .i64 (((l.take ((p1.length : Int).toNat)).drop 0).length : Int))), .wait 2, .mask [0, 4, 7, 8, 9, 19, 20, 21], .ren [0], .loop (X.ret) (st 42 [(2, V.sc (.bool false))] [] []), .wait 1, .mask [2], .ren []] (p := [(decide ((p1.length : Int) < (l.length : Int))) = true,
      (0 : Int) ≤ (p1.length : Int),
      (List.map E89 l)[(p1.length : Int).toNat]? = some (E89 x1),
      Fn Tryz.prog 59 [(false, E89 x1)] (E4 r1) [],
      (true || ((E4 r1).nv && nvL [])) = true,
      (!r1) = false,
      (0 : Int) ≤ 0,
      (0 : Int) ≤ (p1.length : Int),
      ((p1.length : Int) : Int) ≤ ((List.map E89 l).length : Int),
      V.sl false 89 (((List.map E89 l).take ((p1.length : Int).toNat)).drop 0) = V.sl false 89 (List.map E89 ((l.take ((p1.length : Int).toNat)).drop 0)),
      V.sc (.int .i64 ((List.map E89 ((l.take ((p1.length : Int).toNat)).drop 0)).length : Int)) = V.sc (.int .i64 (((l.take ((p1.length : Int).toNat)).drop 0).length : Int)),
      Loop Tryz.prog (sub (codeOf Tryz.prog 36) [1, 0, 1, 0, 0, 1, 1, 0, 0, 1, 1, 1, 0, 0]) (st 42 [(0, V.sl false 89 (List.map E89 l)), (4, V.ptr 0 0), (7, V.sl false 89 (List.map E89 l)), (8, V.sc (.int .i64 (l.length : Int))), (9, V.sc (.int .i64 (p1.length : Int))), (19, V.sl false 89 (List.map E89 ((l.take ((p1.length : Int).toNat)).drop 0))), (20, V.sc (.int .i64 (((l.take ((p1.length : Int).toNat)).drop 0).length : Int))), (21, V.sc (.int .i64 0))] [Blk.box 89 [V.sc (.string x1.Trace), V.sc (.string x1.Mti), V.sl false 5 (List.map E5 x1.Reply)]] []) (X.ret) (st 42 [(2, V.sc (.bool false))] [] [])]) (by kernel_rfl) (show X.ret ≠ X.go from nofun) (cj (rng_lt h1) (cj (by omega) (cj (rng_get _ h1) (cj (spec_SlotOk_ok x1 r1 h3) (cj rfl (cj (nf h4) (cj (by decide) (cj (od h5) (cj (by rw [List.length_map]; exact (od h6)) (cj (nm_cut _ _ _ _ _) (cj (len_nm _ _) (cj1 ((spec_SlotsOk_l1_ok l p1 x1 h11 ((l.take ((p1.length : Int).toNat)).drop 0) [] rfl r2 h12).at h14))))))))))))))))) (fun h11 =>
     Pn.none)) (fun h6 =>
     Pn.none)) (fun h5 =>
     Pn.none)) (fun h4 =>
     Pn.some (LpO.out [.bit true, .el (E89 x1), .call [] (E4 r1) [], .bit true, .wait 1, .mask [2], .ren []] (p := [(decide ((p1.length : Int) < (l.length : Int))) = true,
      (0 : Int) ≤ (p1.length : Int),
      (List.map E89 l)[(p1.length : Int).toNat]? = some (E89 x1),
      Fn Tryz.prog 59 [(false, E89 x1)] (E4 r1) [],
      (true || ((E4 r1).nv && nvL [])) = true,
      (!r1) = true]) (by kernel_rfl) (show X.ret ≠ X.go from nofun) (cj (rng_lt h1) (cj (by omega) (cj (rng_get _ h1) (cj (spec_SlotOk_ok x1 r1 h3) (cj rfl (cj1 (nt h4))))))))))
def spec_SlotsOk (l : List Slot) : Option (Bool) :=
 if (capOk l.length) = true then
 (spec_SlotsOk_l0 l l []).bind fun r3 =>
 Lo.elim r3 (fun s3 =>
 some (decide ((l.length : Int) ≤ 6))) (fun s4 =>
 some false)
 else none
theorem spec_SlotsOk_ok (l : List Slot) : Pn (fun y => Fn Tryz.prog 36 [(false, E41 l)] (E4 y) []) (spec_SlotsOk l) := by
  unfold spec_SlotsOk
  exact
   Pn.ite (fun h15 =>
   Pn.bind (fun r3 h16 =>
   Pn.lo (fun s3 h17 =>
   Pn.some (Fn.of [.wait 3, .nm 8 (V.sc (.int .i64 (l.length : Int))), .wait 2, .mask [0, 7, 8, 9], .ren [], .loop (X.out 0) (st 42 [(0, V.sl false 89 (List.map E89 l))] [] []), .wait 2, .nm 40 (V.sc (.int .i64 (l.length : Int)))] (p := [V.sc (.int .i64 ((List.map E89 l).length : Int)) = V.sc (.int .i64 (l.length : Int)),
    Loop Tryz.prog (sub (codeOf Tryz.prog 36) [1, 0, 1, 0, 0]) (st 42 [(0, V.sl false 89 (List.map E89 l)), (7, V.sl false 89 (List.map E89 l)), (8, V.sc (.int .i64 (l.length : Int))), (9, V.sc (.int .i64 0))] [] []) (X.out 0) (st 42 [(0, V.sl false 89 (List.map E89 l))] [] []),
    V.sc (.int .i64 ((List.map E89 l).length : Int)) = V.sc (.int .i64 (l.length : Int))]) (by kernel_rfl) (cj (len_nm _ _) (cj ((spec_SlotsOk_l0_ok l h15 l [] rfl r3 h16).at h17) (cj1 (len_nm _ _)))))) (fun s4 h18 =>
   Pn.some (Fn.of [.wait 3, .nm 8 (V.sc (.int .i64 (l.length : Int))), .wait 2, .mask [0, 7, 8, 9], .ren [], .loop (X.ret) (st 42 [(2, V.sc (.bool false))] [] [])] (p := [V.sc (.int .i64 ((List.map E89 l).length : Int)) = V.sc (.int .i64 (l.length : Int)),
    Loop Tryz.prog (sub (codeOf Tryz.prog 36) [1, 0, 1, 0, 0]) (st 42 [(0, V.sl false 89 (List.map E89 l)), (7, V.sl false 89 (List.map E89 l)), (8, V.sc (.int .i64 (l.length : Int))), (9, V.sc (.int .i64 0))] [] []) (X.ret) (st 42 [(2, V.sc (.bool false))] [] [])]) (by kernel_rfl) (cj (len_nm _ _) (cj1 ((spec_SlotsOk_l0_ok l h15 l [] rfl r3 h16).at h18))))))) (fun h15 =>
   Pn.none)
def spec_l01Clamp (n : Int) (lo : Int) (hi : Int) : Option (Int) :=
 if (decide (n < lo)) = true then
 some lo
 else
 if (decide (hi < n)) = true then
 some hi
 else
 some n
theorem spec_l01Clamp_ok (n : Int) (lo : Int) (hi : Int) : Pn (fun y => Fn Tryz.prog 61 [(false, E3 n), (false, E3 lo), (false, E3 hi)] (E3 y) []) (spec_l01Clamp n lo hi) := by
  unfold spec_l01Clamp
  exact
   Pn.ite (fun h1 =>
   Pn.some (Fn.of [.bit true] (p := [(decide (n < lo)) = true]) (by kernel_rfl) (cj1 h1))) (fun h1 =>
   Pn.ite (fun h2 =>
   Pn.some (Fn.of [.bit false, .bit true] (p := [(decide (n < lo)) = false,
    (decide (hi < n)) = true]) (by kernel_rfl) (cj h1 (cj1 h2)))) (fun h2 =>
   Pn.some (Fn.of [.bit false, .bit false] (p := [(decide (n < lo)) = false,
    (decide (hi < n)) = false]) (by kernel_rfl) (cj h1 (cj1 h2)))))
def spec_AddMoney (a : Int) (b : Int) : Option (Int × Bool) :=
 (spec_l01Money a).bind fun r1 =>
 if r1 = true then
 (spec_l01Money b).bind fun r2 =>
 if r2 = true then
 if (decide ((i64 (4611686018427387904 - b)) < a)) = true then
 some (0, false)
 else
 some (i64 (a + b), true)
 else
 some (0, false)
 else
 some (0, false)
theorem spec_AddMoney_ok (a : Int) (b : Int) : Pn (fun y => Fn Tryz.prog 60 [(false, E3 a), (false, E3 b)] (V.tup [E3 y.1, E4 y.2]) []) (spec_AddMoney a b) := by
  unfold spec_AddMoney
  exact
   Pn.bind (fun r1 h1 =>
   Pn.ite (fun h2 =>
   Pn.bind (fun r2 h3 =>
   Pn.ite (fun h4 =>
   Pn.ite (fun h5 =>
   Pn.some (Fn.of [.call [] (E4 r1) [], .bit false, .bit false, .call [] (E4 r2) [], .bit false, .bit false, .bit false, .bit false, .bit false, .bit false, .bit false, .bit true] (p := [Fn Tryz.prog 33 [(false, E3 a)] (E4 r1) [],
    (true || ((E4 r1).nv && nvL [])) = true,
    (!r1) = false,
    (!r1) = false,
    Fn Tryz.prog 33 [(false, E3 b)] (E4 r2) [],
    (true || ((E4 r2).nv && nvL [])) = true,
    (!r1) = false,
    (!r1) = false,
    (!r2) = false,
    (!r2) = false,
    (!r2) = false,
    (!r2) = false,
    (!r2) = false,
    (decide ((i64 (4611686018427387904 - b)) < a)) = true]) (by kernel_rfl) (cj (spec_l01Money_ok a r1 h1) (cj rfl (cj (nf h2) (cj (nf h2) (cj (spec_l01Money_ok b r2 h3) (cj rfl (cj (nf h2) (cj (nf h2) (cj (nf h4) (cj (nf h4) (cj (nf h4) (cj (nf h4) (cj (nf h4) (cj1 h5)))))))))))))))) (fun h5 =>
   Pn.some (Fn.of [.call [] (E4 r1) [], .bit false, .bit false, .call [] (E4 r2) [], .bit false, .bit false, .bit false, .bit false, .bit false, .bit false, .bit false, .bit false] (p := [Fn Tryz.prog 33 [(false, E3 a)] (E4 r1) [],
    (true || ((E4 r1).nv && nvL [])) = true,
    (!r1) = false,
    (!r1) = false,
    Fn Tryz.prog 33 [(false, E3 b)] (E4 r2) [],
    (true || ((E4 r2).nv && nvL [])) = true,
    (!r1) = false,
    (!r1) = false,
    (!r2) = false,
    (!r2) = false,
    (!r2) = false,
    (!r2) = false,
    (!r2) = false,
    (decide ((i64 (4611686018427387904 - b)) < a)) = false]) (by kernel_rfl) (cj (spec_l01Money_ok a r1 h1) (cj rfl (cj (nf h2) (cj (nf h2) (cj (spec_l01Money_ok b r2 h3) (cj rfl (cj (nf h2) (cj (nf h2) (cj (nf h4) (cj (nf h4) (cj (nf h4) (cj (nf h4) (cj (nf h4) (cj1 h5))))))))))))))))) (fun h4 =>
   Pn.some (Fn.of [.call [] (E4 r1) [], .bit false, .bit false, .call [] (E4 r2) [], .bit false, .bit false, .bit true, .bit true, .bit true, .bit true, .bit true, .bit true] (p := [Fn Tryz.prog 33 [(false, E3 a)] (E4 r1) [],
    (true || ((E4 r1).nv && nvL [])) = true,
    (!r1) = false,
    (!r1) = false,
    Fn Tryz.prog 33 [(false, E3 b)] (E4 r2) [],
    (true || ((E4 r2).nv && nvL [])) = true,
    (!r1) = false,
    (!r1) = false,
    (!r2) = true,
    (!r2) = true,
    (!r2) = true,
    (!r2) = true,
    (!r2) = true,
    true = true]) (by kernel_rfl) (cj (spec_l01Money_ok a r1 h1) (cj rfl (cj (nf h2) (cj (nf h2) (cj (spec_l01Money_ok b r2 h3) (cj rfl (cj (nf h2) (cj (nf h2) (cj (nt h4) (cj (nt h4) (cj (nt h4) (cj (nt h4) (cj (nt h4) (cj1 rfl)))))))))))))))))) (fun h2 =>
   Pn.some (Fn.of [.call [] (E4 r1) [], .bit true, .bit true, .bit true, .bit true, .bit true, .bit true, .bit true, .bit true, .bit true, .bit true] (p := [Fn Tryz.prog 33 [(false, E3 a)] (E4 r1) [],
    (true || ((E4 r1).nv && nvL [])) = true,
    (!r1) = true,
    (!r1) = true,
    (!r1) = true,
    (!r1) = true,
    true = true,
    true = true,
    true = true,
    true = true,
    true = true,
    true = true]) (by kernel_rfl) (cj (spec_l01Money_ok a r1 h1) (cj rfl (cj (nt h2) (cj (nt h2) (cj (nt h2) (cj (nt h2) (cj rfl (cj rfl (cj rfl (cj rfl (cj rfl (cj1 rfl)))))))))))))))
def spec_AddSat (a : Int) (b : Int) : Option (Int) :=
 (spec_l01Clamp a 0 4611686018427387904).bind fun r1 =>
 (spec_l01Clamp b 0 4611686018427387904).bind fun r2 =>
 (spec_AddMoney r1 r2).bind fun r3 =>
 if r3.2 = true then
 some r3.1
 else
 some 4611686018427387904
theorem spec_AddSat_ok (a : Int) (b : Int) : Pn (fun y => Fn Tryz.prog 37 [(false, E3 a), (false, E3 b)] (E3 y) []) (spec_AddSat a b) := by
  unfold spec_AddSat
  exact
   Pn.bind (fun r1 h1 =>
   Pn.bind (fun r2 h2 =>
   Pn.bind (fun r3 h3 =>
   Pn.ite (fun h4 =>
   Pn.some (Fn.of [.call [] (E3 r1) [], .call [] (E3 r2) [], .call [] (V.tup [E3 r3.1, E4 r3.2]) [], .bit false] (p := [Fn Tryz.prog 61 [(false, E3 a), (false, E3 0), (false, E3 4611686018427387904)] (E3 r1) [],
    (true || ((E3 r1).nv && nvL [])) = true,
    Fn Tryz.prog 61 [(false, E3 b), (false, E3 0), (false, E3 4611686018427387904)] (E3 r2) [],
    (true || ((E3 r2).nv && nvL [])) = true,
    Fn Tryz.prog 60 [(false, E3 r1), (false, E3 r2)] (V.tup [E3 r3.1, E4 r3.2]) [],
    (true || ((V.tup [E3 r3.1, E4 r3.2]).nv && nvL [])) = true,
    (!r3.2) = false]) (by kernel_rfl) (cj (spec_l01Clamp_ok a 0 4611686018427387904 r1 h1) (cj rfl (cj (spec_l01Clamp_ok b 0 4611686018427387904 r2 h2) (cj rfl (cj (spec_AddMoney_ok r1 r2 r3 h3) (cj rfl (cj1 (nf h4)))))))))) (fun h4 =>
   Pn.some (Fn.of [.call [] (E3 r1) [], .call [] (E3 r2) [], .call [] (V.tup [E3 r3.1, E4 r3.2]) [], .bit true] (p := [Fn Tryz.prog 61 [(false, E3 a), (false, E3 0), (false, E3 4611686018427387904)] (E3 r1) [],
    (true || ((E3 r1).nv && nvL [])) = true,
    Fn Tryz.prog 61 [(false, E3 b), (false, E3 0), (false, E3 4611686018427387904)] (E3 r2) [],
    (true || ((E3 r2).nv && nvL [])) = true,
    Fn Tryz.prog 60 [(false, E3 r1), (false, E3 r2)] (V.tup [E3 r3.1, E4 r3.2]) [],
    (true || ((V.tup [E3 r3.1, E4 r3.2]).nv && nvL [])) = true,
    (!r3.2) = true]) (by kernel_rfl) (cj (spec_l01Clamp_ok a 0 4611686018427387904 r1 h1) (cj rfl (cj (spec_l01Clamp_ok b 0 4611686018427387904 r2 h2) (cj rfl (cj (spec_AddMoney_ok r1 r2 r3 h3) (cj rfl (cj1 (nt h4)))))))))))))
def spec_Stored_l0 (l : List Hold) : List Hold → Int → Option (Int)
  | [], v1 =>
   some v1
  | x1 :: t1, v1 =>
   (spec_AddSat v1 x1.Amount).bind fun r1 =>
   spec_Stored_l0 l t1 r1
theorem spec_Stored_l0_ok (l : List Hold) (h2 : capOk l.length = true) : ∀ (t1 p1 : List Hold) (_ : l = p1 ++ t1) (v1 : Int), Pn (LpO Tryz.prog (sub (codeOf Tryz.prog 38) [1, 1, 0, 1, 0, 0]) (st 18 [(3, V.sc (.int .i64 v1)), (6, V.sl false 85 (List.map E85 l)), (7, V.sc (.int .i64 (l.length : Int))), (8, V.sc (.int .i64 (p1.length : Int)))] [] []) (fun (y : Int) => (X.out 0, st 18 [(3, V.sc (.int .i64 y))] [] []))) (spec_Stored_l0 l t1 v1)
  | [], p1, h1, v1 => by
    unfold spec_Stored_l0
    exact
     Pn.some (LpO.out [.bit false, .mask [3], .ren []] (p := [(decide ((p1.length : Int) < (l.length : Int))) = false]) (by kernel_rfl) (show X.out 0 ≠ X.go from nofun) (cj1 (rng_end h1)))
  | x1 :: t1, p1, h1, v1 => by
    unfold spec_Stored_l0
    exact
     Pn.bind (fun r1 h3 =>
     LpO.go [.bit true, .el (E85 x1), .call [] (E3 r1) [], .wait 4, .mask [3, 6, 7, 8], .ren [], .nm 8 (V.sc (.int .i64 ((p1 ++ [x1]).length : Int)))] (p := [(decide ((p1.length : Int) < (l.length : Int))) = true,
      (0 : Int) ≤ (p1.length : Int),
      (List.map E85 l)[(p1.length : Int).toNat]? = some (E85 x1),
      Fn Tryz.prog 37 [(false, E3 v1), (false, E3 x1.Amount)] (E3 r1) [],
      (true || ((E3 r1).nv && nvL [])) = true,
      V.sc (.int .i64 (i64 ((p1.length : Int) + 1))) = V.sc (.int .i64 ((p1 ++ [x1]).length : Int))]) (by kernel_rfl) (cj (rng_lt h1) (cj (by omega) (cj (rng_get _ h1) (cj (spec_AddSat_ok v1 x1.Amount r1 h3) (cj rfl (cj1 (rng_next h1 h2))))))) (spec_Stored_l0_ok l h2 t1 (p1 ++ [x1]) (rng_step h1) r1))
def spec_Stored (l : List Hold) : Option (Int) :=
 if (capOk l.length) = true then
 (spec_Stored_l0 l l 0).bind fun r2 =>
 some r2
 else none
theorem spec_Stored_ok (l : List Hold) : Pn (fun y => Fn Tryz.prog 38 [(false, E37 l)] (E3 y) []) (spec_Stored l) := by
  unfold spec_Stored
  exact
   Pn.ite (fun h4 =>
   Pn.bind (fun r2 h5 =>
   Pn.some (Fn.of [.wait 4, .nm 7 (V.sc (.int .i64 (l.length : Int))), .wait 2, .mask [3, 6, 7, 8], .ren [], .loop (X.out 0) (st 18 [(3, V.sc (.int .i64 r2))] [] [])] (p := [V.sc (.int .i64 ((List.map E85 l).length : Int)) = V.sc (.int .i64 (l.length : Int)),
    Loop Tryz.prog (sub (codeOf Tryz.prog 38) [1, 1, 0, 1, 0, 0]) (st 18 [(3, V.sc (.int .i64 0)), (6, V.sl false 85 (List.map E85 l)), (7, V.sc (.int .i64 (l.length : Int))), (8, V.sc (.int .i64 0))] [] []) (X.out 0) (st 18 [(3, V.sc (.int .i64 r2))] [] [])]) (by kernel_rfl) (cj (len_nm _ _) (cj1 (spec_Stored_l0_ok l h4 l [] rfl 0 r2 h5)))))) (fun h4 =>
   Pn.none)
def spec_AcctOk (a : Acct) : Option (Bool) :=
 (spec_AcctIdOk a.Id).bind fun r1 =>
 if r1 = true then
 (spec_l01In a.Limit 0 9007199254740992).bind fun r2 =>
 if r2 = true then
 (spec_l01In a.Most 0 1000).bind fun r3 =>
 if r3 = true then
 (spec_l01In a.MostSum 0 9007199254740992).bind fun r4 =>
 if r4 = true then
 (spec_l01Money a.Posted).bind fun r5 =>
 if r5 = true then
 (spec_HoldsOk a.Holds).bind fun r6 =>
 if r6 = true then
 (spec_RingOk a.Ring).bind fun r7 =>
 if r7 = true then
 (spec_SlotsOk a.Slots).bind fun r8 =>
 if r8 = true then
 (spec_Stored a.Holds).bind fun r9 =>
 (spec_AddSat a.Posted r9).bind fun r10 =>
 some (decide (r10 ≤ a.Limit))
 else
 some false
 else
 some false
 else
 some false
 else
 some false
 else
 some false
 else
 some false
 else
 some false
 else
 some false
theorem spec_AcctOk_ok (a : Acct) : Pn (fun y => Fn Tryz.prog 22 [(false, E43 a)] (E4 y) []) (spec_AcctOk a) := by
  unfold spec_AcctOk
  exact
   Pn.bind (fun r1 h1 =>
   Pn.ite (fun h2 =>
   Pn.bind (fun r2 h3 =>
   Pn.ite (fun h4 =>
   Pn.bind (fun r3 h5 =>
   Pn.ite (fun h6 =>
   Pn.bind (fun r4 h7 =>
   Pn.ite (fun h8 =>
   Pn.bind (fun r5 h9 =>
   Pn.ite (fun h10 =>
   Pn.bind (fun r6 h11 =>
   Pn.ite (fun h12 =>
   Pn.bind (fun r7 h13 =>
   Pn.ite (fun h14 =>
   Pn.bind (fun r8 h15 =>
   Pn.ite (fun h16 =>
   Pn.bind (fun r9 h17 =>
   Pn.bind (fun r10 h18 =>
   Pn.some (Fn.of [.call [] (E4 r1) [], .bit false, .bit false, .bit false, .call [] (E4 r2) [], .bit false, .bit false, .bit false, .bit false, .bit false, .call [] (E4 r3) [], .bit false, .bit false, .bit false, .bit false, .bit false, .call [] (E4 r4) [], .bit false, .bit false, .bit false, .bit false, .bit false, .call [] (E4 r5) [], .bit false, .bit false, .bit false, .draw [], .call [] (E4 r6) [], .bit true, .bit true, .bit true, .call [] (E4 r7) [], .bit true, .bit true, .bit true, .bit true, .call [] (E4 r8) [], .bit true, .bit true, .bit true, .bit true, .bit true, .bit true, .bit true, .bit true, .call [] (E3 r9) [], .bit true, .call [] (E3 r10) [], .bit true, .bit true] (p := [Fn Tryz.prog 32 [(false, E9 a.Id)] (E4 r1) [],
    (true || ((E4 r1).nv && nvL [])) = true,
    (!r1) = false,
    (!r1) = false,
    (!r1) = false,
    Fn Tryz.prog 10 [(false, E3 a.Limit), (false, E3 0), (false, E3 9007199254740992)] (E4 r2) [],
    (true || ((E4 r2).nv && nvL [])) = true,
    (!r1) = false,
    (!r1) = false,
    (!r2) = false,
    (!r2) = false,
    (!r2) = false,
    Fn Tryz.prog 10 [(false, E3 a.Most), (false, E3 0), (false, E3 1000)] (E4 r3) [],
    (true || ((E4 r3).nv && nvL [])) = true,
    (!r2) = false,
    (!r2) = false,
    (!r3) = false,
    (!r3) = false,
    (!r3) = false,
    Fn Tryz.prog 10 [(false, E3 a.MostSum), (false, E3 0), (false, E3 9007199254740992)] (E4 r4) [],
    (true || ((E4 r4).nv && nvL [])) = true,
    (!r3) = false,
    (!r3) = false,
    (!r4) = false,
    (!r4) = false,
    (!r4) = false,
    Fn Tryz.prog 33 [(false, E3 a.Posted)] (E4 r5) [],
    (true || ((E4 r5).nv && nvL [])) = true,
    (!r4) = false,
    (!r4) = false,
    (!r5) = false,
    Fn Tryz.prog 34 [(false, E37 a.Holds)] (E4 r6) [],
    (true || ((E4 r6).nv && nvL [])) = true,
    r6 = true,
    r6 = true,
    r6 = true,
    Fn Tryz.prog 35 [(false, E40 a.Ring)] (E4 r7) [],
    (true || ((E4 r7).nv && nvL [])) = true,
    r6 = true,
    r7 = true,
    r7 = true,
    r7 = true,
    Fn Tryz.prog 36 [(false, E41 a.Slots)] (E4 r8) [],
    (true || ((E4 r8).nv && nvL [])) = true,
    r7 = true,
    r8 = true,
    r8 = true,
    r8 = true,
    r8 = true,
    r8 = true,
    r8 = true,
    r8 = true,
    Fn Tryz.prog 38 [(false, E37 a.Holds)] (E3 r9) [],
    (true || ((E3 r9).nv && nvL [])) = true,
    r8 = true,
    Fn Tryz.prog 37 [(false, E3 a.Posted), (false, E3 r9)] (E3 r10) [],
    (true || ((E3 r10).nv && nvL [])) = true,
    r8 = true,
    r8 = true]) (by kernel_rfl) (cj (spec_AcctIdOk_ok a.Id r1 h1) (cj rfl (cj (nf h2) (cj (nf h2) (cj (nf h2) (cj (spec_l01In_ok a.Limit 0 9007199254740992 r2 h3) (cj rfl (cj (nf h2) (cj (nf h2) (cj (nf h4) (cj (nf h4) (cj (nf h4) (cj (spec_l01In_ok a.Most 0 1000 r3 h5) (cj rfl (cj (nf h4) (cj (nf h4) (cj (nf h6) (cj (nf h6) (cj (nf h6) (cj (spec_l01In_ok a.MostSum 0 9007199254740992 r4 h7) (cj rfl (cj (nf h6) (cj (nf h6) (cj (nf h8) (cj (nf h8) (cj (nf h8) (cj (spec_l01Money_ok a.Posted r5 h9) (cj rfl (cj (nf h8) (cj (nf h8) (cj (nf h10) (cj (spec_HoldsOk_ok a.Holds r6 h11) (cj rfl (cj h12 (cj h12 (cj h12 (cj (spec_RingOk_ok a.Ring r7 h13) (cj rfl (cj h12 (cj h14 (cj h14 (cj h14 (cj (spec_SlotsOk_ok a.Slots r8 h15) (cj rfl (cj h14 (cj h16 (cj h16 (cj h16 (cj h16 (cj h16 (cj h16 (cj h16 (cj (spec_Stored_ok a.Holds r9 h17) (cj rfl (cj h16 (cj (spec_AddSat_ok a.Posted r9 r10 h18) (cj rfl (cj h16 (cj1 h16))))))))))))))))))))))))))))))))))))))))))))))))))))))))))))))) (fun h16 =>
   Pn.some (Fn.of [.call [] (E4 r1) [], .bit false, .bit false, .bit false, .call [] (E4 r2) [], .bit false, .bit false, .bit false, .bit false, .bit false, .call [] (E4 r3) [], .bit false, .bit false, .bit false, .bit false, .bit false, .call [] (E4 r4) [], .bit false, .bit false, .bit false, .bit false, .bit false, .call [] (E4 r5) [], .bit false, .bit false, .bit false, .draw [], .call [] (E4 r6) [], .bit true, .bit true, .bit true, .call [] (E4 r7) [], .bit true, .bit true, .bit true, .bit true, .call [] (E4 r8) [], .bit true, .bit false, .bit false, .bit false, .bit false, .bit false, .bit false, .bit false, .bit false, .bit false, .bit false] (p := [Fn Tryz.prog 32 [(false, E9 a.Id)] (E4 r1) [],
    (true || ((E4 r1).nv && nvL [])) = true,
    (!r1) = false,
    (!r1) = false,
    (!r1) = false,
    Fn Tryz.prog 10 [(false, E3 a.Limit), (false, E3 0), (false, E3 9007199254740992)] (E4 r2) [],
    (true || ((E4 r2).nv && nvL [])) = true,
    (!r1) = false,
    (!r1) = false,
    (!r2) = false,
    (!r2) = false,
    (!r2) = false,
    Fn Tryz.prog 10 [(false, E3 a.Most), (false, E3 0), (false, E3 1000)] (E4 r3) [],
    (true || ((E4 r3).nv && nvL [])) = true,
    (!r2) = false,
    (!r2) = false,
    (!r3) = false,
    (!r3) = false,
    (!r3) = false,
    Fn Tryz.prog 10 [(false, E3 a.MostSum), (false, E3 0), (false, E3 9007199254740992)] (E4 r4) [],
    (true || ((E4 r4).nv && nvL [])) = true,
    (!r3) = false,
    (!r3) = false,
    (!r4) = false,
    (!r4) = false,
    (!r4) = false,
    Fn Tryz.prog 33 [(false, E3 a.Posted)] (E4 r5) [],
    (true || ((E4 r5).nv && nvL [])) = true,
    (!r4) = false,
    (!r4) = false,
    (!r5) = false,
    Fn Tryz.prog 34 [(false, E37 a.Holds)] (E4 r6) [],
    (true || ((E4 r6).nv && nvL [])) = true,
    r6 = true,
    r6 = true,
    r6 = true,
    Fn Tryz.prog 35 [(false, E40 a.Ring)] (E4 r7) [],
    (true || ((E4 r7).nv && nvL [])) = true,
    r6 = true,
    r7 = true,
    r7 = true,
    r7 = true,
    Fn Tryz.prog 36 [(false, E41 a.Slots)] (E4 r8) [],
    (true || ((E4 r8).nv && nvL [])) = true,
    r7 = true,
    r8 = false,
    r8 = false,
    r8 = false,
    r8 = false,
    r8 = false,
    r8 = false,
    r8 = false,
    r8 = false,
    r8 = false,
    r8 = false]) (by kernel_rfl) (cj (spec_AcctIdOk_ok a.Id r1 h1) (cj rfl (cj (nf h2) (cj (nf h2) (cj (nf h2) (cj (spec_l01In_ok a.Limit 0 9007199254740992 r2 h3) (cj rfl (cj (nf h2) (cj (nf h2) (cj (nf h4) (cj (nf h4) (cj (nf h4) (cj (spec_l01In_ok a.Most 0 1000 r3 h5) (cj rfl (cj (nf h4) (cj (nf h4) (cj (nf h6) (cj (nf h6) (cj (nf h6) (cj (spec_l01In_ok a.MostSum 0 9007199254740992 r4 h7) (cj rfl (cj (nf h6) (cj (nf h6) (cj (nf h8) (cj (nf h8) (cj (nf h8) (cj (spec_l01Money_ok a.Posted r5 h9) (cj rfl (cj (nf h8) (cj (nf h8) (cj (nf h10) (cj (spec_HoldsOk_ok a.Holds r6 h11) (cj rfl (cj h12 (cj h12 (cj h12 (cj (spec_RingOk_ok a.Ring r7 h13) (cj rfl (cj h12 (cj h14 (cj h14 (cj h14 (cj (spec_SlotsOk_ok a.Slots r8 h15) (cj rfl (cj h14 (cj h16 (cj h16 (cj h16 (cj h16 (cj h16 (cj h16 (cj h16 (cj h16 (cj h16 (cj1 h16))))))))))))))))))))))))))))))))))))))))))))))))))))))))))) (fun h14 =>
   Pn.some (Fn.of [.call [] (E4 r1) [], .bit false, .bit false, .bit false, .call [] (E4 r2) [], .bit false, .bit false, .bit false, .bit false, .bit false, .call [] (E4 r3) [], .bit false, .bit false, .bit false, .bit false, .bit false, .call [] (E4 r4) [], .bit false, .bit false, .bit false, .bit false, .bit false, .call [] (E4 r5) [], .bit false, .bit false, .bit false, .draw [], .call [] (E4 r6) [], .bit true, .bit true, .bit true, .call [] (E4 r7) [], .bit true, .bit false, .bit false, .bit false, .bit false, .bit false, .bit false, .bit false, .bit false, .bit false, .bit false, .bit false, .bit false, .bit false, .bit false] (p := [Fn Tryz.prog 32 [(false, E9 a.Id)] (E4 r1) [],
    (true || ((E4 r1).nv && nvL [])) = true,
    (!r1) = false,
    (!r1) = false,
    (!r1) = false,
    Fn Tryz.prog 10 [(false, E3 a.Limit), (false, E3 0), (false, E3 9007199254740992)] (E4 r2) [],
    (true || ((E4 r2).nv && nvL [])) = true,
    (!r1) = false,
    (!r1) = false,
    (!r2) = false,
    (!r2) = false,
    (!r2) = false,
    Fn Tryz.prog 10 [(false, E3 a.Most), (false, E3 0), (false, E3 1000)] (E4 r3) [],
    (true || ((E4 r3).nv && nvL [])) = true,
    (!r2) = false,
    (!r2) = false,
    (!r3) = false,
    (!r3) = false,
    (!r3) = false,
    Fn Tryz.prog 10 [(false, E3 a.MostSum), (false, E3 0), (false, E3 9007199254740992)] (E4 r4) [],
    (true || ((E4 r4).nv && nvL [])) = true,
    (!r3) = false,
    (!r3) = false,
    (!r4) = false,
    (!r4) = false,
    (!r4) = false,
    Fn Tryz.prog 33 [(false, E3 a.Posted)] (E4 r5) [],
    (true || ((E4 r5).nv && nvL [])) = true,
    (!r4) = false,
    (!r4) = false,
    (!r5) = false,
    Fn Tryz.prog 34 [(false, E37 a.Holds)] (E4 r6) [],
    (true || ((E4 r6).nv && nvL [])) = true,
    r6 = true,
    r6 = true,
    r6 = true,
    Fn Tryz.prog 35 [(false, E40 a.Ring)] (E4 r7) [],
    (true || ((E4 r7).nv && nvL [])) = true,
    r6 = true,
    r7 = false,
    r7 = false,
    r7 = false,
    r7 = false,
    false = false,
    false = false,
    false = false,
    false = false,
    false = false,
    false = false,
    false = false,
    false = false,
    false = false,
    false = false]) (by kernel_rfl) (cj (spec_AcctIdOk_ok a.Id r1 h1) (cj rfl (cj (nf h2) (cj (nf h2) (cj (nf h2) (cj (spec_l01In_ok a.Limit 0 9007199254740992 r2 h3) (cj rfl (cj (nf h2) (cj (nf h2) (cj (nf h4) (cj (nf h4) (cj (nf h4) (cj (spec_l01In_ok a.Most 0 1000 r3 h5) (cj rfl (cj (nf h4) (cj (nf h4) (cj (nf h6) (cj (nf h6) (cj (nf h6) (cj (spec_l01In_ok a.MostSum 0 9007199254740992 r4 h7) (cj rfl (cj (nf h6) (cj (nf h6) (cj (nf h8) (cj (nf h8) (cj (nf h8) (cj (spec_l01Money_ok a.Posted r5 h9) (cj rfl (cj (nf h8) (cj (nf h8) (cj (nf h10) (cj (spec_HoldsOk_ok a.Holds r6 h11) (cj rfl (cj h12 (cj h12 (cj h12 (cj (spec_RingOk_ok a.Ring r7 h13) (cj rfl (cj h12 (cj h14 (cj h14 (cj h14 (cj h14 (cj rfl (cj rfl (cj rfl (cj rfl (cj rfl (cj rfl (cj rfl (cj rfl (cj rfl (cj1 rfl))))))))))))))))))))))))))))))))))))))))))))))))))))))))) (fun h12 =>
   Pn.some (Fn.of [.call [] (E4 r1) [], .bit false, .bit false, .bit false, .call [] (E4 r2) [], .bit false, .bit false, .bit false, .bit false, .bit false, .call [] (E4 r3) [], .bit false, .bit false, .bit false, .bit false, .bit false, .call [] (E4 r4) [], .bit false, .bit false, .bit false, .bit false, .bit false, .call [] (E4 r5) [], .bit false, .bit false, .bit false, .draw [], .call [] (E4 r6) [], .bit false, .bit false, .bit false, .bit false, .bit false, .bit false, .bit false, .bit false, .bit false, .bit false, .bit false, .bit false, .bit false, .bit false, .bit false, .bit false, .bit false, .bit false] (p := [Fn Tryz.prog 32 [(false, E9 a.Id)] (E4 r1) [],
    (true || ((E4 r1).nv && nvL [])) = true,
    (!r1) = false,
    (!r1) = false,
    (!r1) = false,
    Fn Tryz.prog 10 [(false, E3 a.Limit), (false, E3 0), (false, E3 9007199254740992)] (E4 r2) [],
    (true || ((E4 r2).nv && nvL [])) = true,
    (!r1) = false,
    (!r1) = false,
    (!r2) = false,
    (!r2) = false,
    (!r2) = false,
    Fn Tryz.prog 10 [(false, E3 a.Most), (false, E3 0), (false, E3 1000)] (E4 r3) [],
    (true || ((E4 r3).nv && nvL [])) = true,
    (!r2) = false,
    (!r2) = false,
    (!r3) = false,
    (!r3) = false,
    (!r3) = false,
    Fn Tryz.prog 10 [(false, E3 a.MostSum), (false, E3 0), (false, E3 9007199254740992)] (E4 r4) [],
    (true || ((E4 r4).nv && nvL [])) = true,
    (!r3) = false,
    (!r3) = false,
    (!r4) = false,
    (!r4) = false,
    (!r4) = false,
    Fn Tryz.prog 33 [(false, E3 a.Posted)] (E4 r5) [],
    (true || ((E4 r5).nv && nvL [])) = true,
    (!r4) = false,
    (!r4) = false,
    (!r5) = false,
    Fn Tryz.prog 34 [(false, E37 a.Holds)] (E4 r6) [],
    (true || ((E4 r6).nv && nvL [])) = true,
    r6 = false,
    r6 = false,
    r6 = false,
    r6 = false,
    false = false,
    false = false,
    false = false,
    false = false,
    false = false,
    false = false,
    false = false,
    false = false,
    false = false,
    false = false,
    false = false,
    false = false,
    false = false,
    false = false]) (by kernel_rfl) (cj (spec_AcctIdOk_ok a.Id r1 h1) (cj rfl (cj (nf h2) (cj (nf h2) (cj (nf h2) (cj (spec_l01In_ok a.Limit 0 9007199254740992 r2 h3) (cj rfl (cj (nf h2) (cj (nf h2) (cj (nf h4) (cj (nf h4) (cj (nf h4) (cj (spec_l01In_ok a.Most 0 1000 r3 h5) (cj rfl (cj (nf h4) (cj (nf h4) (cj (nf h6) (cj (nf h6) (cj (nf h6) (cj (spec_l01In_ok a.MostSum 0 9007199254740992 r4 h7) (cj rfl (cj (nf h6) (cj (nf h6) (cj (nf h8) (cj (nf h8) (cj (nf h8) (cj (spec_l01Money_ok a.Posted r5 h9) (cj rfl (cj (nf h8) (cj (nf h8) (cj (nf h10) (cj (spec_HoldsOk_ok a.Holds r6 h11) (cj rfl (cj h12 (cj h12 (cj h12 (cj h12 (cj rfl (cj rfl (cj rfl (cj rfl (cj rfl (cj rfl (cj rfl (cj rfl (cj rfl (cj rfl (cj rfl (cj rfl (cj rfl (cj1 rfl))))))))))))))))))))))))))))))))))))))))))))))))))))))) (fun h10 =>
   Pn.some (Fn.of [.call [] (E4 r1) [], .bit false, .bit false, .bit false, .call [] (E4 r2) [], .bit false, .bit false, .bit false, .bit false, .bit false, .call [] (E4 r3) [], .bit false, .bit false, .bit false, .bit false, .bit false, .call [] (E4 r4) [], .bit false, .bit false, .bit false, .bit false, .bit false, .call [] (E4 r5) [], .bit false, .bit false, .bit true] (p := [Fn Tryz.prog 32 [(false, E9 a.Id)] (E4 r1) [],
    (true || ((E4 r1).nv && nvL [])) = true,
    (!r1) = false,
    (!r1) = false,
    (!r1) = false,
    Fn Tryz.prog 10 [(false, E3 a.Limit), (false, E3 0), (false, E3 9007199254740992)] (E4 r2) [],
    (true || ((E4 r2).nv && nvL [])) = true,
    (!r1) = false,
    (!r1) = false,
    (!r2) = false,
    (!r2) = false,
    (!r2) = false,
    Fn Tryz.prog 10 [(false, E3 a.Most), (false, E3 0), (false, E3 1000)] (E4 r3) [],
    (true || ((E4 r3).nv && nvL [])) = true,
    (!r2) = false,
    (!r2) = false,
    (!r3) = false,
    (!r3) = false,
    (!r3) = false,
    Fn Tryz.prog 10 [(false, E3 a.MostSum), (false, E3 0), (false, E3 9007199254740992)] (E4 r4) [],
    (true || ((E4 r4).nv && nvL [])) = true,
    (!r3) = false,
    (!r3) = false,
    (!r4) = false,
    (!r4) = false,
    (!r4) = false,
    Fn Tryz.prog 33 [(false, E3 a.Posted)] (E4 r5) [],
    (true || ((E4 r5).nv && nvL [])) = true,
    (!r4) = false,
    (!r4) = false,
    (!r5) = true]) (by kernel_rfl) (cj (spec_AcctIdOk_ok a.Id r1 h1) (cj rfl (cj (nf h2) (cj (nf h2) (cj (nf h2) (cj (spec_l01In_ok a.Limit 0 9007199254740992 r2 h3) (cj rfl (cj (nf h2) (cj (nf h2) (cj (nf h4) (cj (nf h4) (cj (nf h4) (cj (spec_l01In_ok a.Most 0 1000 r3 h5) (cj rfl (cj (nf h4) (cj (nf h4) (cj (nf h6) (cj (nf h6) (cj (nf h6) (cj (spec_l01In_ok a.MostSum 0 9007199254740992 r4 h7) (cj rfl (cj (nf h6) (cj (nf h6) (cj (nf h8) (cj (nf h8) (cj (nf h8) (cj (spec_l01Money_ok a.Posted r5 h9) (cj rfl (cj (nf h8) (cj (nf h8) (cj1 (nt h10)))))))))))))))))))))))))))))))))))) (fun h8 =>
   Pn.some (Fn.of [.call [] (E4 r1) [], .bit false, .bit false, .bit false, .call [] (E4 r2) [], .bit false, .bit false, .bit false, .bit false, .bit false, .call [] (E4 r3) [], .bit false, .bit false, .bit false, .bit false, .bit false, .call [] (E4 r4) [], .bit false, .bit false, .bit true, .bit true, .bit true, .bit true, .bit true, .bit true] (p := [Fn Tryz.prog 32 [(false, E9 a.Id)] (E4 r1) [],
    (true || ((E4 r1).nv && nvL [])) = true,
    (!r1) = false,
    (!r1) = false,
    (!r1) = false,
    Fn Tryz.prog 10 [(false, E3 a.Limit), (false, E3 0), (false, E3 9007199254740992)] (E4 r2) [],
    (true || ((E4 r2).nv && nvL [])) = true,
    (!r1) = false,
    (!r1) = false,
    (!r2) = false,
    (!r2) = false,
    (!r2) = false,
    Fn Tryz.prog 10 [(false, E3 a.Most), (false, E3 0), (false, E3 1000)] (E4 r3) [],
    (true || ((E4 r3).nv && nvL [])) = true,
    (!r2) = false,
    (!r2) = false,
    (!r3) = false,
    (!r3) = false,
    (!r3) = false,
    Fn Tryz.prog 10 [(false, E3 a.MostSum), (false, E3 0), (false, E3 9007199254740992)] (E4 r4) [],
    (true || ((E4 r4).nv && nvL [])) = true,
    (!r3) = false,
    (!r3) = false,
    (!r4) = true,
    (!r4) = true,
    (!r4) = true,
    (!r4) = true,
    (!r4) = true,
    true = true]) (by kernel_rfl) (cj (spec_AcctIdOk_ok a.Id r1 h1) (cj rfl (cj (nf h2) (cj (nf h2) (cj (nf h2) (cj (spec_l01In_ok a.Limit 0 9007199254740992 r2 h3) (cj rfl (cj (nf h2) (cj (nf h2) (cj (nf h4) (cj (nf h4) (cj (nf h4) (cj (spec_l01In_ok a.Most 0 1000 r3 h5) (cj rfl (cj (nf h4) (cj (nf h4) (cj (nf h6) (cj (nf h6) (cj (nf h6) (cj (spec_l01In_ok a.MostSum 0 9007199254740992 r4 h7) (cj rfl (cj (nf h6) (cj (nf h6) (cj (nt h8) (cj (nt h8) (cj (nt h8) (cj (nt h8) (cj (nt h8) (cj1 rfl))))))))))))))))))))))))))))))))) (fun h6 =>
   Pn.some (Fn.of [.call [] (E4 r1) [], .bit false, .bit false, .bit false, .call [] (E4 r2) [], .bit false, .bit false, .bit false, .bit false, .bit false, .call [] (E4 r3) [], .bit false, .bit false, .bit true, .bit true, .bit true, .bit true, .bit true, .bit true, .bit true, .bit true, .bit true, .bit true, .bit true] (p := [Fn Tryz.prog 32 [(false, E9 a.Id)] (E4 r1) [],
    (true || ((E4 r1).nv && nvL [])) = true,
    (!r1) = false,
    (!r1) = false,
    (!r1) = false,
    Fn Tryz.prog 10 [(false, E3 a.Limit), (false, E3 0), (false, E3 9007199254740992)] (E4 r2) [],
    (true || ((E4 r2).nv && nvL [])) = true,
    (!r1) = false,
    (!r1) = false,
    (!r2) = false,
    (!r2) = false,
    (!r2) = false,
    Fn Tryz.prog 10 [(false, E3 a.Most), (false, E3 0), (false, E3 1000)] (E4 r3) [],
    (true || ((E4 r3).nv && nvL [])) = true,
    (!r2) = false,
    (!r2) = false,
    (!r3) = true,
    (!r3) = true,
    (!r3) = true,
    (!r3) = true,
    (!r3) = true,
    true = true,
    true = true,
    true = true,
    true = true,
    true = true,
    true = true]) (by kernel_rfl) (cj (spec_AcctIdOk_ok a.Id r1 h1) (cj rfl (cj (nf h2) (cj (nf h2) (cj (nf h2) (cj (spec_l01In_ok a.Limit 0 9007199254740992 r2 h3) (cj rfl (cj (nf h2) (cj (nf h2) (cj (nf h4) (cj (nf h4) (cj (nf h4) (cj (spec_l01In_ok a.Most 0 1000 r3 h5) (cj rfl (cj (nf h4) (cj (nf h4) (cj (nt h6) (cj (nt h6) (cj (nt h6) (cj (nt h6) (cj (nt h6) (cj rfl (cj rfl (cj rfl (cj rfl (cj rfl (cj1 rfl))))))))))))))))))))))))))))))) (fun h4 =>
   Pn.some (Fn.of [.call [] (E4 r1) [], .bit false, .bit false, .bit false, .call [] (E4 r2) [], .bit false, .bit false, .bit true, .bit true, .bit true, .bit true, .bit true, .bit true, .bit true, .bit true, .bit true, .bit true, .bit true, .bit true, .bit true, .bit true, .bit true, .bit true] (p := [Fn Tryz.prog 32 [(false, E9 a.Id)] (E4 r1) [],
    (true || ((E4 r1).nv && nvL [])) = true,
    (!r1) = false,
    (!r1) = false,
    (!r1) = false,
    Fn Tryz.prog 10 [(false, E3 a.Limit), (false, E3 0), (false, E3 9007199254740992)] (E4 r2) [],
    (true || ((E4 r2).nv && nvL [])) = true,
    (!r1) = false,
    (!r1) = false,
    (!r2) = true,
    (!r2) = true,
    (!r2) = true,
    (!r2) = true,
    (!r2) = true,
    true = true,
    true = true,
    true = true,
    true = true,
    true = true,
    true = true,
    true = true,
    true = true,
    true = true,
    true = true,
    true = true]) (by kernel_rfl) (cj (spec_AcctIdOk_ok a.Id r1 h1) (cj rfl (cj (nf h2) (cj (nf h2) (cj (nf h2) (cj (spec_l01In_ok a.Limit 0 9007199254740992 r2 h3) (cj rfl (cj (nf h2) (cj (nf h2) (cj (nt h4) (cj (nt h4) (cj (nt h4) (cj (nt h4) (cj (nt h4) (cj rfl (cj rfl (cj rfl (cj rfl (cj rfl (cj rfl (cj rfl (cj rfl (cj rfl (cj rfl (cj1 rfl))))))))))))))))))))))))))))) (fun h2 =>
   Pn.some (Fn.of [.call [] (E4 r1) [], .bit true, .bit true, .bit true, .bit true, .bit true, .bit true, .bit true, .bit true, .bit true, .bit true, .bit true, .bit true, .bit true, .bit true, .bit true, .bit true, .bit true, .bit true, .bit true, .bit true, .bit true] (p := [Fn Tryz.prog 32 [(false, E9 a.Id)] (E4 r1) [],
    (true || ((E4 r1).nv && nvL [])) = true,
    (!r1) = true,
    (!r1) = true,
    (!r1) = true,
    (!r1) = true,
    (!r1) = true,
    true = true,
    true = true,
    true = true,
    true = true,
    true = true,
    true = true,
    true = true,
    true = true,
    true = true,
    true = true,
    true = true,
    true = true,
    true = true,
    true = true,
    true = true,
    true = true]) (by kernel_rfl) (cj (spec_AcctIdOk_ok a.Id r1 h1) (cj rfl (cj (nt h2) (cj (nt h2) (cj (nt h2) (cj (nt h2) (cj (nt h2) (cj rfl (cj rfl (cj rfl (cj rfl (cj rfl (cj rfl (cj rfl (cj rfl (cj rfl (cj rfl (cj rfl (cj rfl (cj rfl (cj rfl (cj rfl (cj1 rfl))))))))))))))))))))))))))
def spec_BookOk_l0 (b : Book) : List Acct → List Acct → Option (Lo Unit Unit)
  | [], p1 =>
   some (.out ())
  | x1 :: t1, p1 =>
   (spec_AcctOk x1).bind fun r1 =>
   if r1 = true then
   if (decide (0 < (p1.length : Int))) = true then
   if (decide (0 ≤ (i64 ((p1.length : Int) - 1)))) = true then
   (b.Accts[(i64 ((p1.length : Int) - 1)).toNat]?).bind fun x2 =>
   if (Op.bytesLess x2.Id.toList x1.Id.toList) = true then
   spec_BookOk_l0 b t1 (p1 ++ [x1])
   else
   some (.ret ())
   else none
   else
   spec_BookOk_l0 b t1 (p1 ++ [x1])
   else
   some (.ret ())
theorem spec_BookOk_l0_ok (b : Book) (h2 : capOk b.Accts.length = true) : ∀ (t1 p1 : List Acct) (_ : b.Accts = p1 ++ t1) , Pn (LpO Tryz.prog (sub (codeOf Tryz.prog 12) [1, 0, 1, 0, 0]) (st 37 [(1, V.ptr 0 0), (6, V.sl false 43 (List.map E43 b.Accts)), (7, V.sc (.int .i64 (b.Accts.length : Int))), (8, V.sc (.int .i64 (p1.length : Int)))] [Blk.box 47 [V.sl false 43 (List.map E43 b.Accts)]] []) (fun (y : Lo Unit Unit) => Lo.elim y (fun s => (X.out 0, st 37 [(1, V.ptr 0 0)] [Blk.box 47 [V.sl false 43 (List.map E43 b.Accts)]] [])) (fun s => (X.ret, st 37 [(2, V.sc (.bool false))] [] [])))) (spec_BookOk_l0 b t1 p1)
  | [], p1, h1 => by
    unfold spec_BookOk_l0
    exact
     Pn.some (LpO.out [.bit false, .mask [1], .ren [0]] (p := [(decide ((p1.length : Int) < (b.Accts.length : Int))) = false]) (by kernel_rfl) (show X.out 0 ≠ X.go from nofun) (cj1 (rng_end h1)))
  | x1 :: t1, p1, h1 => by
    unfold spec_BookOk_l0
    exact
     Pn.bind (fun r1 h3 =>
     Pn.ite (fun h4 =>
     Pn.ite (fun h5 =>
     Pn.ite (fun h6 =>
     Pn.bind (fun x2 h7 =>
     Pn.ite (fun h8 =>
     LpO.go [.bit true, .el (E43 x1), .draw [], .call [] (E4 r1) [], .bit false, .bit false, .bit false, .bit true, .bit true, .bit true, .bit true, .bit true, .el (E43 x2), .bit true, .bit true, .bit true, .bit true, .bit true, .bit false, .bit true, .bit false, .bit false, .wait 2, .mask [1, 6, 7, 8], .ren [0], .nm 8 (V.sc (.int .i64 ((p1 ++ [x1]).length : Int)))] (p := [(decide ((p1.length : Int) < (b.Accts.length : Int))) = true,
      (0 : Int) ≤ (p1.length : Int),
      (List.map E43 b.Accts)[(p1.length : Int).toNat]? = some (E43 x1),
      Fn Tryz.prog 22 [(false, E43 x1)] (E4 r1) [],
      (true || ((E4 r1).nv && nvL [])) = true,
      (!r1) = false,
      (!r1) = false,
      (!r1) = false,
      (decide (0 < (p1.length : Int))) = true,
      (decide (0 < (p1.length : Int))) = true,
      (decide (0 < (p1.length : Int))) = true,
      (decide (0 < (p1.length : Int))) = true,
      (decide (0 < (p1.length : Int))) = true,
      (0 : Int) ≤ (i64 ((p1.length : Int) - 1)),
      (List.map E43 b.Accts)[(i64 ((p1.length : Int) - 1)).toNat]? = some (E43 x2),
      (decide (0 < (p1.length : Int))) = true,
      (decide (0 < (p1.length : Int))) = true,
      (decide (0 < (p1.length : Int))) = true,
      (decide (0 < (p1.length : Int))) = true,
      (decide (0 < (p1.length : Int))) = true,
      (!r1) = false,
      (decide (0 < (p1.length : Int))) = true,
      (!r1) = false,
      (!(Op.bytesLess x2.Id.toList x1.Id.toList)) = false,
      V.sc (.int .i64 (i64 ((p1.length : Int) + 1))) = V.sc (.int .i64 ((p1 ++ [x1]).length : Int))]) (by kernel_rfl) (cj (rng_lt h1) (cj (by omega) (cj (rng_get _ h1) (cj (spec_AcctOk_ok x1 r1 h3) (cj rfl (cj (nf h4) (cj (nf h4) (cj (nf h4) (cj h5 (cj h5 (cj h5 (cj h5 (cj h5 (cj (od h6) (cj (map_get h7) (cj h5 (cj h5 (cj h5 (cj h5 (cj h5 (cj (nf h4) (cj h5 (cj (nf h4) (cj (nf h8) (cj1 (rng_next h1 h2)))))))))))))))))))))))))) (spec_BookOk_l0_ok b h2 t1 (p1 ++ [x1]) (rng_step h1))) (fun h8 =>
     Pn.some (LpO.out [.bit true, .el (E43 x1), .draw [], .call [] (E4 r1) [], .bit false, .bit false, .bit false, .bit true, .bit true, .bit true, .bit true, .bit true, .el (E43 x2), .bit true, .bit true, .bit true, .bit true, .bit true, .bit false, .bit true, .bit false, .bit true, .wait 1, .mask [2], .ren []] (p := [(decide ((p1.length : Int) < (b.Accts.length : Int))) = true,
      (0 : Int) ≤ (p1.length : Int),
      (List.map E43 b.Accts)[(p1.length : Int).toNat]? = some (E43 x1),
      Fn Tryz.prog 22 [(false, E43 x1)] (E4 r1) [],
      (true || ((E4 r1).nv && nvL [])) = true,
      (!r1) = false,
      (!r1) = false,
      (!r1) = false,
      (decide (0 < (p1.length : Int))) = true,
      (decide (0 < (p1.length : Int))) = true,
      (decide (0 < (p1.length : Int))) = true,
      (decide (0 < (p1.length : Int))) = true,
      (decide (0 < (p1.length : Int))) = true,
      (0 : Int) ≤ (i64 ((p1.length : Int) - 1)),
      (List.map E43 b.Accts)[(i64 ((p1.length : Int) - 1)).toNat]? = some (E43 x2),
      (decide (0 < (p1.length : Int))) = true,
      (decide (0 < (p1.length : Int))) = true,
      (decide (0 < (p1.length : Int))) = true,
      (decide (0 < (p1.length : Int))) = true,
      (decide (0 < (p1.length : Int))) = true,
      (!r1) = false,
      (decide (0 < (p1.length : Int))) = true,
      (!r1) = false,
      (!(Op.bytesLess x2.Id.toList x1.Id.toList)) = true]) (by kernel_rfl) (show X.ret ≠ X.go from nofun) (cj (rng_lt h1) (cj (by omega) (cj (rng_get _ h1) (cj (spec_AcctOk_ok x1 r1 h3) (cj rfl (cj (nf h4) (cj (nf h4) (cj (nf h4) (cj h5 (cj h5 (cj h5 (cj h5 (cj h5 (cj (od h6) (cj (map_get h7) (cj h5 (cj h5 (cj h5 (cj h5 (cj h5 (cj (nf h4) (cj h5 (cj (nf h4) (cj1 (nt h8))))))))))))))))))))))))))))) (fun h6 =>
     Pn.none)) (fun h5 =>
     LpO.go [.bit true, .el (E43 x1), .draw [], .call [] (E4 r1) [], .bit false, .bit false, .bit false, .bit false, .bit false, .bit false, .bit false, .bit false, .bit false, .bit false, .bit false, .bit false, .bit false, .bit false, .bit false, .bit false, .bit false, .wait 2, .mask [1, 6, 7, 8], .ren [0], .nm 8 (V.sc (.int .i64 ((p1 ++ [x1]).length : Int)))] (p := [(decide ((p1.length : Int) < (b.Accts.length : Int))) = true,
      (0 : Int) ≤ (p1.length : Int),
      (List.map E43 b.Accts)[(p1.length : Int).toNat]? = some (E43 x1),
      Fn Tryz.prog 22 [(false, E43 x1)] (E4 r1) [],
      (true || ((E4 r1).nv && nvL [])) = true,
      (!r1) = false,
      (!r1) = false,
      (!r1) = false,
      (decide (0 < (p1.length : Int))) = false,
      (decide (0 < (p1.length : Int))) = false,
      (decide (0 < (p1.length : Int))) = false,
      (decide (0 < (p1.length : Int))) = false,
      (decide (0 < (p1.length : Int))) = false,
      (decide (0 < (p1.length : Int))) = false,
      (decide (0 < (p1.length : Int))) = false,
      (decide (0 < (p1.length : Int))) = false,
      (decide (0 < (p1.length : Int))) = false,
      (decide (0 < (p1.length : Int))) = false,
      (!r1) = false,
      (decide (0 < (p1.length : Int))) = false,
      (!r1) = false,
      false = false,
      V.sc (.int .i64 (i64 ((p1.length : Int) + 1))) = V.sc (.int .i64 ((p1 ++ [x1]).length : Int))]) (by kernel_rfl) (cj (rng_lt h1) (cj (by omega) (cj (rng_get _ h1) (cj (spec_AcctOk_ok x1 r1 h3) (cj rfl (cj (nf h4) (cj (nf h4) (cj (nf h4) (cj h5 (cj h5 (cj h5 (cj h5 (cj h5 (cj h5 (cj h5 (cj h5 (cj h5 (cj h5 (cj (nf h4) (cj h5 (cj (nf h4) (cj rfl (cj1 (rng_next h1 h2)))))))))))))))))))))))) (spec_BookOk_l0_ok b h2 t1 (p1 ++ [x1]) (rng_step h1)))) (fun h4 =>
     Pn.some (LpO.out [.bit true, .el (E43 x1), .draw [], .call [] (E4 r1) [], .bit true, .bit true, .bit true, .bit true, .bit true, .bit true, .wait 1, .mask [2], .ren []] (p := [(decide ((p1.length : Int) < (b.Accts.length : Int))) = true,
      (0 : Int) ≤ (p1.length : Int),
      (List.map E43 b.Accts)[(p1.length : Int).toNat]? = some (E43 x1),
      Fn Tryz.prog 22 [(false, E43 x1)] (E4 r1) [],
      (true || ((E4 r1).nv && nvL [])) = true,
      (!r1) = true,
      (!r1) = true,
      (!r1) = true,
      (!r1) = true,
      (!r1) = true,
      true = true]) (by kernel_rfl) (show X.ret ≠ X.go from nofun) (cj (rng_lt h1) (cj (by omega) (cj (rng_get _ h1) (cj (spec_AcctOk_ok x1 r1 h3) (cj rfl (cj (nt h4) (cj (nt h4) (cj (nt h4) (cj (nt h4) (cj (nt h4) (cj1 rfl))))))))))))))
def spec_BookOk (b : Book) : Option (Bool) :=
 if (capOk b.Accts.length) = true then
 (spec_BookOk_l0 b b.Accts []).bind fun r2 =>
 Lo.elim r2 (fun s1 =>
 some (decide ((b.Accts.length : Int) ≤ 6))) (fun s2 =>
 some false)
 else none
theorem spec_BookOk_ok (b : Book) : Pn (fun y => Fn Tryz.prog 12 [(false, E47 b)] (E4 y) []) (spec_BookOk b) := by
  unfold spec_BookOk
  exact
   Pn.ite (fun h9 =>
   Pn.bind (fun r2 h10 =>
   Pn.lo (fun s1 h11 =>
   Pn.some (Fn.of [.wait 5, .nm 7 (V.sc (.int .i64 (b.Accts.length : Int))), .wait 2, .mask [1, 6, 7, 8], .ren [0], .loop (X.out 0) (st 37 [(1, V.ptr 0 0)] [Blk.box 47 [V.sl false 43 (List.map E43 b.Accts)]] []), .wait 3, .nm 35 (V.sc (.int .i64 (b.Accts.length : Int)))] (p := [V.sc (.int .i64 ((List.map E43 b.Accts).length : Int)) = V.sc (.int .i64 (b.Accts.length : Int)),
    Loop Tryz.prog (sub (codeOf Tryz.prog 12) [1, 0, 1, 0, 0]) (st 37 [(1, V.ptr 0 0), (6, V.sl false 43 (List.map E43 b.Accts)), (7, V.sc (.int .i64 (b.Accts.length : Int))), (8, V.sc (.int .i64 0))] [Blk.box 47 [V.sl false 43 (List.map E43 b.Accts)]] []) (X.out 0) (st 37 [(1, V.ptr 0 0)] [Blk.box 47 [V.sl false 43 (List.map E43 b.Accts)]] []),
    V.sc (.int .i64 ((List.map E43 b.Accts).length : Int)) = V.sc (.int .i64 (b.Accts.length : Int))]) (by kernel_rfl) (cj (len_nm _ _) (cj ((spec_BookOk_l0_ok b h9 b.Accts [] rfl r2 h10).at h11) (cj1 (len_nm _ _)))))) (fun s2 h12 =>
   Pn.some (Fn.of [.wait 5, .nm 7 (V.sc (.int .i64 (b.Accts.length : Int))), .wait 2, .mask [1, 6, 7, 8], .ren [0], .loop (X.ret) (st 37 [(2, V.sc (.bool false))] [] [])] (p := [V.sc (.int .i64 ((List.map E43 b.Accts).length : Int)) = V.sc (.int .i64 (b.Accts.length : Int)),
    Loop Tryz.prog (sub (codeOf Tryz.prog 12) [1, 0, 1, 0, 0]) (st 37 [(1, V.ptr 0 0), (6, V.sl false 43 (List.map E43 b.Accts)), (7, V.sc (.int .i64 (b.Accts.length : Int))), (8, V.sc (.int .i64 0))] [Blk.box 47 [V.sl false 43 (List.map E43 b.Accts)]] []) (X.ret) (st 37 [(2, V.sc (.bool false))] [] [])]) (by kernel_rfl) (cj (len_nm _ _) (cj1 ((spec_BookOk_l0_ok b h9 b.Accts [] rfl r2 h10).at h12))))))) (fun h9 =>
   Pn.none)
def spec_StripesOk_l1 (l : List Stripe) (p1 : List Stripe) (x1 : Stripe) : List Acct → List Acct → Option (Lo Unit Unit)
  | [], p2 =>
   some (.out ())
  | x2 :: t2, p2 =>
   (spec_StripeNo x2.Id (l.length : Int)).bind fun r3 =>
   if (r3 != (p1.length : Int)) = true then
   some (.ret ())
   else
   if (decide (0 < (p2.length : Int))) = true then
   if (decide (0 ≤ (i64 ((p2.length : Int) - 1)))) = true then
   (x1.Accts[(i64 ((p2.length : Int) - 1)).toNat]?).bind fun x3 =>
   if (Op.bytesLess x3.Id.toList x2.Id.toList) = true then
   spec_StripesOk_l1 l p1 x1 t2 (p2 ++ [x2])
   else
   some (.ret ())
   else none
   else
   spec_StripesOk_l1 l p1 x1 t2 (p2 ++ [x2])
theorem spec_StripesOk_l1_ok (l : List Stripe) (p1 : List Stripe) (x1 : Stripe) (h8 : capOk x1.Accts.length = true) : ∀ (t2 p2 : List Acct) (_ : x1.Accts = p2 ++ t2) , Pn (LpO Tryz.prog (sub (codeOf Tryz.prog 5) [1, 1, 0, 1, 0, 0, 1, 1, 0, 0, 1, 1, 1, 0, 0]) (st 58 [(0, V.sl false 36 (List.map E36 l)), (3, V.sc (.int .i64 (p1.length : Int))), (4, V.ptr 0 0), (11, V.sl false 36 (List.map E36 l)), (12, V.sc (.int .i64 (l.length : Int))), (13, V.sc (.int .i64 (p1.length : Int))), (23, V.sl false 43 (List.map E43 x1.Accts)), (24, V.sc (.int .i64 (x1.Accts.length : Int))), (25, V.sc (.int .i64 (p2.length : Int)))] [Blk.box 36 [V.sc (.int .i64 x1.Owner), V.sl false 43 (List.map E43 x1.Accts)]] []) (fun (y : Lo Unit Unit) => Lo.elim y (fun s => (X.out 2, st 58 [(0, V.sl false 36 (List.map E36 l)), (11, V.sl false 36 (List.map E36 l)), (12, V.sc (.int .i64 (l.length : Int))), (13, V.sc (.int .i64 (p1.length : Int)))] [] [])) (fun s => (X.ret, st 58 [(2, V.sc (.bool false))] [] [])))) (spec_StripesOk_l1 l p1 x1 t2 p2)
  | [], p2, h7 => by
    unfold spec_StripesOk_l1
    exact
     Pn.some (LpO.out [.bit false, .mask [0, 11, 12, 13], .ren []] (p := [(decide ((p2.length : Int) < (x1.Accts.length : Int))) = false]) (by kernel_rfl) (show X.out 2 ≠ X.go from nofun) (cj1 (rng_end h7)))
  | x2 :: t2, p2, h7 => by
    unfold spec_StripesOk_l1
    exact
     Pn.bind (fun r3 h9 =>
     Pn.ite (fun h10 =>
     Pn.some (LpO.out [.bit true, .el (E43 x2), .draw [], .wait 3, .nm 33 (V.sc (.int .i64 (l.length : Int))), .call [] (E3 r3) [], .bit true, .bit true, .bit true, .bit true, .bit true, .bit true, .wait 1, .mask [2], .ren []] (p := [(decide ((p2.length : Int) < (x1.Accts.length : Int))) = true,
      (0 : Int) ≤ (p2.length : Int),
      (List.map E43 x1.Accts)[(p2.length : Int).toNat]? = some (E43 x2),
      V.sc (.int .i64 ((List.map E36 l).length : Int)) = V.sc (.int .i64 (l.length : Int)),
      Fn Tryz.prog 11 [(false, E9 x2.Id), (false, E3 (l.length : Int))] (E3 r3) [],
      (true || ((E3 r3).nv && nvL [])) = true,
      (r3 != (p1.length : Int)) = true,
      (r3 != (p1.length : Int)) = true,
      (r3 != (p1.length : Int)) = true,
      (r3 != (p1.length : Int)) = true,
      (r3 != (p1.length : Int)) = true,
      true = true]) (by kernel_rfl) (show X.ret ≠ X.go from nofun) (cj (rng_lt h7) (cj (by omega) (cj (rng_get _ h7) (cj (len_nm _ _) (cj (spec_StripeNo_ok x2.Id (l.length : Int) r3 h9) (cj rfl (cj h10 (cj h10 (cj h10 (cj h10 (cj h10 (cj1 rfl)))))))))))))) (fun h10 =>
     Pn.ite (fun h11 =>
     Pn.ite (fun h12 =>
     Pn.bind (fun x3 h13 =>
     Pn.ite (fun h14 =>
     LpO.go [.bit true, .el (E43 x2), .draw [], .wait 3, .nm 33 (V.sc (.int .i64 (l.length : Int))), .call [] (E3 r3) [], .bit false, .bit false, .bit false, .bit true, .bit true, .bit true, .bit true, .bit true, .el (E43 x3), .bit true, .bit true, .bit true, .bit true, .bit true, .bit false, .bit true, .bit false, .bit false, .wait 2, .mask [0, 3, 4, 11, 12, 13, 23, 24, 25], .ren [0], .nm 25 (V.sc (.int .i64 ((p2 ++ [x2]).length : Int)))] (p := [(decide ((p2.length : Int) < (x1.Accts.length : Int))) = true,
      (0 : Int) ≤ (p2.length : Int),
      (List.map E43 x1.Accts)[(p2.length : Int).toNat]? = some (E43 x2),
      V.sc (.int .i64 ((List.map E36 l).length : Int)) = V.sc (.int .i64 (l.length : Int)),
      Fn Tryz.prog 11 [(false, E9 x2.Id), (false, E3 (l.length : Int))] (E3 r3) [],
      (true || ((E3 r3).nv && nvL [])) = true,
      (r3 != (p1.length : Int)) = false,
      (r3 != (p1.length : Int)) = false,
      (r3 != (p1.length : Int)) = false,
      (decide (0 < (p2.length : Int))) = true,
      (decide (0 < (p2.length : Int))) = true,
      (decide (0 < (p2.length : Int))) = true,
      (decide (0 < (p2.length : Int))) = true,
      (decide (0 < (p2.length : Int))) = true,
      (0 : Int) ≤ (i64 ((p2.length : Int) - 1)),
      (List.map E43 x1.Accts)[(i64 ((p2.length : Int) - 1)).toNat]? = some (E43 x3),
      (decide (0 < (p2.length : Int))) = true,
      (decide (0 < (p2.length : Int))) = true,
      (decide (0 < (p2.length : Int))) = true,
      (decide (0 < (p2.length : Int))) = true,
      (decide (0 < (p2.length : Int))) = true,
      (r3 != (p1.length : Int)) = false,
      (decide (0 < (p2.length : Int))) = true,
      (r3 != (p1.length : Int)) = false,
      (!(Op.bytesLess x3.Id.toList x2.Id.toList)) = false,
      V.sc (.int .i64 (i64 ((p2.length : Int) + 1))) = V.sc (.int .i64 ((p2 ++ [x2]).length : Int))]) (by kernel_rfl) (cj (rng_lt h7) (cj (by omega) (cj (rng_get _ h7) (cj (len_nm _ _) (cj (spec_StripeNo_ok x2.Id (l.length : Int) r3 h9) (cj rfl (cj h10 (cj h10 (cj h10 (cj h11 (cj h11 (cj h11 (cj h11 (cj h11 (cj (od h12) (cj (map_get h13) (cj h11 (cj h11 (cj h11 (cj h11 (cj h11 (cj h10 (cj h11 (cj h10 (cj (nf h14) (cj1 (rng_next h7 h8))))))))))))))))))))))))))) (spec_StripesOk_l1_ok l p1 x1 h8 t2 (p2 ++ [x2]) (rng_step h7))) (fun h14 =>
     Pn.some (LpO.out [.bit true, .el (E43 x2), .draw [], .wait 3, .nm 33 (V.sc (.int .i64 (l.length : Int))), .call [] (E3 r3) [], .bit false, .bit false, .bit false, .bit true, .bit true, .bit true, .bit true, .bit true, .el (E43 x3), .bit true, .bit true, .bit true, .bit true, .bit true, .bit false, .bit true, .bit false, .bit true, .wait 1, .mask [2], .ren []] (p := [(decide ((p2.length : Int) < (x1.Accts.length : Int))) = true,
      (0 : Int) ≤ (p2.length : Int),
      (List.map E43 x1.Accts)[(p2.length : Int).toNat]? = some (E43 x2),
      V.sc (.int .i64 ((List.map E36 l).length : Int)) = V.sc (.int .i64 (l.length : Int)),
      Fn Tryz.prog 11 [(false, E9 x2.Id), (false, E3 (l.length : Int))] (E3 r3) [],
      (true || ((E3 r3).nv && nvL [])) = true,
      (r3 != (p1.length : Int)) = false,
      (r3 != (p1.length : Int)) = false,
      (r3 != (p1.length : Int)) = false,
      (decide (0 < (p2.length : Int))) = true,
      (decide (0 < (p2.length : Int))) = true,
      (decide (0 < (p2.length : Int))) = true,
      (decide (0 < (p2.length : Int))) = true,
      (decide (0 < (p2.length : Int))) = true,
      (0 : Int) ≤ (i64 ((p2.length : Int) - 1)),
      (List.map E43 x1.Accts)[(i64 ((p2.length : Int) - 1)).toNat]? = some (E43 x3),
      (decide (0 < (p2.length : Int))) = true,
      (decide (0 < (p2.length : Int))) = true,
      (decide (0 < (p2.length : Int))) = true,
      (decide (0 < (p2.length : Int))) = true,
      (decide (0 < (p2.length : Int))) = true,
      (r3 != (p1.length : Int)) = false,
      (decide (0 < (p2.length : Int))) = true,
      (r3 != (p1.length : Int)) = false,
      (!(Op.bytesLess x3.Id.toList x2.Id.toList)) = true]) (by kernel_rfl) (show X.ret ≠ X.go from nofun) (cj (rng_lt h7) (cj (by omega) (cj (rng_get _ h7) (cj (len_nm _ _) (cj (spec_StripeNo_ok x2.Id (l.length : Int) r3 h9) (cj rfl (cj h10 (cj h10 (cj h10 (cj h11 (cj h11 (cj h11 (cj h11 (cj h11 (cj (od h12) (cj (map_get h13) (cj h11 (cj h11 (cj h11 (cj h11 (cj h11 (cj h10 (cj h11 (cj h10 (cj1 (nt h14)))))))))))))))))))))))))))))) (fun h12 =>
     Pn.none)) (fun h11 =>
     LpO.go [.bit true, .el (E43 x2), .draw [], .wait 3, .nm 33 (V.sc (.int .i64 (l.length : Int))), .call [] (E3 r3) [], .bit false, .bit false, .bit false, .bit false, .bit false, .bit false, .bit false, .bit false, .bit false, .bit false, .bit false, .bit false, .bit false, .bit false, .bit false, .bit false, .bit false, .wait 2, .mask [0, 3, 4, 11, 12, 13, 23, 24, 25], .ren [0], .nm 25 (V.sc (.int .i64 ((p2 ++ [x2]).length : Int)))] (p := [(decide ((p2.length : Int) < (x1.Accts.length : Int))) = true,
      (0 : Int) ≤ (p2.length : Int),
      (List.map E43 x1.Accts)[(p2.length : Int).toNat]? = some (E43 x2),
      V.sc (.int .i64 ((List.map E36 l).length : Int)) = V.sc (.int .i64 (l.length : Int)),
      Fn Tryz.prog 11 [(false, E9 x2.Id), (false, E3 (l.length : Int))] (E3 r3) [],
      (true || ((E3 r3).nv && nvL [])) = true,
      (r3 != (p1.length : Int)) = false,
      (r3 != (p1.length : Int)) = false,
      (r3 != (p1.length : Int)) = false,
      (decide (0 < (p2.length : Int))) = false,
      (decide (0 < (p2.length : Int))) = false,
      (decide (0 < (p2.length : Int))) = false,
      (decide (0 < (p2.length : Int))) = false,
      (decide (0 < (p2.length : Int))) = false,
      (decide (0 < (p2.length : Int))) = false,
      (decide (0 < (p2.length : Int))) = false,
      (decide (0 < (p2.length : Int))) = false,
      (decide (0 < (p2.length : Int))) = false,
      (decide (0 < (p2.length : Int))) = false,
      (r3 != (p1.length : Int)) = false,
      (decide (0 < (p2.length : Int))) = false,
      (r3 != (p1.length : Int)) = false,
      false = false,
      V.sc (.int .i64 (i64 ((p2.length : Int) + 1))) = V.sc (.int .i64 ((p2 ++ [x2]).length : Int))]) (by kernel_rfl) (cj (rng_lt h7) (cj (by omega) (cj (rng_get _ h7) (cj (len_nm _ _) (cj (spec_StripeNo_ok x2.Id (l.length : Int) r3 h9) (cj rfl (cj h10 (cj h10 (cj h10 (cj h11 (cj h11 (cj h11 (cj h11 (cj h11 (cj h11 (cj h11 (cj h11 (cj h11 (cj h11 (cj h10 (cj h11 (cj h10 (cj rfl (cj1 (rng_next h7 h8))))))))))))))))))))))))) (spec_StripesOk_l1_ok l p1 x1 h8 t2 (p2 ++ [x2]) (rng_step h7)))))
def spec_StripesOk_l0 (l : List Stripe) : List Stripe → List Stripe → Option (Lo Unit Unit)
  | [], p1 =>
   some (.out ())
  | x1 :: t1, p1 =>
   (spec_l01In x1.Owner (-1) 11).bind fun r2 =>
   if r2 = true then
   if (capOk x1.Accts.length) = true then
   (spec_StripesOk_l1 l p1 x1 x1.Accts []).bind fun r4 =>
   Lo.elim r4 (fun s1 =>
   spec_StripesOk_l0 l t1 (p1 ++ [x1])) (fun s2 =>
   some (.ret ()))
   else none
   else
   some (.ret ())
theorem spec_StripesOk_l0_ok (l : List Stripe) (h4 : capOk l.length = true) : ∀ (t1 p1 : List Stripe) (_ : l = p1 ++ t1) , Pn (LpO Tryz.prog (sub (codeOf Tryz.prog 5) [1, 1, 0, 1, 0, 0]) (st 58 [(0, V.sl false 36 (List.map E36 l)), (11, V.sl false 36 (List.map E36 l)), (12, V.sc (.int .i64 (l.length : Int))), (13, V.sc (.int .i64 (p1.length : Int)))] [] []) (fun (y : Lo Unit Unit) => Lo.elim y (fun s => (X.out 0, st 58 [(0, V.sl false 36 (List.map E36 l))] [] [])) (fun s => (X.ret, st 58 [(2, V.sc (.bool false))] [] [])))) (spec_StripesOk_l0 l t1 p1)
  | [], p1, h3 => by
    unfold spec_StripesOk_l0
    exact
     Pn.some (LpO.out [.bit false, .mask [0], .ren []] (p := [(decide ((p1.length : Int) < (l.length : Int))) = false]) (by kernel_rfl) (show X.out 0 ≠ X.go from nofun) (cj1 (rng_end h3)))
  | x1 :: t1, p1, h3 => by
    unfold spec_StripesOk_l0
    exact
     Pn.bind (fun r2 h5 =>
     Pn.ite (fun h6 =>
     Pn.ite (fun h15 =>
     Pn.bind (fun r4 h16 =>
     Pn.lo (fun s1 h17 =>
     LpO.go [.bit true, .el (E36 x1), .call [] (E4 r2) [], .bit false, .wait 2, .nm 24 (V.sc (.int .i64 (x1.Accts.length : Int))), .wait 2, .mask [0, 3, 4, 11, 12, 13, 23, 24, 25], .ren [0], .loop (X.out 2) (st 58 [(0, V.sl false 36 (List.map E36 l)), (11, V.sl false 36 (List.map E36 l)), (12, V.sc (.int .i64 (l.length : Int))), (13, V.sc (.int .i64 (p1.length : Int)))] [] []), .wait 3, .mask [0, 11, 12, 13], .ren [], .nm 13 (V.sc (.int .i64 ((p1 ++ [x1]).length : Int)))] (p := [(decide ((p1.length : Int) < (l.length : Int))) = true,
      (0 : Int) ≤ (p1.length : Int),
      (List.map E36 l)[(p1.length : Int).toNat]? = some (E36 x1),
      Fn Tryz.prog 10 [(false, E3 x1.Owner), (false, E3 (-1)), (false, E3 11)] (E4 r2) [],
      (true || ((E4 r2).nv && nvL [])) = true,
      (!r2) = false,
      V.sc (.int .i64 ((List.map E43 x1.Accts).length : Int)) = V.sc (.int .i64 (x1.Accts.length : Int)),
      Loop Tryz.prog (sub (codeOf Tryz.prog 5) [1, 1, 0, 1, 0, 0, 1, 1, 0, 0, 1, 1, 1, 0, 0]) (st 58 [(0, V.sl false 36 (List.map E36 l)), (3, V.sc (.int .i64 (p1.length : Int))), (4, V.ptr 0 0), (11, V.sl false 36 (List.map E36 l)), (12, V.sc (.int .i64 (l.length : Int))), (13, V.sc (.int .i64 (p1.length : Int))), (23, V.sl false 43 (List.map E43 x1.Accts)), (24, V.sc (.int .i64 (x1.Accts.length : Int))), (25, V.sc (.int .i64 0))] [Blk.box 36 [V.sc (.int .i64 x1.Owner), V.sl false 43 (List.map E43 x1.Accts)]] []) (X.out 2) (st 58 [(0, V.sl false 36 (List.map E36 l)), (11, V.sl false 36 (List.map E36 l)), (12, V.sc (.int .i64 (l.length : Int))), (13, V.sc (.int .i64 (p1.length : Int)))] [] []),
      V.sc (.int .i64 (i64 ((p1.length : Int) + 1))) = V.sc (.int .i64 ((p1 ++ [x1]).length : Int))]) (by kernel_rfl) (cj (rng_lt h3) (cj (by omega) (cj (rng_get _ h3) (cj (spec_l01In_ok x1.Owner (-1) 11 r2 h5) (cj rfl (cj (nf h6) (cj (len_nm _ _) (cj ((spec_StripesOk_l1_ok l p1 x1 h15 x1.Accts [] rfl r4 h16).at h17) (cj1 (rng_next h3 h4)))))))))) (spec_StripesOk_l0_ok l h4 t1 (p1 ++ [x1]) (rng_step h3))) (fun s2 h18 =>
     Pn.some (LpO.out [.bit true, .el (E36 x1), .call [] (E4 r2) [], .bit false, .wait 2, .nm 24 (V.sc (.int .i64 (x1.Accts.length : Int))), .wait 2, .mask [0, 3, 4, 11, 12, 13, 23, 24, 25], .ren [0], .loop (X.ret) (st 58 [(2, V.sc (.bool false))] [] []), .wait 1, .mask [2], .ren []] (p := [(decide ((p1.length : Int) < (l.length : Int))) = true,
      (0 : Int) ≤ (p1.length : Int),
      (List.map E36 l)[(p1.length : Int).toNat]? = some (E36 x1),
      Fn Tryz.prog 10 [(false, E3 x1.Owner), (false, E3 (-1)), (false, E3 11)] (E4 r2) [],
      (true || ((E4 r2).nv && nvL [])) = true,
      (!r2) = false,
      V.sc (.int .i64 ((List.map E43 x1.Accts).length : Int)) = V.sc (.int .i64 (x1.Accts.length : Int)),
      Loop Tryz.prog (sub (codeOf Tryz.prog 5) [1, 1, 0, 1, 0, 0, 1, 1, 0, 0, 1, 1, 1, 0, 0]) (st 58 [(0, V.sl false 36 (List.map E36 l)), (3, V.sc (.int .i64 (p1.length : Int))), (4, V.ptr 0 0), (11, V.sl false 36 (List.map E36 l)), (12, V.sc (.int .i64 (l.length : Int))), (13, V.sc (.int .i64 (p1.length : Int))), (23, V.sl false 43 (List.map E43 x1.Accts)), (24, V.sc (.int .i64 (x1.Accts.length : Int))), (25, V.sc (.int .i64 0))] [Blk.box 36 [V.sc (.int .i64 x1.Owner), V.sl false 43 (List.map E43 x1.Accts)]] []) (X.ret) (st 58 [(2, V.sc (.bool false))] [] [])]) (by kernel_rfl) (show X.ret ≠ X.go from nofun) (cj (rng_lt h3) (cj (by omega) (cj (rng_get _ h3) (cj (spec_l01In_ok x1.Owner (-1) 11 r2 h5) (cj rfl (cj (nf h6) (cj (len_nm _ _) (cj1 ((spec_StripesOk_l1_ok l p1 x1 h15 x1.Accts [] rfl r4 h16).at h18))))))))))))) (fun h15 =>
     Pn.none)) (fun h6 =>
     Pn.some (LpO.out [.bit true, .el (E36 x1), .call [] (E4 r2) [], .bit true, .wait 1, .mask [2], .ren []] (p := [(decide ((p1.length : Int) < (l.length : Int))) = true,
      (0 : Int) ≤ (p1.length : Int),
      (List.map E36 l)[(p1.length : Int).toNat]? = some (E36 x1),
      Fn Tryz.prog 10 [(false, E3 x1.Owner), (false, E3 (-1)), (false, E3 11)] (E4 r2) [],
      (true || ((E4 r2).nv && nvL [])) = true,
      (!r2) = true]) (by kernel_rfl) (show X.ret ≠ X.go from nofun) (cj (rng_lt h3) (cj (by omega) (cj (rng_get _ h3) (cj (spec_l01In_ok x1.Owner (-1) 11 r2 h5) (cj rfl (cj1 (nt h6))))))))))
def spec_StripesOk (l : List Stripe) : Option (Bool) :=
 (spec_l01In (l.length : Int) 1 5).bind fun r1 =>
 if r1 = true then
 if (capOk l.length) = true then
 (spec_StripesOk_l0 l l []).bind fun r5 =>
 Lo.elim r5 (fun s3 =>
 (spec_Gather l).bind fun r6 =>
 (spec_BookOk r6).bind fun r7 =>
 some r7) (fun s4 =>
 some false)
 else none
 else
 some false
theorem spec_StripesOk_ok (l : List Stripe) : Pn (fun y => Fn Tryz.prog 5 [(false, E25 l)] (E4 y) []) (spec_StripesOk l) := by
  unfold spec_StripesOk
  exact
   Pn.bind (fun r1 h1 =>
   Pn.ite (fun h2 =>
   Pn.ite (fun h19 =>
   Pn.bind (fun r5 h20 =>
   Pn.lo (fun s3 h21 =>
   Pn.bind (fun r6 h23 =>
   Pn.bind (fun r7 h24 =>
   Pn.some (Fn.of [.wait 3, .nm 8 (V.sc (.int .i64 (l.length : Int))), .call [] (E4 r1) [], .bit false, .wait 1, .nm 12 (V.sc (.int .i64 (l.length : Int))), .wait 2, .mask [0, 11, 12, 13], .ren [], .loop (X.out 0) (st 58 [(0, V.sl false 36 (List.map E36 l))] [] []), .call [] (E47 r6) [], .call [] (E4 r7) []] (p := [V.sc (.int .i64 ((List.map E36 l).length : Int)) = V.sc (.int .i64 (l.length : Int)),
    Fn Tryz.prog 10 [(false, E3 (l.length : Int)), (false, E3 1), (false, E3 5)] (E4 r1) [],
    (true || ((E4 r1).nv && nvL [])) = true,
    (!r1) = false,
    V.sc (.int .i64 ((List.map E36 l).length : Int)) = V.sc (.int .i64 (l.length : Int)),
    Loop Tryz.prog (sub (codeOf Tryz.prog 5) [1, 1, 0, 1, 0, 0]) (st 58 [(0, V.sl false 36 (List.map E36 l)), (11, V.sl false 36 (List.map E36 l)), (12, V.sc (.int .i64 (l.length : Int))), (13, V.sc (.int .i64 0))] [] []) (X.out 0) (st 58 [(0, V.sl false 36 (List.map E36 l))] [] []),
    Fn Tryz.prog 13 [(false, E25 l)] (E47 r6) [],
    (true || ((E47 r6).nv && nvL [])) = true,
    Fn Tryz.prog 12 [(false, E47 r6)] (E4 r7) [],
    (false || ((E4 r7).nv && nvL [])) = true]) (by kernel_rfl) (cj (len_nm _ _) (cj (spec_l01In_ok (l.length : Int) 1 5 r1 h1) (cj rfl (cj (nf h2) (cj (len_nm _ _) (cj ((spec_StripesOk_l0_ok l h19 l [] rfl r5 h20).at h21) (cj (spec_Gather_ok l r6 h23) (cj rfl (cj (spec_BookOk_ok r6 r7 h24) (cj1 (by simp [V.nv, nvL, nvL_all, nv_E4]))))))))))))))) (fun s4 h22 =>
   Pn.some (Fn.of [.wait 3, .nm 8 (V.sc (.int .i64 (l.length : Int))), .call [] (E4 r1) [], .bit false, .wait 1, .nm 12 (V.sc (.int .i64 (l.length : Int))), .wait 2, .mask [0, 11, 12, 13], .ren [], .loop (X.ret) (st 58 [(2, V.sc (.bool false))] [] [])] (p := [V.sc (.int .i64 ((List.map E36 l).length : Int)) = V.sc (.int .i64 (l.length : Int)),
    Fn Tryz.prog 10 [(false, E3 (l.length : Int)), (false, E3 1), (false, E3 5)] (E4 r1) [],
    (true || ((E4 r1).nv && nvL [])) = true,
    (!r1) = false,
    V.sc (.int .i64 ((List.map E36 l).length : Int)) = V.sc (.int .i64 (l.length : Int)),
    Loop Tryz.prog (sub (codeOf Tryz.prog 5) [1, 1, 0, 1, 0, 0]) (st 58 [(0, V.sl false 36 (List.map E36 l)), (11, V.sl false 36 (List.map E36 l)), (12, V.sc (.int .i64 (l.length : Int))), (13, V.sc (.int .i64 0))] [] []) (X.ret) (st 58 [(2, V.sc (.bool false))] [] [])]) (by kernel_rfl) (cj (len_nm _ _) (cj (spec_l01In_ok (l.length : Int) 1 5 r1 h1) (cj rfl (cj (nf h2) (cj (len_nm _ _) (cj1 ((spec_StripesOk_l0_ok l h19 l [] rfl r5 h20).at h22))))))))))) (fun h19 =>
   Pn.none)) (fun h2 =>
   Pn.some (Fn.of [.wait 3, .nm 8 (V.sc (.int .i64 (l.length : Int))), .call [] (E4 r1) [], .bit true] (p := [V.sc (.int .i64 ((List.map E36 l).length : Int)) = V.sc (.int .i64 (l.length : Int)),
    Fn Tryz.prog 10 [(false, E3 (l.length : Int)), (false, E3 1), (false, E3 5)] (E4 r1) [],
    (true || ((E4 r1).nv && nvL [])) = true,
    (!r1) = true]) (by kernel_rfl) (cj (len_nm _ _) (cj (spec_l01In_ok (l.length : Int) 1 5 r1 h1) (cj rfl (cj1 (nt h2))))))))
def impl_within (n : Int) (low : Int) (high : Int) : Option (Bool) :=
 if (decide (low ≤ n)) = true then
 some (decide (n ≤ high))
 else
 some false
theorem impl_within_ok (n : Int) (low : Int) (high : Int) : Pn (fun y => Fn Tryz.prog 15 [(false, E3 n), (false, E3 low), (false, E3 high)] (E4 y) []) (impl_within n low high) := by
  unfold impl_within
  exact
   Pn.ite (fun h1 =>
   Pn.some (Fn.of [.bit true, .bit true, .bit true, .bit true] (p := [(decide (low ≤ n)) = true,
    (decide (low ≤ n)) = true,
    (decide (low ≤ n)) = true,
    (decide (low ≤ n)) = true]) (by kernel_rfl) (cj h1 (cj h1 (cj h1 (cj1 h1)))))) (fun h1 =>
   Pn.some (Fn.of [.bit false, .bit false, .bit false, .bit false] (p := [(decide (low ≤ n)) = false,
    (decide (low ≤ n)) = false,
    (decide (low ≤ n)) = false,
    (decide (low ≤ n)) = false]) (by kernel_rfl) (cj h1 (cj h1 (cj h1 (cj1 h1))))))
def impl_Fnv_l0 (s_ : ByteArray) : Nat → Int → Int → Option (Int)
  | 0, _, _ => none
  | fuel + 1, v1, v2 =>
   if (decide (v2 < (s_.size : Int))) = true then
   if (decide (0 ≤ v2)) = true then
   if (decide ((v2 : Int) < (s_.size : Int))) = true then
   impl_Fnv_l0 s_ fuel (u32 ((bxor .u32 v1 (u32 (sAt s_ v2))) * 16777619)) (i64 (v2 + 1))
   else none
   else none
   else
   some v1
theorem impl_Fnv_l0_ok (s_ : ByteArray) : ∀ (fuel : Nat) (v1 : Int) (v2 : Int), Pn (LpO Tryz.prog (sub (codeOf Tryz.prog 25) [1, 1, 0, 1, 0, 0]) (st 20 [(0, V.sc (.string s_)), (3, V.sc (.int .u32 v1)), (6, V.sc (.int .i64 (s_.size : Int))), (7, V.sc (.int .i64 v2))] [] []) (fun (y : Int) => (X.out 0, st 20 [(3, V.sc (.int .u32 y))] [] []))) (impl_Fnv_l0 s_ fuel v1 v2)
  | 0, _, _ => Pn.none
  | fuel + 1, v1, v2 => by
    unfold impl_Fnv_l0
    exact
     Pn.ite (fun h1 =>
     Pn.ite (fun h2 =>
     Pn.ite (fun h3 =>
     LpO.go [.bit true, .wait 12, .mask [0, 3, 6, 7], .ren []] (p := [(decide (v2 < (s_.size : Int))) = true,
      (0 : Int) ≤ v2,
      (v2 : Int) < s_.size]) (by kernel_rfl) (cj h1 (cj (od h2) (cj1 (od h3)))) (impl_Fnv_l0_ok s_ fuel (u32 ((bxor .u32 v1 (u32 (sAt s_ v2))) * 16777619)) (i64 (v2 + 1)))) (fun h3 =>
     Pn.none)) (fun h2 =>
     Pn.none)) (fun h1 =>
     Pn.some (LpO.out [.bit false, .mask [3], .ren []] (p := [(decide (v2 < (s_.size : Int))) = false]) (by kernel_rfl) (show X.out 0 ≠ X.go from nofun) (cj1 h1)))
def impl_Fnv (s_ : ByteArray) : Option (Int) :=
 (impl_Fnv_l0 s_ FUEL 2166136261 0).bind fun r1 =>
 some (i64 r1)
theorem impl_Fnv_ok (s_ : ByteArray) : Pn (fun y => Fn Tryz.prog 25 [(false, E9 s_)] (E3 y) []) (impl_Fnv s_) := by
  unfold impl_Fnv
  exact
   Pn.bind (fun r1 h4 =>
   Pn.some (Fn.of [.wait 6, .mask [0, 3, 6, 7], .ren [], .loop (X.out 0) (st 20 [(3, V.sc (.int .u32 r1))] [] [])] (p := [Loop Tryz.prog (sub (codeOf Tryz.prog 25) [1, 1, 0, 1, 0, 0]) (st 20 [(0, V.sc (.string s_)), (3, V.sc (.int .u32 2166136261)), (6, V.sc (.int .i64 (s_.size : Int))), (7, V.sc (.int .i64 0))] [] []) (X.out 0) (st 20 [(3, V.sc (.int .u32 r1))] [] [])]) (by kernel_rfl) (cj1 (impl_Fnv_l0_ok s_ FUEL 2166136261 0 r1 h4))))
def impl_StripeNo (id : ByteArray) (n : Int) : Option (Int) :=
 if (decide (n < 1)) = true then
 some 0
 else
 (impl_Fnv id).bind fun r1 =>
 if (decide (n ≠ 0)) = true then
 some (Int.tmod r1 n)
 else none
theorem impl_StripeNo_ok (id : ByteArray) (n : Int) : Pn (fun y => Fn Tryz.prog 16 [(false, E9 id), (false, E3 n)] (E3 y) []) (impl_StripeNo id n) := by
  unfold impl_StripeNo
  exact
   Pn.ite (fun h1 =>
   Pn.some (Fn.of [.bit true] (p := [(decide (n < 1)) = true]) (by kernel_rfl) (cj1 h1))) (fun h1 =>
   Pn.bind (fun r1 h2 =>
   Pn.ite (fun h3 =>
   Pn.some (Fn.of [.bit false, .call [] (E3 r1) []] (p := [(decide (n < 1)) = false,
    Fn Tryz.prog 25 [(false, E9 id)] (E3 r1) [],
    (true || ((E3 r1).nv && nvL [])) = true,
    (n : Int) ≠ 0]) (by kernel_rfl) (cj h1 (cj (impl_Fnv_ok id r1 h2) (cj rfl (cj1 (od h3))))))) (fun h3 =>
   Pn.none)))
def slices_Clone_impl_Hold (s_ : List Hold) : Option (List Hold) := if capOk s_.length = true then some s_ else none
theorem slices_Clone_impl_Hold_ok : ∀ (s_ : List Hold), Pn (fun y => Fn Tryz.prog 71 [(false, E37 s_)] (E37 y) []) (slices_Clone_impl_Hold s_)
  | [] => by
    unfold slices_Clone_impl_Hold
    exact Pn.ite (fun h => Pn.some (Fn.two [] [.bit true] [.bit false, .cp (List.map E85 []), .nb 1 (.row 85 (List.map E85 []) [])] (p := []) (pT := [true = true]) (pF := [false = false, (List.map E85 []).map V.vw = (List.map E85 []), ([] : List V).length + (List.map E85 []).length ≤ 9223372036854775807, (([] : List V).length + (List.map E85 []).length) * 32 ≤ 140737488355328, Blk.row 85 (([] : List V) ++ (List.map E85 [])) [] = Blk.row 85 (List.map E85 []) []]) (by kernel_rfl) trivial (cj1 rfl) (cj rfl (cj (vw_id (fun _ => rfl) _) (cj (cap1 (capN (by simp) h)) (cj (cap2 (capN (by simp) h) (by decide)) (cj1 rfl))))))) (fun _ => Pn.none)
  | x :: t => by
    unfold slices_Clone_impl_Hold
    exact Pn.ite (fun h => Pn.some (Fn.two [] [.bit true] [.bit false, .cp (List.map E85 (x :: t)), .nb 1 (.row 85 (List.map E85 (x :: t)) [])] (p := []) (pT := [false = false, (List.map E85 (x :: t)).map V.vw = (List.map E85 (x :: t)), ([] : List V).length + (List.map E85 (x :: t)).length ≤ 9223372036854775807, (([] : List V).length + (List.map E85 (x :: t)).length) * 32 ≤ 140737488355328, Blk.row 85 (([] : List V) ++ (List.map E85 (x :: t))) [] = Blk.row 85 (List.map E85 (x :: t)) []]) (pF := [false = false, (List.map E85 (x :: t)).map V.vw = (List.map E85 (x :: t)), ([] : List V).length + (List.map E85 (x :: t)).length ≤ 9223372036854775807, (([] : List V).length + (List.map E85 (x :: t)).length) * 32 ≤ 140737488355328, Blk.row 85 (([] : List V) ++ (List.map E85 (x :: t))) [] = Blk.row 85 (List.map E85 (x :: t)) []]) (by kernel_rfl) trivial (cj rfl (cj (vw_id (fun _ => rfl) _) (cj (cap1 (capN (by simp) h)) (cj (cap2 (capN (by simp) h) (by decide)) (cj1 rfl))))) (cj rfl (cj (vw_id (fun _ => rfl) _) (cj (cap1 (capN (by simp) h)) (cj (cap2 (capN (by simp) h) (by decide)) (cj1 rfl))))))) (fun _ => Pn.none)
def slices_Clone_int (s_ : List Int) : Option (List Int) := if capOk s_.length = true then some s_ else none
theorem slices_Clone_int_ok : ∀ (s_ : List Int), Pn (fun y => Fn Tryz.prog 95 [(false, E38 s_)] (E38 y) []) (slices_Clone_int s_)
  | [] => by
    unfold slices_Clone_int
    exact Pn.ite (fun h => Pn.some (Fn.two [] [.bit true] [.bit false, .cp (List.map E3 []), .nb 1 (.row 3 (List.map E3 []) [])] (p := []) (pT := [true = true]) (pF := [false = false, (List.map E3 []).map V.vw = (List.map E3 []), ([] : List V).length + (List.map E3 []).length ≤ 9223372036854775807, (([] : List V).length + (List.map E3 []).length) * 8 ≤ 140737488355328, Blk.row 3 (([] : List V) ++ (List.map E3 [])) [] = Blk.row 3 (List.map E3 []) []]) (by kernel_rfl) trivial (cj1 rfl) (cj rfl (cj (vw_id (fun _ => rfl) _) (cj (cap1 (capN (by simp) h)) (cj (cap2 (capN (by simp) h) (by decide)) (cj1 rfl))))))) (fun _ => Pn.none)
  | x :: t => by
    unfold slices_Clone_int
    exact Pn.ite (fun h => Pn.some (Fn.two [] [.bit true] [.bit false, .cp (List.map E3 (x :: t)), .nb 1 (.row 3 (List.map E3 (x :: t)) [])] (p := []) (pT := [false = false, (List.map E3 (x :: t)).map V.vw = (List.map E3 (x :: t)), ([] : List V).length + (List.map E3 (x :: t)).length ≤ 9223372036854775807, (([] : List V).length + (List.map E3 (x :: t)).length) * 8 ≤ 140737488355328, Blk.row 3 (([] : List V) ++ (List.map E3 (x :: t))) [] = Blk.row 3 (List.map E3 (x :: t)) []]) (pF := [false = false, (List.map E3 (x :: t)).map V.vw = (List.map E3 (x :: t)), ([] : List V).length + (List.map E3 (x :: t)).length ≤ 9223372036854775807, (([] : List V).length + (List.map E3 (x :: t)).length) * 8 ≤ 140737488355328, Blk.row 3 (([] : List V) ++ (List.map E3 (x :: t))) [] = Blk.row 3 (List.map E3 (x :: t)) []]) (by kernel_rfl) trivial (cj rfl (cj (vw_id (fun _ => rfl) _) (cj (cap1 (capN (by simp) h)) (cj (cap2 (capN (by simp) h) (by decide)) (cj1 rfl))))) (cj rfl (cj (vw_id (fun _ => rfl) _) (cj (cap1 (capN (by simp) h)) (cj (cap2 (capN (by simp) h) (by decide)) (cj1 rfl))))))) (fun _ => Pn.none)
def impl_Ring_copied (r_ : Ring) : Option (Ring) :=
 (slices_Clone_int r_.Counts).bind fun r1 =>
 (slices_Clone_int r_.Sums).bind fun r2 =>
 some (Ring.mk r_.Span r_.Head r1 r2)
theorem impl_Ring_copied_ok (r_ : Ring) : Pn (fun y => Fn Tryz.prog 72 [(false, E40 r_)] (E40 y) []) (impl_Ring_copied r_) := by
  unfold impl_Ring_copied
  exact
   Pn.bind (fun r1 h1 =>
   Pn.bind (fun r2 h2 =>
   Pn.some (Fn.of [.draw [7, 9], .call [] (E38 r1) [], .call [] (E38 r2) []] (p := [Fn Tryz.prog 95 [(false, E38 r_.Counts)] (E38 r1) [],
    (true || ((E38 r1).nv && nvL [])) = true,
    Fn Tryz.prog 95 [(false, E38 r_.Sums)] (E38 r2) [],
    (true || ((E38 r2).nv && nvL [])) = true]) (by kernel_rfl) (cj (slices_Clone_int_ok r_.Counts r1 h1) (cj rfl (cj (slices_Clone_int_ok r_.Sums r2 h2) (cj1 rfl)))))))
def slices_Clone_byte (s_ : List Int) : Option (List Int) := if capOk s_.length = true then some s_ else none
theorem slices_Clone_byte_ok : ∀ (s_ : List Int), Pn (fun y => Fn Tryz.prog 96 [(false, E87 s_)] (E87 y) []) (slices_Clone_byte s_)
  | [] => by
    unfold slices_Clone_byte
    exact Pn.ite (fun h => Pn.some (Fn.two [] [.bit true] [.bit false, .cp (List.map E5 []), .nb 1 (.row 5 (List.map E5 []) [])] (p := []) (pT := [true = true]) (pF := [false = false, (List.map E5 []).map V.vw = (List.map E5 []), ([] : List V).length + (List.map E5 []).length ≤ 9223372036854775807, (([] : List V).length + (List.map E5 []).length) * 1 ≤ 140737488355328, Blk.row 5 (([] : List V) ++ (List.map E5 [])) [] = Blk.row 5 (List.map E5 []) []]) (by kernel_rfl) trivial (cj1 rfl) (cj rfl (cj (vw_id (fun _ => rfl) _) (cj (cap1 (capN (by simp) h)) (cj (cap2 (capN (by simp) h) (by decide)) (cj1 rfl))))))) (fun _ => Pn.none)
  | x :: t => by
    unfold slices_Clone_byte
    exact Pn.ite (fun h => Pn.some (Fn.two [] [.bit true] [.bit false, .cp (List.map E5 (x :: t)), .nb 1 (.row 5 (List.map E5 (x :: t)) [])] (p := []) (pT := [false = false, (List.map E5 (x :: t)).map V.vw = (List.map E5 (x :: t)), ([] : List V).length + (List.map E5 (x :: t)).length ≤ 9223372036854775807, (([] : List V).length + (List.map E5 (x :: t)).length) * 1 ≤ 140737488355328, Blk.row 5 (([] : List V) ++ (List.map E5 (x :: t))) [] = Blk.row 5 (List.map E5 (x :: t)) []]) (pF := [false = false, (List.map E5 (x :: t)).map V.vw = (List.map E5 (x :: t)), ([] : List V).length + (List.map E5 (x :: t)).length ≤ 9223372036854775807, (([] : List V).length + (List.map E5 (x :: t)).length) * 1 ≤ 140737488355328, Blk.row 5 (([] : List V) ++ (List.map E5 (x :: t))) [] = Blk.row 5 (List.map E5 (x :: t)) []]) (by kernel_rfl) trivial (cj rfl (cj (vw_id (fun _ => rfl) _) (cj (cap1 (capN (by simp) h)) (cj (cap2 (capN (by simp) h) (by decide)) (cj1 rfl))))) (cj rfl (cj (vw_id (fun _ => rfl) _) (cj (cap1 (capN (by simp) h)) (cj (cap2 (capN (by simp) h) (by decide)) (cj1 rfl))))))) (fun _ => Pn.none)
def impl_copySlots_l0 (l : List Slot) : List Slot → (List Slot) → Option ((List Slot))
  | [], v1 =>
   some v1
  | x1 :: t1, v1 =>
   (slices_Clone_byte x1.Reply).bind fun r1 =>
   if (capOk (v1.length + 1)) = true then
   impl_copySlots_l0 l t1 (v1 ++ [(Slot.mk x1.Trace x1.Mti r1)])
   else none
theorem impl_copySlots_l0_ok (l : List Slot) (h2 : capOk l.length = true) : ∀ (t1 p1 : List Slot) (_ : l = p1 ++ t1) (v1 : List Slot), Pn (LpO Tryz.prog (sub (codeOf Tryz.prog 73) [1, 1, 0, 1, 0, 0]) (st 26 [(3, V.ow 0), (7, V.sl false 89 (List.map E89 l)), (8, V.sc (.int .i64 (l.length : Int))), (9, V.sc (.int .i64 (p1.length : Int)))] [Blk.row 89 (List.map E89 v1) []] []) (fun (y : (List Slot)) => (X.out 0, st 26 [(3, V.ow 0)] [Blk.row 89 (List.map E89 y) []] []))) (impl_copySlots_l0 l t1 v1)
  | [], p1, h1, v1 => by
    unfold impl_copySlots_l0
    exact
     Pn.some (LpO.out [.bit false, .mask [3], .ren [0]] (p := [(decide ((p1.length : Int) < (l.length : Int))) = false]) (by kernel_rfl) (show X.out 0 ≠ X.go from nofun) (cj1 (rng_end h1)))
  | x1 :: t1, p1, h1, v1 => by
    unfold impl_copySlots_l0
    exact
     Pn.bind (fun r1 h3 =>
     Pn.ite (fun h4 =>
     LpO.go [.bit true, .el (E89 x1), .draw [10], .call [] (E87 r1) [], .wait 2, .shut 3, .mv, .nb 4 (.row 89 (List.map E89 (v1 ++ [(Slot.mk x1.Trace x1.Mti r1)])) []), .wait 4, .mask [3, 7, 8, 9], .ren [4], .nm 9 (V.sc (.int .i64 ((p1 ++ [x1]).length : Int)))] (p := [(decide ((p1.length : Int) < (l.length : Int))) = true,
      (0 : Int) ≤ (p1.length : Int),
      (List.map E89 l)[(p1.length : Int).toNat]? = some (E89 x1),
      Fn Tryz.prog 96 [(false, E87 x1.Reply)] (E87 r1) [],
      (true || ((E87 r1).nv && nvL [])) = true,
      (List.map E89 v1).length + [V.agg [V.sc (.string x1.Trace), V.sc (.string x1.Mti), V.sl true 5 (List.map E5 r1)]].length ≤ 9223372036854775807,
      ((List.map E89 v1).length + [V.agg [V.sc (.string x1.Trace), V.sc (.string x1.Mti), V.sl true 5 (List.map E5 r1)]].length) * 56 ≤ 140737488355328,
      Blk.row 89 ((List.map E89 v1) ++ [V.agg [V.sc (.string x1.Trace), V.sc (.string x1.Mti), V.sl true 5 (List.map E5 r1)]]) [] = Blk.row 89 (List.map E89 (v1 ++ [(Slot.mk x1.Trace x1.Mti r1)])) [],
      V.sc (.int .i64 (i64 ((p1.length : Int) + 1))) = V.sc (.int .i64 ((p1 ++ [x1]).length : Int))]) (by kernel_rfl) (cj (rng_lt h1) (cj (by omega) (cj (rng_get _ h1) (cj (slices_Clone_byte_ok x1.Reply r1 h3) (cj rfl (cj (cap1 (capN (by simp) h4)) (cj (cap2 (capN (by simp) h4) (by decide)) (cj (nb_app E89 v1 [(Slot.mk x1.Trace x1.Mti r1)]) (cj1 (rng_next h1 h2)))))))))) (impl_copySlots_l0_ok l h2 t1 (p1 ++ [x1]) (rng_step h1) (v1 ++ [(Slot.mk x1.Trace x1.Mti r1)]))) (fun h4 =>
     Pn.none))
def impl_copySlots (l : List Slot) : Option ((List Slot)) :=
 if (capOk l.length) = true then
 (impl_copySlots_l0 l l []).bind fun r2 =>
 some r2
 else none
theorem impl_copySlots_ok (l : List Slot) : Pn (fun y => Fn Tryz.prog 73 [(false, E41 l)] (E41 y) []) (impl_copySlots l) := by
  unfold impl_copySlots
  exact
   Pn.ite (fun h5 =>
   Pn.bind (fun r2 h6 =>
   Pn.some (Fn.of [.wait 5, .nm 8 (V.sc (.int .i64 (l.length : Int))), .wait 2, .mask [3, 7, 8, 9], .ren [0], .loop (X.out 0) (st 26 [(3, V.ow 0)] [Blk.row 89 (List.map E89 r2) []] [])] (p := [V.sc (.int .i64 ((List.map E89 l).length : Int)) = V.sc (.int .i64 (l.length : Int)),
    Loop Tryz.prog (sub (codeOf Tryz.prog 73) [1, 1, 0, 1, 0, 0]) (st 26 [(3, V.ow 0), (7, V.sl false 89 (List.map E89 l)), (8, V.sc (.int .i64 (l.length : Int))), (9, V.sc (.int .i64 0))] [Blk.row 89 ([] : List V) []] []) (X.out 0) (st 26 [(3, V.ow 0)] [Blk.row 89 (List.map E89 r2) []] [])]) (by kernel_rfl) (cj (len_nm _ _) (cj1 (impl_copySlots_l0_ok l h5 l [] rfl [] r2 h6)))))) (fun h5 =>
   Pn.none)
def impl_Acct_copied (a : Acct) : Option (Acct) :=
 (slices_Clone_impl_Hold a.Holds).bind fun r1 =>
 (impl_Ring_copied a.Ring).bind fun r2 =>
 (impl_copySlots a.Slots).bind fun r3 =>
 some (Acct.mk a.Id a.Limit a.Posted a.Most a.MostSum r1 r2 r3)
theorem impl_Acct_copied_ok (a : Acct) : Pn (fun y => Fn Tryz.prog 50 [(false, E43 a)] (E43 y) []) (impl_Acct_copied a) := by
  unfold impl_Acct_copied
  exact
   Pn.bind (fun r1 h1 =>
   Pn.bind (fun r2 h2 =>
   Pn.bind (fun r3 h3 =>
   Pn.some (Fn.of [.draw [10, 12, 14], .call [] (E37 r1) [], .call [] (E40 r2) [], .call [] (E41 r3) []] (p := [Fn Tryz.prog 71 [(false, E37 a.Holds)] (E37 r1) [],
    (true || ((E37 r1).nv && nvL [])) = true,
    Fn Tryz.prog 72 [(false, E40 a.Ring)] (E40 r2) [],
    (true || ((E40 r2).nv && nvL [])) = true,
    Fn Tryz.prog 73 [(false, E41 a.Slots)] (E41 r3) [],
    (true || ((E41 r3).nv && nvL [])) = true]) (by kernel_rfl) (cj (slices_Clone_impl_Hold_ok a.Holds r1 h1) (cj rfl (cj (impl_Ring_copied_ok a.Ring r2 h2) (cj rfl (cj (impl_copySlots_ok a.Slots r3 h3) (cj1 rfl))))))))))
def impl_Book_each_impl_Acct_copied_l0 (b : Book) : List Acct → (List Acct) → Option ((List Acct))
  | [], v1 =>
   some v1
  | x1 :: t1, v1 =>
   (impl_Acct_copied x1).bind fun r1 =>
   if (capOk (v1.length + 1)) = true then
   impl_Book_each_impl_Acct_copied_l0 b t1 (v1 ++ [r1])
   else none
theorem impl_Book_each_impl_Acct_copied_l0_ok (b : Book) (h2 : capOk b.Accts.length = true) : ∀ (t1 p1 : List Acct) (_ : b.Accts = p1 ++ t1) (v1 : List Acct), Pn (LpO Tryz.prog (sub (codeOf Tryz.prog 49) [1, 1, 0, 1, 0, 0]) (st 26 [(1, V.fn 50 []), (4, V.ptr 0 0), (5, V.ptr 1 0), (10, V.sl false 43 (List.map E43 b.Accts)), (11, V.sc (.int .i64 (b.Accts.length : Int))), (12, V.sc (.int .i64 (p1.length : Int)))] [Blk.box 47 [V.nl 43], Blk.box 47 [V.ow 2], Blk.row 43 (List.map E43 v1) []] []) (fun (y : (List Acct)) => (X.out 0, st 26 [(4, V.ptr 0 0), (5, V.ptr 1 0)] [Blk.box 47 [V.nl 43], Blk.box 47 [V.ow 2], Blk.row 43 (List.map E43 y) []] []))) (impl_Book_each_impl_Acct_copied_l0 b t1 v1)
  | [], p1, h1, v1 => by
    unfold impl_Book_each_impl_Acct_copied_l0
    exact
     Pn.some (LpO.out [.bit false, .mask [4, 5], .ren [0, 1, 2]] (p := [(decide ((p1.length : Int) < (b.Accts.length : Int))) = false]) (by kernel_rfl) (show X.out 0 ≠ X.go from nofun) (cj1 (rng_end h1)))
  | x1 :: t1, p1, h1, v1 => by
    unfold impl_Book_each_impl_Acct_copied_l0
    exact
     Pn.bind (fun r1 h3 =>
     Pn.ite (fun h4 =>
     LpO.go [.bit true, .el (E43 x1), .draw [6, 8], .call [] (E43 r1) [], .wait 1, .shut 8, .mv, .nb 9 (.row 43 (List.map E43 (v1 ++ [r1])) []), .wait 5, .mask [1, 4, 5, 10, 11, 12], .ren [0, 1, 9], .nm 12 (V.sc (.int .i64 ((p1 ++ [x1]).length : Int)))] (p := [(decide ((p1.length : Int) < (b.Accts.length : Int))) = true,
      (0 : Int) ≤ (p1.length : Int),
      (List.map E43 b.Accts)[(p1.length : Int).toNat]? = some (E43 x1),
      Fn Tryz.prog 50 [(false, E43 x1)] (E43 r1) [],
      (true || ((E43 r1).nv && nvL [])) = true,
      (List.map E43 v1).length + [V.agg [V.sc (.string r1.Id), V.sc (.int .i64 r1.Limit), V.sc (.int .i64 r1.Posted), V.sc (.int .i64 r1.Most), V.sc (.int .i64 r1.MostSum), V.sl true 85 (List.map E85 r1.Holds), V.sc (.int .i64 r1.Ring.Span), V.sc (.int .i64 r1.Ring.Head), V.sl true 3 (List.map E3 r1.Ring.Counts), V.sl true 3 (List.map E3 r1.Ring.Sums), V.sl true 89 (List.map E89 r1.Slots)]].length ≤ 9223372036854775807,
      ((List.map E43 v1).length + [V.agg [V.sc (.string r1.Id), V.sc (.int .i64 r1.Limit), V.sc (.int .i64 r1.Posted), V.sc (.int .i64 r1.Most), V.sc (.int .i64 r1.MostSum), V.sl true 85 (List.map E85 r1.Holds), V.sc (.int .i64 r1.Ring.Span), V.sc (.int .i64 r1.Ring.Head), V.sl true 3 (List.map E3 r1.Ring.Counts), V.sl true 3 (List.map E3 r1.Ring.Sums), V.sl true 89 (List.map E89 r1.Slots)]].length) * 160 ≤ 140737488355328,
      Blk.row 43 ((List.map E43 v1) ++ [V.agg [V.sc (.string r1.Id), V.sc (.int .i64 r1.Limit), V.sc (.int .i64 r1.Posted), V.sc (.int .i64 r1.Most), V.sc (.int .i64 r1.MostSum), V.sl true 85 (List.map E85 r1.Holds), V.sc (.int .i64 r1.Ring.Span), V.sc (.int .i64 r1.Ring.Head), V.sl true 3 (List.map E3 r1.Ring.Counts), V.sl true 3 (List.map E3 r1.Ring.Sums), V.sl true 89 (List.map E89 r1.Slots)]]) [] = Blk.row 43 (List.map E43 (v1 ++ [r1])) [],
      V.sc (.int .i64 (i64 ((p1.length : Int) + 1))) = V.sc (.int .i64 ((p1 ++ [x1]).length : Int))]) (by kernel_rfl) (cj (rng_lt h1) (cj (by omega) (cj (rng_get _ h1) (cj (impl_Acct_copied_ok x1 r1 h3) (cj rfl (cj (cap1 (capN (by simp) h4)) (cj (cap2 (capN (by simp) h4) (by decide)) (cj (nb_app E43 v1 [r1]) (cj1 (rng_next h1 h2)))))))))) (impl_Book_each_impl_Acct_copied_l0_ok b h2 t1 (p1 ++ [x1]) (rng_step h1) (v1 ++ [r1]))) (fun h4 =>
     Pn.none))
def impl_Book_each_impl_Acct_copied (b : Book) : Option (Book) :=
 if (capOk b.Accts.length) = true then
 (impl_Book_each_impl_Acct_copied_l0 b b.Accts []).bind fun r2 =>
 some (Book.mk r2)
 else none
theorem impl_Book_each_impl_Acct_copied_ok (b : Book) : Pn (fun y => Fn Tryz.prog 49 [(false, E47 b), (false, V.fn 50 [])] (E47 y) []) (impl_Book_each_impl_Acct_copied b) := by
  unfold impl_Book_each_impl_Acct_copied
  exact
   Pn.ite (fun h5 =>
   Pn.bind (fun r2 h6 =>
   Pn.some (Fn.of [.wait 8, .nm 11 (V.sc (.int .i64 (b.Accts.length : Int))), .wait 2, .mask [1, 4, 5, 10, 11, 12], .ren [1, 2], .ownb 1 0, .mask [1, 4, 5, 10, 11, 12], .ren [0, 1, 2], .loop (X.out 0) (st 26 [(4, V.ptr 0 0), (5, V.ptr 1 0)] [Blk.box 47 [V.nl 43], Blk.box 47 [V.ow 2], Blk.row 43 (List.map E43 r2) []] [])] (p := [V.sc (.int .i64 ((List.map E43 b.Accts).length : Int)) = V.sc (.int .i64 (b.Accts.length : Int)),
    Loop Tryz.prog (sub (codeOf Tryz.prog 49) [1, 1, 0, 1, 0, 0]) (st 26 [(1, V.fn 50 []), (4, V.ptr 0 0), (5, V.ptr 1 0), (10, V.sl false 43 (List.map E43 b.Accts)), (11, V.sc (.int .i64 (b.Accts.length : Int))), (12, V.sc (.int .i64 0))] [Blk.box 47 [V.nl 43], Blk.box 47 [V.ow 2], Blk.row 43 ([] : List V) []] []) (X.out 0) (st 26 [(4, V.ptr 0 0), (5, V.ptr 1 0)] [Blk.box 47 [V.nl 43], Blk.box 47 [V.ow 2], Blk.row 43 (List.map E43 r2) []] [])]) (by kernel_rfl) (cj (len_nm _ _) (cj1 (impl_Book_each_impl_Acct_copied_l0_ok b h5 b.Accts [] rfl [] r2 h6)))))) (fun h5 =>
   Pn.none)
def impl_Book_copied (b : Book) : Option (Book) :=
 (impl_Book_each_impl_Acct_copied b).bind fun r1 =>
 some r1
theorem impl_Book_copied_ok (b : Book) : Pn (fun y => Fn Tryz.prog 27 [(false, E47 b)] (E47 y) []) (impl_Book_copied b) := by
  unfold impl_Book_copied
  exact
   Pn.bind (fun r1 h1 =>
   Pn.some (Fn.of [.call [] (E47 r1) []] (p := [Fn Tryz.prog 49 [(false, E47 b), (false, V.fn 50 [])] (E47 r1) [],
    (true || ((E47 r1).nv && nvL [])) = true]) (by kernel_rfl) (cj (impl_Book_each_impl_Acct_copied_ok b r1 h1) (cj1 rfl))))
def impl_Gather_1 (a : Acct) (b : Acct) : Option (Int) :=
 if (Op.bytesLess a.Id.toList b.Id.toList) = true then
 some (-1)
 else
 if (Op.bytesLess a.Id.toList b.Id.toList || (a.Id == b.Id)) = true then
 some 0
 else
 some 1
theorem impl_Gather_1_ok (a : Acct) (b : Acct) : Pn (fun y => Fn Tryz.prog 29 [(false, E43 a), (false, E43 b)] (E3 y) []) (impl_Gather_1 a b) := by
  unfold impl_Gather_1
  exact
   Pn.ite (fun h1 =>
   Pn.some (Fn.of [.bit true] (p := [(Op.bytesLess a.Id.toList b.Id.toList) = true]) (by kernel_rfl) (cj1 h1))) (fun h1 =>
   Pn.ite (fun h2 =>
   Pn.some (Fn.of [.bit false, .bit false] (p := [(Op.bytesLess a.Id.toList b.Id.toList) = false,
    (!(Op.bytesLess a.Id.toList b.Id.toList || (a.Id == b.Id))) = false]) (by kernel_rfl) (cj h1 (cj1 (nf h2))))) (fun h2 =>
   Pn.some (Fn.of [.bit false, .bit true] (p := [(Op.bytesLess a.Id.toList b.Id.toList) = false,
    (!(Op.bytesLess a.Id.toList b.Id.toList || (a.Id == b.Id))) = true]) (by kernel_rfl) (cj h1 (cj1 (nt h2))))))
end Go.Proofs.YtdcejeemommkfaaGreatM
