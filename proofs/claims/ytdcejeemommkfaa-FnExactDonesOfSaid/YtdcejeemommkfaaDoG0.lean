/- Printed by gen.py: functions on plain data, and that the program computes them. No condition. -/
import Derived.Test.YtdcejeemommkfaaM18
import Derived.Test.YtdcejeemommkfaaProg
namespace Go.Proofs.YtdcejeemommkfaaM
set_option linter.unusedVariables false
set_option linter.unusedSimpArgs false
open Go.RowKit
set_option maxRecDepth 100000

structure Hold where
  Id : ByteArray
  Amount : Int
  Due : Int
structure Ring where
  Span : Int
  Head : Int
  Counts : List Int
  Sums : List Int
structure Slot where
  Trace : ByteArray
  Mti : ByteArray
  Reply : List Int
structure Acct where
  Id : ByteArray
  Limit : Int
  Posted : Int
  Most : Int
  MostSum : Int
  Holds : List Hold
  Ring : Ring
  Slots : List Slot
structure Stripe where
  Owner : Int
  Accts : List Acct
structure Task where
  Data : List Int
  Pc : Int
  Set : List Int
  Held : Int
  Inv : Int
  Lin : Int
  Res : Int
  At : Int
  Reply : List Int
structure World where
  Stripes : List Stripe
  Now : Int
  Step : Int
  Tasks : List Task
structure Done where
  At : Int
  Data : List Int
  Reply : List Int
def E3 (x : Int) : V := V.sc (.int .i64 x)
def E9 (x : ByteArray) : V := V.sc (.string x)
def E226 (x : Hold) : V := V.agg [V.sc (.string x.Id), V.sc (.int .i64 x.Amount), V.sc (.int .i64 x.Due)]
def E207 (x : List Hold) : V := V.sl true 226 (List.map E226 x)
def E24 (x : List Int) : V := V.sl true 3 (List.map E3 x)
def E208 (x : Ring) : V := V.agg [V.sc (.int .i64 x.Span), V.sc (.int .i64 x.Head), V.sl true 3 (List.map E3 x.Counts), V.sl true 3 (List.map E3 x.Sums)]
def E5 (x : Int) : V := V.sc (.int .u8 x)
def E22 (x : List Int) : V := V.sl true 5 (List.map E5 x)
def E228 (x : Slot) : V := V.agg [V.sc (.string x.Trace), V.sc (.string x.Mti), V.sl true 5 (List.map E5 x.Reply)]
def E209 (x : List Slot) : V := V.sl true 228 (List.map E228 x)
def E211 (x : Acct) : V := V.agg [V.sc (.string x.Id), V.sc (.int .i64 x.Limit), V.sc (.int .i64 x.Posted), V.sc (.int .i64 x.Most), V.sc (.int .i64 x.MostSum), V.sl true 226 (List.map E226 x.Holds), V.sc (.int .i64 x.Ring.Span), V.sc (.int .i64 x.Ring.Head), V.sl true 3 (List.map E3 x.Ring.Counts), V.sl true 3 (List.map E3 x.Ring.Sums), V.sl true 228 (List.map E228 x.Slots)]
def E126 (x : List Acct) : V := V.sl true 211 (List.map E211 x)
def E128 (x : Stripe) : V := V.agg [V.sc (.int .i64 x.Owner), V.sl true 211 (List.map E211 x.Accts)]
def E61 (x : List Stripe) : V := V.sl true 128 (List.map E128 x)
def E181 (x : Task) : V := V.agg [V.sl true 5 (List.map E5 x.Data), V.sc (.int .i64 x.Pc), V.sl true 3 (List.map E3 x.Set), V.sc (.int .i64 x.Held), V.sc (.int .i64 x.Inv), V.sc (.int .i64 x.Lin), V.sc (.int .i64 x.Res), V.sc (.int .i64 x.At), V.sl true 5 (List.map E5 x.Reply)]
def E73 (x : List Task) : V := V.sl true 181 (List.map E181 x)
def E75 (x : World) : V := V.agg [V.sl true 128 (List.map E128 x.Stripes), V.sc (.int .i64 x.Now), V.sc (.int .i64 x.Step), V.sl true 181 (List.map E181 x.Tasks)]
def E4 (x : Bool) : V := V.sc (.bool x)
def E36 (x : Hold) : V := V.agg [V.sc (.string x.Id), V.sc (.int .i64 x.Amount), V.sc (.int .i64 x.Due)]
def E23 (x : List Hold) : V := V.sl true 36 (List.map E36 x)
def E26 (x : Ring) : V := V.agg [V.sc (.int .i64 x.Span), V.sc (.int .i64 x.Head), V.sl true 3 (List.map E3 x.Counts), V.sl true 3 (List.map E3 x.Sums)]
def E164 (x : Slot) : V := V.agg [V.sc (.string x.Trace), V.sc (.string x.Mti), V.sl true 5 (List.map E5 x.Reply)]
def E27 (x : List Slot) : V := V.sl true 164 (List.map E164 x)
def E29 (x : Acct) : V := V.agg [V.sc (.string x.Id), V.sc (.int .i64 x.Limit), V.sc (.int .i64 x.Posted), V.sc (.int .i64 x.Most), V.sc (.int .i64 x.MostSum), V.sl true 36 (List.map E36 x.Holds), V.sc (.int .i64 x.Ring.Span), V.sc (.int .i64 x.Ring.Head), V.sl true 3 (List.map E3 x.Ring.Counts), V.sl true 3 (List.map E3 x.Ring.Sums), V.sl true 164 (List.map E164 x.Slots)]
def E48 (x : List Acct) : V := V.sl true 29 (List.map E29 x)
def E58 (x : Stripe) : V := V.agg [V.sc (.int .i64 x.Owner), V.sl true 29 (List.map E29 x.Accts)]
def E53 (x : List Stripe) : V := V.sl true 58 (List.map E58 x)
def E137 (x : Task) : V := V.agg [V.sl true 5 (List.map E5 x.Data), V.sc (.int .i64 x.Pc), V.sl true 3 (List.map E3 x.Set), V.sc (.int .i64 x.Held), V.sc (.int .i64 x.Inv), V.sc (.int .i64 x.Lin), V.sc (.int .i64 x.Res), V.sc (.int .i64 x.At), V.sl true 5 (List.map E5 x.Reply)]
def E79 (x : List Task) : V := V.sl true 137 (List.map E137 x)
def E81 (x : World) : V := V.agg [V.sl true 58 (List.map E58 x.Stripes), V.sc (.int .i64 x.Now), V.sc (.int .i64 x.Step), V.sl true 137 (List.map E137 x.Tasks)]
def E140 (x : Done) : V := V.agg [V.sc (.int .i64 x.At), V.sl true 5 (List.map E5 x.Data), V.sl true 5 (List.map E5 x.Reply)]
def E77 (x : List Done) : V := V.sl true 140 (List.map E140 x)
theorem nv_E3 (x : Int) : (E3 x).nv = true := by
  simp [E3, V.nv, nvL, nvL_all]
theorem nv_E9 (x : ByteArray) : (E9 x).nv = true := by
  simp [E9, V.nv, nvL, nvL_all]
theorem nv_E226 (x : Hold) : (E226 x).nv = true := by
  simp [E226, V.nv, nvL, nvL_all]
theorem nv_E207 (x : List Hold) : (E207 x).nv = true := by
  simp [E207, V.nv, nvL, nvL_all, nv_E226]
theorem nv_E24 (x : List Int) : (E24 x).nv = true := by
  simp [E24, V.nv, nvL, nvL_all, nv_E3]
theorem nv_E208 (x : Ring) : (E208 x).nv = true := by
  simp [E208, V.nv, nvL, nvL_all, nv_E3, nv_E3]
theorem nv_E5 (x : Int) : (E5 x).nv = true := by
  simp [E5, V.nv, nvL, nvL_all]
theorem nv_E22 (x : List Int) : (E22 x).nv = true := by
  simp [E22, V.nv, nvL, nvL_all, nv_E5]
theorem nv_E228 (x : Slot) : (E228 x).nv = true := by
  simp [E228, V.nv, nvL, nvL_all, nv_E5]
theorem nv_E209 (x : List Slot) : (E209 x).nv = true := by
  simp [E209, V.nv, nvL, nvL_all, nv_E228]
theorem nv_E211 (x : Acct) : (E211 x).nv = true := by
  simp [E211, V.nv, nvL, nvL_all, nv_E226, nv_E3, nv_E3, nv_E228]
theorem nv_E126 (x : List Acct) : (E126 x).nv = true := by
  simp [E126, V.nv, nvL, nvL_all, nv_E211]
theorem nv_E128 (x : Stripe) : (E128 x).nv = true := by
  simp [E128, V.nv, nvL, nvL_all, nv_E211]
theorem nv_E61 (x : List Stripe) : (E61 x).nv = true := by
  simp [E61, V.nv, nvL, nvL_all, nv_E128]
theorem nv_E181 (x : Task) : (E181 x).nv = true := by
  simp [E181, V.nv, nvL, nvL_all, nv_E5, nv_E3, nv_E5]
theorem nv_E73 (x : List Task) : (E73 x).nv = true := by
  simp [E73, V.nv, nvL, nvL_all, nv_E181]
theorem nv_E75 (x : World) : (E75 x).nv = true := by
  simp [E75, V.nv, nvL, nvL_all, nv_E128, nv_E181]
theorem nv_E4 (x : Bool) : (E4 x).nv = true := by
  simp [E4, V.nv, nvL, nvL_all]
theorem nv_E36 (x : Hold) : (E36 x).nv = true := by
  simp [E36, V.nv, nvL, nvL_all]
theorem nv_E23 (x : List Hold) : (E23 x).nv = true := by
  simp [E23, V.nv, nvL, nvL_all, nv_E36]
theorem nv_E26 (x : Ring) : (E26 x).nv = true := by
  simp [E26, V.nv, nvL, nvL_all, nv_E3, nv_E3]
theorem nv_E164 (x : Slot) : (E164 x).nv = true := by
  simp [E164, V.nv, nvL, nvL_all, nv_E5]
theorem nv_E27 (x : List Slot) : (E27 x).nv = true := by
  simp [E27, V.nv, nvL, nvL_all, nv_E164]
theorem nv_E29 (x : Acct) : (E29 x).nv = true := by
  simp [E29, V.nv, nvL, nvL_all, nv_E36, nv_E3, nv_E3, nv_E164]
theorem nv_E48 (x : List Acct) : (E48 x).nv = true := by
  simp [E48, V.nv, nvL, nvL_all, nv_E29]
theorem nv_E58 (x : Stripe) : (E58 x).nv = true := by
  simp [E58, V.nv, nvL, nvL_all, nv_E29]
theorem nv_E53 (x : List Stripe) : (E53 x).nv = true := by
  simp [E53, V.nv, nvL, nvL_all, nv_E58]
theorem nv_E137 (x : Task) : (E137 x).nv = true := by
  simp [E137, V.nv, nvL, nvL_all, nv_E5, nv_E3, nv_E5]
theorem nv_E79 (x : List Task) : (E79 x).nv = true := by
  simp [E79, V.nv, nvL, nvL_all, nv_E137]
theorem nv_E81 (x : World) : (E81 x).nv = true := by
  simp [E81, V.nv, nvL, nvL_all, nv_E58, nv_E137]
theorem nv_E140 (x : Done) : (E140 x).nv = true := by
  simp [E140, V.nv, nvL, nvL_all, nv_E5, nv_E5]
theorem nv_E77 (x : List Done) : (E77 x).nv = true := by
  simp [E77, V.nv, nvL, nvL_all, nv_E140]
def laws_szHold (a : Hold) (left : Int) : Option (Int) :=
 if (decide ((i64 (left - (a.Id.size : Int))) < 0)) = true then
  some (-1)
 else
  some (i64 (left - (a.Id.size : Int)))
theorem laws_szHold_ok (a : Hold) (left : Int) : Pn (fun y => Fn Try.prog 221 [(false, E226 a), (false, E3 left)] (E3 y) []) (laws_szHold a left) := by
  unfold laws_szHold
  exact
   Pn.ite (fun h1 =>
    Pn.some (Fn.of [.bit true] (p := [(decide ((i64 (left - (a.Id.size : Int))) < 0)) = true]) (by kernel_rfl) (cj1 h1))) (fun h1 =>
    Pn.some (Fn.of [.bit false] (p := [(decide ((i64 (left - (a.Id.size : Int))) < 0)) = false]) (by kernel_rfl) (cj1 h1)))
def laws_szHoldS_l0 (a : List Hold) : List Hold → Int → Option (Lo Int Unit)
  | [], v1 =>
   some (.out v1)
  | x1 :: t1, v1 =>
   (laws_szHold x1 v1).bind fun r1 =>
   if (decide (r1 < 0)) = true then
    some (.ret ())
   else
    laws_szHoldS_l0 a t1 r1
theorem laws_szHoldS_l0_ok (a : List Hold) (h3 : capOk a.length = true) : ∀ (t1 p1 : List Hold) (_ : a = p1 ++ t1) (v1 : Int), Pn (LpO Try.prog (sub (codeOf Try.prog 209) [1, 1, 1, 0, 1, 0, 0]) (st 27 [(0, V.sl false 226 (List.map E226 a)), (1, V.sc (.int .i64 v1)), (5, V.sc (.int .i64 (p1.length : Int)))] [] []) (fun (y : Lo Int Unit) => Lo.elim y (fun s => (X.out 0, st 27 [(1, V.sc (.int .i64 s))] [] [])) (fun s => (X.ret, st 27 [(4, V.sc (.int .i64 (-1)))] [] [])))) (laws_szHoldS_l0 a t1 v1)
  | [], p1, h2, v1 => by
    unfold laws_szHoldS_l0
    exact
     Pn.some (LpO.out [.wait 3, .nm 14 (V.sc (.int .i64 (a.length : Int))), .bit false, .mask [1], .ren []] (p := [V.sc (.int .i64 ((List.map E226 a).length : Int)) = V.sc (.int .i64 (a.length : Int)),
      (decide ((p1.length : Int) < (a.length : Int))) = false]) (by kernel_rfl) (show X.out 0 ≠ X.go from nofun) (cj (len_nm _ _) (cj1 (rng_end h2))))
  | x1 :: t1, p1, h2, v1 => by
    unfold laws_szHoldS_l0
    exact
     Pn.bind (fun r1 h4 =>
      Pn.ite (fun h5 =>
       Pn.some (LpO.out [.wait 3, .nm 14 (V.sc (.int .i64 (a.length : Int))), .bit true, .el (E226 x1), .call [] (E3 r1) [], .bit true, .wait 1, .mask [4], .ren []] (p := [V.sc (.int .i64 ((List.map E226 a).length : Int)) = V.sc (.int .i64 (a.length : Int)),
        (decide ((p1.length : Int) < (a.length : Int))) = true,
        (0 : Int) ≤ (p1.length : Int),
        (List.map E226 a)[(p1.length : Int).toNat]? = some (E226 x1),
        Fn Try.prog 221 [(false, E226 x1), (false, E3 v1)] (E3 r1) [],
        (true || ((E3 r1).nv && nvL [])) = true,
        (decide (r1 < 0)) = true]) (by kernel_rfl) (show X.ret ≠ X.go from nofun) (cj (len_nm _ _) (cj (rng_lt h2) (cj (by omega) (cj (rng_get _ h2) (cj (laws_szHold_ok x1 v1 r1 h4) (cj rfl (cj1 h5))))))))) (fun h5 =>
       LpO.go [.wait 3, .nm 14 (V.sc (.int .i64 (a.length : Int))), .bit true, .el (E226 x1), .call [] (E3 r1) [], .bit false, .wait 3, .mask [0, 1, 5], .ren [], .nm 5 (V.sc (.int .i64 ((p1 ++ [x1]).length : Int)))] (p := [V.sc (.int .i64 ((List.map E226 a).length : Int)) = V.sc (.int .i64 (a.length : Int)),
        (decide ((p1.length : Int) < (a.length : Int))) = true,
        (0 : Int) ≤ (p1.length : Int),
        (List.map E226 a)[(p1.length : Int).toNat]? = some (E226 x1),
        Fn Try.prog 221 [(false, E226 x1), (false, E3 v1)] (E3 r1) [],
        (true || ((E3 r1).nv && nvL [])) = true,
        (decide (r1 < 0)) = false,
        V.sc (.int .i64 (i64 ((p1.length : Int) + 1))) = V.sc (.int .i64 ((p1 ++ [x1]).length : Int))]) (by kernel_rfl) (cj (len_nm _ _) (cj (rng_lt h2) (cj (by omega) (cj (rng_get _ h2) (cj (laws_szHold_ok x1 v1 r1 h4) (cj rfl (cj h5 (cj1 (rng_next h2 h3))))))))) (laws_szHoldS_l0_ok a h3 t1 (p1 ++ [x1]) (rng_step h2) r1)))
def laws_szHoldS (a : List Hold) (left : Int) : Option (Int) :=
 if (decide ((i64 (left - (a.length : Int))) < 0)) = true then
  some (-1)
 else
  if (capOk a.length) = true then
   (laws_szHoldS_l0 a a (i64 (left - (a.length : Int)))).bind fun r2 =>
   Lo.elim r2 (fun s1 =>
    some s1) (fun s2 =>
    some (-1))
  else none
theorem laws_szHoldS_ok (a : List Hold) (left : Int) : Pn (fun y => Fn Try.prog 209 [(false, E207 a), (false, E3 left)] (E3 y) []) (laws_szHoldS a left) := by
  unfold laws_szHoldS
  exact
   Pn.ite (fun h1 =>
    Pn.some (Fn.of [.wait 4, .nm 8 (V.sc (.int .i64 (a.length : Int))), .bit true] (p := [V.sc (.int .i64 ((List.map E226 a).length : Int)) = V.sc (.int .i64 (a.length : Int)),
     (decide ((i64 (left - (a.length : Int))) < 0)) = true]) (by kernel_rfl) (cj (len_nm _ _) (cj1 h1)))) (fun h1 =>
    Pn.ite (fun h6 =>
     Pn.bind (fun r2 h7 =>
      Pn.lo (fun s1 h8 =>
       Pn.some (Fn.of [.wait 4, .nm 8 (V.sc (.int .i64 (a.length : Int))), .bit false, .wait 1, .mask [0, 1, 5], .ren [], .loop (X.out 0) (st 27 [(1, V.sc (.int .i64 s1))] [] [])] (p := [V.sc (.int .i64 ((List.map E226 a).length : Int)) = V.sc (.int .i64 (a.length : Int)),
        (decide ((i64 (left - (a.length : Int))) < 0)) = false,
        Loop Try.prog (sub (codeOf Try.prog 209) [1, 1, 1, 0, 1, 0, 0]) (st 27 [(0, V.sl false 226 (List.map E226 a)), (1, V.sc (.int .i64 (i64 (left - (a.length : Int))))), (5, V.sc (.int .i64 0))] [] []) (X.out 0) (st 27 [(1, V.sc (.int .i64 s1))] [] [])]) (by kernel_rfl) (cj (len_nm _ _) (cj h1 (cj1 ((laws_szHoldS_l0_ok a h6 a [] rfl (i64 (left - (a.length : Int))) r2 h7).at h8)))))) (fun s2 h9 =>
       Pn.some (Fn.of [.wait 4, .nm 8 (V.sc (.int .i64 (a.length : Int))), .bit false, .wait 1, .mask [0, 1, 5], .ren [], .loop (X.ret) (st 27 [(4, V.sc (.int .i64 (-1)))] [] [])] (p := [V.sc (.int .i64 ((List.map E226 a).length : Int)) = V.sc (.int .i64 (a.length : Int)),
        (decide ((i64 (left - (a.length : Int))) < 0)) = false,
        Loop Try.prog (sub (codeOf Try.prog 209) [1, 1, 1, 0, 1, 0, 0]) (st 27 [(0, V.sl false 226 (List.map E226 a)), (1, V.sc (.int .i64 (i64 (left - (a.length : Int))))), (5, V.sc (.int .i64 0))] [] []) (X.ret) (st 27 [(4, V.sc (.int .i64 (-1)))] [] [])]) (by kernel_rfl) (cj (len_nm _ _) (cj h1 (cj1 ((laws_szHoldS_l0_ok a h6 a [] rfl (i64 (left - (a.length : Int))) r2 h7).at h9)))))))) (fun h6 =>
     Pn.none))
def laws_szIntS (a : List Int) (left : Int) : Option (Int) :=
 if (decide ((i64 (left - (a.length : Int))) < 0)) = true then
  some (-1)
 else
  some (i64 (left - (a.length : Int)))
theorem laws_szIntS_ok (a : List Int) (left : Int) : Pn (fun y => Fn Try.prog 199 [(false, E24 a), (false, E3 left)] (E3 y) []) (laws_szIntS a left) := by
  unfold laws_szIntS
  exact
   Pn.ite (fun h1 =>
    Pn.some (Fn.of [.wait 4, .nm 7 (V.sc (.int .i64 (a.length : Int))), .bit true] (p := [V.sc (.int .i64 ((List.map E3 a).length : Int)) = V.sc (.int .i64 (a.length : Int)),
     (decide ((i64 (left - (a.length : Int))) < 0)) = true]) (by kernel_rfl) (cj (len_nm _ _) (cj1 h1)))) (fun h1 =>
    Pn.some (Fn.of [.wait 4, .nm 7 (V.sc (.int .i64 (a.length : Int))), .bit false] (p := [V.sc (.int .i64 ((List.map E3 a).length : Int)) = V.sc (.int .i64 (a.length : Int)),
     (decide ((i64 (left - (a.length : Int))) < 0)) = false]) (by kernel_rfl) (cj (len_nm _ _) (cj1 h1))))
def laws_szRing (a : Ring) (left : Int) : Option (Int) :=
 (laws_szIntS a.Counts left).bind fun r1 =>
 if (decide (r1 < 0)) = true then
  some (-1)
 else
  (laws_szIntS a.Sums r1).bind fun r2 =>
  if (decide (r2 < 0)) = true then
   some (-1)
  else
   some r2
theorem laws_szRing_ok (a : Ring) (left : Int) : Pn (fun y => Fn Try.prog 210 [(false, E208 a), (false, E3 left)] (E3 y) []) (laws_szRing a left) := by
  unfold laws_szRing
  exact
   Pn.bind (fun r1 h1 =>
    Pn.ite (fun h2 =>
     Pn.some (Fn.of [.call [] (E3 r1) [], .bit true] (p := [Fn Try.prog 199 [(false, E24 a.Counts), (false, E3 left)] (E3 r1) [],
      (true || ((E3 r1).nv && nvL [])) = true,
      (decide (r1 < 0)) = true]) (by kernel_rfl) (cj (laws_szIntS_ok a.Counts left r1 h1) (cj rfl (cj1 h2))))) (fun h2 =>
     Pn.bind (fun r2 h3 =>
      Pn.ite (fun h4 =>
       Pn.some (Fn.of [.call [] (E3 r1) [], .bit false, .call [] (E3 r2) [], .bit true] (p := [Fn Try.prog 199 [(false, E24 a.Counts), (false, E3 left)] (E3 r1) [],
        (true || ((E3 r1).nv && nvL [])) = true,
        (decide (r1 < 0)) = false,
        Fn Try.prog 199 [(false, E24 a.Sums), (false, E3 r1)] (E3 r2) [],
        (true || ((E3 r2).nv && nvL [])) = true,
        (decide (r2 < 0)) = true]) (by kernel_rfl) (cj (laws_szIntS_ok a.Counts left r1 h1) (cj rfl (cj h2 (cj (laws_szIntS_ok a.Sums r1 r2 h3) (cj rfl (cj1 h4)))))))) (fun h4 =>
       Pn.some (Fn.of [.call [] (E3 r1) [], .bit false, .call [] (E3 r2) [], .bit false] (p := [Fn Try.prog 199 [(false, E24 a.Counts), (false, E3 left)] (E3 r1) [],
        (true || ((E3 r1).nv && nvL [])) = true,
        (decide (r1 < 0)) = false,
        Fn Try.prog 199 [(false, E24 a.Sums), (false, E3 r1)] (E3 r2) [],
        (true || ((E3 r2).nv && nvL [])) = true,
        (decide (r2 < 0)) = false]) (by kernel_rfl) (cj (laws_szIntS_ok a.Counts left r1 h1) (cj rfl (cj h2 (cj (laws_szIntS_ok a.Sums r1 r2 h3) (cj rfl (cj1 h4)))))))))))
def laws_szByteS (a : List Int) (left : Int) : Option (Int) :=
 if (decide ((i64 (left - (a.length : Int))) < 0)) = true then
  some (-1)
 else
  some (i64 (left - (a.length : Int)))
theorem laws_szByteS_ok (a : List Int) (left : Int) : Pn (fun y => Fn Try.prog 198 [(false, E22 a), (false, E3 left)] (E3 y) []) (laws_szByteS a left) := by
  unfold laws_szByteS
  exact
   Pn.ite (fun h1 =>
    Pn.some (Fn.of [.wait 4, .nm 7 (V.sc (.int .i64 (a.length : Int))), .bit true] (p := [V.sc (.int .i64 ((List.map E5 a).length : Int)) = V.sc (.int .i64 (a.length : Int)),
     (decide ((i64 (left - (a.length : Int))) < 0)) = true]) (by kernel_rfl) (cj (len_nm _ _) (cj1 h1)))) (fun h1 =>
    Pn.some (Fn.of [.wait 4, .nm 7 (V.sc (.int .i64 (a.length : Int))), .bit false] (p := [V.sc (.int .i64 ((List.map E5 a).length : Int)) = V.sc (.int .i64 (a.length : Int)),
     (decide ((i64 (left - (a.length : Int))) < 0)) = false]) (by kernel_rfl) (cj (len_nm _ _) (cj1 h1))))
def laws_szSlot (a : Slot) (left : Int) : Option (Int) :=
 if (decide ((i64 (left - (a.Trace.size : Int))) < 0)) = true then
  some (-1)
 else
  if (decide ((i64 ((i64 (left - (a.Trace.size : Int))) - (a.Mti.size : Int))) < 0)) = true then
   some (-1)
  else
   (laws_szByteS a.Reply (i64 ((i64 (left - (a.Trace.size : Int))) - (a.Mti.size : Int)))).bind fun r1 =>
   if (decide (r1 < 0)) = true then
    some (-1)
   else
    some r1
theorem laws_szSlot_ok (a : Slot) (left : Int) : Pn (fun y => Fn Try.prog 222 [(false, E228 a), (false, E3 left)] (E3 y) []) (laws_szSlot a left) := by
  unfold laws_szSlot
  exact
   Pn.ite (fun h1 =>
    Pn.some (Fn.of [.bit true] (p := [(decide ((i64 (left - (a.Trace.size : Int))) < 0)) = true]) (by kernel_rfl) (cj1 h1))) (fun h1 =>
    Pn.ite (fun h2 =>
     Pn.some (Fn.of [.bit false, .bit true] (p := [(decide ((i64 (left - (a.Trace.size : Int))) < 0)) = false,
      (decide ((i64 ((i64 (left - (a.Trace.size : Int))) - (a.Mti.size : Int))) < 0)) = true]) (by kernel_rfl) (cj h1 (cj1 h2)))) (fun h2 =>
     Pn.bind (fun r1 h3 =>
      Pn.ite (fun h4 =>
       Pn.some (Fn.of [.bit false, .bit false, .call [] (E3 r1) [], .bit true] (p := [(decide ((i64 (left - (a.Trace.size : Int))) < 0)) = false,
        (decide ((i64 ((i64 (left - (a.Trace.size : Int))) - (a.Mti.size : Int))) < 0)) = false,
        Fn Try.prog 198 [(false, E22 a.Reply), (false, E3 (i64 ((i64 (left - (a.Trace.size : Int))) - (a.Mti.size : Int))))] (E3 r1) [],
        (true || ((E3 r1).nv && nvL [])) = true,
        (decide (r1 < 0)) = true]) (by kernel_rfl) (cj h1 (cj h2 (cj (laws_szByteS_ok a.Reply (i64 ((i64 (left - (a.Trace.size : Int))) - (a.Mti.size : Int))) r1 h3) (cj rfl (cj1 h4))))))) (fun h4 =>
       Pn.some (Fn.of [.bit false, .bit false, .call [] (E3 r1) [], .bit false] (p := [(decide ((i64 (left - (a.Trace.size : Int))) < 0)) = false,
        (decide ((i64 ((i64 (left - (a.Trace.size : Int))) - (a.Mti.size : Int))) < 0)) = false,
        Fn Try.prog 198 [(false, E22 a.Reply), (false, E3 (i64 ((i64 (left - (a.Trace.size : Int))) - (a.Mti.size : Int))))] (E3 r1) [],
        (true || ((E3 r1).nv && nvL [])) = true,
        (decide (r1 < 0)) = false]) (by kernel_rfl) (cj h1 (cj h2 (cj (laws_szByteS_ok a.Reply (i64 ((i64 (left - (a.Trace.size : Int))) - (a.Mti.size : Int))) r1 h3) (cj rfl (cj1 h4))))))))))
def laws_szSlotS_l0 (a : List Slot) : List Slot → Int → Option (Lo Int Unit)
  | [], v1 =>
   some (.out v1)
  | x1 :: t1, v1 =>
   (laws_szSlot x1 v1).bind fun r1 =>
   if (decide (r1 < 0)) = true then
    some (.ret ())
   else
    laws_szSlotS_l0 a t1 r1
theorem laws_szSlotS_l0_ok (a : List Slot) (h3 : capOk a.length = true) : ∀ (t1 p1 : List Slot) (_ : a = p1 ++ t1) (v1 : Int), Pn (LpO Try.prog (sub (codeOf Try.prog 211) [1, 1, 1, 0, 1, 0, 0]) (st 27 [(0, V.sl false 228 (List.map E228 a)), (1, V.sc (.int .i64 v1)), (5, V.sc (.int .i64 (p1.length : Int)))] [] []) (fun (y : Lo Int Unit) => Lo.elim y (fun s => (X.out 0, st 27 [(1, V.sc (.int .i64 s))] [] [])) (fun s => (X.ret, st 27 [(4, V.sc (.int .i64 (-1)))] [] [])))) (laws_szSlotS_l0 a t1 v1)
  | [], p1, h2, v1 => by
    unfold laws_szSlotS_l0
    exact
     Pn.some (LpO.out [.wait 3, .nm 14 (V.sc (.int .i64 (a.length : Int))), .bit false, .mask [1], .ren []] (p := [V.sc (.int .i64 ((List.map E228 a).length : Int)) = V.sc (.int .i64 (a.length : Int)),
      (decide ((p1.length : Int) < (a.length : Int))) = false]) (by kernel_rfl) (show X.out 0 ≠ X.go from nofun) (cj (len_nm _ _) (cj1 (rng_end h2))))
  | x1 :: t1, p1, h2, v1 => by
    unfold laws_szSlotS_l0
    exact
     Pn.bind (fun r1 h4 =>
      Pn.ite (fun h5 =>
       Pn.some (LpO.out [.wait 3, .nm 14 (V.sc (.int .i64 (a.length : Int))), .bit true, .el (E228 x1), .call [] (E3 r1) [], .bit true, .wait 1, .mask [4], .ren []] (p := [V.sc (.int .i64 ((List.map E228 a).length : Int)) = V.sc (.int .i64 (a.length : Int)),
        (decide ((p1.length : Int) < (a.length : Int))) = true,
        (0 : Int) ≤ (p1.length : Int),
        (List.map E228 a)[(p1.length : Int).toNat]? = some (E228 x1),
        Fn Try.prog 222 [(false, E228 x1), (false, E3 v1)] (E3 r1) [],
        (true || ((E3 r1).nv && nvL [])) = true,
        (decide (r1 < 0)) = true]) (by kernel_rfl) (show X.ret ≠ X.go from nofun) (cj (len_nm _ _) (cj (rng_lt h2) (cj (by omega) (cj (rng_get _ h2) (cj (laws_szSlot_ok x1 v1 r1 h4) (cj rfl (cj1 h5))))))))) (fun h5 =>
       LpO.go [.wait 3, .nm 14 (V.sc (.int .i64 (a.length : Int))), .bit true, .el (E228 x1), .call [] (E3 r1) [], .bit false, .wait 3, .mask [0, 1, 5], .ren [], .nm 5 (V.sc (.int .i64 ((p1 ++ [x1]).length : Int)))] (p := [V.sc (.int .i64 ((List.map E228 a).length : Int)) = V.sc (.int .i64 (a.length : Int)),
        (decide ((p1.length : Int) < (a.length : Int))) = true,
        (0 : Int) ≤ (p1.length : Int),
        (List.map E228 a)[(p1.length : Int).toNat]? = some (E228 x1),
        Fn Try.prog 222 [(false, E228 x1), (false, E3 v1)] (E3 r1) [],
        (true || ((E3 r1).nv && nvL [])) = true,
        (decide (r1 < 0)) = false,
        V.sc (.int .i64 (i64 ((p1.length : Int) + 1))) = V.sc (.int .i64 ((p1 ++ [x1]).length : Int))]) (by kernel_rfl) (cj (len_nm _ _) (cj (rng_lt h2) (cj (by omega) (cj (rng_get _ h2) (cj (laws_szSlot_ok x1 v1 r1 h4) (cj rfl (cj h5 (cj1 (rng_next h2 h3))))))))) (laws_szSlotS_l0_ok a h3 t1 (p1 ++ [x1]) (rng_step h2) r1)))
def laws_szSlotS (a : List Slot) (left : Int) : Option (Int) :=
 if (decide ((i64 (left - (a.length : Int))) < 0)) = true then
  some (-1)
 else
  if (capOk a.length) = true then
   (laws_szSlotS_l0 a a (i64 (left - (a.length : Int)))).bind fun r2 =>
   Lo.elim r2 (fun s1 =>
    some s1) (fun s2 =>
    some (-1))
  else none
theorem laws_szSlotS_ok (a : List Slot) (left : Int) : Pn (fun y => Fn Try.prog 211 [(false, E209 a), (false, E3 left)] (E3 y) []) (laws_szSlotS a left) := by
  unfold laws_szSlotS
  exact
   Pn.ite (fun h1 =>
    Pn.some (Fn.of [.wait 4, .nm 8 (V.sc (.int .i64 (a.length : Int))), .bit true] (p := [V.sc (.int .i64 ((List.map E228 a).length : Int)) = V.sc (.int .i64 (a.length : Int)),
     (decide ((i64 (left - (a.length : Int))) < 0)) = true]) (by kernel_rfl) (cj (len_nm _ _) (cj1 h1)))) (fun h1 =>
    Pn.ite (fun h6 =>
     Pn.bind (fun r2 h7 =>
      Pn.lo (fun s1 h8 =>
       Pn.some (Fn.of [.wait 4, .nm 8 (V.sc (.int .i64 (a.length : Int))), .bit false, .wait 1, .mask [0, 1, 5], .ren [], .loop (X.out 0) (st 27 [(1, V.sc (.int .i64 s1))] [] [])] (p := [V.sc (.int .i64 ((List.map E228 a).length : Int)) = V.sc (.int .i64 (a.length : Int)),
        (decide ((i64 (left - (a.length : Int))) < 0)) = false,
        Loop Try.prog (sub (codeOf Try.prog 211) [1, 1, 1, 0, 1, 0, 0]) (st 27 [(0, V.sl false 228 (List.map E228 a)), (1, V.sc (.int .i64 (i64 (left - (a.length : Int))))), (5, V.sc (.int .i64 0))] [] []) (X.out 0) (st 27 [(1, V.sc (.int .i64 s1))] [] [])]) (by kernel_rfl) (cj (len_nm _ _) (cj h1 (cj1 ((laws_szSlotS_l0_ok a h6 a [] rfl (i64 (left - (a.length : Int))) r2 h7).at h8)))))) (fun s2 h9 =>
       Pn.some (Fn.of [.wait 4, .nm 8 (V.sc (.int .i64 (a.length : Int))), .bit false, .wait 1, .mask [0, 1, 5], .ren [], .loop (X.ret) (st 27 [(4, V.sc (.int .i64 (-1)))] [] [])] (p := [V.sc (.int .i64 ((List.map E228 a).length : Int)) = V.sc (.int .i64 (a.length : Int)),
        (decide ((i64 (left - (a.length : Int))) < 0)) = false,
        Loop Try.prog (sub (codeOf Try.prog 211) [1, 1, 1, 0, 1, 0, 0]) (st 27 [(0, V.sl false 228 (List.map E228 a)), (1, V.sc (.int .i64 (i64 (left - (a.length : Int))))), (5, V.sc (.int .i64 0))] [] []) (X.ret) (st 27 [(4, V.sc (.int .i64 (-1)))] [] [])]) (by kernel_rfl) (cj (len_nm _ _) (cj h1 (cj1 ((laws_szSlotS_l0_ok a h6 a [] rfl (i64 (left - (a.length : Int))) r2 h7).at h9)))))))) (fun h6 =>
     Pn.none))
def laws_szAcct (a : Acct) (left : Int) : Option (Int) :=
 if (decide ((i64 (left - (a.Id.size : Int))) < 0)) = true then
  some (-1)
 else
  (laws_szHoldS a.Holds (i64 (left - (a.Id.size : Int)))).bind fun r1 =>
  if (decide (r1 < 0)) = true then
   some (-1)
  else
   (laws_szRing a.Ring r1).bind fun r2 =>
   if (decide (r2 < 0)) = true then
    some (-1)
   else
    (laws_szSlotS a.Slots r2).bind fun r3 =>
    if (decide (r3 < 0)) = true then
     some (-1)
    else
     some r3
theorem laws_szAcct_ok (a : Acct) (left : Int) : Pn (fun y => Fn Try.prog 193 [(false, E211 a), (false, E3 left)] (E3 y) []) (laws_szAcct a left) := by
  unfold laws_szAcct
  exact
   Pn.ite (fun h1 =>
    Pn.some (Fn.of [.bit true] (p := [(decide ((i64 (left - (a.Id.size : Int))) < 0)) = true]) (by kernel_rfl) (cj1 h1))) (fun h1 =>
    Pn.bind (fun r1 h2 =>
     Pn.ite (fun h3 =>
      Pn.some (Fn.of [.bit false, .call [] (E3 r1) [], .bit true] (p := [(decide ((i64 (left - (a.Id.size : Int))) < 0)) = false,
       Fn Try.prog 209 [(false, E207 a.Holds), (false, E3 (i64 (left - (a.Id.size : Int))))] (E3 r1) [],
       (true || ((E3 r1).nv && nvL [])) = true,
       (decide (r1 < 0)) = true]) (by kernel_rfl) (cj h1 (cj (laws_szHoldS_ok a.Holds (i64 (left - (a.Id.size : Int))) r1 h2) (cj rfl (cj1 h3)))))) (fun h3 =>
      Pn.bind (fun r2 h4 =>
       Pn.ite (fun h5 =>
        Pn.some (Fn.of [.bit false, .call [] (E3 r1) [], .bit false, .call [] (E3 r2) [], .bit true] (p := [(decide ((i64 (left - (a.Id.size : Int))) < 0)) = false,
         Fn Try.prog 209 [(false, E207 a.Holds), (false, E3 (i64 (left - (a.Id.size : Int))))] (E3 r1) [],
         (true || ((E3 r1).nv && nvL [])) = true,
         (decide (r1 < 0)) = false,
         Fn Try.prog 210 [(false, E208 a.Ring), (false, E3 r1)] (E3 r2) [],
         (true || ((E3 r2).nv && nvL [])) = true,
         (decide (r2 < 0)) = true]) (by kernel_rfl) (cj h1 (cj (laws_szHoldS_ok a.Holds (i64 (left - (a.Id.size : Int))) r1 h2) (cj rfl (cj h3 (cj (laws_szRing_ok a.Ring r1 r2 h4) (cj rfl (cj1 h5))))))))) (fun h5 =>
        Pn.bind (fun r3 h6 =>
         Pn.ite (fun h7 =>
          Pn.some (Fn.of [.bit false, .call [] (E3 r1) [], .bit false, .call [] (E3 r2) [], .bit false, .call [] (E3 r3) [], .bit true] (p := [(decide ((i64 (left - (a.Id.size : Int))) < 0)) = false,
           Fn Try.prog 209 [(false, E207 a.Holds), (false, E3 (i64 (left - (a.Id.size : Int))))] (E3 r1) [],
           (true || ((E3 r1).nv && nvL [])) = true,
           (decide (r1 < 0)) = false,
           Fn Try.prog 210 [(false, E208 a.Ring), (false, E3 r1)] (E3 r2) [],
           (true || ((E3 r2).nv && nvL [])) = true,
           (decide (r2 < 0)) = false,
           Fn Try.prog 211 [(false, E209 a.Slots), (false, E3 r2)] (E3 r3) [],
           (true || ((E3 r3).nv && nvL [])) = true,
           (decide (r3 < 0)) = true]) (by kernel_rfl) (cj h1 (cj (laws_szHoldS_ok a.Holds (i64 (left - (a.Id.size : Int))) r1 h2) (cj rfl (cj h3 (cj (laws_szRing_ok a.Ring r1 r2 h4) (cj rfl (cj h5 (cj (laws_szSlotS_ok a.Slots r2 r3 h6) (cj rfl (cj1 h7)))))))))))) (fun h7 =>
          Pn.some (Fn.of [.bit false, .call [] (E3 r1) [], .bit false, .call [] (E3 r2) [], .bit false, .call [] (E3 r3) [], .bit false] (p := [(decide ((i64 (left - (a.Id.size : Int))) < 0)) = false,
           Fn Try.prog 209 [(false, E207 a.Holds), (false, E3 (i64 (left - (a.Id.size : Int))))] (E3 r1) [],
           (true || ((E3 r1).nv && nvL [])) = true,
           (decide (r1 < 0)) = false,
           Fn Try.prog 210 [(false, E208 a.Ring), (false, E3 r1)] (E3 r2) [],
           (true || ((E3 r2).nv && nvL [])) = true,
           (decide (r2 < 0)) = false,
           Fn Try.prog 211 [(false, E209 a.Slots), (false, E3 r2)] (E3 r3) [],
           (true || ((E3 r3).nv && nvL [])) = true,
           (decide (r3 < 0)) = false]) (by kernel_rfl) (cj h1 (cj (laws_szHoldS_ok a.Holds (i64 (left - (a.Id.size : Int))) r1 h2) (cj rfl (cj h3 (cj (laws_szRing_ok a.Ring r1 r2 h4) (cj rfl (cj h5 (cj (laws_szSlotS_ok a.Slots r2 r3 h6) (cj rfl (cj1 h7))))))))))))))))))
def laws_szAcctS_l0 (a : List Acct) : List Acct → Int → Option (Lo Int Unit)
  | [], v1 =>
   some (.out v1)
  | x1 :: t1, v1 =>
   (laws_szAcct x1 v1).bind fun r1 =>
   if (decide (r1 < 0)) = true then
    some (.ret ())
   else
    laws_szAcctS_l0 a t1 r1
theorem laws_szAcctS_l0_ok (a : List Acct) (h3 : capOk a.length = true) : ∀ (t1 p1 : List Acct) (_ : a = p1 ++ t1) (v1 : Int), Pn (LpO Try.prog (sub (codeOf Try.prog 150) [1, 1, 1, 0, 1, 0, 0]) (st 27 [(0, V.sl false 211 (List.map E211 a)), (1, V.sc (.int .i64 v1)), (5, V.sc (.int .i64 (p1.length : Int)))] [] []) (fun (y : Lo Int Unit) => Lo.elim y (fun s => (X.out 0, st 27 [(1, V.sc (.int .i64 s))] [] [])) (fun s => (X.ret, st 27 [(4, V.sc (.int .i64 (-1)))] [] [])))) (laws_szAcctS_l0 a t1 v1)
  | [], p1, h2, v1 => by
    unfold laws_szAcctS_l0
    exact
     Pn.some (LpO.out [.wait 3, .nm 14 (V.sc (.int .i64 (a.length : Int))), .bit false, .mask [1], .ren []] (p := [V.sc (.int .i64 ((List.map E211 a).length : Int)) = V.sc (.int .i64 (a.length : Int)),
      (decide ((p1.length : Int) < (a.length : Int))) = false]) (by kernel_rfl) (show X.out 0 ≠ X.go from nofun) (cj (len_nm _ _) (cj1 (rng_end h2))))
  | x1 :: t1, p1, h2, v1 => by
    unfold laws_szAcctS_l0
    exact
     Pn.bind (fun r1 h4 =>
      Pn.ite (fun h5 =>
       Pn.some (LpO.out [.wait 3, .nm 14 (V.sc (.int .i64 (a.length : Int))), .bit true, .el (E211 x1), .call [] (E3 r1) [], .bit true, .wait 1, .mask [4], .ren []] (p := [V.sc (.int .i64 ((List.map E211 a).length : Int)) = V.sc (.int .i64 (a.length : Int)),
        (decide ((p1.length : Int) < (a.length : Int))) = true,
        (0 : Int) ≤ (p1.length : Int),
        (List.map E211 a)[(p1.length : Int).toNat]? = some (E211 x1),
        Fn Try.prog 193 [(false, E211 x1), (false, E3 v1)] (E3 r1) [],
        (true || ((E3 r1).nv && nvL [])) = true,
        (decide (r1 < 0)) = true]) (by kernel_rfl) (show X.ret ≠ X.go from nofun) (cj (len_nm _ _) (cj (rng_lt h2) (cj (by omega) (cj (rng_get _ h2) (cj (laws_szAcct_ok x1 v1 r1 h4) (cj rfl (cj1 h5))))))))) (fun h5 =>
       LpO.go [.wait 3, .nm 14 (V.sc (.int .i64 (a.length : Int))), .bit true, .el (E211 x1), .call [] (E3 r1) [], .bit false, .wait 3, .mask [0, 1, 5], .ren [], .nm 5 (V.sc (.int .i64 ((p1 ++ [x1]).length : Int)))] (p := [V.sc (.int .i64 ((List.map E211 a).length : Int)) = V.sc (.int .i64 (a.length : Int)),
        (decide ((p1.length : Int) < (a.length : Int))) = true,
        (0 : Int) ≤ (p1.length : Int),
        (List.map E211 a)[(p1.length : Int).toNat]? = some (E211 x1),
        Fn Try.prog 193 [(false, E211 x1), (false, E3 v1)] (E3 r1) [],
        (true || ((E3 r1).nv && nvL [])) = true,
        (decide (r1 < 0)) = false,
        V.sc (.int .i64 (i64 ((p1.length : Int) + 1))) = V.sc (.int .i64 ((p1 ++ [x1]).length : Int))]) (by kernel_rfl) (cj (len_nm _ _) (cj (rng_lt h2) (cj (by omega) (cj (rng_get _ h2) (cj (laws_szAcct_ok x1 v1 r1 h4) (cj rfl (cj h5 (cj1 (rng_next h2 h3))))))))) (laws_szAcctS_l0_ok a h3 t1 (p1 ++ [x1]) (rng_step h2) r1)))
def laws_szAcctS (a : List Acct) (left : Int) : Option (Int) :=
 if (decide ((i64 (left - (a.length : Int))) < 0)) = true then
  some (-1)
 else
  if (capOk a.length) = true then
   (laws_szAcctS_l0 a a (i64 (left - (a.length : Int)))).bind fun r2 =>
   Lo.elim r2 (fun s1 =>
    some s1) (fun s2 =>
    some (-1))
  else none
theorem laws_szAcctS_ok (a : List Acct) (left : Int) : Pn (fun y => Fn Try.prog 150 [(false, E126 a), (false, E3 left)] (E3 y) []) (laws_szAcctS a left) := by
  unfold laws_szAcctS
  exact
   Pn.ite (fun h1 =>
    Pn.some (Fn.of [.wait 4, .nm 8 (V.sc (.int .i64 (a.length : Int))), .bit true] (p := [V.sc (.int .i64 ((List.map E211 a).length : Int)) = V.sc (.int .i64 (a.length : Int)),
     (decide ((i64 (left - (a.length : Int))) < 0)) = true]) (by kernel_rfl) (cj (len_nm _ _) (cj1 h1)))) (fun h1 =>
    Pn.ite (fun h6 =>
     Pn.bind (fun r2 h7 =>
      Pn.lo (fun s1 h8 =>
       Pn.some (Fn.of [.wait 4, .nm 8 (V.sc (.int .i64 (a.length : Int))), .bit false, .wait 1, .mask [0, 1, 5], .ren [], .loop (X.out 0) (st 27 [(1, V.sc (.int .i64 s1))] [] [])] (p := [V.sc (.int .i64 ((List.map E211 a).length : Int)) = V.sc (.int .i64 (a.length : Int)),
        (decide ((i64 (left - (a.length : Int))) < 0)) = false,
        Loop Try.prog (sub (codeOf Try.prog 150) [1, 1, 1, 0, 1, 0, 0]) (st 27 [(0, V.sl false 211 (List.map E211 a)), (1, V.sc (.int .i64 (i64 (left - (a.length : Int))))), (5, V.sc (.int .i64 0))] [] []) (X.out 0) (st 27 [(1, V.sc (.int .i64 s1))] [] [])]) (by kernel_rfl) (cj (len_nm _ _) (cj h1 (cj1 ((laws_szAcctS_l0_ok a h6 a [] rfl (i64 (left - (a.length : Int))) r2 h7).at h8)))))) (fun s2 h9 =>
       Pn.some (Fn.of [.wait 4, .nm 8 (V.sc (.int .i64 (a.length : Int))), .bit false, .wait 1, .mask [0, 1, 5], .ren [], .loop (X.ret) (st 27 [(4, V.sc (.int .i64 (-1)))] [] [])] (p := [V.sc (.int .i64 ((List.map E211 a).length : Int)) = V.sc (.int .i64 (a.length : Int)),
        (decide ((i64 (left - (a.length : Int))) < 0)) = false,
        Loop Try.prog (sub (codeOf Try.prog 150) [1, 1, 1, 0, 1, 0, 0]) (st 27 [(0, V.sl false 211 (List.map E211 a)), (1, V.sc (.int .i64 (i64 (left - (a.length : Int))))), (5, V.sc (.int .i64 0))] [] []) (X.ret) (st 27 [(4, V.sc (.int .i64 (-1)))] [] [])]) (by kernel_rfl) (cj (len_nm _ _) (cj h1 (cj1 ((laws_szAcctS_l0_ok a h6 a [] rfl (i64 (left - (a.length : Int))) r2 h7).at h9)))))))) (fun h6 =>
     Pn.none))
def laws_szStripe (a : Stripe) (left : Int) : Option (Int) :=
 (laws_szAcctS a.Accts left).bind fun r1 =>
 if (decide (r1 < 0)) = true then
  some (-1)
 else
  some r1
theorem laws_szStripe_ok (a : Stripe) (left : Int) : Pn (fun y => Fn Try.prog 91 [(false, E128 a), (false, E3 left)] (E3 y) []) (laws_szStripe a left) := by
  unfold laws_szStripe
  exact
   Pn.bind (fun r1 h1 =>
    Pn.ite (fun h2 =>
     Pn.some (Fn.of [.call [] (E3 r1) [], .bit true] (p := [Fn Try.prog 150 [(false, E126 a.Accts), (false, E3 left)] (E3 r1) [],
      (true || ((E3 r1).nv && nvL [])) = true,
      (decide (r1 < 0)) = true]) (by kernel_rfl) (cj (laws_szAcctS_ok a.Accts left r1 h1) (cj rfl (cj1 h2))))) (fun h2 =>
     Pn.some (Fn.of [.call [] (E3 r1) [], .bit false] (p := [Fn Try.prog 150 [(false, E126 a.Accts), (false, E3 left)] (E3 r1) [],
      (true || ((E3 r1).nv && nvL [])) = true,
      (decide (r1 < 0)) = false]) (by kernel_rfl) (cj (laws_szAcctS_ok a.Accts left r1 h1) (cj rfl (cj1 h2))))))
def laws_szStripeS_l0 (a : List Stripe) : List Stripe → Int → Option (Lo Int Unit)
  | [], v1 =>
   some (.out v1)
  | x1 :: t1, v1 =>
   (laws_szStripe x1 v1).bind fun r1 =>
   if (decide (r1 < 0)) = true then
    some (.ret ())
   else
    laws_szStripeS_l0 a t1 r1
theorem laws_szStripeS_l0_ok (a : List Stripe) (h3 : capOk a.length = true) : ∀ (t1 p1 : List Stripe) (_ : a = p1 ++ t1) (v1 : Int), Pn (LpO Try.prog (sub (codeOf Try.prog 30) [1, 1, 1, 0, 1, 0, 0]) (st 27 [(0, V.sl false 128 (List.map E128 a)), (1, V.sc (.int .i64 v1)), (5, V.sc (.int .i64 (p1.length : Int)))] [] []) (fun (y : Lo Int Unit) => Lo.elim y (fun s => (X.out 0, st 27 [(1, V.sc (.int .i64 s))] [] [])) (fun s => (X.ret, st 27 [(4, V.sc (.int .i64 (-1)))] [] [])))) (laws_szStripeS_l0 a t1 v1)
  | [], p1, h2, v1 => by
    unfold laws_szStripeS_l0
    exact
     Pn.some (LpO.out [.wait 3, .nm 14 (V.sc (.int .i64 (a.length : Int))), .bit false, .mask [1], .ren []] (p := [V.sc (.int .i64 ((List.map E128 a).length : Int)) = V.sc (.int .i64 (a.length : Int)),
      (decide ((p1.length : Int) < (a.length : Int))) = false]) (by kernel_rfl) (show X.out 0 ≠ X.go from nofun) (cj (len_nm _ _) (cj1 (rng_end h2))))
  | x1 :: t1, p1, h2, v1 => by
    unfold laws_szStripeS_l0
    exact
     Pn.bind (fun r1 h4 =>
      Pn.ite (fun h5 =>
       Pn.some (LpO.out [.wait 3, .nm 14 (V.sc (.int .i64 (a.length : Int))), .bit true, .el (E128 x1), .call [] (E3 r1) [], .bit true, .wait 1, .mask [4], .ren []] (p := [V.sc (.int .i64 ((List.map E128 a).length : Int)) = V.sc (.int .i64 (a.length : Int)),
        (decide ((p1.length : Int) < (a.length : Int))) = true,
        (0 : Int) ≤ (p1.length : Int),
        (List.map E128 a)[(p1.length : Int).toNat]? = some (E128 x1),
        Fn Try.prog 91 [(false, E128 x1), (false, E3 v1)] (E3 r1) [],
        (true || ((E3 r1).nv && nvL [])) = true,
        (decide (r1 < 0)) = true]) (by kernel_rfl) (show X.ret ≠ X.go from nofun) (cj (len_nm _ _) (cj (rng_lt h2) (cj (by omega) (cj (rng_get _ h2) (cj (laws_szStripe_ok x1 v1 r1 h4) (cj rfl (cj1 h5))))))))) (fun h5 =>
       LpO.go [.wait 3, .nm 14 (V.sc (.int .i64 (a.length : Int))), .bit true, .el (E128 x1), .call [] (E3 r1) [], .bit false, .wait 3, .mask [0, 1, 5], .ren [], .nm 5 (V.sc (.int .i64 ((p1 ++ [x1]).length : Int)))] (p := [V.sc (.int .i64 ((List.map E128 a).length : Int)) = V.sc (.int .i64 (a.length : Int)),
        (decide ((p1.length : Int) < (a.length : Int))) = true,
        (0 : Int) ≤ (p1.length : Int),
        (List.map E128 a)[(p1.length : Int).toNat]? = some (E128 x1),
        Fn Try.prog 91 [(false, E128 x1), (false, E3 v1)] (E3 r1) [],
        (true || ((E3 r1).nv && nvL [])) = true,
        (decide (r1 < 0)) = false,
        V.sc (.int .i64 (i64 ((p1.length : Int) + 1))) = V.sc (.int .i64 ((p1 ++ [x1]).length : Int))]) (by kernel_rfl) (cj (len_nm _ _) (cj (rng_lt h2) (cj (by omega) (cj (rng_get _ h2) (cj (laws_szStripe_ok x1 v1 r1 h4) (cj rfl (cj h5 (cj1 (rng_next h2 h3))))))))) (laws_szStripeS_l0_ok a h3 t1 (p1 ++ [x1]) (rng_step h2) r1)))
def laws_szStripeS (a : List Stripe) (left : Int) : Option (Int) :=
 if (decide ((i64 (left - (a.length : Int))) < 0)) = true then
  some (-1)
 else
  if (capOk a.length) = true then
   (laws_szStripeS_l0 a a (i64 (left - (a.length : Int)))).bind fun r2 =>
   Lo.elim r2 (fun s1 =>
    some s1) (fun s2 =>
    some (-1))
  else none
theorem laws_szStripeS_ok (a : List Stripe) (left : Int) : Pn (fun y => Fn Try.prog 30 [(false, E61 a), (false, E3 left)] (E3 y) []) (laws_szStripeS a left) := by
  unfold laws_szStripeS
  exact
   Pn.ite (fun h1 =>
    Pn.some (Fn.of [.wait 4, .nm 8 (V.sc (.int .i64 (a.length : Int))), .bit true] (p := [V.sc (.int .i64 ((List.map E128 a).length : Int)) = V.sc (.int .i64 (a.length : Int)),
     (decide ((i64 (left - (a.length : Int))) < 0)) = true]) (by kernel_rfl) (cj (len_nm _ _) (cj1 h1)))) (fun h1 =>
    Pn.ite (fun h6 =>
     Pn.bind (fun r2 h7 =>
      Pn.lo (fun s1 h8 =>
       Pn.some (Fn.of [.wait 4, .nm 8 (V.sc (.int .i64 (a.length : Int))), .bit false, .wait 1, .mask [0, 1, 5], .ren [], .loop (X.out 0) (st 27 [(1, V.sc (.int .i64 s1))] [] [])] (p := [V.sc (.int .i64 ((List.map E128 a).length : Int)) = V.sc (.int .i64 (a.length : Int)),
        (decide ((i64 (left - (a.length : Int))) < 0)) = false,
        Loop Try.prog (sub (codeOf Try.prog 30) [1, 1, 1, 0, 1, 0, 0]) (st 27 [(0, V.sl false 128 (List.map E128 a)), (1, V.sc (.int .i64 (i64 (left - (a.length : Int))))), (5, V.sc (.int .i64 0))] [] []) (X.out 0) (st 27 [(1, V.sc (.int .i64 s1))] [] [])]) (by kernel_rfl) (cj (len_nm _ _) (cj h1 (cj1 ((laws_szStripeS_l0_ok a h6 a [] rfl (i64 (left - (a.length : Int))) r2 h7).at h8)))))) (fun s2 h9 =>
       Pn.some (Fn.of [.wait 4, .nm 8 (V.sc (.int .i64 (a.length : Int))), .bit false, .wait 1, .mask [0, 1, 5], .ren [], .loop (X.ret) (st 27 [(4, V.sc (.int .i64 (-1)))] [] [])] (p := [V.sc (.int .i64 ((List.map E128 a).length : Int)) = V.sc (.int .i64 (a.length : Int)),
        (decide ((i64 (left - (a.length : Int))) < 0)) = false,
        Loop Try.prog (sub (codeOf Try.prog 30) [1, 1, 1, 0, 1, 0, 0]) (st 27 [(0, V.sl false 128 (List.map E128 a)), (1, V.sc (.int .i64 (i64 (left - (a.length : Int))))), (5, V.sc (.int .i64 0))] [] []) (X.ret) (st 27 [(4, V.sc (.int .i64 (-1)))] [] [])]) (by kernel_rfl) (cj (len_nm _ _) (cj h1 (cj1 ((laws_szStripeS_l0_ok a h6 a [] rfl (i64 (left - (a.length : Int))) r2 h7).at h9)))))))) (fun h6 =>
     Pn.none))
def laws_szTask (a : Task) (left : Int) : Option (Int) :=
 (laws_szByteS a.Data left).bind fun r1 =>
 if (decide (r1 < 0)) = true then
  some (-1)
 else
  (laws_szIntS a.Set r1).bind fun r2 =>
  if (decide (r2 < 0)) = true then
   some (-1)
  else
   (laws_szByteS a.Reply r2).bind fun r3 =>
   if (decide (r3 < 0)) = true then
    some (-1)
   else
    some r3
theorem laws_szTask_ok (a : Task) (left : Int) : Pn (fun y => Fn Try.prog 160 [(false, E181 a), (false, E3 left)] (E3 y) []) (laws_szTask a left) := by
  unfold laws_szTask
  exact
   Pn.bind (fun r1 h1 =>
    Pn.ite (fun h2 =>
     Pn.some (Fn.of [.call [] (E3 r1) [], .bit true] (p := [Fn Try.prog 198 [(false, E22 a.Data), (false, E3 left)] (E3 r1) [],
      (true || ((E3 r1).nv && nvL [])) = true,
      (decide (r1 < 0)) = true]) (by kernel_rfl) (cj (laws_szByteS_ok a.Data left r1 h1) (cj rfl (cj1 h2))))) (fun h2 =>
     Pn.bind (fun r2 h3 =>
      Pn.ite (fun h4 =>
       Pn.some (Fn.of [.call [] (E3 r1) [], .bit false, .call [] (E3 r2) [], .bit true] (p := [Fn Try.prog 198 [(false, E22 a.Data), (false, E3 left)] (E3 r1) [],
        (true || ((E3 r1).nv && nvL [])) = true,
        (decide (r1 < 0)) = false,
        Fn Try.prog 199 [(false, E24 a.Set), (false, E3 r1)] (E3 r2) [],
        (true || ((E3 r2).nv && nvL [])) = true,
        (decide (r2 < 0)) = true]) (by kernel_rfl) (cj (laws_szByteS_ok a.Data left r1 h1) (cj rfl (cj h2 (cj (laws_szIntS_ok a.Set r1 r2 h3) (cj rfl (cj1 h4)))))))) (fun h4 =>
       Pn.bind (fun r3 h5 =>
        Pn.ite (fun h6 =>
         Pn.some (Fn.of [.call [] (E3 r1) [], .bit false, .call [] (E3 r2) [], .bit false, .call [] (E3 r3) [], .bit true] (p := [Fn Try.prog 198 [(false, E22 a.Data), (false, E3 left)] (E3 r1) [],
          (true || ((E3 r1).nv && nvL [])) = true,
          (decide (r1 < 0)) = false,
          Fn Try.prog 199 [(false, E24 a.Set), (false, E3 r1)] (E3 r2) [],
          (true || ((E3 r2).nv && nvL [])) = true,
          (decide (r2 < 0)) = false,
          Fn Try.prog 198 [(false, E22 a.Reply), (false, E3 r2)] (E3 r3) [],
          (true || ((E3 r3).nv && nvL [])) = true,
          (decide (r3 < 0)) = true]) (by kernel_rfl) (cj (laws_szByteS_ok a.Data left r1 h1) (cj rfl (cj h2 (cj (laws_szIntS_ok a.Set r1 r2 h3) (cj rfl (cj h4 (cj (laws_szByteS_ok a.Reply r2 r3 h5) (cj rfl (cj1 h6))))))))))) (fun h6 =>
         Pn.some (Fn.of [.call [] (E3 r1) [], .bit false, .call [] (E3 r2) [], .bit false, .call [] (E3 r3) [], .bit false] (p := [Fn Try.prog 198 [(false, E22 a.Data), (false, E3 left)] (E3 r1) [],
          (true || ((E3 r1).nv && nvL [])) = true,
          (decide (r1 < 0)) = false,
          Fn Try.prog 199 [(false, E24 a.Set), (false, E3 r1)] (E3 r2) [],
          (true || ((E3 r2).nv && nvL [])) = true,
          (decide (r2 < 0)) = false,
          Fn Try.prog 198 [(false, E22 a.Reply), (false, E3 r2)] (E3 r3) [],
          (true || ((E3 r3).nv && nvL [])) = true,
          (decide (r3 < 0)) = false]) (by kernel_rfl) (cj (laws_szByteS_ok a.Data left r1 h1) (cj rfl (cj h2 (cj (laws_szIntS_ok a.Set r1 r2 h3) (cj rfl (cj h4 (cj (laws_szByteS_ok a.Reply r2 r3 h5) (cj rfl (cj1 h6))))))))))))))))
def laws_szTaskS_l0 (a : List Task) : List Task → Int → Option (Lo Int Unit)
  | [], v1 =>
   some (.out v1)
  | x1 :: t1, v1 =>
   (laws_szTask x1 v1).bind fun r1 =>
   if (decide (r1 < 0)) = true then
    some (.ret ())
   else
    laws_szTaskS_l0 a t1 r1
theorem laws_szTaskS_l0_ok (a : List Task) (h3 : capOk a.length = true) : ∀ (t1 p1 : List Task) (_ : a = p1 ++ t1) (v1 : Int), Pn (LpO Try.prog (sub (codeOf Try.prog 99) [1, 1, 1, 0, 1, 0, 0]) (st 27 [(0, V.sl false 181 (List.map E181 a)), (1, V.sc (.int .i64 v1)), (5, V.sc (.int .i64 (p1.length : Int)))] [] []) (fun (y : Lo Int Unit) => Lo.elim y (fun s => (X.out 0, st 27 [(1, V.sc (.int .i64 s))] [] [])) (fun s => (X.ret, st 27 [(4, V.sc (.int .i64 (-1)))] [] [])))) (laws_szTaskS_l0 a t1 v1)
  | [], p1, h2, v1 => by
    unfold laws_szTaskS_l0
    exact
     Pn.some (LpO.out [.wait 3, .nm 14 (V.sc (.int .i64 (a.length : Int))), .bit false, .mask [1], .ren []] (p := [V.sc (.int .i64 ((List.map E181 a).length : Int)) = V.sc (.int .i64 (a.length : Int)),
      (decide ((p1.length : Int) < (a.length : Int))) = false]) (by kernel_rfl) (show X.out 0 ≠ X.go from nofun) (cj (len_nm _ _) (cj1 (rng_end h2))))
  | x1 :: t1, p1, h2, v1 => by
    unfold laws_szTaskS_l0
    exact
     Pn.bind (fun r1 h4 =>
      Pn.ite (fun h5 =>
       Pn.some (LpO.out [.wait 3, .nm 14 (V.sc (.int .i64 (a.length : Int))), .bit true, .el (E181 x1), .call [] (E3 r1) [], .bit true, .wait 1, .mask [4], .ren []] (p := [V.sc (.int .i64 ((List.map E181 a).length : Int)) = V.sc (.int .i64 (a.length : Int)),
        (decide ((p1.length : Int) < (a.length : Int))) = true,
        (0 : Int) ≤ (p1.length : Int),
        (List.map E181 a)[(p1.length : Int).toNat]? = some (E181 x1),
        Fn Try.prog 160 [(false, E181 x1), (false, E3 v1)] (E3 r1) [],
        (true || ((E3 r1).nv && nvL [])) = true,
        (decide (r1 < 0)) = true]) (by kernel_rfl) (show X.ret ≠ X.go from nofun) (cj (len_nm _ _) (cj (rng_lt h2) (cj (by omega) (cj (rng_get _ h2) (cj (laws_szTask_ok x1 v1 r1 h4) (cj rfl (cj1 h5))))))))) (fun h5 =>
       LpO.go [.wait 3, .nm 14 (V.sc (.int .i64 (a.length : Int))), .bit true, .el (E181 x1), .call [] (E3 r1) [], .bit false, .wait 3, .mask [0, 1, 5], .ren [], .nm 5 (V.sc (.int .i64 ((p1 ++ [x1]).length : Int)))] (p := [V.sc (.int .i64 ((List.map E181 a).length : Int)) = V.sc (.int .i64 (a.length : Int)),
        (decide ((p1.length : Int) < (a.length : Int))) = true,
        (0 : Int) ≤ (p1.length : Int),
        (List.map E181 a)[(p1.length : Int).toNat]? = some (E181 x1),
        Fn Try.prog 160 [(false, E181 x1), (false, E3 v1)] (E3 r1) [],
        (true || ((E3 r1).nv && nvL [])) = true,
        (decide (r1 < 0)) = false,
        V.sc (.int .i64 (i64 ((p1.length : Int) + 1))) = V.sc (.int .i64 ((p1 ++ [x1]).length : Int))]) (by kernel_rfl) (cj (len_nm _ _) (cj (rng_lt h2) (cj (by omega) (cj (rng_get _ h2) (cj (laws_szTask_ok x1 v1 r1 h4) (cj rfl (cj h5 (cj1 (rng_next h2 h3))))))))) (laws_szTaskS_l0_ok a h3 t1 (p1 ++ [x1]) (rng_step h2) r1)))
def laws_szTaskS (a : List Task) (left : Int) : Option (Int) :=
 if (decide ((i64 (left - (a.length : Int))) < 0)) = true then
  some (-1)
 else
  if (capOk a.length) = true then
   (laws_szTaskS_l0 a a (i64 (left - (a.length : Int)))).bind fun r2 =>
   Lo.elim r2 (fun s1 =>
    some s1) (fun s2 =>
    some (-1))
  else none
theorem laws_szTaskS_ok (a : List Task) (left : Int) : Pn (fun y => Fn Try.prog 99 [(false, E73 a), (false, E3 left)] (E3 y) []) (laws_szTaskS a left) := by
  unfold laws_szTaskS
  exact
   Pn.ite (fun h1 =>
    Pn.some (Fn.of [.wait 4, .nm 8 (V.sc (.int .i64 (a.length : Int))), .bit true] (p := [V.sc (.int .i64 ((List.map E181 a).length : Int)) = V.sc (.int .i64 (a.length : Int)),
     (decide ((i64 (left - (a.length : Int))) < 0)) = true]) (by kernel_rfl) (cj (len_nm _ _) (cj1 h1)))) (fun h1 =>
    Pn.ite (fun h6 =>
     Pn.bind (fun r2 h7 =>
      Pn.lo (fun s1 h8 =>
       Pn.some (Fn.of [.wait 4, .nm 8 (V.sc (.int .i64 (a.length : Int))), .bit false, .wait 1, .mask [0, 1, 5], .ren [], .loop (X.out 0) (st 27 [(1, V.sc (.int .i64 s1))] [] [])] (p := [V.sc (.int .i64 ((List.map E181 a).length : Int)) = V.sc (.int .i64 (a.length : Int)),
        (decide ((i64 (left - (a.length : Int))) < 0)) = false,
        Loop Try.prog (sub (codeOf Try.prog 99) [1, 1, 1, 0, 1, 0, 0]) (st 27 [(0, V.sl false 181 (List.map E181 a)), (1, V.sc (.int .i64 (i64 (left - (a.length : Int))))), (5, V.sc (.int .i64 0))] [] []) (X.out 0) (st 27 [(1, V.sc (.int .i64 s1))] [] [])]) (by kernel_rfl) (cj (len_nm _ _) (cj h1 (cj1 ((laws_szTaskS_l0_ok a h6 a [] rfl (i64 (left - (a.length : Int))) r2 h7).at h8)))))) (fun s2 h9 =>
       Pn.some (Fn.of [.wait 4, .nm 8 (V.sc (.int .i64 (a.length : Int))), .bit false, .wait 1, .mask [0, 1, 5], .ren [], .loop (X.ret) (st 27 [(4, V.sc (.int .i64 (-1)))] [] [])] (p := [V.sc (.int .i64 ((List.map E181 a).length : Int)) = V.sc (.int .i64 (a.length : Int)),
        (decide ((i64 (left - (a.length : Int))) < 0)) = false,
        Loop Try.prog (sub (codeOf Try.prog 99) [1, 1, 1, 0, 1, 0, 0]) (st 27 [(0, V.sl false 181 (List.map E181 a)), (1, V.sc (.int .i64 (i64 (left - (a.length : Int))))), (5, V.sc (.int .i64 0))] [] []) (X.ret) (st 27 [(4, V.sc (.int .i64 (-1)))] [] [])]) (by kernel_rfl) (cj (len_nm _ _) (cj h1 (cj1 ((laws_szTaskS_l0_ok a h6 a [] rfl (i64 (left - (a.length : Int))) r2 h7).at h9)))))))) (fun h6 =>
     Pn.none))
def laws_szWorld (a : World) (left : Int) : Option (Int) :=
 (laws_szStripeS a.Stripes left).bind fun r1 =>
 if (decide (r1 < 0)) = true then
  some (-1)
 else
  (laws_szTaskS a.Tasks r1).bind fun r2 =>
  if (decide (r2 < 0)) = true then
   some (-1)
  else
   some r2
theorem laws_szWorld_ok (a : World) (left : Int) : Pn (fun y => Fn Try.prog 43 [(false, E75 a), (false, E3 left)] (E3 y) []) (laws_szWorld a left) := by
  unfold laws_szWorld
  exact
   Pn.bind (fun r1 h1 =>
    Pn.ite (fun h2 =>
     Pn.some (Fn.of [.call [] (E3 r1) [], .bit true] (p := [Fn Try.prog 30 [(false, E61 a.Stripes), (false, E3 left)] (E3 r1) [],
      (true || ((E3 r1).nv && nvL [])) = true,
      (decide (r1 < 0)) = true]) (by kernel_rfl) (cj (laws_szStripeS_ok a.Stripes left r1 h1) (cj rfl (cj1 h2))))) (fun h2 =>
     Pn.bind (fun r2 h3 =>
      Pn.ite (fun h4 =>
       Pn.some (Fn.of [.call [] (E3 r1) [], .bit false, .call [] (E3 r2) [], .bit true] (p := [Fn Try.prog 30 [(false, E61 a.Stripes), (false, E3 left)] (E3 r1) [],
        (true || ((E3 r1).nv && nvL [])) = true,
        (decide (r1 < 0)) = false,
        Fn Try.prog 99 [(false, E73 a.Tasks), (false, E3 r1)] (E3 r2) [],
        (true || ((E3 r2).nv && nvL [])) = true,
        (decide (r2 < 0)) = true]) (by kernel_rfl) (cj (laws_szStripeS_ok a.Stripes left r1 h1) (cj rfl (cj h2 (cj (laws_szTaskS_ok a.Tasks r1 r2 h3) (cj rfl (cj1 h4)))))))) (fun h4 =>
       Pn.some (Fn.of [.call [] (E3 r1) [], .bit false, .call [] (E3 r2) [], .bit false] (p := [Fn Try.prog 30 [(false, E61 a.Stripes), (false, E3 left)] (E3 r1) [],
        (true || ((E3 r1).nv && nvL [])) = true,
        (decide (r1 < 0)) = false,
        Fn Try.prog 99 [(false, E73 a.Tasks), (false, E3 r1)] (E3 r2) [],
        (true || ((E3 r2).nv && nvL [])) = true,
        (decide (r2 < 0)) = false]) (by kernel_rfl) (cj (laws_szStripeS_ok a.Stripes left r1 h1) (cj rfl (cj h2 (cj (laws_szTaskS_ok a.Tasks r1 r2 h3) (cj rfl (cj1 h4)))))))))))
def laws_toHold (a : Hold) : Option (Hold) :=
 some a
theorem laws_toHold_ok (a : Hold) : Pn (fun y => Fn Try.prog 223 [(false, E226 a)] (E36 y) []) (laws_toHold a) := by
  unfold laws_toHold
  exact
   Pn.some (Fn.of [] (p := []) (by kernel_rfl) trivial)
def laws_toHoldS_l0 (a : List Hold) : List Hold → List Hold → (List Hold) → Option ((List Hold))
  | [], p1, v1 =>
   some v1
  | x1 :: t1, p1, v1 =>
   (laws_toHold x1).bind fun r1 =>
   (v1[(p1.length : Int).toNat]?).bind fun x2 =>
   laws_toHoldS_l0 a t1 (p1 ++ [x1]) (v1.set ((p1.length : Int).toNat) r1)
theorem laws_toHoldS_l0_ok (a : List Hold) (h4 : capOk a.length = true) : ∀ (t1 p1 : List Hold) (_ : a = p1 ++ t1) (v1 : List Hold), Pn (LpO Try.prog (sub (codeOf Try.prog 212) [1, 1, 0, 1, 0, 0]) (st 23 [(0, V.sl false 226 (List.map E226 a)), (3, V.ow 0), (4, V.sc (.int .i64 (p1.length : Int)))] [Blk.row 36 (List.map E36 v1) []] []) (fun (y : (List Hold)) => (X.out 0, st 23 [(3, V.ow 0)] [Blk.row 36 (List.map E36 y) []] []))) (laws_toHoldS_l0 a t1 p1 v1)
  | [], p1, h3, v1 => by
    unfold laws_toHoldS_l0
    exact
     Pn.some (LpO.out [.wait 3, .nm 10 (V.sc (.int .i64 (a.length : Int))), .bit false, .mask [3], .ren [0]] (p := [V.sc (.int .i64 ((List.map E226 a).length : Int)) = V.sc (.int .i64 (a.length : Int)),
      (decide ((p1.length : Int) < (a.length : Int))) = false]) (by kernel_rfl) (show X.out 0 ≠ X.go from nofun) (cj (len_nm _ _) (cj1 (rng_end h3))))
  | x1 :: t1, p1, h3, v1 => by
    unfold laws_toHoldS_l0
    exact
     Pn.bind (fun r1 h5 =>
      Pn.bind (fun x2 h6 =>
       LpO.go [.wait 3, .nm 10 (V.sc (.int .i64 (a.length : Int))), .bit true, .el (E226 x1), .call [] (E36 r1) [], .el (E36 x2), .nb 0 (.row 36 (List.map E36 (v1.set ((p1.length : Int).toNat) r1)) []), .wait 4, .mask [0, 3, 4], .ren [0], .nm 4 (V.sc (.int .i64 ((p1 ++ [x1]).length : Int)))] (p := [V.sc (.int .i64 ((List.map E226 a).length : Int)) = V.sc (.int .i64 (a.length : Int)),
        (decide ((p1.length : Int) < (a.length : Int))) = true,
        (0 : Int) ≤ (p1.length : Int),
        (List.map E226 a)[(p1.length : Int).toNat]? = some (E226 x1),
        Fn Try.prog 223 [(false, E226 x1)] (E36 r1) [],
        (true || ((E36 r1).nv && nvL [])) = true,
        (0 : Int) ≤ (p1.length : Int),
        ((p1.length : Int) : Int) < ((List.map E36 v1).length : Int),
        look [] ((p1.length : Int).toNat) = none,
        (List.map E36 v1)[(p1.length : Int).toNat]? = some (E36 x2),
        Blk.row 36 ((List.map E36 v1).set ((p1.length : Int).toNat) (V.agg [V.sc (.string r1.Id), V.sc (.int .i64 r1.Amount), V.sc (.int .i64 r1.Due)])) [] = Blk.row 36 (List.map E36 (v1.set ((p1.length : Int).toNat) r1)) [],
        V.sc (.int .i64 (i64 ((p1.length : Int) + 1))) = V.sc (.int .i64 ((p1 ++ [x1]).length : Int))]) (by kernel_rfl) (cj (len_nm _ _) (cj (rng_lt h3) (cj (by omega) (cj (rng_get _ h3) (cj (laws_toHold_ok x1 r1 h5) (cj rfl (cj (by omega) (cj (map_ltN (by omega) h6) (cj rfl (cj (map_get h6) (cj (nb_set E36 _ _ r1) (cj1 (rng_next h3 h4))))))))))))) (laws_toHoldS_l0_ok a h4 t1 (p1 ++ [x1]) (rng_step h3) (v1.set ((p1.length : Int).toNat) r1))))
def laws_toHoldS (a : List Hold) : Option ((List Hold)) :=
 if (decide (0 ≤ (a.length : Int))) = true then
  if (capOk (a.length : Int).toNat) = true then
   if (capOk a.length) = true then
    (laws_toHoldS_l0 a a [] (List.replicate ((a.length : Int).toNat) (Hold.mk ByteArray.empty 0 0))).bind fun r2 =>
    some r2
   else none
  else none
 else none
theorem laws_toHoldS_ok (a : List Hold) : Pn (fun y => Fn Try.prog 212 [(false, E207 a)] (E23 y) []) (laws_toHoldS a) := by
  unfold laws_toHoldS
  exact
   Pn.ite (fun h1 =>
    Pn.ite (fun h2 =>
     Pn.ite (fun h7 =>
      Pn.bind (fun r2 h8 =>
       Pn.some (Fn.of [.wait 3, .nm 6 (V.sc (.int .i64 (a.length : Int))), .wait 1, .nb 0 (.row 36 (List.map E36 (List.replicate ((a.length : Int).toNat) (Hold.mk ByteArray.empty 0 0))) []), .wait 3, .mask [0, 3, 4], .ren [0], .loop (X.out 0) (st 23 [(3, V.ow 0)] [Blk.row 36 (List.map E36 r2) []] [])] (p := [V.sc (.int .i64 ((List.map E226 a).length : Int)) = V.sc (.int .i64 (a.length : Int)),
        ((a.length : Int) : Int) = (a.length : Int),
        (0 : Int) ≤ (a.length : Int),
        ((a.length : Int) : Int) ≤ 9223372036854775807,
        32 * (a.length : Int).toNat ≤ 281474976710656,
        Blk.row 36 (List.replicate ((a.length : Int).toNat) (V.agg [V.sc (.string ByteArray.empty), V.sc (.int .i64 0), V.sc (.int .i64 0)])) [] = Blk.row 36 (List.map E36 (List.replicate ((a.length : Int).toNat) (Hold.mk ByteArray.empty 0 0))) [],
        Loop Try.prog (sub (codeOf Try.prog 212) [1, 1, 0, 1, 0, 0]) (st 23 [(0, V.sl false 226 (List.map E226 a)), (3, V.ow 0), (4, V.sc (.int .i64 0))] [Blk.row 36 (List.map E36 (List.replicate ((a.length : Int).toNat) (Hold.mk ByteArray.empty 0 0))) []] []) (X.out 0) (st 23 [(3, V.ow 0)] [Blk.row 36 (List.map E36 r2) []] [])]) (by kernel_rfl) (cj (len_nm _ _) (cj rfl (cj (od h1) (cj (cap3 h1 h2) (cj (cap4 h2 (by decide)) (cj (nb_rep E36 _ (Hold.mk ByteArray.empty 0 0)) (cj1 (laws_toHoldS_l0_ok a h7 a [] rfl (List.replicate ((a.length : Int).toNat) (Hold.mk ByteArray.empty 0 0)) r2 h8))))))))))) (fun h7 =>
      Pn.none)) (fun h2 =>
     Pn.none)) (fun h1 =>
    Pn.none)
def laws_toIntS_l0 (a : List Int) : List Int → List Int → (List Int) → Option ((List Int))
  | [], p1, v1 =>
   some v1
  | x1 :: t1, p1, v1 =>
   (v1[(p1.length : Int).toNat]?).bind fun x2 =>
   laws_toIntS_l0 a t1 (p1 ++ [x1]) (v1.set ((p1.length : Int).toNat) x1)
theorem laws_toIntS_l0_ok (a : List Int) (h4 : capOk a.length = true) : ∀ (t1 p1 : List Int) (_ : a = p1 ++ t1) (v1 : List Int), Pn (LpO Try.prog (sub (codeOf Try.prog 39) [1, 1, 0, 1, 0, 0]) (st 22 [(0, V.sl false 3 (List.map E3 a)), (3, V.ow 0), (4, V.sc (.int .i64 (p1.length : Int)))] [Blk.row 3 (List.map E3 v1) []] []) (fun (y : (List Int)) => (X.out 0, st 22 [(3, V.ow 0)] [Blk.row 3 (List.map E3 y) []] []))) (laws_toIntS_l0 a t1 p1 v1)
  | [], p1, h3, v1 => by
    unfold laws_toIntS_l0
    exact
     Pn.some (LpO.out [.wait 3, .nm 10 (V.sc (.int .i64 (a.length : Int))), .bit false, .mask [3], .ren [0]] (p := [V.sc (.int .i64 ((List.map E3 a).length : Int)) = V.sc (.int .i64 (a.length : Int)),
      (decide ((p1.length : Int) < (a.length : Int))) = false]) (by kernel_rfl) (show X.out 0 ≠ X.go from nofun) (cj (len_nm _ _) (cj1 (rng_end h3))))
  | x1 :: t1, p1, h3, v1 => by
    unfold laws_toIntS_l0
    exact
     Pn.bind (fun x2 h5 =>
      LpO.go [.wait 3, .nm 10 (V.sc (.int .i64 (a.length : Int))), .bit true, .el (E3 x1), .el (E3 x2), .nb 0 (.row 3 (List.map E3 (v1.set ((p1.length : Int).toNat) x1)) []), .wait 4, .mask [0, 3, 4], .ren [0], .nm 4 (V.sc (.int .i64 ((p1 ++ [x1]).length : Int)))] (p := [V.sc (.int .i64 ((List.map E3 a).length : Int)) = V.sc (.int .i64 (a.length : Int)),
       (decide ((p1.length : Int) < (a.length : Int))) = true,
       (0 : Int) ≤ (p1.length : Int),
       (List.map E3 a)[(p1.length : Int).toNat]? = some (E3 x1),
       (0 : Int) ≤ (p1.length : Int),
       ((p1.length : Int) : Int) < ((List.map E3 v1).length : Int),
       look [] ((p1.length : Int).toNat) = none,
       (List.map E3 v1)[(p1.length : Int).toNat]? = some (E3 x2),
       Blk.row 3 ((List.map E3 v1).set ((p1.length : Int).toNat) (V.sc (.int .i64 x1))) [] = Blk.row 3 (List.map E3 (v1.set ((p1.length : Int).toNat) x1)) [],
       V.sc (.int .i64 (i64 ((p1.length : Int) + 1))) = V.sc (.int .i64 ((p1 ++ [x1]).length : Int))]) (by kernel_rfl) (cj (len_nm _ _) (cj (rng_lt h3) (cj (by omega) (cj (rng_get _ h3) (cj (by omega) (cj (map_ltN (by omega) h5) (cj rfl (cj (map_get h5) (cj (nb_set E3 _ _ x1) (cj1 (rng_next h3 h4))))))))))) (laws_toIntS_l0_ok a h4 t1 (p1 ++ [x1]) (rng_step h3) (v1.set ((p1.length : Int).toNat) x1)))
def laws_toIntS (a : List Int) : Option ((List Int)) :=
 if (decide (0 ≤ (a.length : Int))) = true then
  if (capOk (a.length : Int).toNat) = true then
   if (capOk a.length) = true then
    (laws_toIntS_l0 a a [] (List.replicate ((a.length : Int).toNat) 0)).bind fun r1 =>
    some r1
   else none
  else none
 else none
theorem laws_toIntS_ok (a : List Int) : Pn (fun y => Fn Try.prog 39 [(false, E24 a)] (E24 y) []) (laws_toIntS a) := by
  unfold laws_toIntS
  exact
   Pn.ite (fun h1 =>
    Pn.ite (fun h2 =>
     Pn.ite (fun h6 =>
      Pn.bind (fun r1 h7 =>
       Pn.some (Fn.of [.wait 3, .nm 6 (V.sc (.int .i64 (a.length : Int))), .wait 1, .nb 0 (.row 3 (List.map E3 (List.replicate ((a.length : Int).toNat) 0)) []), .wait 3, .mask [0, 3, 4], .ren [0], .loop (X.out 0) (st 22 [(3, V.ow 0)] [Blk.row 3 (List.map E3 r1) []] [])] (p := [V.sc (.int .i64 ((List.map E3 a).length : Int)) = V.sc (.int .i64 (a.length : Int)),
        ((a.length : Int) : Int) = (a.length : Int),
        (0 : Int) ≤ (a.length : Int),
        ((a.length : Int) : Int) ≤ 9223372036854775807,
        8 * (a.length : Int).toNat ≤ 281474976710656,
        Blk.row 3 (List.replicate ((a.length : Int).toNat) (V.sc (.int .i64 0))) [] = Blk.row 3 (List.map E3 (List.replicate ((a.length : Int).toNat) 0)) [],
        Loop Try.prog (sub (codeOf Try.prog 39) [1, 1, 0, 1, 0, 0]) (st 22 [(0, V.sl false 3 (List.map E3 a)), (3, V.ow 0), (4, V.sc (.int .i64 0))] [Blk.row 3 (List.map E3 (List.replicate ((a.length : Int).toNat) 0)) []] []) (X.out 0) (st 22 [(3, V.ow 0)] [Blk.row 3 (List.map E3 r1) []] [])]) (by kernel_rfl) (cj (len_nm _ _) (cj rfl (cj (od h1) (cj (cap3 h1 h2) (cj (cap4 h2 (by decide)) (cj (nb_rep E3 _ 0) (cj1 (laws_toIntS_l0_ok a h6 a [] rfl (List.replicate ((a.length : Int).toNat) 0) r1 h7))))))))))) (fun h6 =>
      Pn.none)) (fun h2 =>
     Pn.none)) (fun h1 =>
    Pn.none)
def laws_toRing (a : Ring) : Option (Ring) :=
 (laws_toIntS a.Counts).bind fun r1 =>
 (laws_toIntS a.Sums).bind fun r2 =>
 some (Ring.mk a.Span a.Head r1 r2)
theorem laws_toRing_ok (a : Ring) : Pn (fun y => Fn Try.prog 213 [(false, E208 a)] (E26 y) []) (laws_toRing a) := by
  unfold laws_toRing
  exact
   Pn.bind (fun r1 h1 =>
    Pn.bind (fun r2 h2 =>
     Pn.some (Fn.of [.call [] (E24 r1) [], .call [] (E24 r2) []] (p := [Fn Try.prog 39 [(false, E24 a.Counts)] (E24 r1) [],
      (true || ((E24 r1).nv && nvL [])) = true,
      Fn Try.prog 39 [(false, E24 a.Sums)] (E24 r2) [],
      (true || ((E24 r2).nv && nvL [])) = true]) (by kernel_rfl) (cj (laws_toIntS_ok a.Counts r1 h1) (cj rfl (cj (laws_toIntS_ok a.Sums r2 h2) (cj1 rfl)))))))
def laws_toByteS_l0 (a : List Int) : List Int → List Int → (List Int) → Option ((List Int))
  | [], p1, v1 =>
   some v1
  | x1 :: t1, p1, v1 =>
   (v1[(p1.length : Int).toNat]?).bind fun x2 =>
   laws_toByteS_l0 a t1 (p1 ++ [x1]) (v1.set ((p1.length : Int).toNat) x1)
theorem laws_toByteS_l0_ok (a : List Int) (h4 : capOk a.length = true) : ∀ (t1 p1 : List Int) (_ : a = p1 ++ t1) (v1 : List Int), Pn (LpO Try.prog (sub (codeOf Try.prog 200) [1, 1, 0, 1, 0, 0]) (st 22 [(0, V.sl false 5 (List.map E5 a)), (3, V.ow 0), (4, V.sc (.int .i64 (p1.length : Int)))] [Blk.row 5 (List.map E5 v1) []] []) (fun (y : (List Int)) => (X.out 0, st 22 [(3, V.ow 0)] [Blk.row 5 (List.map E5 y) []] []))) (laws_toByteS_l0 a t1 p1 v1)
  | [], p1, h3, v1 => by
    unfold laws_toByteS_l0
    exact
     Pn.some (LpO.out [.wait 3, .nm 10 (V.sc (.int .i64 (a.length : Int))), .bit false, .mask [3], .ren [0]] (p := [V.sc (.int .i64 ((List.map E5 a).length : Int)) = V.sc (.int .i64 (a.length : Int)),
      (decide ((p1.length : Int) < (a.length : Int))) = false]) (by kernel_rfl) (show X.out 0 ≠ X.go from nofun) (cj (len_nm _ _) (cj1 (rng_end h3))))
  | x1 :: t1, p1, h3, v1 => by
    unfold laws_toByteS_l0
    exact
     Pn.bind (fun x2 h5 =>
      LpO.go [.wait 3, .nm 10 (V.sc (.int .i64 (a.length : Int))), .bit true, .el (E5 x1), .el (E5 x2), .nb 0 (.row 5 (List.map E5 (v1.set ((p1.length : Int).toNat) x1)) []), .wait 4, .mask [0, 3, 4], .ren [0], .nm 4 (V.sc (.int .i64 ((p1 ++ [x1]).length : Int)))] (p := [V.sc (.int .i64 ((List.map E5 a).length : Int)) = V.sc (.int .i64 (a.length : Int)),
       (decide ((p1.length : Int) < (a.length : Int))) = true,
       (0 : Int) ≤ (p1.length : Int),
       (List.map E5 a)[(p1.length : Int).toNat]? = some (E5 x1),
       (0 : Int) ≤ (p1.length : Int),
       ((p1.length : Int) : Int) < ((List.map E5 v1).length : Int),
       look [] ((p1.length : Int).toNat) = none,
       (List.map E5 v1)[(p1.length : Int).toNat]? = some (E5 x2),
       Blk.row 5 ((List.map E5 v1).set ((p1.length : Int).toNat) (V.sc (.int .u8 x1))) [] = Blk.row 5 (List.map E5 (v1.set ((p1.length : Int).toNat) x1)) [],
       V.sc (.int .i64 (i64 ((p1.length : Int) + 1))) = V.sc (.int .i64 ((p1 ++ [x1]).length : Int))]) (by kernel_rfl) (cj (len_nm _ _) (cj (rng_lt h3) (cj (by omega) (cj (rng_get _ h3) (cj (by omega) (cj (map_ltN (by omega) h5) (cj rfl (cj (map_get h5) (cj (nb_set E5 _ _ x1) (cj1 (rng_next h3 h4))))))))))) (laws_toByteS_l0_ok a h4 t1 (p1 ++ [x1]) (rng_step h3) (v1.set ((p1.length : Int).toNat) x1)))
def laws_toByteS (a : List Int) : Option ((List Int)) :=
 if (decide (0 ≤ (a.length : Int))) = true then
  if (capOk (a.length : Int).toNat) = true then
   if (capOk a.length) = true then
    (laws_toByteS_l0 a a [] (List.replicate ((a.length : Int).toNat) 0)).bind fun r1 =>
    some r1
   else none
  else none
 else none
theorem laws_toByteS_ok (a : List Int) : Pn (fun y => Fn Try.prog 200 [(false, E22 a)] (E22 y) []) (laws_toByteS a) := by
  unfold laws_toByteS
  exact
   Pn.ite (fun h1 =>
    Pn.ite (fun h2 =>
     Pn.ite (fun h6 =>
      Pn.bind (fun r1 h7 =>
       Pn.some (Fn.of [.wait 3, .nm 6 (V.sc (.int .i64 (a.length : Int))), .wait 1, .nb 0 (.row 5 (List.map E5 (List.replicate ((a.length : Int).toNat) 0)) []), .wait 3, .mask [0, 3, 4], .ren [0], .loop (X.out 0) (st 22 [(3, V.ow 0)] [Blk.row 5 (List.map E5 r1) []] [])] (p := [V.sc (.int .i64 ((List.map E5 a).length : Int)) = V.sc (.int .i64 (a.length : Int)),
        ((a.length : Int) : Int) = (a.length : Int),
        (0 : Int) ≤ (a.length : Int),
        ((a.length : Int) : Int) ≤ 9223372036854775807,
        1 * (a.length : Int).toNat ≤ 281474976710656,
        Blk.row 5 (List.replicate ((a.length : Int).toNat) (V.sc (.int .u8 0))) [] = Blk.row 5 (List.map E5 (List.replicate ((a.length : Int).toNat) 0)) [],
        Loop Try.prog (sub (codeOf Try.prog 200) [1, 1, 0, 1, 0, 0]) (st 22 [(0, V.sl false 5 (List.map E5 a)), (3, V.ow 0), (4, V.sc (.int .i64 0))] [Blk.row 5 (List.map E5 (List.replicate ((a.length : Int).toNat) 0)) []] []) (X.out 0) (st 22 [(3, V.ow 0)] [Blk.row 5 (List.map E5 r1) []] [])]) (by kernel_rfl) (cj (len_nm _ _) (cj rfl (cj (od h1) (cj (cap3 h1 h2) (cj (cap4 h2 (by decide)) (cj (nb_rep E5 _ 0) (cj1 (laws_toByteS_l0_ok a h6 a [] rfl (List.replicate ((a.length : Int).toNat) 0) r1 h7))))))))))) (fun h6 =>
      Pn.none)) (fun h2 =>
     Pn.none)) (fun h1 =>
    Pn.none)
def laws_toSlot (a : Slot) : Option (Slot) :=
 (laws_toByteS a.Reply).bind fun r1 =>
 some (Slot.mk a.Trace a.Mti r1)
theorem laws_toSlot_ok (a : Slot) : Pn (fun y => Fn Try.prog 224 [(false, E228 a)] (E164 y) []) (laws_toSlot a) := by
  unfold laws_toSlot
  exact
   Pn.bind (fun r1 h1 =>
    Pn.some (Fn.of [.call [] (E22 r1) []] (p := [Fn Try.prog 200 [(false, E22 a.Reply)] (E22 r1) [],
     (true || ((E22 r1).nv && nvL [])) = true]) (by kernel_rfl) (cj (laws_toByteS_ok a.Reply r1 h1) (cj1 rfl))))
def laws_toSlotS_l0 (a : List Slot) : List Slot → List Slot → (List Slot) → Option ((List Slot))
  | [], p1, v1 =>
   some v1
  | x1 :: t1, p1, v1 =>
   (laws_toSlot x1).bind fun r1 =>
   (v1[(p1.length : Int).toNat]?).bind fun x2 =>
   laws_toSlotS_l0 a t1 (p1 ++ [x1]) (v1.set ((p1.length : Int).toNat) r1)
theorem laws_toSlotS_l0_ok (a : List Slot) (h4 : capOk a.length = true) : ∀ (t1 p1 : List Slot) (_ : a = p1 ++ t1) (v1 : List Slot), Pn (LpO Try.prog (sub (codeOf Try.prog 214) [1, 1, 0, 1, 0, 0]) (st 23 [(0, V.sl false 228 (List.map E228 a)), (3, V.ow 0), (4, V.sc (.int .i64 (p1.length : Int)))] [Blk.row 164 (List.map E164 v1) []] []) (fun (y : (List Slot)) => (X.out 0, st 23 [(3, V.ow 0)] [Blk.row 164 (List.map E164 y) []] []))) (laws_toSlotS_l0 a t1 p1 v1)
  | [], p1, h3, v1 => by
    unfold laws_toSlotS_l0
    exact
     Pn.some (LpO.out [.wait 3, .nm 10 (V.sc (.int .i64 (a.length : Int))), .bit false, .mask [3], .ren [0]] (p := [V.sc (.int .i64 ((List.map E228 a).length : Int)) = V.sc (.int .i64 (a.length : Int)),
      (decide ((p1.length : Int) < (a.length : Int))) = false]) (by kernel_rfl) (show X.out 0 ≠ X.go from nofun) (cj (len_nm _ _) (cj1 (rng_end h3))))
  | x1 :: t1, p1, h3, v1 => by
    unfold laws_toSlotS_l0
    exact
     Pn.bind (fun r1 h5 =>
      Pn.bind (fun x2 h6 =>
       LpO.go [.wait 3, .nm 10 (V.sc (.int .i64 (a.length : Int))), .bit true, .el (E228 x1), .call [] (E164 r1) [], .wait 1, .foc 0 ((p1.length : Int).toNat) (E164 x2), .fo 0, .wait 4, .shut 0, .nb 0 (.row 164 (List.map E164 (v1.set ((p1.length : Int).toNat) r1)) []), .mask [0, 3, 4], .ren [0], .nm 4 (V.sc (.int .i64 ((p1 ++ [x1]).length : Int)))] (p := [V.sc (.int .i64 ((List.map E228 a).length : Int)) = V.sc (.int .i64 (a.length : Int)),
        (decide ((p1.length : Int) < (a.length : Int))) = true,
        (0 : Int) ≤ (p1.length : Int),
        (List.map E228 a)[(p1.length : Int).toNat]? = some (E228 x1),
        Fn Try.prog 224 [(false, E228 x1)] (E164 r1) [],
        (true || ((E164 r1).nv && nvL [])) = true,
        (0 : Int) ≤ (p1.length : Int),
        ((p1.length : Int) : Int) < ((List.map E164 v1).length : Int),
        look [] ((p1.length : Int).toNat) = none,
        (List.map E164 v1)[(p1.length : Int).toNat]? = some (E164 x2),
        look [((p1.length : Int).toNat, V.agg [V.sc (.string x2.Trace), V.sc (.string x2.Mti), V.ow 2])] ((p1.length : Int).toNat) = some (V.agg [V.sc (.string x2.Trace), V.sc (.string x2.Mti), V.ow 2]),
        ((p1.length : Int).toNat) < (List.map E164 v1).length,
        ((p1.length : Int).toNat) = ((p1.length : Int).toNat),
        Blk.row 164 ((List.map E164 v1).set ((p1.length : Int).toNat) (V.agg [V.sc (.string r1.Trace), V.sc (.string r1.Mti), V.sl true 5 (List.map E5 r1.Reply)])) [] = Blk.row 164 (List.map E164 (v1.set ((p1.length : Int).toNat) r1)) [],
        V.sc (.int .i64 (i64 ((p1.length : Int) + 1))) = V.sc (.int .i64 ((p1 ++ [x1]).length : Int))]) (by kernel_rfl) (cj (len_nm _ _) (cj (rng_lt h3) (cj (by omega) (cj (rng_get _ h3) (cj (laws_toSlot_ok x1 r1 h5) (cj rfl (cj (by omega) (cj (map_ltN (by omega) h6) (cj rfl (cj (map_get h6) (cj (look_cons_self _ _ _) (cj (map_lt h6) (cj rfl (cj (nb_set E164 _ _ r1) (cj1 (rng_next h3 h4)))))))))))))))) (laws_toSlotS_l0_ok a h4 t1 (p1 ++ [x1]) (rng_step h3) (v1.set ((p1.length : Int).toNat) r1))))
def laws_toSlotS (a : List Slot) : Option ((List Slot)) :=
 if (decide (0 ≤ (a.length : Int))) = true then
  if (capOk (a.length : Int).toNat) = true then
   if (capOk a.length) = true then
    (laws_toSlotS_l0 a a [] (List.replicate ((a.length : Int).toNat) (Slot.mk ByteArray.empty ByteArray.empty []))).bind fun r2 =>
    some r2
   else none
  else none
 else none
theorem laws_toSlotS_ok (a : List Slot) : Pn (fun y => Fn Try.prog 214 [(false, E209 a)] (E27 y) []) (laws_toSlotS a) := by
  unfold laws_toSlotS
  exact
   Pn.ite (fun h1 =>
    Pn.ite (fun h2 =>
     Pn.ite (fun h7 =>
      Pn.bind (fun r2 h8 =>
       Pn.some (Fn.of [.wait 3, .nm 6 (V.sc (.int .i64 (a.length : Int))), .wait 1, .nb 0 (.row 164 (List.map E164 (List.replicate ((a.length : Int).toNat) (Slot.mk ByteArray.empty ByteArray.empty []))) []), .wait 3, .mask [0, 3, 4], .ren [0], .loop (X.out 0) (st 23 [(3, V.ow 0)] [Blk.row 164 (List.map E164 r2) []] [])] (p := [V.sc (.int .i64 ((List.map E228 a).length : Int)) = V.sc (.int .i64 (a.length : Int)),
        ((a.length : Int) : Int) = (a.length : Int),
        (0 : Int) ≤ (a.length : Int),
        ((a.length : Int) : Int) ≤ 9223372036854775807,
        56 * (a.length : Int).toNat ≤ 281474976710656,
        Blk.row 164 (List.replicate ((a.length : Int).toNat) (V.agg [V.sc (.string ByteArray.empty), V.sc (.string ByteArray.empty), V.sl true 5 ([] : List V)])) [] = Blk.row 164 (List.map E164 (List.replicate ((a.length : Int).toNat) (Slot.mk ByteArray.empty ByteArray.empty []))) [],
        Loop Try.prog (sub (codeOf Try.prog 214) [1, 1, 0, 1, 0, 0]) (st 23 [(0, V.sl false 228 (List.map E228 a)), (3, V.ow 0), (4, V.sc (.int .i64 0))] [Blk.row 164 (List.map E164 (List.replicate ((a.length : Int).toNat) (Slot.mk ByteArray.empty ByteArray.empty []))) []] []) (X.out 0) (st 23 [(3, V.ow 0)] [Blk.row 164 (List.map E164 r2) []] [])]) (by kernel_rfl) (cj (len_nm _ _) (cj rfl (cj (od h1) (cj (cap3 h1 h2) (cj (cap4 h2 (by decide)) (cj (nb_rep E164 _ (Slot.mk ByteArray.empty ByteArray.empty [])) (cj1 (laws_toSlotS_l0_ok a h7 a [] rfl (List.replicate ((a.length : Int).toNat) (Slot.mk ByteArray.empty ByteArray.empty [])) r2 h8))))))))))) (fun h7 =>
      Pn.none)) (fun h2 =>
     Pn.none)) (fun h1 =>
    Pn.none)
def laws_toAcct (a : Acct) : Option (Acct) :=
 (laws_toHoldS a.Holds).bind fun r1 =>
 (laws_toRing a.Ring).bind fun r2 =>
 (laws_toSlotS a.Slots).bind fun r3 =>
 some (Acct.mk a.Id a.Limit a.Posted a.Most a.MostSum r1 r2 r3)
theorem laws_toAcct_ok (a : Acct) : Pn (fun y => Fn Try.prog 194 [(false, E211 a)] (E29 y) []) (laws_toAcct a) := by
  unfold laws_toAcct
  exact
   Pn.bind (fun r1 h1 =>
    Pn.bind (fun r2 h2 =>
     Pn.bind (fun r3 h3 =>
      Pn.some (Fn.of [.call [] (E23 r1) [], .call [] (E26 r2) [], .call [] (E27 r3) []] (p := [Fn Try.prog 212 [(false, E207 a.Holds)] (E23 r1) [],
       (true || ((E23 r1).nv && nvL [])) = true,
       Fn Try.prog 213 [(false, E208 a.Ring)] (E26 r2) [],
       (true || ((E26 r2).nv && nvL [])) = true,
       Fn Try.prog 214 [(false, E209 a.Slots)] (E27 r3) [],
       (true || ((E27 r3).nv && nvL [])) = true]) (by kernel_rfl) (cj (laws_toHoldS_ok a.Holds r1 h1) (cj rfl (cj (laws_toRing_ok a.Ring r2 h2) (cj rfl (cj (laws_toSlotS_ok a.Slots r3 h3) (cj1 rfl))))))))))
def laws_toAcctS_l0 (a : List Acct) : List Acct → List Acct → (List Acct) → Option ((List Acct))
  | [], p1, v1 =>
   some v1
  | x1 :: t1, p1, v1 =>
   (laws_toAcct x1).bind fun r1 =>
   (v1[(p1.length : Int).toNat]?).bind fun x2 =>
   laws_toAcctS_l0 a t1 (p1 ++ [x1]) (v1.set ((p1.length : Int).toNat) r1)
theorem laws_toAcctS_l0_ok (a : List Acct) (h4 : capOk a.length = true) : ∀ (t1 p1 : List Acct) (_ : a = p1 ++ t1) (v1 : List Acct), Pn (LpO Try.prog (sub (codeOf Try.prog 151) [1, 1, 0, 1, 0, 0]) (st 23 [(0, V.sl false 211 (List.map E211 a)), (3, V.ow 0), (4, V.sc (.int .i64 (p1.length : Int)))] [Blk.row 29 (List.map E29 v1) []] []) (fun (y : (List Acct)) => (X.out 0, st 23 [(3, V.ow 0)] [Blk.row 29 (List.map E29 y) []] []))) (laws_toAcctS_l0 a t1 p1 v1)
  | [], p1, h3, v1 => by
    unfold laws_toAcctS_l0
    exact
     Pn.some (LpO.out [.wait 3, .nm 10 (V.sc (.int .i64 (a.length : Int))), .bit false, .mask [3], .ren [0]] (p := [V.sc (.int .i64 ((List.map E211 a).length : Int)) = V.sc (.int .i64 (a.length : Int)),
      (decide ((p1.length : Int) < (a.length : Int))) = false]) (by kernel_rfl) (show X.out 0 ≠ X.go from nofun) (cj (len_nm _ _) (cj1 (rng_end h3))))
  | x1 :: t1, p1, h3, v1 => by
    unfold laws_toAcctS_l0
    exact
     Pn.bind (fun r1 h5 =>
      Pn.bind (fun x2 h6 =>
       LpO.go [.wait 3, .nm 10 (V.sc (.int .i64 (a.length : Int))), .bit true, .el (E211 x1), .call [] (E29 r1) [], .wait 1, .foc 0 ((p1.length : Int).toNat) (E29 x2), .fo 0, .wait 4, .shut 0, .nb 0 (.row 29 (List.map E29 (v1.set ((p1.length : Int).toNat) r1)) []), .mask [0, 3, 4], .ren [0], .nm 4 (V.sc (.int .i64 ((p1 ++ [x1]).length : Int)))] (p := [V.sc (.int .i64 ((List.map E211 a).length : Int)) = V.sc (.int .i64 (a.length : Int)),
        (decide ((p1.length : Int) < (a.length : Int))) = true,
        (0 : Int) ≤ (p1.length : Int),
        (List.map E211 a)[(p1.length : Int).toNat]? = some (E211 x1),
        Fn Try.prog 194 [(false, E211 x1)] (E29 r1) [],
        (true || ((E29 r1).nv && nvL [])) = true,
        (0 : Int) ≤ (p1.length : Int),
        ((p1.length : Int) : Int) < ((List.map E29 v1).length : Int),
        look [] ((p1.length : Int).toNat) = none,
        (List.map E29 v1)[(p1.length : Int).toNat]? = some (E29 x2),
        look [((p1.length : Int).toNat, V.agg [V.sc (.string x2.Id), V.sc (.int .i64 x2.Limit), V.sc (.int .i64 x2.Posted), V.sc (.int .i64 x2.Most), V.sc (.int .i64 x2.MostSum), V.ow 5, V.sc (.int .i64 x2.Ring.Span), V.sc (.int .i64 x2.Ring.Head), V.ow 6, V.ow 7, V.ow 8])] ((p1.length : Int).toNat) = some (V.agg [V.sc (.string x2.Id), V.sc (.int .i64 x2.Limit), V.sc (.int .i64 x2.Posted), V.sc (.int .i64 x2.Most), V.sc (.int .i64 x2.MostSum), V.ow 5, V.sc (.int .i64 x2.Ring.Span), V.sc (.int .i64 x2.Ring.Head), V.ow 6, V.ow 7, V.ow 8]),
        ((p1.length : Int).toNat) < (List.map E29 v1).length,
        ((p1.length : Int).toNat) = ((p1.length : Int).toNat),
        Blk.row 29 ((List.map E29 v1).set ((p1.length : Int).toNat) (V.agg [V.sc (.string r1.Id), V.sc (.int .i64 r1.Limit), V.sc (.int .i64 r1.Posted), V.sc (.int .i64 r1.Most), V.sc (.int .i64 r1.MostSum), V.sl true 36 (List.map E36 r1.Holds), V.sc (.int .i64 r1.Ring.Span), V.sc (.int .i64 r1.Ring.Head), V.sl true 3 (List.map E3 r1.Ring.Counts), V.sl true 3 (List.map E3 r1.Ring.Sums), V.sl true 164 (List.map E164 r1.Slots)])) [] = Blk.row 29 (List.map E29 (v1.set ((p1.length : Int).toNat) r1)) [],
        V.sc (.int .i64 (i64 ((p1.length : Int) + 1))) = V.sc (.int .i64 ((p1 ++ [x1]).length : Int))]) (by kernel_rfl) (cj (len_nm _ _) (cj (rng_lt h3) (cj (by omega) (cj (rng_get _ h3) (cj (laws_toAcct_ok x1 r1 h5) (cj rfl (cj (by omega) (cj (map_ltN (by omega) h6) (cj rfl (cj (map_get h6) (cj (look_cons_self _ _ _) (cj (map_lt h6) (cj rfl (cj (nb_set E29 _ _ r1) (cj1 (rng_next h3 h4)))))))))))))))) (laws_toAcctS_l0_ok a h4 t1 (p1 ++ [x1]) (rng_step h3) (v1.set ((p1.length : Int).toNat) r1))))
def laws_toAcctS (a : List Acct) : Option ((List Acct)) :=
 if (decide (0 ≤ (a.length : Int))) = true then
  if (capOk (a.length : Int).toNat) = true then
   if (capOk a.length) = true then
    (laws_toAcctS_l0 a a [] (List.replicate ((a.length : Int).toNat) (Acct.mk ByteArray.empty 0 0 0 0 [] (Ring.mk 0 0 [] []) []))).bind fun r2 =>
    some r2
   else none
  else none
 else none
theorem laws_toAcctS_ok (a : List Acct) : Pn (fun y => Fn Try.prog 151 [(false, E126 a)] (E48 y) []) (laws_toAcctS a) := by
  unfold laws_toAcctS
  exact
   Pn.ite (fun h1 =>
    Pn.ite (fun h2 =>
     Pn.ite (fun h7 =>
      Pn.bind (fun r2 h8 =>
       Pn.some (Fn.of [.wait 3, .nm 6 (V.sc (.int .i64 (a.length : Int))), .wait 1, .nb 0 (.row 29 (List.map E29 (List.replicate ((a.length : Int).toNat) (Acct.mk ByteArray.empty 0 0 0 0 [] (Ring.mk 0 0 [] []) []))) []), .wait 3, .mask [0, 3, 4], .ren [0], .loop (X.out 0) (st 23 [(3, V.ow 0)] [Blk.row 29 (List.map E29 r2) []] [])] (p := [V.sc (.int .i64 ((List.map E211 a).length : Int)) = V.sc (.int .i64 (a.length : Int)),
        ((a.length : Int) : Int) = (a.length : Int),
        (0 : Int) ≤ (a.length : Int),
        ((a.length : Int) : Int) ≤ 9223372036854775807,
        160 * (a.length : Int).toNat ≤ 281474976710656,
        Blk.row 29 (List.replicate ((a.length : Int).toNat) (V.agg [V.sc (.string ByteArray.empty), V.sc (.int .i64 0), V.sc (.int .i64 0), V.sc (.int .i64 0), V.sc (.int .i64 0), V.sl true 36 ([] : List V), V.sc (.int .i64 0), V.sc (.int .i64 0), V.sl true 3 ([] : List V), V.sl true 3 ([] : List V), V.sl true 164 ([] : List V)])) [] = Blk.row 29 (List.map E29 (List.replicate ((a.length : Int).toNat) (Acct.mk ByteArray.empty 0 0 0 0 [] (Ring.mk 0 0 [] []) []))) [],
        Loop Try.prog (sub (codeOf Try.prog 151) [1, 1, 0, 1, 0, 0]) (st 23 [(0, V.sl false 211 (List.map E211 a)), (3, V.ow 0), (4, V.sc (.int .i64 0))] [Blk.row 29 (List.map E29 (List.replicate ((a.length : Int).toNat) (Acct.mk ByteArray.empty 0 0 0 0 [] (Ring.mk 0 0 [] []) []))) []] []) (X.out 0) (st 23 [(3, V.ow 0)] [Blk.row 29 (List.map E29 r2) []] [])]) (by kernel_rfl) (cj (len_nm _ _) (cj rfl (cj (od h1) (cj (cap3 h1 h2) (cj (cap4 h2 (by decide)) (cj (nb_rep E29 _ (Acct.mk ByteArray.empty 0 0 0 0 [] (Ring.mk 0 0 [] []) [])) (cj1 (laws_toAcctS_l0_ok a h7 a [] rfl (List.replicate ((a.length : Int).toNat) (Acct.mk ByteArray.empty 0 0 0 0 [] (Ring.mk 0 0 [] []) [])) r2 h8))))))))))) (fun h7 =>
      Pn.none)) (fun h2 =>
     Pn.none)) (fun h1 =>
    Pn.none)
def laws_toStripe (a : Stripe) : Option (Stripe) :=
 (laws_toAcctS a.Accts).bind fun r1 =>
 some (Stripe.mk a.Owner r1)
theorem laws_toStripe_ok (a : Stripe) : Pn (fun y => Fn Try.prog 92 [(false, E128 a)] (E58 y) []) (laws_toStripe a) := by
  unfold laws_toStripe
  exact
   Pn.bind (fun r1 h1 =>
    Pn.some (Fn.of [.call [] (E48 r1) []] (p := [Fn Try.prog 151 [(false, E126 a.Accts)] (E48 r1) [],
     (true || ((E48 r1).nv && nvL [])) = true]) (by kernel_rfl) (cj (laws_toAcctS_ok a.Accts r1 h1) (cj1 rfl))))
def laws_toStripeS_l0 (a : List Stripe) : List Stripe → List Stripe → (List Stripe) → Option ((List Stripe))
  | [], p1, v1 =>
   some v1
  | x1 :: t1, p1, v1 =>
   (laws_toStripe x1).bind fun r1 =>
   (v1[(p1.length : Int).toNat]?).bind fun x2 =>
   laws_toStripeS_l0 a t1 (p1 ++ [x1]) (v1.set ((p1.length : Int).toNat) r1)
theorem laws_toStripeS_l0_ok (a : List Stripe) (h4 : capOk a.length = true) : ∀ (t1 p1 : List Stripe) (_ : a = p1 ++ t1) (v1 : List Stripe), Pn (LpO Try.prog (sub (codeOf Try.prog 32) [1, 1, 0, 1, 0, 0]) (st 23 [(0, V.sl false 128 (List.map E128 a)), (3, V.ow 0), (4, V.sc (.int .i64 (p1.length : Int)))] [Blk.row 58 (List.map E58 v1) []] []) (fun (y : (List Stripe)) => (X.out 0, st 23 [(3, V.ow 0)] [Blk.row 58 (List.map E58 y) []] []))) (laws_toStripeS_l0 a t1 p1 v1)
  | [], p1, h3, v1 => by
    unfold laws_toStripeS_l0
    exact
     Pn.some (LpO.out [.wait 3, .nm 10 (V.sc (.int .i64 (a.length : Int))), .bit false, .mask [3], .ren [0]] (p := [V.sc (.int .i64 ((List.map E128 a).length : Int)) = V.sc (.int .i64 (a.length : Int)),
      (decide ((p1.length : Int) < (a.length : Int))) = false]) (by kernel_rfl) (show X.out 0 ≠ X.go from nofun) (cj (len_nm _ _) (cj1 (rng_end h3))))
  | x1 :: t1, p1, h3, v1 => by
    unfold laws_toStripeS_l0
    exact
     Pn.bind (fun r1 h5 =>
      Pn.bind (fun x2 h6 =>
       LpO.go [.wait 3, .nm 10 (V.sc (.int .i64 (a.length : Int))), .bit true, .el (E128 x1), .call [] (E58 r1) [], .wait 1, .foc 0 ((p1.length : Int).toNat) (E58 x2), .fo 0, .wait 4, .shut 0, .nb 0 (.row 58 (List.map E58 (v1.set ((p1.length : Int).toNat) r1)) []), .mask [0, 3, 4], .ren [0], .nm 4 (V.sc (.int .i64 ((p1 ++ [x1]).length : Int)))] (p := [V.sc (.int .i64 ((List.map E128 a).length : Int)) = V.sc (.int .i64 (a.length : Int)),
        (decide ((p1.length : Int) < (a.length : Int))) = true,
        (0 : Int) ≤ (p1.length : Int),
        (List.map E128 a)[(p1.length : Int).toNat]? = some (E128 x1),
        Fn Try.prog 92 [(false, E128 x1)] (E58 r1) [],
        (true || ((E58 r1).nv && nvL [])) = true,
        (0 : Int) ≤ (p1.length : Int),
        ((p1.length : Int) : Int) < ((List.map E58 v1).length : Int),
        look [] ((p1.length : Int).toNat) = none,
        (List.map E58 v1)[(p1.length : Int).toNat]? = some (E58 x2),
        look [((p1.length : Int).toNat, V.agg [V.sc (.int .i64 x2.Owner), V.ow 2])] ((p1.length : Int).toNat) = some (V.agg [V.sc (.int .i64 x2.Owner), V.ow 2]),
        ((p1.length : Int).toNat) < (List.map E58 v1).length,
        ((p1.length : Int).toNat) = ((p1.length : Int).toNat),
        Blk.row 58 ((List.map E58 v1).set ((p1.length : Int).toNat) (V.agg [V.sc (.int .i64 r1.Owner), V.sl true 29 (List.map E29 r1.Accts)])) [] = Blk.row 58 (List.map E58 (v1.set ((p1.length : Int).toNat) r1)) [],
        V.sc (.int .i64 (i64 ((p1.length : Int) + 1))) = V.sc (.int .i64 ((p1 ++ [x1]).length : Int))]) (by kernel_rfl) (cj (len_nm _ _) (cj (rng_lt h3) (cj (by omega) (cj (rng_get _ h3) (cj (laws_toStripe_ok x1 r1 h5) (cj rfl (cj (by omega) (cj (map_ltN (by omega) h6) (cj rfl (cj (map_get h6) (cj (look_cons_self _ _ _) (cj (map_lt h6) (cj rfl (cj (nb_set E58 _ _ r1) (cj1 (rng_next h3 h4)))))))))))))))) (laws_toStripeS_l0_ok a h4 t1 (p1 ++ [x1]) (rng_step h3) (v1.set ((p1.length : Int).toNat) r1))))
def laws_toStripeS (a : List Stripe) : Option ((List Stripe)) :=
 if (decide (0 ≤ (a.length : Int))) = true then
  if (capOk (a.length : Int).toNat) = true then
   if (capOk a.length) = true then
    (laws_toStripeS_l0 a a [] (List.replicate ((a.length : Int).toNat) (Stripe.mk 0 []))).bind fun r2 =>
    some r2
   else none
  else none
 else none
theorem laws_toStripeS_ok (a : List Stripe) : Pn (fun y => Fn Try.prog 32 [(false, E61 a)] (E53 y) []) (laws_toStripeS a) := by
  unfold laws_toStripeS
  exact
   Pn.ite (fun h1 =>
    Pn.ite (fun h2 =>
     Pn.ite (fun h7 =>
      Pn.bind (fun r2 h8 =>
       Pn.some (Fn.of [.wait 3, .nm 6 (V.sc (.int .i64 (a.length : Int))), .wait 1, .nb 0 (.row 58 (List.map E58 (List.replicate ((a.length : Int).toNat) (Stripe.mk 0 []))) []), .wait 3, .mask [0, 3, 4], .ren [0], .loop (X.out 0) (st 23 [(3, V.ow 0)] [Blk.row 58 (List.map E58 r2) []] [])] (p := [V.sc (.int .i64 ((List.map E128 a).length : Int)) = V.sc (.int .i64 (a.length : Int)),
        ((a.length : Int) : Int) = (a.length : Int),
        (0 : Int) ≤ (a.length : Int),
        ((a.length : Int) : Int) ≤ 9223372036854775807,
        32 * (a.length : Int).toNat ≤ 281474976710656,
        Blk.row 58 (List.replicate ((a.length : Int).toNat) (V.agg [V.sc (.int .i64 0), V.sl true 29 ([] : List V)])) [] = Blk.row 58 (List.map E58 (List.replicate ((a.length : Int).toNat) (Stripe.mk 0 []))) [],
        Loop Try.prog (sub (codeOf Try.prog 32) [1, 1, 0, 1, 0, 0]) (st 23 [(0, V.sl false 128 (List.map E128 a)), (3, V.ow 0), (4, V.sc (.int .i64 0))] [Blk.row 58 (List.map E58 (List.replicate ((a.length : Int).toNat) (Stripe.mk 0 []))) []] []) (X.out 0) (st 23 [(3, V.ow 0)] [Blk.row 58 (List.map E58 r2) []] [])]) (by kernel_rfl) (cj (len_nm _ _) (cj rfl (cj (od h1) (cj (cap3 h1 h2) (cj (cap4 h2 (by decide)) (cj (nb_rep E58 _ (Stripe.mk 0 [])) (cj1 (laws_toStripeS_l0_ok a h7 a [] rfl (List.replicate ((a.length : Int).toNat) (Stripe.mk 0 [])) r2 h8))))))))))) (fun h7 =>
      Pn.none)) (fun h2 =>
     Pn.none)) (fun h1 =>
    Pn.none)
def laws_toTask (a : Task) : Option (Task) :=
 (laws_toByteS a.Data).bind fun r1 =>
 (laws_toIntS a.Set).bind fun r2 =>
 (laws_toByteS a.Reply).bind fun r3 =>
 some (Task.mk r1 a.Pc r2 a.Held a.Inv a.Lin a.Res a.At r3)
theorem laws_toTask_ok (a : Task) : Pn (fun y => Fn Try.prog 161 [(false, E181 a)] (E137 y) []) (laws_toTask a) := by
  unfold laws_toTask
  exact
   Pn.bind (fun r1 h1 =>
    Pn.bind (fun r2 h2 =>
     Pn.bind (fun r3 h3 =>
      Pn.some (Fn.of [.call [] (E22 r1) [], .call [] (E24 r2) [], .call [] (E22 r3) []] (p := [Fn Try.prog 200 [(false, E22 a.Data)] (E22 r1) [],
       (true || ((E22 r1).nv && nvL [])) = true,
       Fn Try.prog 39 [(false, E24 a.Set)] (E24 r2) [],
       (true || ((E24 r2).nv && nvL [])) = true,
       Fn Try.prog 200 [(false, E22 a.Reply)] (E22 r3) [],
       (true || ((E22 r3).nv && nvL [])) = true]) (by kernel_rfl) (cj (laws_toByteS_ok a.Data r1 h1) (cj rfl (cj (laws_toIntS_ok a.Set r2 h2) (cj rfl (cj (laws_toByteS_ok a.Reply r3 h3) (cj1 rfl))))))))))
def laws_toTaskS_l0 (a : List Task) : List Task → List Task → (List Task) → Option ((List Task))
  | [], p1, v1 =>
   some v1
  | x1 :: t1, p1, v1 =>
   (laws_toTask x1).bind fun r1 =>
   (v1[(p1.length : Int).toNat]?).bind fun x2 =>
   laws_toTaskS_l0 a t1 (p1 ++ [x1]) (v1.set ((p1.length : Int).toNat) r1)
theorem laws_toTaskS_l0_ok (a : List Task) (h4 : capOk a.length = true) : ∀ (t1 p1 : List Task) (_ : a = p1 ++ t1) (v1 : List Task), Pn (LpO Try.prog (sub (codeOf Try.prog 102) [1, 1, 0, 1, 0, 0]) (st 23 [(0, V.sl false 181 (List.map E181 a)), (3, V.ow 0), (4, V.sc (.int .i64 (p1.length : Int)))] [Blk.row 137 (List.map E137 v1) []] []) (fun (y : (List Task)) => (X.out 0, st 23 [(3, V.ow 0)] [Blk.row 137 (List.map E137 y) []] []))) (laws_toTaskS_l0 a t1 p1 v1)
  | [], p1, h3, v1 => by
    unfold laws_toTaskS_l0
    exact
     Pn.some (LpO.out [.wait 3, .nm 10 (V.sc (.int .i64 (a.length : Int))), .bit false, .mask [3], .ren [0]] (p := [V.sc (.int .i64 ((List.map E181 a).length : Int)) = V.sc (.int .i64 (a.length : Int)),
      (decide ((p1.length : Int) < (a.length : Int))) = false]) (by kernel_rfl) (show X.out 0 ≠ X.go from nofun) (cj (len_nm _ _) (cj1 (rng_end h3))))
  | x1 :: t1, p1, h3, v1 => by
    unfold laws_toTaskS_l0
    exact
     Pn.bind (fun r1 h5 =>
      Pn.bind (fun x2 h6 =>
       LpO.go [.wait 3, .nm 10 (V.sc (.int .i64 (a.length : Int))), .bit true, .el (E181 x1), .call [] (E137 r1) [], .wait 1, .foc 0 ((p1.length : Int).toNat) (E137 x2), .fo 0, .wait 4, .shut 0, .nb 0 (.row 137 (List.map E137 (v1.set ((p1.length : Int).toNat) r1)) []), .mask [0, 3, 4], .ren [0], .nm 4 (V.sc (.int .i64 ((p1 ++ [x1]).length : Int)))] (p := [V.sc (.int .i64 ((List.map E181 a).length : Int)) = V.sc (.int .i64 (a.length : Int)),
        (decide ((p1.length : Int) < (a.length : Int))) = true,
        (0 : Int) ≤ (p1.length : Int),
        (List.map E181 a)[(p1.length : Int).toNat]? = some (E181 x1),
        Fn Try.prog 161 [(false, E181 x1)] (E137 r1) [],
        (true || ((E137 r1).nv && nvL [])) = true,
        (0 : Int) ≤ (p1.length : Int),
        ((p1.length : Int) : Int) < ((List.map E137 v1).length : Int),
        look [] ((p1.length : Int).toNat) = none,
        (List.map E137 v1)[(p1.length : Int).toNat]? = some (E137 x2),
        look [((p1.length : Int).toNat, V.agg [V.ow 4, V.sc (.int .i64 x2.Pc), V.ow 5, V.sc (.int .i64 x2.Held), V.sc (.int .i64 x2.Inv), V.sc (.int .i64 x2.Lin), V.sc (.int .i64 x2.Res), V.sc (.int .i64 x2.At), V.ow 6])] ((p1.length : Int).toNat) = some (V.agg [V.ow 4, V.sc (.int .i64 x2.Pc), V.ow 5, V.sc (.int .i64 x2.Held), V.sc (.int .i64 x2.Inv), V.sc (.int .i64 x2.Lin), V.sc (.int .i64 x2.Res), V.sc (.int .i64 x2.At), V.ow 6]),
        ((p1.length : Int).toNat) < (List.map E137 v1).length,
        ((p1.length : Int).toNat) = ((p1.length : Int).toNat),
        Blk.row 137 ((List.map E137 v1).set ((p1.length : Int).toNat) (V.agg [V.sl true 5 (List.map E5 r1.Data), V.sc (.int .i64 r1.Pc), V.sl true 3 (List.map E3 r1.Set), V.sc (.int .i64 r1.Held), V.sc (.int .i64 r1.Inv), V.sc (.int .i64 r1.Lin), V.sc (.int .i64 r1.Res), V.sc (.int .i64 r1.At), V.sl true 5 (List.map E5 r1.Reply)])) [] = Blk.row 137 (List.map E137 (v1.set ((p1.length : Int).toNat) r1)) [],
        V.sc (.int .i64 (i64 ((p1.length : Int) + 1))) = V.sc (.int .i64 ((p1 ++ [x1]).length : Int))]) (by kernel_rfl) (cj (len_nm _ _) (cj (rng_lt h3) (cj (by omega) (cj (rng_get _ h3) (cj (laws_toTask_ok x1 r1 h5) (cj rfl (cj (by omega) (cj (map_ltN (by omega) h6) (cj rfl (cj (map_get h6) (cj (look_cons_self _ _ _) (cj (map_lt h6) (cj rfl (cj (nb_set E137 _ _ r1) (cj1 (rng_next h3 h4)))))))))))))))) (laws_toTaskS_l0_ok a h4 t1 (p1 ++ [x1]) (rng_step h3) (v1.set ((p1.length : Int).toNat) r1))))
def laws_toTaskS (a : List Task) : Option ((List Task)) :=
 if (decide (0 ≤ (a.length : Int))) = true then
  if (capOk (a.length : Int).toNat) = true then
   if (capOk a.length) = true then
    (laws_toTaskS_l0 a a [] (List.replicate ((a.length : Int).toNat) (Task.mk [] 0 [] 0 0 0 0 0 []))).bind fun r2 =>
    some r2
   else none
  else none
 else none
theorem laws_toTaskS_ok (a : List Task) : Pn (fun y => Fn Try.prog 102 [(false, E73 a)] (E79 y) []) (laws_toTaskS a) := by
  unfold laws_toTaskS
  exact
   Pn.ite (fun h1 =>
    Pn.ite (fun h2 =>
     Pn.ite (fun h7 =>
      Pn.bind (fun r2 h8 =>
       Pn.some (Fn.of [.wait 3, .nm 6 (V.sc (.int .i64 (a.length : Int))), .wait 1, .nb 0 (.row 137 (List.map E137 (List.replicate ((a.length : Int).toNat) (Task.mk [] 0 [] 0 0 0 0 0 []))) []), .wait 3, .mask [0, 3, 4], .ren [0], .loop (X.out 0) (st 23 [(3, V.ow 0)] [Blk.row 137 (List.map E137 r2) []] [])] (p := [V.sc (.int .i64 ((List.map E181 a).length : Int)) = V.sc (.int .i64 (a.length : Int)),
        ((a.length : Int) : Int) = (a.length : Int),
        (0 : Int) ≤ (a.length : Int),
        ((a.length : Int) : Int) ≤ 9223372036854775807,
        120 * (a.length : Int).toNat ≤ 281474976710656,
        Blk.row 137 (List.replicate ((a.length : Int).toNat) (V.agg [V.sl true 5 ([] : List V), V.sc (.int .i64 0), V.sl true 3 ([] : List V), V.sc (.int .i64 0), V.sc (.int .i64 0), V.sc (.int .i64 0), V.sc (.int .i64 0), V.sc (.int .i64 0), V.sl true 5 ([] : List V)])) [] = Blk.row 137 (List.map E137 (List.replicate ((a.length : Int).toNat) (Task.mk [] 0 [] 0 0 0 0 0 []))) [],
        Loop Try.prog (sub (codeOf Try.prog 102) [1, 1, 0, 1, 0, 0]) (st 23 [(0, V.sl false 181 (List.map E181 a)), (3, V.ow 0), (4, V.sc (.int .i64 0))] [Blk.row 137 (List.map E137 (List.replicate ((a.length : Int).toNat) (Task.mk [] 0 [] 0 0 0 0 0 []))) []] []) (X.out 0) (st 23 [(3, V.ow 0)] [Blk.row 137 (List.map E137 r2) []] [])]) (by kernel_rfl) (cj (len_nm _ _) (cj rfl (cj (od h1) (cj (cap3 h1 h2) (cj (cap4 h2 (by decide)) (cj (nb_rep E137 _ (Task.mk [] 0 [] 0 0 0 0 0 [])) (cj1 (laws_toTaskS_l0_ok a h7 a [] rfl (List.replicate ((a.length : Int).toNat) (Task.mk [] 0 [] 0 0 0 0 0 [])) r2 h8))))))))))) (fun h7 =>
      Pn.none)) (fun h2 =>
     Pn.none)) (fun h1 =>
    Pn.none)
def laws_toWorld (a : World) : Option (World) :=
 (laws_toStripeS a.Stripes).bind fun r1 =>
 (laws_toTaskS a.Tasks).bind fun r2 =>
 some (World.mk r1 a.Now a.Step r2)
theorem laws_toWorld_ok (a : World) : Pn (fun y => Fn Try.prog 45 [(false, E75 a)] (E81 y) []) (laws_toWorld a) := by
  unfold laws_toWorld
  exact
   Pn.bind (fun r1 h1 =>
    Pn.bind (fun r2 h2 =>
     Pn.some (Fn.of [.call [] (E53 r1) [], .call [] (E79 r2) []] (p := [Fn Try.prog 32 [(false, E61 a.Stripes)] (E53 r1) [],
      (true || ((E53 r1).nv && nvL [])) = true,
      Fn Try.prog 102 [(false, E73 a.Tasks)] (E79 r2) [],
      (true || ((E79 r2).nv && nvL [])) = true]) (by kernel_rfl) (cj (laws_toStripeS_ok a.Stripes r1 h1) (cj rfl (cj (laws_toTaskS_ok a.Tasks r2 h2) (cj1 rfl)))))))
def spec_OrderOf_l1 (w : World) (v1 : List Int) (p1 : List Task) (x1 : Task) : Nat → Int → Option (Int)
  | 0, _ => none
  | fuel + 1, v2 =>
   if (decide (0 < v2)) = true then
    if (decide (0 ≤ (i64 (v2 - 1)))) = true then
     (v1[(i64 (v2 - 1)).toNat]?).bind fun x2 =>
     if (decide (0 ≤ x2)) = true then
      (w.Tasks[x2.toNat]?).bind fun x3 =>
      if (decide (x1.Lin < x3.Lin)) = true then
       spec_OrderOf_l1 w v1 p1 x1 fuel (i64 (v2 - 1))
      else
       some v2
     else none
    else none
   else
    some v2
theorem spec_OrderOf_l1_ok (w : World) (v1 : List Int) (p1 : List Task) (x1 : Task) : ∀ (fuel : Nat) (v2 : Int), Pn (LpO Try.prog (sub (codeOf Try.prog 100) [1, 1, 0, 1, 0, 0, 1, 1, 0, 0, 1, 1, 1, 0, 0, 0]) (st 57 [(1, V.ptr 0 0), (3, V.ow 1), (4, V.sc (.int .i64 (p1.length : Int))), (5, V.ptr 2 0), (6, V.sc (.int .i64 v2)), (10, V.sl false 137 (List.map E137 w.Tasks)), (11, V.sc (.int .i64 (w.Tasks.length : Int))), (12, V.sc (.int .i64 (p1.length : Int)))] [Blk.box 81 [V.sl false 58 (List.map E58 w.Stripes), V.sc (.int .i64 w.Now), V.sc (.int .i64 w.Step), V.sl false 137 (List.map E137 w.Tasks)], Blk.row 3 (List.map E3 v1) [], Blk.box 137 [V.sl false 5 (List.map E5 x1.Data), V.sc (.int .i64 x1.Pc), V.sl false 3 (List.map E3 x1.Set), V.sc (.int .i64 x1.Held), V.sc (.int .i64 x1.Inv), V.sc (.int .i64 x1.Lin), V.sc (.int .i64 x1.Res), V.sc (.int .i64 x1.At), V.sl false 5 (List.map E5 x1.Reply)]] []) (fun (y : Int) => (X.out 2, st 57 [(1, V.ptr 0 0), (3, V.ow 1), (4, V.sc (.int .i64 (p1.length : Int))), (6, V.sc (.int .i64 y)), (10, V.sl false 137 (List.map E137 w.Tasks)), (11, V.sc (.int .i64 (w.Tasks.length : Int))), (12, V.sc (.int .i64 (p1.length : Int)))] [Blk.box 81 [V.sl false 58 (List.map E58 w.Stripes), V.sc (.int .i64 w.Now), V.sc (.int .i64 w.Step), V.sl false 137 (List.map E137 w.Tasks)], Blk.row 3 (List.map E3 v1) []] []))) (spec_OrderOf_l1 w v1 p1 x1 fuel v2)
  | 0, _ => Pn.none
  | fuel + 1, v2 => by
    unfold spec_OrderOf_l1
    exact
     Pn.ite (fun h4 =>
      Pn.ite (fun h5 =>
       Pn.bind (fun x2 h6 =>
        Pn.ite (fun h7 =>
         Pn.bind (fun x3 h8 =>
          Pn.ite (fun h9 =>
           LpO.go [.draw [], .bit true, .bit true, .bit true, .bit true, .bit true, .bit true, .bit true, .el (E3 x2), .bit true, .el (E137 x3), .bit true, .bit true, .bit true, .bit true, .bit true, .bit true, .bit true, .wait 3, .mask [1, 3, 4, 5, 6, 10, 11, 12], .ren [0, 1, 2]] (p := [(decide (0 < v2)) = true,
            (decide (0 < v2)) = true,
            (decide (0 < v2)) = true,
            (decide (0 < v2)) = true,
            (decide (0 < v2)) = true,
            (decide (0 < v2)) = true,
            (0 : Int) ≤ (i64 (v2 - 1)),
            ((i64 (v2 - 1)) : Int) < ((List.map E3 v1).length : Int),
            (decide (0 < v2)) = true,
            look [] ((i64 (v2 - 1)).toNat) = none,
            (List.map E3 v1)[(i64 (v2 - 1)).toNat]? = some (E3 x2),
            (decide (0 < v2)) = true,
            (0 : Int) ≤ x2,
            (List.map E137 w.Tasks)[x2.toNat]? = some (E137 x3),
            (decide (0 < v2)) = true,
            (decide (0 < v2)) = true,
            (decide (0 < v2)) = true,
            (decide (0 < v2)) = true,
            (decide (0 < v2)) = true,
            (decide (0 < v2)) = true,
            (decide (x1.Lin < x3.Lin)) = true]) (by kernel_rfl) (cj h4 (cj h4 (cj h4 (cj h4 (cj h4 (cj h4 (cj (od h5) (cj (map_ltN (od h5) h6) (cj h4 (cj rfl (cj (map_get h6) (cj h4 (cj (od h7) (cj (map_get h8) (cj h4 (cj h4 (cj h4 (cj h4 (cj h4 (cj h4 (cj1 h9))))))))))))))))))))) (spec_OrderOf_l1_ok w v1 p1 x1 fuel (i64 (v2 - 1)))) (fun h9 =>
           Pn.some (LpO.out [.draw [], .bit true, .bit true, .bit true, .bit true, .bit true, .bit true, .bit true, .el (E3 x2), .bit true, .el (E137 x3), .bit true, .bit true, .bit true, .bit true, .bit true, .bit true, .bit false, .mask [1, 3, 4, 6, 10, 11, 12], .ren [0, 1]] (p := [(decide (0 < v2)) = true,
            (decide (0 < v2)) = true,
            (decide (0 < v2)) = true,
            (decide (0 < v2)) = true,
            (decide (0 < v2)) = true,
            (decide (0 < v2)) = true,
            (0 : Int) ≤ (i64 (v2 - 1)),
            ((i64 (v2 - 1)) : Int) < ((List.map E3 v1).length : Int),
            (decide (0 < v2)) = true,
            look [] ((i64 (v2 - 1)).toNat) = none,
            (List.map E3 v1)[(i64 (v2 - 1)).toNat]? = some (E3 x2),
            (decide (0 < v2)) = true,
            (0 : Int) ≤ x2,
            (List.map E137 w.Tasks)[x2.toNat]? = some (E137 x3),
            (decide (0 < v2)) = true,
            (decide (0 < v2)) = true,
            (decide (0 < v2)) = true,
            (decide (0 < v2)) = true,
            (decide (0 < v2)) = true,
            (decide (0 < v2)) = true,
            (decide (x1.Lin < x3.Lin)) = false]) (by kernel_rfl) (show X.out 2 ≠ X.go from nofun) (cj h4 (cj h4 (cj h4 (cj h4 (cj h4 (cj h4 (cj (od h5) (cj (map_ltN (od h5) h6) (cj h4 (cj rfl (cj (map_get h6) (cj h4 (cj (od h7) (cj (map_get h8) (cj h4 (cj h4 (cj h4 (cj h4 (cj h4 (cj h4 (cj1 h9))))))))))))))))))))))))) (fun h7 =>
         Pn.none))) (fun h5 =>
       Pn.none)) (fun h4 =>
      Pn.some (LpO.out [.draw [], .bit false, .bit false, .bit false, .bit false, .bit false, .bit false, .bit false, .bit false, .bit false, .bit false, .bit false, .bit false, .bit false, .bit false, .bit false, .mask [1, 3, 4, 6, 10, 11, 12], .ren [0, 1]] (p := [(decide (0 < v2)) = false,
       (decide (0 < v2)) = false,
       (decide (0 < v2)) = false,
       (decide (0 < v2)) = false,
       (decide (0 < v2)) = false,
       (decide (0 < v2)) = false,
       (decide (0 < v2)) = false,
       (decide (0 < v2)) = false,
       (decide (0 < v2)) = false,
       (decide (0 < v2)) = false,
       (decide (0 < v2)) = false,
       (decide (0 < v2)) = false,
       (decide (0 < v2)) = false,
       (decide (0 < v2)) = false,
       false = false]) (by kernel_rfl) (show X.out 2 ≠ X.go from nofun) (cj h4 (cj h4 (cj h4 (cj h4 (cj h4 (cj h4 (cj h4 (cj h4 (cj h4 (cj h4 (cj h4 (cj h4 (cj h4 (cj h4 (cj1 rfl)))))))))))))))))
def spec_OrderOf_l0 (w : World) : List Task → List Task → (List Int) → Option ((List Int))
  | [], p1, v1 =>
   some v1
  | x1 :: t1, p1, v1 =>
   if (x1.Lin == (-1)) = true then
    spec_OrderOf_l0 w t1 (p1 ++ [x1]) v1
   else
    (spec_OrderOf_l1 w v1 p1 x1 FUEL (v1.length : Int)).bind fun r1 =>
    if (decide (0 ≤ r1)) = true then
     if (decide (r1 ≤ (v1.length : Int))) = true then
      if (capOk (0 + ((v1.drop 0).take r1.toNat).length)) = true then
       if (capOk (((v1.drop 0).take r1.toNat).length + 1)) = true then
        if (capOk ((((v1.drop 0).take r1.toNat) ++ [(p1.length : Int)]).length + ((v1.drop r1.toNat).take (v1.length - r1.toNat)).length)) = true then
         spec_OrderOf_l0 w t1 (p1 ++ [x1]) ((((v1.drop 0).take r1.toNat) ++ [(p1.length : Int)]) ++ ((v1.drop r1.toNat).take (v1.length - r1.toNat)))
        else none
       else none
      else none
     else none
    else none
theorem spec_OrderOf_l0_ok (w : World) (h2 : capOk w.Tasks.length = true) : ∀ (t1 p1 : List Task) (_ : w.Tasks = p1 ++ t1) (v1 : List Int), Pn (LpO Try.prog (sub (codeOf Try.prog 100) [1, 1, 0, 1, 0, 0]) (st 57 [(1, V.ptr 0 0), (3, V.ow 1), (10, V.sl false 137 (List.map E137 w.Tasks)), (11, V.sc (.int .i64 (w.Tasks.length : Int))), (12, V.sc (.int .i64 (p1.length : Int)))] [Blk.box 81 [V.sl false 58 (List.map E58 w.Stripes), V.sc (.int .i64 w.Now), V.sc (.int .i64 w.Step), V.sl false 137 (List.map E137 w.Tasks)], Blk.row 3 (List.map E3 v1) []] []) (fun (y : (List Int)) => (X.out 0, st 57 [(3, V.ow 0)] [Blk.row 3 (List.map E3 y) []] []))) (spec_OrderOf_l0 w t1 p1 v1)
  | [], p1, h1, v1 => by
    unfold spec_OrderOf_l0
    exact
     Pn.some (LpO.out [.bit false, .mask [3], .ren [1]] (p := [(decide ((p1.length : Int) < (w.Tasks.length : Int))) = false]) (by kernel_rfl) (show X.out 0 ≠ X.go from nofun) (cj1 (rng_end h1)))
  | x1 :: t1, p1, h1, v1 => by
    unfold spec_OrderOf_l0
    exact
     Pn.ite (fun h3 =>
      LpO.go [.bit true, .el (E137 x1), .bit true, .wait 2, .mask [1, 3, 10, 11, 12], .ren [0, 1], .nm 12 (V.sc (.int .i64 ((p1 ++ [x1]).length : Int)))] (p := [(decide ((p1.length : Int) < (w.Tasks.length : Int))) = true,
       (0 : Int) ≤ (p1.length : Int),
       (List.map E137 w.Tasks)[(p1.length : Int).toNat]? = some (E137 x1),
       (x1.Lin == (-1)) = true,
       V.sc (.int .i64 (i64 ((p1.length : Int) + 1))) = V.sc (.int .i64 ((p1 ++ [x1]).length : Int))]) (by kernel_rfl) (cj (rng_lt h1) (cj (by omega) (cj (rng_get _ h1) (cj h3 (cj1 (rng_next h1 h2)))))) (spec_OrderOf_l0_ok w h2 t1 (p1 ++ [x1]) (rng_step h1) v1)) (fun h3 =>
      Pn.bind (fun r1 h10 =>
       Pn.ite (fun h11 =>
        Pn.ite (fun h12 =>
         Pn.ite (fun h13 =>
          Pn.ite (fun h14 =>
           Pn.ite (fun h15 =>
            LpO.go [.bit true, .el (E137 x1), .bit false, .wait 1, .nm 21 (V.sc (.int .i64 (v1.length : Int))), .wait 2, .mask [1, 3, 4, 5, 6, 10, 11, 12], .ren [0, 1, 2], .loop (X.out 2) (st 57 [(1, V.ptr 0 0), (3, V.ow 1), (4, V.sc (.int .i64 (p1.length : Int))), (6, V.sc (.int .i64 r1)), (10, V.sl false 137 (List.map E137 w.Tasks)), (11, V.sc (.int .i64 (w.Tasks.length : Int))), (12, V.sc (.int .i64 (p1.length : Int)))] [Blk.box 81 [V.sl false 58 (List.map E58 w.Stripes), V.sc (.int .i64 w.Now), V.sc (.int .i64 w.Step), V.sl false 137 (List.map E137 w.Tasks)], Blk.row 3 (List.map E3 v1) []] []), .cp (List.map E3 ((v1.drop 0).take r1.toNat)), .nb 3 (.row 3 (List.map E3 ((v1.drop 0).take r1.toNat)) []), .cp [V.sc (.int .i64 (p1.length : Int))], .nb 5 (.row 3 (List.map E3 (((v1.drop 0).take r1.toNat) ++ [(p1.length : Int)])) []), .wait 5, .nm 53 (V.sb 1 1 r1.toNat (v1.length - r1.toNat)), .cp (List.map E3 ((v1.drop r1.toNat).take (v1.length - r1.toNat))), .nb 6 (.row 3 (List.map E3 ((((v1.drop 0).take r1.toNat) ++ [(p1.length : Int)]) ++ ((v1.drop r1.toNat).take (v1.length - r1.toNat)))) []), .wait 4, .mask [1, 3, 10, 11, 12], .ren [0, 6], .nm 12 (V.sc (.int .i64 ((p1 ++ [x1]).length : Int)))] (p := [(decide ((p1.length : Int) < (w.Tasks.length : Int))) = true,
             (0 : Int) ≤ (p1.length : Int),
             (List.map E137 w.Tasks)[(p1.length : Int).toNat]? = some (E137 x1),
             (x1.Lin == (-1)) = false,
             V.sc (.int .i64 ((List.map E3 v1).length : Int)) = V.sc (.int .i64 (v1.length : Int)),
             Loop Try.prog (sub (codeOf Try.prog 100) [1, 1, 0, 1, 0, 0, 1, 1, 0, 0, 1, 1, 1, 0, 0, 0]) (st 57 [(1, V.ptr 0 0), (3, V.ow 1), (4, V.sc (.int .i64 (p1.length : Int))), (5, V.ptr 2 0), (6, V.sc (.int .i64 (v1.length : Int))), (10, V.sl false 137 (List.map E137 w.Tasks)), (11, V.sc (.int .i64 (w.Tasks.length : Int))), (12, V.sc (.int .i64 (p1.length : Int)))] [Blk.box 81 [V.sl false 58 (List.map E58 w.Stripes), V.sc (.int .i64 w.Now), V.sc (.int .i64 w.Step), V.sl false 137 (List.map E137 w.Tasks)], Blk.row 3 (List.map E3 v1) [], Blk.box 137 [V.sl false 5 (List.map E5 x1.Data), V.sc (.int .i64 x1.Pc), V.sl false 3 (List.map E3 x1.Set), V.sc (.int .i64 x1.Held), V.sc (.int .i64 x1.Inv), V.sc (.int .i64 x1.Lin), V.sc (.int .i64 x1.Res), V.sc (.int .i64 x1.At), V.sl false 5 (List.map E5 x1.Reply)]] []) (X.out 2) (st 57 [(1, V.ptr 0 0), (3, V.ow 1), (4, V.sc (.int .i64 (p1.length : Int))), (6, V.sc (.int .i64 r1)), (10, V.sl false 137 (List.map E137 w.Tasks)), (11, V.sc (.int .i64 (w.Tasks.length : Int))), (12, V.sc (.int .i64 (p1.length : Int)))] [Blk.box 81 [V.sl false 58 (List.map E58 w.Stripes), V.sc (.int .i64 w.Now), V.sc (.int .i64 w.Step), V.sl false 137 (List.map E137 w.Tasks)], Blk.row 3 (List.map E3 v1) []] []),
             (0 : Int) ≤ 0,
             (0 : Int) ≤ r1,
             (r1 : Int) ≤ ((List.map E3 v1).length : Int),
             ((List.map E3 v1).drop 0).take r1.toNat = (List.map E3 ((v1.drop 0).take r1.toNat)),
             (List.map E3 ((v1.drop 0).take r1.toNat)).all V.flatE = true,
             ([] : List V).length + (List.map E3 ((v1.drop 0).take r1.toNat)).length ≤ 9223372036854775807,
             (([] : List V).length + (List.map E3 ((v1.drop 0).take r1.toNat)).length) * 8 ≤ 140737488355328,
             Blk.row 3 (([] : List V) ++ (List.map E3 ((v1.drop 0).take r1.toNat))) [] = Blk.row 3 (List.map E3 ((v1.drop 0).take r1.toNat)) [],
             [V.sc (.int .i64 (p1.length : Int))] = [V.sc (.int .i64 (p1.length : Int))],
             [V.sc (.int .i64 (p1.length : Int))].all V.flatE = true,
             (List.map E3 ((v1.drop 0).take r1.toNat)).length + [V.sc (.int .i64 (p1.length : Int))].length ≤ 9223372036854775807,
             ((List.map E3 ((v1.drop 0).take r1.toNat)).length + [V.sc (.int .i64 (p1.length : Int))].length) * 8 ≤ 140737488355328,
             Blk.row 3 ((List.map E3 ((v1.drop 0).take r1.toNat)) ++ [V.sc (.int .i64 (p1.length : Int))]) [] = Blk.row 3 (List.map E3 (((v1.drop 0).take r1.toNat) ++ [(p1.length : Int)])) [],
             (0 : Int) ≤ r1,
             (r1 : Int) ≤ ((List.map E3 v1).length : Int),
             (((List.map E3 v1).length : Int) : Int) ≤ ((List.map E3 v1).length : Int),
             V.sb 1 1 r1.toNat ((((List.map E3 v1).length : Int).toNat) - (r1.toNat)) = V.sb 1 1 r1.toNat (v1.length - r1.toNat),
             ((List.map E3 v1).drop r1.toNat).take (v1.length - r1.toNat) = (List.map E3 ((v1.drop r1.toNat).take (v1.length - r1.toNat))),
             (List.map E3 ((v1.drop r1.toNat).take (v1.length - r1.toNat))).all V.flatE = true,
             (List.map E3 (((v1.drop 0).take r1.toNat) ++ [(p1.length : Int)])).length + (List.map E3 ((v1.drop r1.toNat).take (v1.length - r1.toNat))).length ≤ 9223372036854775807,
             ((List.map E3 (((v1.drop 0).take r1.toNat) ++ [(p1.length : Int)])).length + (List.map E3 ((v1.drop r1.toNat).take (v1.length - r1.toNat))).length) * 8 ≤ 140737488355328,
             Blk.row 3 ((List.map E3 (((v1.drop 0).take r1.toNat) ++ [(p1.length : Int)])) ++ (List.map E3 ((v1.drop r1.toNat).take (v1.length - r1.toNat)))) [] = Blk.row 3 (List.map E3 ((((v1.drop 0).take r1.toNat) ++ [(p1.length : Int)]) ++ ((v1.drop r1.toNat).take (v1.length - r1.toNat)))) [],
             V.sc (.int .i64 (i64 ((p1.length : Int) + 1))) = V.sc (.int .i64 ((p1 ++ [x1]).length : Int))]) (by kernel_rfl) (cj (rng_lt h1) (cj (by omega) (cj (rng_get _ h1) (cj h3 (cj (len_nm _ _) (cj (spec_OrderOf_l1_ok w v1 p1 x1 FUEL (v1.length : Int) r1 h10) (cj (by decide) (cj (od h11) (cj (by rw [List.length_map]; exact (od h12)) (cj (cut_map _ _ _ _) (cj (flat_map (fun _ => rfl) _) (cj (cap1 (capN (by simp) h13)) (cj (cap2 (capN (by simp) h13) (by decide)) (cj rfl (cj rfl (cj rfl (cj (cap1 (capN (by simp) h14)) (cj (cap2 (capN (by simp) h14) (by decide)) (cj (nb_app E3 ((v1.drop 0).take r1.toNat) [(p1.length : Int)]) (cj (od h11) (cj (by rw [List.length_map]; exact (od h12)) (cj (Int.le_refl _) (cj (by simp) (cj (cut_map _ _ _ _) (cj (flat_map (fun _ => rfl) _) (cj (cap1 (capN (by simp) h15)) (cj (cap2 (capN (by simp) h15) (by decide)) (cj (nb_app E3 (((v1.drop 0).take r1.toNat) ++ [(p1.length : Int)]) ((v1.drop r1.toNat).take (v1.length - r1.toNat))) (cj1 (rng_next h1 h2)))))))))))))))))))))))))))))) (spec_OrderOf_l0_ok w h2 t1 (p1 ++ [x1]) (rng_step h1) ((((v1.drop 0).take r1.toNat) ++ [(p1.length : Int)]) ++ ((v1.drop r1.toNat).take (v1.length - r1.toNat))))) (fun h15 =>
            Pn.none)) (fun h14 =>
           Pn.none)) (fun h13 =>
          Pn.none)) (fun h12 =>
         Pn.none)) (fun h11 =>
        Pn.none)))
def spec_OrderOf (w : World) : Option ((List Int)) :=
 if (capOk w.Tasks.length) = true then
  (spec_OrderOf_l0 w w.Tasks [] []).bind fun r2 =>
  some r2
 else none
theorem spec_OrderOf_ok (w : World) : Pn (fun y => Fn Try.prog 100 [(false, E81 w)] (E24 y) []) (spec_OrderOf w) := by
  unfold spec_OrderOf
  exact
   Pn.ite (fun h16 =>
    Pn.bind (fun r2 h17 =>
     Pn.some (Fn.of [.wait 7, .nm 11 (V.sc (.int .i64 (w.Tasks.length : Int))), .wait 2, .mask [1, 3, 10, 11, 12], .ren [0, 1], .loop (X.out 0) (st 57 [(3, V.ow 0)] [Blk.row 3 (List.map E3 r2) []] [])] (p := [V.sc (.int .i64 ((List.map E137 w.Tasks).length : Int)) = V.sc (.int .i64 (w.Tasks.length : Int)),
      Loop Try.prog (sub (codeOf Try.prog 100) [1, 1, 0, 1, 0, 0]) (st 57 [(1, V.ptr 0 0), (3, V.ow 1), (10, V.sl false 137 (List.map E137 w.Tasks)), (11, V.sc (.int .i64 (w.Tasks.length : Int))), (12, V.sc (.int .i64 0))] [Blk.box 81 [V.sl false 58 (List.map E58 w.Stripes), V.sc (.int .i64 w.Now), V.sc (.int .i64 w.Step), V.sl false 137 (List.map E137 w.Tasks)], Blk.row 3 ([] : List V) []] []) (X.out 0) (st 57 [(3, V.ow 0)] [Blk.row 3 (List.map E3 r2) []] [])]) (by kernel_rfl) (cj (len_nm _ _) (cj1 (spec_OrderOf_l0_ok w h16 w.Tasks [] rfl [] r2 h17)))))) (fun h16 =>
    Pn.none)
def spec_l14Copy (t : Task) : Option (Task) :=
 if (capOk (0 + t.Data.length)) = true then
  if (capOk (0 + t.Set.length)) = true then
   if (capOk (0 + t.Reply.length)) = true then
    some t
   else none
  else none
 else none
theorem spec_l14Copy_ok (t : Task) : Pn (fun y => Fn Try.prog 101 [(false, E137 t)] (E137 y) []) (spec_l14Copy t) := by
  unfold spec_l14Copy
  exact
   Pn.ite (fun h1 =>
    Pn.ite (fun h2 =>
     Pn.ite (fun h3 =>
      Pn.some (Fn.of [.cp (List.map E5 t.Data), .nb 3 (.row 5 (List.map E5 t.Data) []), .cp (List.map E3 t.Set), .nb 5 (.row 3 (List.map E3 t.Set) []), .cp (List.map E5 t.Reply), .nb 7 (.row 5 (List.map E5 t.Reply) [])] (p := [(List.map E5 t.Data).map V.vw = (List.map E5 t.Data),
       ([] : List V).length + (List.map E5 t.Data).length ≤ 9223372036854775807,
       (([] : List V).length + (List.map E5 t.Data).length) * 1 ≤ 140737488355328,
       Blk.row 5 (([] : List V) ++ (List.map E5 t.Data)) [] = Blk.row 5 (List.map E5 t.Data) [],
       (List.map E3 t.Set).map V.vw = (List.map E3 t.Set),
       ([] : List V).length + (List.map E3 t.Set).length ≤ 9223372036854775807,
       (([] : List V).length + (List.map E3 t.Set).length) * 8 ≤ 140737488355328,
       Blk.row 3 (([] : List V) ++ (List.map E3 t.Set)) [] = Blk.row 3 (List.map E3 t.Set) [],
       (List.map E5 t.Reply).map V.vw = (List.map E5 t.Reply),
       ([] : List V).length + (List.map E5 t.Reply).length ≤ 9223372036854775807,
       (([] : List V).length + (List.map E5 t.Reply).length) * 1 ≤ 140737488355328,
       Blk.row 5 (([] : List V) ++ (List.map E5 t.Reply)) [] = Blk.row 5 (List.map E5 t.Reply) []]) (by kernel_rfl) (cj (vw_id (fun _ => rfl) _) (cj (cap1 (capN (by simp) h1)) (cj (cap2 (capN (by simp) h1) (by decide)) (cj rfl (cj (vw_id (fun _ => rfl) _) (cj (cap1 (capN (by simp) h2)) (cj (cap2 (capN (by simp) h2) (by decide)) (cj rfl (cj (vw_id (fun _ => rfl) _) (cj (cap1 (capN (by simp) h3)) (cj (cap2 (capN (by simp) h3) (by decide)) (cj1 rfl)))))))))))))) (fun h3 =>
      Pn.none)) (fun h2 =>
     Pn.none)) (fun h1 =>
    Pn.none)
def spec_DonesOf_l0 (w : World) (r1 : (List Int)) : List Int → (List Done) → Option ((List Done))
  | [], v1 =>
   some v1
  | x1 :: t1, v1 =>
   if (decide (0 ≤ x1)) = true then
    (w.Tasks[x1.toNat]?).bind fun x2 =>
    (spec_l14Copy x2).bind fun r2 =>
    if (capOk (v1.length + 1)) = true then
     spec_DonesOf_l0 w r1 t1 (v1 ++ [(Done.mk r2.At r2.Data r2.Reply)])
    else none
   else none
theorem spec_DonesOf_l0_ok (w : World) (r1 : (List Int)) (h3 : capOk r1.length = true) : ∀ (t1 p1 : List Int) (_ : r1 = p1 ++ t1) (v1 : List Done), Pn (LpO Try.prog (sub (codeOf Try.prog 44) [1, 1, 0, 1, 0, 0]) (st 33 [(1, V.ptr 0 0), (3, V.ow 1), (9, V.ow 2), (10, V.sc (.int .i64 (r1.length : Int))), (11, V.sc (.int .i64 (p1.length : Int)))] [Blk.box 81 [V.sl false 58 (List.map E58 w.Stripes), V.sc (.int .i64 w.Now), V.sc (.int .i64 w.Step), V.sl false 137 (List.map E137 w.Tasks)], Blk.row 140 (List.map E140 v1) [], Blk.row 3 (List.map E3 r1) []] []) (fun (y : (List Done)) => (X.out 0, st 33 [(3, V.ow 0)] [Blk.row 140 (List.map E140 y) []] []))) (spec_DonesOf_l0 w r1 t1 v1)
  | [], p1, h2, v1 => by
    unfold spec_DonesOf_l0
    exact
     Pn.some (LpO.out [.bit false, .mask [3], .ren [1]] (p := [(decide ((p1.length : Int) < (r1.length : Int))) = false]) (by kernel_rfl) (show X.out 0 ≠ X.go from nofun) (cj1 (rng_end h2)))
  | x1 :: t1, p1, h2, v1 => by
    unfold spec_DonesOf_l0
    exact
     Pn.ite (fun h4 =>
      Pn.bind (fun x2 h5 =>
       Pn.bind (fun r2 h6 =>
        Pn.ite (fun h7 =>
         LpO.go [.bit true, .el (E3 x1), .el (E137 x2), .call [] (E137 r2) [], .wait 11, .shut 7, .mv, .nb 8 (.row 140 (List.map E140 (v1 ++ [(Done.mk r2.At r2.Data r2.Reply)])) []), .wait 4, .mask [1, 3, 9, 10, 11], .ren [0, 8, 2], .nm 11 (V.sc (.int .i64 ((p1 ++ [x1]).length : Int)))] (p := [(decide ((p1.length : Int) < (r1.length : Int))) = true,
          (0 : Int) ≤ (p1.length : Int),
          ((p1.length : Int) : Int) < ((List.map E3 r1).length : Int),
          look [] ((p1.length : Int).toNat) = none,
          (List.map E3 r1)[(p1.length : Int).toNat]? = some (E3 x1),
          (0 : Int) ≤ x1,
          (List.map E137 w.Tasks)[x1.toNat]? = some (E137 x2),
          Fn Try.prog 101 [(false, E137 x2)] (E137 r2) [],
          (true || ((E137 r2).nv && nvL [])) = true,
          (List.map E140 v1).length + [V.agg [V.sc (.int .i64 r2.At), V.sl true 5 (List.map E5 r2.Data), V.sl true 5 (List.map E5 r2.Reply)]].length ≤ 9223372036854775807,
          ((List.map E140 v1).length + [V.agg [V.sc (.int .i64 r2.At), V.sl true 5 (List.map E5 r2.Data), V.sl true 5 (List.map E5 r2.Reply)]].length) * 56 ≤ 140737488355328,
          Blk.row 140 ((List.map E140 v1) ++ [V.agg [V.sc (.int .i64 r2.At), V.sl true 5 (List.map E5 r2.Data), V.sl true 5 (List.map E5 r2.Reply)]]) [] = Blk.row 140 (List.map E140 (v1 ++ [(Done.mk r2.At r2.Data r2.Reply)])) [],
          V.sc (.int .i64 (i64 ((p1.length : Int) + 1))) = V.sc (.int .i64 ((p1 ++ [x1]).length : Int))]) (by kernel_rfl) (cj (rng_lt h2) (cj (by omega) (cj (rng_ltI _ h2) (cj rfl (cj (rng_get _ h2) (cj (od h4) (cj (map_get h5) (cj (spec_l14Copy_ok x2 r2 h6) (cj rfl (cj (cap1 (capN (by simp) h7)) (cj (cap2 (capN (by simp) h7) (by decide)) (cj (nb_app E140 v1 [(Done.mk r2.At r2.Data r2.Reply)]) (cj1 (rng_next h2 h3)))))))))))))) (spec_DonesOf_l0_ok w r1 h3 t1 (p1 ++ [x1]) (rng_step h2) (v1 ++ [(Done.mk r2.At r2.Data r2.Reply)]))) (fun h7 =>
         Pn.none)))) (fun h4 =>
      Pn.none)
def spec_DonesOf (w : World) : Option ((List Done)) :=
 (spec_OrderOf w).bind fun r1 =>
 if (capOk r1.length) = true then
  (spec_DonesOf_l0 w r1 r1 []).bind fun r3 =>
  some r3
 else none
theorem spec_DonesOf_ok (w : World) : Pn (fun y => Fn Try.prog 44 [(false, E81 w)] (E77 y) []) (spec_DonesOf w) := by
  unfold spec_DonesOf
  exact
   Pn.bind (fun r1 h1 =>
    Pn.ite (fun h8 =>
     Pn.bind (fun r3 h9 =>
      Pn.some (Fn.of [.call [] (E24 r1) [], .wait 1, .nm 10 (V.sc (.int .i64 (r1.length : Int))), .wait 2, .mask [1, 3, 9, 10, 11], .ren [0, 1, 2], .loop (X.out 0) (st 33 [(3, V.ow 0)] [Blk.row 140 (List.map E140 r3) []] [])] (p := [Fn Try.prog 100 [(false, E81 w)] (E24 r1) [],
       (true || ((E24 r1).nv && nvL [])) = true,
       V.sc (.int .i64 ((List.map E3 r1).length : Int)) = V.sc (.int .i64 (r1.length : Int)),
       Loop Try.prog (sub (codeOf Try.prog 44) [1, 1, 0, 1, 0, 0]) (st 33 [(1, V.ptr 0 0), (3, V.ow 1), (9, V.ow 2), (10, V.sc (.int .i64 (r1.length : Int))), (11, V.sc (.int .i64 0))] [Blk.box 81 [V.sl false 58 (List.map E58 w.Stripes), V.sc (.int .i64 w.Now), V.sc (.int .i64 w.Step), V.sl false 137 (List.map E137 w.Tasks)], Blk.row 140 ([] : List V) [], Blk.row 3 (List.map E3 r1) []] []) (X.out 0) (st 33 [(3, V.ow 0)] [Blk.row 140 (List.map E140 r3) []] [])]) (by kernel_rfl) (cj (spec_OrderOf_ok w r1 h1) (cj rfl (cj (len_nm _ _) (cj1 (spec_DonesOf_l0_ok w r1 h8 r1 [] rfl [] r3 h9)))))))) (fun h8 =>
     Pn.none))
def impl_OrderOf_1 (a : Int) (b : Int) (c0_0 : List Stripe) (c0_1 : Int) (c0_2 : Int) (c0_3 : List Task) : Option (Int) :=
 if (decide (0 ≤ a)) = true then
  (c0_3[a.toNat]?).bind fun x1 =>
  if (decide (0 ≤ b)) = true then
   (c0_3[b.toNat]?).bind fun x2 =>
   if (decide (x1.Lin < x2.Lin)) = true then
    some (-1)
   else
    if (decide (x2.Lin < x1.Lin)) = true then
     some 1
    else
     some 0
  else none
 else none
theorem impl_OrderOf_1_ok (a : Int) (b : Int) (c0_0 : List Stripe) (c0_1 : Int) (c0_2 : Int) (c0_3 : List Task) : Pn (fun y => Fn Try.prog 163 [(false, E3 a), (false, E3 b), (false, V.cp [V.sl true 58 (List.map E58 c0_0), V.sc (.int .i64 c0_1), V.sc (.int .i64 c0_2), V.sl true 137 (List.map E137 c0_3)])] (E3 y) []) (impl_OrderOf_1 a b c0_0 c0_1 c0_2 c0_3) := by
  unfold impl_OrderOf_1
  exact
   Pn.ite (fun h1 =>
    Pn.bind (fun x1 h2 =>
     Pn.ite (fun h3 =>
      Pn.bind (fun x2 h4 =>
       Pn.ite (fun h5 =>
        Pn.some (Fn.of [.draw [], .el (E137 x1), .el (E137 x2), .bit true] (p := [(0 : Int) ≤ a,
         (List.map E137 c0_3)[a.toNat]? = some (E137 x1),
         (0 : Int) ≤ b,
         (List.map E137 c0_3)[b.toNat]? = some (E137 x2),
         (decide (x1.Lin < x2.Lin)) = true]) (by kernel_rfl) (cj (od h1) (cj (map_get h2) (cj (od h3) (cj (map_get h4) (cj1 h5))))))) (fun h5 =>
        Pn.ite (fun h6 =>
         Pn.some (Fn.of [.draw [], .el (E137 x1), .el (E137 x2), .bit false, .bit true] (p := [(0 : Int) ≤ a,
          (List.map E137 c0_3)[a.toNat]? = some (E137 x1),
          (0 : Int) ≤ b,
          (List.map E137 c0_3)[b.toNat]? = some (E137 x2),
          (decide (x1.Lin < x2.Lin)) = false,
          (decide (x2.Lin < x1.Lin)) = true]) (by kernel_rfl) (cj (od h1) (cj (map_get h2) (cj (od h3) (cj (map_get h4) (cj h5 (cj1 h6)))))))) (fun h6 =>
         Pn.some (Fn.of [.draw [], .el (E137 x1), .el (E137 x2), .bit false, .bit false] (p := [(0 : Int) ≤ a,
          (List.map E137 c0_3)[a.toNat]? = some (E137 x1),
          (0 : Int) ≤ b,
          (List.map E137 c0_3)[b.toNat]? = some (E137 x2),
          (decide (x1.Lin < x2.Lin)) = false,
          (decide (x2.Lin < x1.Lin)) = false]) (by kernel_rfl) (cj (od h1) (cj (map_get h2) (cj (od h3) (cj (map_get h4) (cj h5 (cj1 h6))))))))))) (fun h3 =>
      Pn.none))) (fun h1 =>
    Pn.none)
def slices_insertionSortCmpFunc_int_impl_OrderOf_1_s4 (a : Int) (b : Int) (cmp0_0 : List Stripe) (cmp0_1 : Int) (cmp0_2 : Int) (cmp0_3 : List Task) (v1 : Int) (v3 : Int) (x1 : Int) (x2 : Int) (r1 : Int) (v4 : List Int) : St := st 53 [(0, V.ow 0), (1, V.sc (.int .i64 a)), (2, V.sc (.int .i64 b)), (3, V.fn 163 [V.cp [V.sl true 58 (List.map E58 cmp0_0), V.sc (.int .i64 cmp0_1), V.sc (.int .i64 cmp0_2), V.sl true 137 (List.map E137 cmp0_3)]]), (8, V.sc (.int .i64 v1)), (9, V.sc (.int .i64 v3)), (18, V.sc (.int .i64 v3)), (19, V.sc (.int .i64 a)), (20, V.sc (.bool (decide (a < v3)))), (21, V.sc (.bool (decide (a < v3)))), (22, V.fn 163 [V.cp [V.sl true 58 (List.map E58 cmp0_0), V.sc (.int .i64 cmp0_1), V.sc (.int .i64 cmp0_2), V.sl true 137 (List.map E137 cmp0_3)]]), (23, V.ow 0), (24, V.sc (.int .i64 v3)), (25, V.ep 0 1 v3.toNat 0), (26, V.sc (.int .i64 x1)), (27, V.ow 0), (28, V.sc (.int .i64 v3)), (29, V.sc (.int .i64 (i64 (v3 - 1)))), (30, V.ep 0 1 ((i64 (v3 - 1)).toNat) 0), (31, V.sc (.int .i64 x2)), (32, V.sc (.int .i64 r1)), (33, V.sc (.bool (decide (r1 < 0)))), (34, V.sc (.bool (decide (r1 < 0)))), (37, V.ow 0), (38, V.sc (.int .i64 v3)), (39, V.ow 0), (40, V.sc (.int .i64 v3)), (41, V.sc (.int .i64 (i64 (v3 - 1)))), (42, V.ow 0), (43, V.sc (.int .i64 v3)), (44, V.sc (.int .i64 (i64 (v3 - 1)))), (45, V.ep 0 1 ((i64 (v3 - 1)).toNat) 0), (46, V.sc (.int .i64 x2)), (47, V.ow 0), (48, V.sc (.int .i64 v3)), (49, V.ep 0 1 v3.toNat 0), (50, V.sc (.int .i64 x1)), (51, V.ep 0 1 v3.toNat 0), (52, V.ep 0 1 ((i64 (v3 - 1)).toNat) 0)] [Blk.row 3 (List.map E3 ((v4.set v3.toNat x2).set ((i64 (v3 - 1)).toNat) x1)) []] [some 0]
def slices_insertionSortCmpFunc_int_impl_OrderOf_1_l1 (a : Int) (b : Int) (cmp0_0 : List Stripe) (cmp0_1 : Int) (cmp0_2 : Int) (cmp0_3 : List Task) (v1 : Int) : Nat → Int → (List Int) → Option ((List Int))
  | 0, _, _ => none
  | fuel + 1, v3, v4 =>
   if (decide (a < v3)) = true then
    if (decide (0 ≤ v3)) = true then
     (v4[v3.toNat]?).bind fun x1 =>
     if (decide (0 ≤ (i64 (v3 - 1)))) = true then
      (v4[(i64 (v3 - 1)).toNat]?).bind fun x2 =>
      (impl_OrderOf_1 x1 x2 cmp0_0 cmp0_1 cmp0_2 cmp0_3).bind fun r1 =>
      if (decide (r1 < 0)) = true then
       ((v4.set v3.toNat x2)[(i64 (v3 - 1)).toNat]?).bind fun x3 =>
       slices_insertionSortCmpFunc_int_impl_OrderOf_1_l1 a b cmp0_0 cmp0_1 cmp0_2 cmp0_3 v1 fuel (i64 (v3 - 1)) ((v4.set v3.toNat x2).set ((i64 (v3 - 1)).toNat) x1)
      else
       some v4
     else none
    else none
   else
    some v4
theorem slices_insertionSortCmpFunc_int_impl_OrderOf_1_l1_ok (a : Int) (b : Int) (cmp0_0 : List Stripe) (cmp0_1 : Int) (cmp0_2 : Int) (cmp0_3 : List Task) (v1 : Int) : ∀ (fuel : Nat) (v3 : Int) (v4 : List Int), Pn (LpO Try.prog (sub (codeOf Try.prog 217) [1, 0, 0, 1, 0, 0, 1, 0, 0]) (st 53 [(0, V.ow 0), (1, V.sc (.int .i64 a)), (2, V.sc (.int .i64 b)), (3, V.fn 163 [V.cp [V.sl true 58 (List.map E58 cmp0_0), V.sc (.int .i64 cmp0_1), V.sc (.int .i64 cmp0_2), V.sl true 137 (List.map E137 cmp0_3)]]), (8, V.sc (.int .i64 v1)), (9, V.sc (.int .i64 v3))] [Blk.row 3 (List.map E3 v4) []] [some 0]) (fun (y : (List Int)) => (X.out 2, st 53 [(0, V.ow 0), (1, V.sc (.int .i64 a)), (2, V.sc (.int .i64 b)), (3, V.fn 163 [V.cp [V.sl true 58 (List.map E58 cmp0_0), V.sc (.int .i64 cmp0_1), V.sc (.int .i64 cmp0_2), V.sl true 137 (List.map E137 cmp0_3)]]), (8, V.sc (.int .i64 v1))] [Blk.row 3 (List.map E3 y) []] [some 0]))) (slices_insertionSortCmpFunc_int_impl_OrderOf_1_l1 a b cmp0_0 cmp0_1 cmp0_2 cmp0_3 v1 fuel v3 v4)
  | 0, _, _ => Pn.none
  | fuel + 1, v3, v4 => by
    unfold slices_insertionSortCmpFunc_int_impl_OrderOf_1_l1
    exact
     Pn.ite (fun h2 =>
      Pn.ite (fun h3 =>
       Pn.bind (fun x1 h4 =>
        Pn.ite (fun h5 =>
         Pn.bind (fun x2 h6 =>
          Pn.bind (fun r1 h7 =>
           Pn.ite (fun h8 =>
            Pn.bind (fun x3 h9 =>
             LpO.go [.draw [], .bit true, .bit true, .bit true, .bit true, .bit true, .el (E3 x1), .bit true, .bit true, .bit true, .bit true, .bit true, .el (E3 x2), .bit true, .call [] (E3 r1) [], .bit true, .bit true, .bit true, .draw [15, 17], .el (E3 x2), .el (E3 x1), .loop .go ((slices_insertionSortCmpFunc_int_impl_OrderOf_1_s4 a b cmp0_0 cmp0_1 cmp0_2 cmp0_3 v1 v3 x1 x2 r1 v4)), .loop .go ((slices_insertionSortCmpFunc_int_impl_OrderOf_1_s4 a b cmp0_0 cmp0_1 cmp0_2 cmp0_3 v1 v3 x1 x2 r1 v4)), .loop .go ((slices_insertionSortCmpFunc_int_impl_OrderOf_1_s4 a b cmp0_0 cmp0_1 cmp0_2 cmp0_3 v1 v3 x1 x2 r1 v4)), .el (E3 x1), .nb 0 (.row 3 (List.map E3 (v4.set v3.toNat x2)) []), .el (E3 x3), .nb 0 (.row 3 (List.map E3 ((v4.set v3.toNat x2).set ((i64 (v3 - 1)).toNat) x1)) []), .ren [0], .el (E3 x1), .nb 0 (.row 3 (List.map E3 (v4.set v3.toNat x2)) []), .el (E3 x3), .nb 0 (.row 3 (List.map E3 ((v4.set v3.toNat x2).set ((i64 (v3 - 1)).toNat) x1)) []), .ren [0], .ren [0], .el (E3 x1), .nb 0 (.row 3 (List.map E3 (v4.set v3.toNat x2)) []), .el (E3 x3), .nb 0 (.row 3 (List.map E3 ((v4.set v3.toNat x2).set ((i64 (v3 - 1)).toNat) x1)) []), .ren [0], .ren [0], .loop .go ((slices_insertionSortCmpFunc_int_impl_OrderOf_1_s4 a b cmp0_0 cmp0_1 cmp0_2 cmp0_3 v1 v3 x1 x2 r1 v4)), .loop .go ((slices_insertionSortCmpFunc_int_impl_OrderOf_1_s4 a b cmp0_0 cmp0_1 cmp0_2 cmp0_3 v1 v3 x1 x2 r1 v4)), .el (E3 x1), .nb 0 (.row 3 (List.map E3 (v4.set v3.toNat x2)) []), .el (E3 x3), .nb 0 (.row 3 (List.map E3 ((v4.set v3.toNat x2).set ((i64 (v3 - 1)).toNat) x1)) []), .ren [0], .el (E3 x1), .nb 0 (.row 3 (List.map E3 (v4.set v3.toNat x2)) []), .el (E3 x3), .nb 0 (.row 3 (List.map E3 ((v4.set v3.toNat x2).set ((i64 (v3 - 1)).toNat) x1)) []), .ren [0], .ren [0], .loop .go ((slices_insertionSortCmpFunc_int_impl_OrderOf_1_s4 a b cmp0_0 cmp0_1 cmp0_2 cmp0_3 v1 v3 x1 x2 r1 v4)), .el (E3 x1), .nb 0 (.row 3 (List.map E3 (v4.set v3.toNat x2)) []), .el (E3 x3), .nb 0 (.row 3 (List.map E3 ((v4.set v3.toNat x2).set ((i64 (v3 - 1)).toNat) x1)) []), .ren [0], .el (E3 x1), .nb 0 (.row 3 (List.map E3 (v4.set v3.toNat x2)) []), .el (E3 x3), .nb 0 (.row 3 (List.map E3 ((v4.set v3.toNat x2).set ((i64 (v3 - 1)).toNat) x1)) []), .ren [0], .ren [0], .el (E3 x1), .nb 0 (.row 3 (List.map E3 (v4.set v3.toNat x2)) []), .el (E3 x3), .nb 0 (.row 3 (List.map E3 ((v4.set v3.toNat x2).set ((i64 (v3 - 1)).toNat) x1)) []), .ren [0], .ren [0], .el (E3 x1), .nb 0 (.row 3 (List.map E3 (v4.set v3.toNat x2)) []), .el (E3 x3), .nb 0 (.row 3 (List.map E3 ((v4.set v3.toNat x2).set ((i64 (v3 - 1)).toNat) x1)) []), .ren [0], .wait 4, .mask [0, 1, 2, 3, 8, 9], .ren [0]] (p := [(decide (a < v3)) = true,
              (decide (a < v3)) = true,
              (decide (a < v3)) = true,
              (decide (a < v3)) = true,
              (0 : Int) ≤ v3,
              (v3 : Int) < ((List.map E3 v4).length : Int),
              (decide (a < v3)) = true,
              look [] v3.toNat = none,
              (List.map E3 v4)[v3.toNat]? = some (E3 x1),
              (decide (a < v3)) = true,
              (decide (a < v3)) = true,
              (decide (a < v3)) = true,
              (decide (a < v3)) = true,
              (0 : Int) ≤ (i64 (v3 - 1)),
              ((i64 (v3 - 1)) : Int) < ((List.map E3 v4).length : Int),
              (decide (a < v3)) = true,
              look [] ((i64 (v3 - 1)).toNat) = none,
              (List.map E3 v4)[(i64 (v3 - 1)).toNat]? = some (E3 x2),
              (decide (a < v3)) = true,
              Fn Try.prog 163 [(false, E3 x1), (false, E3 x2), (false, V.cp [V.sl true 58 (List.map E58 cmp0_0), V.sc (.int .i64 cmp0_1), V.sc (.int .i64 cmp0_2), V.sl true 137 (List.map E137 cmp0_3)])] (E3 r1) [],
              (true || ((E3 r1).nv && nvL [])) = true,
              (decide (a < v3)) = true,
              (decide (a < v3)) = true,
              (decide (r1 < 0)) = true,
              (0 : Int) ≤ (i64 (v3 - 1)),
              ((i64 (v3 - 1)) : Int) < ((List.map E3 v4).length : Int),
              look [] ((i64 (v3 - 1)).toNat) = none,
              (List.map E3 v4)[(i64 (v3 - 1)).toNat]? = some (E3 x2),
              (0 : Int) ≤ v3,
              (v3 : Int) < ((List.map E3 v4).length : Int),
              look [] v3.toNat = none,
              (List.map E3 v4)[v3.toNat]? = some (E3 x1),
              (0 : Int) ≤ v3,
              (v3 : Int) < ((List.map E3 v4).length : Int),
              look [] v3.toNat = none,
              (List.map E3 v4)[v3.toNat]? = some (E3 x1),
              Blk.row 3 ((List.map E3 v4).set v3.toNat (V.sc (.int .i64 x2))) [] = Blk.row 3 (List.map E3 (v4.set v3.toNat x2)) [],
              (0 : Int) ≤ (i64 (v3 - 1)),
              ((i64 (v3 - 1)) : Int) < ((List.map E3 (v4.set v3.toNat x2)).length : Int),
              look [] ((i64 (v3 - 1)).toNat) = none,
              (List.map E3 (v4.set v3.toNat x2))[(i64 (v3 - 1)).toNat]? = some (E3 x3),
              Blk.row 3 ((List.map E3 (v4.set v3.toNat x2)).set ((i64 (v3 - 1)).toNat) (V.sc (.int .i64 x1))) [] = Blk.row 3 (List.map E3 ((v4.set v3.toNat x2).set ((i64 (v3 - 1)).toNat) x1)) [],
              (slices_insertionSortCmpFunc_int_impl_OrderOf_1_s4 a b cmp0_0 cmp0_1 cmp0_2 cmp0_3 v1 v3 x1 x2 r1 v4) = (slices_insertionSortCmpFunc_int_impl_OrderOf_1_s4 a b cmp0_0 cmp0_1 cmp0_2 cmp0_3 v1 v3 x1 x2 r1 v4),
              look [] v3.toNat = none,
              (List.map E3 v4)[v3.toNat]? = some (E3 x1),
              Blk.row 3 ((List.map E3 v4).set v3.toNat (V.sc (.int .i64 x2))) [] = Blk.row 3 (List.map E3 (v4.set v3.toNat x2)) [],
              (0 : Int) ≤ (i64 (v3 - 1)),
              ((i64 (v3 - 1)) : Int) < ((List.map E3 (v4.set v3.toNat x2)).length : Int),
              look [] ((i64 (v3 - 1)).toNat) = none,
              (List.map E3 (v4.set v3.toNat x2))[(i64 (v3 - 1)).toNat]? = some (E3 x3),
              Blk.row 3 ((List.map E3 (v4.set v3.toNat x2)).set ((i64 (v3 - 1)).toNat) (V.sc (.int .i64 x1))) [] = Blk.row 3 (List.map E3 ((v4.set v3.toNat x2).set ((i64 (v3 - 1)).toNat) x1)) [],
              (slices_insertionSortCmpFunc_int_impl_OrderOf_1_s4 a b cmp0_0 cmp0_1 cmp0_2 cmp0_3 v1 v3 x1 x2 r1 v4) = (slices_insertionSortCmpFunc_int_impl_OrderOf_1_s4 a b cmp0_0 cmp0_1 cmp0_2 cmp0_3 v1 v3 x1 x2 r1 v4),
              (slices_insertionSortCmpFunc_int_impl_OrderOf_1_s4 a b cmp0_0 cmp0_1 cmp0_2 cmp0_3 v1 v3 x1 x2 r1 v4) = (slices_insertionSortCmpFunc_int_impl_OrderOf_1_s4 a b cmp0_0 cmp0_1 cmp0_2 cmp0_3 v1 v3 x1 x2 r1 v4),
              look [] v3.toNat = none,
              (List.map E3 v4)[v3.toNat]? = some (E3 x1),
              Blk.row 3 ((List.map E3 v4).set v3.toNat (V.sc (.int .i64 x2))) [] = Blk.row 3 (List.map E3 (v4.set v3.toNat x2)) [],
              (0 : Int) ≤ (i64 (v3 - 1)),
              ((i64 (v3 - 1)) : Int) < ((List.map E3 (v4.set v3.toNat x2)).length : Int),
              look [] ((i64 (v3 - 1)).toNat) = none,
              (List.map E3 (v4.set v3.toNat x2))[(i64 (v3 - 1)).toNat]? = some (E3 x3),
              Blk.row 3 ((List.map E3 (v4.set v3.toNat x2)).set ((i64 (v3 - 1)).toNat) (V.sc (.int .i64 x1))) [] = Blk.row 3 (List.map E3 ((v4.set v3.toNat x2).set ((i64 (v3 - 1)).toNat) x1)) [],
              (slices_insertionSortCmpFunc_int_impl_OrderOf_1_s4 a b cmp0_0 cmp0_1 cmp0_2 cmp0_3 v1 v3 x1 x2 r1 v4) = (slices_insertionSortCmpFunc_int_impl_OrderOf_1_s4 a b cmp0_0 cmp0_1 cmp0_2 cmp0_3 v1 v3 x1 x2 r1 v4),
              (slices_insertionSortCmpFunc_int_impl_OrderOf_1_s4 a b cmp0_0 cmp0_1 cmp0_2 cmp0_3 v1 v3 x1 x2 r1 v4) = (slices_insertionSortCmpFunc_int_impl_OrderOf_1_s4 a b cmp0_0 cmp0_1 cmp0_2 cmp0_3 v1 v3 x1 x2 r1 v4),
              look [] v3.toNat = none,
              (List.map E3 v4)[v3.toNat]? = some (E3 x1),
              Blk.row 3 ((List.map E3 v4).set v3.toNat (V.sc (.int .i64 x2))) [] = Blk.row 3 (List.map E3 (v4.set v3.toNat x2)) [],
              (0 : Int) ≤ (i64 (v3 - 1)),
              ((i64 (v3 - 1)) : Int) < ((List.map E3 (v4.set v3.toNat x2)).length : Int),
              look [] ((i64 (v3 - 1)).toNat) = none,
              (List.map E3 (v4.set v3.toNat x2))[(i64 (v3 - 1)).toNat]? = some (E3 x3),
              Blk.row 3 ((List.map E3 (v4.set v3.toNat x2)).set ((i64 (v3 - 1)).toNat) (V.sc (.int .i64 x1))) [] = Blk.row 3 (List.map E3 ((v4.set v3.toNat x2).set ((i64 (v3 - 1)).toNat) x1)) [],
              (slices_insertionSortCmpFunc_int_impl_OrderOf_1_s4 a b cmp0_0 cmp0_1 cmp0_2 cmp0_3 v1 v3 x1 x2 r1 v4) = (slices_insertionSortCmpFunc_int_impl_OrderOf_1_s4 a b cmp0_0 cmp0_1 cmp0_2 cmp0_3 v1 v3 x1 x2 r1 v4),
              look [] v3.toNat = none,
              (List.map E3 v4)[v3.toNat]? = some (E3 x1),
              Blk.row 3 ((List.map E3 v4).set v3.toNat (V.sc (.int .i64 x2))) [] = Blk.row 3 (List.map E3 (v4.set v3.toNat x2)) [],
              (0 : Int) ≤ (i64 (v3 - 1)),
              ((i64 (v3 - 1)) : Int) < ((List.map E3 (v4.set v3.toNat x2)).length : Int),
              look [] ((i64 (v3 - 1)).toNat) = none,
              (List.map E3 (v4.set v3.toNat x2))[(i64 (v3 - 1)).toNat]? = some (E3 x3),
              Blk.row 3 ((List.map E3 (v4.set v3.toNat x2)).set ((i64 (v3 - 1)).toNat) (V.sc (.int .i64 x1))) [] = Blk.row 3 (List.map E3 ((v4.set v3.toNat x2).set ((i64 (v3 - 1)).toNat) x1)) [],
              (slices_insertionSortCmpFunc_int_impl_OrderOf_1_s4 a b cmp0_0 cmp0_1 cmp0_2 cmp0_3 v1 v3 x1 x2 r1 v4) = (slices_insertionSortCmpFunc_int_impl_OrderOf_1_s4 a b cmp0_0 cmp0_1 cmp0_2 cmp0_3 v1 v3 x1 x2 r1 v4),
              (slices_insertionSortCmpFunc_int_impl_OrderOf_1_s4 a b cmp0_0 cmp0_1 cmp0_2 cmp0_3 v1 v3 x1 x2 r1 v4) = (slices_insertionSortCmpFunc_int_impl_OrderOf_1_s4 a b cmp0_0 cmp0_1 cmp0_2 cmp0_3 v1 v3 x1 x2 r1 v4),
              look [] v3.toNat = none,
              (List.map E3 v4)[v3.toNat]? = some (E3 x1),
              Blk.row 3 ((List.map E3 v4).set v3.toNat (V.sc (.int .i64 x2))) [] = Blk.row 3 (List.map E3 (v4.set v3.toNat x2)) [],
              (0 : Int) ≤ (i64 (v3 - 1)),
              ((i64 (v3 - 1)) : Int) < ((List.map E3 (v4.set v3.toNat x2)).length : Int),
              look [] ((i64 (v3 - 1)).toNat) = none,
              (List.map E3 (v4.set v3.toNat x2))[(i64 (v3 - 1)).toNat]? = some (E3 x3),
              Blk.row 3 ((List.map E3 (v4.set v3.toNat x2)).set ((i64 (v3 - 1)).toNat) (V.sc (.int .i64 x1))) [] = Blk.row 3 (List.map E3 ((v4.set v3.toNat x2).set ((i64 (v3 - 1)).toNat) x1)) [],
              (slices_insertionSortCmpFunc_int_impl_OrderOf_1_s4 a b cmp0_0 cmp0_1 cmp0_2 cmp0_3 v1 v3 x1 x2 r1 v4) = (slices_insertionSortCmpFunc_int_impl_OrderOf_1_s4 a b cmp0_0 cmp0_1 cmp0_2 cmp0_3 v1 v3 x1 x2 r1 v4),
              look [] v3.toNat = none,
              (List.map E3 v4)[v3.toNat]? = some (E3 x1),
              Blk.row 3 ((List.map E3 v4).set v3.toNat (V.sc (.int .i64 x2))) [] = Blk.row 3 (List.map E3 (v4.set v3.toNat x2)) [],
              (0 : Int) ≤ (i64 (v3 - 1)),
              ((i64 (v3 - 1)) : Int) < ((List.map E3 (v4.set v3.toNat x2)).length : Int),
              look [] ((i64 (v3 - 1)).toNat) = none,
              (List.map E3 (v4.set v3.toNat x2))[(i64 (v3 - 1)).toNat]? = some (E3 x3),
              Blk.row 3 ((List.map E3 (v4.set v3.toNat x2)).set ((i64 (v3 - 1)).toNat) (V.sc (.int .i64 x1))) [] = Blk.row 3 (List.map E3 ((v4.set v3.toNat x2).set ((i64 (v3 - 1)).toNat) x1)) [],
              (slices_insertionSortCmpFunc_int_impl_OrderOf_1_s4 a b cmp0_0 cmp0_1 cmp0_2 cmp0_3 v1 v3 x1 x2 r1 v4) = (slices_insertionSortCmpFunc_int_impl_OrderOf_1_s4 a b cmp0_0 cmp0_1 cmp0_2 cmp0_3 v1 v3 x1 x2 r1 v4),
              (slices_insertionSortCmpFunc_int_impl_OrderOf_1_s4 a b cmp0_0 cmp0_1 cmp0_2 cmp0_3 v1 v3 x1 x2 r1 v4) = (slices_insertionSortCmpFunc_int_impl_OrderOf_1_s4 a b cmp0_0 cmp0_1 cmp0_2 cmp0_3 v1 v3 x1 x2 r1 v4),
              look [] v3.toNat = none,
              (List.map E3 v4)[v3.toNat]? = some (E3 x1),
              Blk.row 3 ((List.map E3 v4).set v3.toNat (V.sc (.int .i64 x2))) [] = Blk.row 3 (List.map E3 (v4.set v3.toNat x2)) [],
              (0 : Int) ≤ (i64 (v3 - 1)),
              ((i64 (v3 - 1)) : Int) < ((List.map E3 (v4.set v3.toNat x2)).length : Int),
              look [] ((i64 (v3 - 1)).toNat) = none,
              (List.map E3 (v4.set v3.toNat x2))[(i64 (v3 - 1)).toNat]? = some (E3 x3),
              Blk.row 3 ((List.map E3 (v4.set v3.toNat x2)).set ((i64 (v3 - 1)).toNat) (V.sc (.int .i64 x1))) [] = Blk.row 3 (List.map E3 ((v4.set v3.toNat x2).set ((i64 (v3 - 1)).toNat) x1)) [],
              (slices_insertionSortCmpFunc_int_impl_OrderOf_1_s4 a b cmp0_0 cmp0_1 cmp0_2 cmp0_3 v1 v3 x1 x2 r1 v4) = (slices_insertionSortCmpFunc_int_impl_OrderOf_1_s4 a b cmp0_0 cmp0_1 cmp0_2 cmp0_3 v1 v3 x1 x2 r1 v4),
              (slices_insertionSortCmpFunc_int_impl_OrderOf_1_s4 a b cmp0_0 cmp0_1 cmp0_2 cmp0_3 v1 v3 x1 x2 r1 v4) = (slices_insertionSortCmpFunc_int_impl_OrderOf_1_s4 a b cmp0_0 cmp0_1 cmp0_2 cmp0_3 v1 v3 x1 x2 r1 v4),
              look [] v3.toNat = none,
              (List.map E3 v4)[v3.toNat]? = some (E3 x1),
              Blk.row 3 ((List.map E3 v4).set v3.toNat (V.sc (.int .i64 x2))) [] = Blk.row 3 (List.map E3 (v4.set v3.toNat x2)) [],
              (0 : Int) ≤ (i64 (v3 - 1)),
              ((i64 (v3 - 1)) : Int) < ((List.map E3 (v4.set v3.toNat x2)).length : Int),
              look [] ((i64 (v3 - 1)).toNat) = none,
              (List.map E3 (v4.set v3.toNat x2))[(i64 (v3 - 1)).toNat]? = some (E3 x3),
              Blk.row 3 ((List.map E3 (v4.set v3.toNat x2)).set ((i64 (v3 - 1)).toNat) (V.sc (.int .i64 x1))) [] = Blk.row 3 (List.map E3 ((v4.set v3.toNat x2).set ((i64 (v3 - 1)).toNat) x1)) [],
              (slices_insertionSortCmpFunc_int_impl_OrderOf_1_s4 a b cmp0_0 cmp0_1 cmp0_2 cmp0_3 v1 v3 x1 x2 r1 v4) = (slices_insertionSortCmpFunc_int_impl_OrderOf_1_s4 a b cmp0_0 cmp0_1 cmp0_2 cmp0_3 v1 v3 x1 x2 r1 v4)]) (by kernel_rfl) (cj h2 (cj h2 (cj h2 (cj h2 (cj (od h3) (cj (map_ltN (od h3) h4) (cj h2 (cj rfl (cj (map_get h4) (cj h2 (cj h2 (cj h2 (cj h2 (cj (od h5) (cj (map_ltN (od h5) h6) (cj h2 (cj rfl (cj (map_get h6) (cj h2 (cj (impl_OrderOf_1_ok x1 x2 cmp0_0 cmp0_1 cmp0_2 cmp0_3 r1 h7) (cj rfl (cj h2 (cj h2 (cj h8 (cj (od h5) (cj (map_ltN (od h5) h6) (cj rfl (cj (map_get h6) (cj (od h3) (cj (map_ltN (od h3) h4) (cj rfl (cj (map_get h4) (cj (od h3) (cj (map_ltN (od h3) h4) (cj rfl (cj (map_get h4) (cj (nb_set E3 _ _ x2) (cj (od h5) (cj (map_ltN (od h5) h9) (cj rfl (cj (map_get h9) (cj (nb_set E3 _ _ x1) (cj rfl (cj rfl (cj (map_get h4) (cj (nb_set E3 _ _ x2) (cj (od h5) (cj (map_ltN (od h5) h9) (cj rfl (cj (map_get h9) (cj (nb_set E3 _ _ x1) (cj rfl (cj rfl (cj rfl (cj (map_get h4) (cj (nb_set E3 _ _ x2) (cj (od h5) (cj (map_ltN (od h5) h9) (cj rfl (cj (map_get h9) (cj (nb_set E3 _ _ x1) (cj rfl (cj rfl (cj rfl (cj (map_get h4) (cj (nb_set E3 _ _ x2) (cj (od h5) (cj (map_ltN (od h5) h9) (cj rfl (cj (map_get h9) (cj (nb_set E3 _ _ x1) (cj rfl (cj rfl (cj (map_get h4) (cj (nb_set E3 _ _ x2) (cj (od h5) (cj (map_ltN (od h5) h9) (cj rfl (cj (map_get h9) (cj (nb_set E3 _ _ x1) (cj rfl (cj rfl (cj rfl (cj (map_get h4) (cj (nb_set E3 _ _ x2) (cj (od h5) (cj (map_ltN (od h5) h9) (cj rfl (cj (map_get h9) (cj (nb_set E3 _ _ x1) (cj rfl (cj rfl (cj (map_get h4) (cj (nb_set E3 _ _ x2) (cj (od h5) (cj (map_ltN (od h5) h9) (cj rfl (cj (map_get h9) (cj (nb_set E3 _ _ x1) (cj rfl (cj rfl (cj rfl (cj (map_get h4) (cj (nb_set E3 _ _ x2) (cj (od h5) (cj (map_ltN (od h5) h9) (cj rfl (cj (map_get h9) (cj (nb_set E3 _ _ x1) (cj rfl (cj rfl (cj rfl (cj (map_get h4) (cj (nb_set E3 _ _ x2) (cj (od h5) (cj (map_ltN (od h5) h9) (cj rfl (cj (map_get h9) (cj (nb_set E3 _ _ x1) (cj1 rfl)))))))))))))))))))))))))))))))))))))))))))))))))))))))))))))))))))))))))))))))))))))))))))))))))))))))))))))))))))))))) (slices_insertionSortCmpFunc_int_impl_OrderOf_1_l1_ok a b cmp0_0 cmp0_1 cmp0_2 cmp0_3 v1 fuel (i64 (v3 - 1)) ((v4.set v3.toNat x2).set ((i64 (v3 - 1)).toNat) x1)))) (fun h8 =>
            Pn.some (LpO.out [.draw [], .bit true, .bit true, .bit true, .bit true, .bit true, .el (E3 x1), .bit true, .bit true, .bit true, .bit true, .bit true, .el (E3 x2), .bit true, .call [] (E3 r1) [], .bit true, .bit true, .bit false, .mask [0, 1, 2, 3, 8], .ren [0]] (p := [(decide (a < v3)) = true,
             (decide (a < v3)) = true,
             (decide (a < v3)) = true,
             (decide (a < v3)) = true,
             (0 : Int) ≤ v3,
             (v3 : Int) < ((List.map E3 v4).length : Int),
             (decide (a < v3)) = true,
             look [] v3.toNat = none,
             (List.map E3 v4)[v3.toNat]? = some (E3 x1),
             (decide (a < v3)) = true,
             (decide (a < v3)) = true,
             (decide (a < v3)) = true,
             (decide (a < v3)) = true,
             (0 : Int) ≤ (i64 (v3 - 1)),
             ((i64 (v3 - 1)) : Int) < ((List.map E3 v4).length : Int),
             (decide (a < v3)) = true,
             look [] ((i64 (v3 - 1)).toNat) = none,
             (List.map E3 v4)[(i64 (v3 - 1)).toNat]? = some (E3 x2),
             (decide (a < v3)) = true,
             Fn Try.prog 163 [(false, E3 x1), (false, E3 x2), (false, V.cp [V.sl true 58 (List.map E58 cmp0_0), V.sc (.int .i64 cmp0_1), V.sc (.int .i64 cmp0_2), V.sl true 137 (List.map E137 cmp0_3)])] (E3 r1) [],
             (true || ((E3 r1).nv && nvL [])) = true,
             (decide (a < v3)) = true,
             (decide (a < v3)) = true,
             (decide (r1 < 0)) = false]) (by kernel_rfl) (show X.out 2 ≠ X.go from nofun) (cj h2 (cj h2 (cj h2 (cj h2 (cj (od h3) (cj (map_ltN (od h3) h4) (cj h2 (cj rfl (cj (map_get h4) (cj h2 (cj h2 (cj h2 (cj h2 (cj (od h5) (cj (map_ltN (od h5) h6) (cj h2 (cj rfl (cj (map_get h6) (cj h2 (cj (impl_OrderOf_1_ok x1 x2 cmp0_0 cmp0_1 cmp0_2 cmp0_3 r1 h7) (cj rfl (cj h2 (cj h2 (cj1 h8))))))))))))))))))))))))))))) (fun h5 =>
         Pn.none))) (fun h3 =>
       Pn.none)) (fun h2 =>
      Pn.some (LpO.out [.draw [], .bit false, .bit false, .bit false, .bit false, .bit false, .bit false, .bit false, .bit false, .bit false, .bit false, .bit false, .bit false, .bit false, .bit false, .mask [0, 1, 2, 3, 8], .ren [0]] (p := [(decide (a < v3)) = false,
       (decide (a < v3)) = false,
       (decide (a < v3)) = false,
       (decide (a < v3)) = false,
       (decide (a < v3)) = false,
       (decide (a < v3)) = false,
       (decide (a < v3)) = false,
       (decide (a < v3)) = false,
       (decide (a < v3)) = false,
       (decide (a < v3)) = false,
       (decide (a < v3)) = false,
       (decide (a < v3)) = false,
       (decide (a < v3)) = false,
       false = false]) (by kernel_rfl) (show X.out 2 ≠ X.go from nofun) (cj h2 (cj h2 (cj h2 (cj h2 (cj h2 (cj h2 (cj h2 (cj h2 (cj h2 (cj h2 (cj h2 (cj h2 (cj h2 (cj1 rfl))))))))))))))))
def slices_insertionSortCmpFunc_int_impl_OrderOf_1_l0 (a : Int) (b : Int) (cmp0_0 : List Stripe) (cmp0_1 : Int) (cmp0_2 : Int) (cmp0_3 : List Task) : Nat → Int → (List Int) → Option ((List Int))
  | 0, _, _ => none
  | fuel + 1, v1, v2 =>
   if (decide (v1 < b)) = true then
    (slices_insertionSortCmpFunc_int_impl_OrderOf_1_l1 a b cmp0_0 cmp0_1 cmp0_2 cmp0_3 v1 FUEL v1 v2).bind fun r2 =>
    slices_insertionSortCmpFunc_int_impl_OrderOf_1_l0 a b cmp0_0 cmp0_1 cmp0_2 cmp0_3 fuel (i64 (v1 + 1)) r2
   else
    some v2
theorem slices_insertionSortCmpFunc_int_impl_OrderOf_1_l0_ok (a : Int) (b : Int) (cmp0_0 : List Stripe) (cmp0_1 : Int) (cmp0_2 : Int) (cmp0_3 : List Task) : ∀ (fuel : Nat) (v1 : Int) (v2 : List Int), Pn (LpO Try.prog (sub (codeOf Try.prog 217) [1, 0, 0]) (st 53 [(0, V.ow 0), (1, V.sc (.int .i64 a)), (2, V.sc (.int .i64 b)), (3, V.fn 163 [V.cp [V.sl true 58 (List.map E58 cmp0_0), V.sc (.int .i64 cmp0_1), V.sc (.int .i64 cmp0_2), V.sl true 137 (List.map E137 cmp0_3)]]), (8, V.sc (.int .i64 v1))] [Blk.row 3 (List.map E3 v2) []] [some 0]) (fun (y : (List Int)) => (X.out 0, st 53 [] [Blk.row 3 (List.map E3 y) []] [some 0]))) (slices_insertionSortCmpFunc_int_impl_OrderOf_1_l0 a b cmp0_0 cmp0_1 cmp0_2 cmp0_3 fuel v1 v2)
  | 0, _, _ => Pn.none
  | fuel + 1, v1, v2 => by
    unfold slices_insertionSortCmpFunc_int_impl_OrderOf_1_l0
    exact
     Pn.ite (fun h1 =>
      Pn.bind (fun r2 h10 =>
       LpO.go [.bit true, .wait 2, .mask [0, 1, 2, 3, 8, 9], .ren [0], .loop (X.out 2) (st 53 [(0, V.ow 0), (1, V.sc (.int .i64 a)), (2, V.sc (.int .i64 b)), (3, V.fn 163 [V.cp [V.sl true 58 (List.map E58 cmp0_0), V.sc (.int .i64 cmp0_1), V.sc (.int .i64 cmp0_2), V.sl true 137 (List.map E137 cmp0_3)]]), (8, V.sc (.int .i64 v1))] [Blk.row 3 (List.map E3 r2) []] [some 0]), .wait 4, .mask [0, 1, 2, 3, 8], .ren [0]] (p := [(decide (v1 < b)) = true,
        Loop Try.prog (sub (codeOf Try.prog 217) [1, 0, 0, 1, 0, 0, 1, 0, 0]) (st 53 [(0, V.ow 0), (1, V.sc (.int .i64 a)), (2, V.sc (.int .i64 b)), (3, V.fn 163 [V.cp [V.sl true 58 (List.map E58 cmp0_0), V.sc (.int .i64 cmp0_1), V.sc (.int .i64 cmp0_2), V.sl true 137 (List.map E137 cmp0_3)]]), (8, V.sc (.int .i64 v1)), (9, V.sc (.int .i64 v1))] [Blk.row 3 (List.map E3 v2) []] [some 0]) (X.out 2) (st 53 [(0, V.ow 0), (1, V.sc (.int .i64 a)), (2, V.sc (.int .i64 b)), (3, V.fn 163 [V.cp [V.sl true 58 (List.map E58 cmp0_0), V.sc (.int .i64 cmp0_1), V.sc (.int .i64 cmp0_2), V.sl true 137 (List.map E137 cmp0_3)]]), (8, V.sc (.int .i64 v1))] [Blk.row 3 (List.map E3 r2) []] [some 0])]) (by kernel_rfl) (cj h1 (cj1 (slices_insertionSortCmpFunc_int_impl_OrderOf_1_l1_ok a b cmp0_0 cmp0_1 cmp0_2 cmp0_3 v1 FUEL v1 v2 r2 h10))) (slices_insertionSortCmpFunc_int_impl_OrderOf_1_l0_ok a b cmp0_0 cmp0_1 cmp0_2 cmp0_3 fuel (i64 (v1 + 1)) r2))) (fun h1 =>
      Pn.some (LpO.out [.bit false, .mask [], .ren [0]] (p := [(decide (v1 < b)) = false]) (by kernel_rfl) (show X.out 0 ≠ X.go from nofun) (cj1 h1)))
def slices_insertionSortCmpFunc_int_impl_OrderOf_1 (data : List Int) (a : Int) (b : Int) (cmp0_0 : List Stripe) (cmp0_1 : Int) (cmp0_2 : Int) (cmp0_3 : List Task) : Option ((List Int)) :=
 (slices_insertionSortCmpFunc_int_impl_OrderOf_1_l0 a b cmp0_0 cmp0_1 cmp0_2 cmp0_3 FUEL (i64 (a + 1)) data).bind fun r3 =>
 some r3
theorem slices_insertionSortCmpFunc_int_impl_OrderOf_1_ok (data : List Int) (a : Int) (b : Int) (cmp0_0 : List Stripe) (cmp0_1 : Int) (cmp0_2 : Int) (cmp0_3 : List Task) : Pn (fun y => Fn Try.prog 217 [(true, E24 data), (false, E3 a), (false, E3 b), (false, V.fn 163 [V.cp [V.sl true 58 (List.map E58 cmp0_0), V.sc (.int .i64 cmp0_1), V.sc (.int .i64 cmp0_2), V.sl true 137 (List.map E137 cmp0_3)]])] (V.tup []) [V.sl true 3 (List.map E3 y)]) (slices_insertionSortCmpFunc_int_impl_OrderOf_1 data a b cmp0_0 cmp0_1 cmp0_2 cmp0_3) := by
  unfold slices_insertionSortCmpFunc_int_impl_OrderOf_1
  exact
   Pn.bind (fun r3 h11 =>
    Pn.some (Fn.of [.wait 4, .mask [0, 1, 2, 3, 8], .ren [0], .loop (X.out 0) (st 53 [] [Blk.row 3 (List.map E3 r3) []] [some 0])] (p := [Loop Try.prog (sub (codeOf Try.prog 217) [1, 0, 0]) (st 53 [(0, V.ow 0), (1, V.sc (.int .i64 a)), (2, V.sc (.int .i64 b)), (3, V.fn 163 [V.cp [V.sl true 58 (List.map E58 cmp0_0), V.sc (.int .i64 cmp0_1), V.sc (.int .i64 cmp0_2), V.sl true 137 (List.map E137 cmp0_3)]]), (8, V.sc (.int .i64 (i64 (a + 1))))] [Blk.row 3 (List.map E3 data) []] [some 0]) (X.out 0) (st 53 [] [Blk.row 3 (List.map E3 r3) []] [some 0])]) (by kernel_rfl) (cj1 (slices_insertionSortCmpFunc_int_impl_OrderOf_1_l0_ok a b cmp0_0 cmp0_1 cmp0_2 cmp0_3 FUEL (i64 (a + 1)) data r3 h11))))
def slices_swapRangeCmpFunc_int_impl_OrderOf_1_s2 (a : Int) (b : Int) (n : Int) (v1 : Int) (x1 : Int) (x2 : Int) (v2 : List Int) : St := st 38 [(0, V.ow 0), (1, V.sc (.int .i64 a)), (2, V.sc (.int .i64 b)), (3, V.sc (.int .i64 n)), (10, V.sc (.int .i64 v1)), (11, V.sc (.int .i64 v1)), (12, V.sc (.int .i64 n)), (13, V.sc (.bool (decide (v1 < n)))), (16, V.ow 0), (17, V.sc (.int .i64 a)), (18, V.sc (.int .i64 v1)), (19, V.sc (.int .i64 (i64 (a + v1)))), (20, V.ow 0), (21, V.sc (.int .i64 b)), (22, V.sc (.int .i64 v1)), (23, V.sc (.int .i64 (i64 (b + v1)))), (24, V.ow 0), (25, V.sc (.int .i64 b)), (26, V.sc (.int .i64 v1)), (27, V.sc (.int .i64 (i64 (b + v1)))), (28, V.ep 0 1 ((i64 (b + v1)).toNat) 0), (29, V.sc (.int .i64 x1)), (30, V.ow 0), (31, V.sc (.int .i64 a)), (32, V.sc (.int .i64 v1)), (33, V.sc (.int .i64 (i64 (a + v1)))), (34, V.ep 0 1 ((i64 (a + v1)).toNat) 0), (35, V.sc (.int .i64 x2)), (36, V.ep 0 1 ((i64 (a + v1)).toNat) 0), (37, V.ep 0 1 ((i64 (b + v1)).toNat) 0)] [Blk.row 3 (List.map E3 ((v2.set ((i64 (a + v1)).toNat) x1).set ((i64 (b + v1)).toNat) x2)) []] [some 0]
def slices_swapRangeCmpFunc_int_impl_OrderOf_1_l0 (a : Int) (b : Int) (n : Int) : Nat → Int → (List Int) → Option ((List Int))
  | 0, _, _ => none
  | fuel + 1, v1, v2 =>
   if (decide (v1 < n)) = true then
    if (decide (0 ≤ (i64 (b + v1)))) = true then
     (v2[(i64 (b + v1)).toNat]?).bind fun x1 =>
     if (decide (0 ≤ (i64 (a + v1)))) = true then
      (v2[(i64 (a + v1)).toNat]?).bind fun x2 =>
      ((v2.set ((i64 (a + v1)).toNat) x1)[(i64 (b + v1)).toNat]?).bind fun x3 =>
      slices_swapRangeCmpFunc_int_impl_OrderOf_1_l0 a b n fuel (i64 (v1 + 1)) ((v2.set ((i64 (a + v1)).toNat) x1).set ((i64 (b + v1)).toNat) x2)
     else none
    else none
   else
    some v2
theorem slices_swapRangeCmpFunc_int_impl_OrderOf_1_l0_ok (a : Int) (b : Int) (n : Int) : ∀ (fuel : Nat) (v1 : Int) (v2 : List Int), Pn (LpO Try.prog (sub (codeOf Try.prog 226) [1, 0, 0]) (st 38 [(0, V.ow 0), (1, V.sc (.int .i64 a)), (2, V.sc (.int .i64 b)), (3, V.sc (.int .i64 n)), (10, V.sc (.int .i64 v1))] [Blk.row 3 (List.map E3 v2) []] [some 0]) (fun (y : (List Int)) => (X.out 0, st 38 [] [Blk.row 3 (List.map E3 y) []] [some 0]))) (slices_swapRangeCmpFunc_int_impl_OrderOf_1_l0 a b n fuel v1 v2)
  | 0, _, _ => Pn.none
  | fuel + 1, v1, v2 => by
    unfold slices_swapRangeCmpFunc_int_impl_OrderOf_1_l0
    exact
     Pn.ite (fun h1 =>
      Pn.ite (fun h2 =>
       Pn.bind (fun x1 h3 =>
        Pn.ite (fun h4 =>
         Pn.bind (fun x2 h5 =>
          Pn.bind (fun x3 h6 =>
           LpO.go [.bit true, .draw [21, 23], .el (E3 x1), .el (E3 x2), .loop .go ((slices_swapRangeCmpFunc_int_impl_OrderOf_1_s2 a b n v1 x1 x2 v2)), .loop .go ((slices_swapRangeCmpFunc_int_impl_OrderOf_1_s2 a b n v1 x1 x2 v2)), .loop .go ((slices_swapRangeCmpFunc_int_impl_OrderOf_1_s2 a b n v1 x1 x2 v2)), .loop .go ((slices_swapRangeCmpFunc_int_impl_OrderOf_1_s2 a b n v1 x1 x2 v2)), .el (E3 x2), .nb 0 (.row 3 (List.map E3 (v2.set ((i64 (a + v1)).toNat) x1)) []), .el (E3 x3), .nb 0 (.row 3 (List.map E3 ((v2.set ((i64 (a + v1)).toNat) x1).set ((i64 (b + v1)).toNat) x2)) []), .ren [0], .el (E3 x2), .nb 0 (.row 3 (List.map E3 (v2.set ((i64 (a + v1)).toNat) x1)) []), .el (E3 x3), .nb 0 (.row 3 (List.map E3 ((v2.set ((i64 (a + v1)).toNat) x1).set ((i64 (b + v1)).toNat) x2)) []), .ren [0], .ren [0], .el (E3 x2), .nb 0 (.row 3 (List.map E3 (v2.set ((i64 (a + v1)).toNat) x1)) []), .el (E3 x3), .nb 0 (.row 3 (List.map E3 ((v2.set ((i64 (a + v1)).toNat) x1).set ((i64 (b + v1)).toNat) x2)) []), .ren [0], .ren [0], .loop .go ((slices_swapRangeCmpFunc_int_impl_OrderOf_1_s2 a b n v1 x1 x2 v2)), .loop .go ((slices_swapRangeCmpFunc_int_impl_OrderOf_1_s2 a b n v1 x1 x2 v2)), .el (E3 x2), .nb 0 (.row 3 (List.map E3 (v2.set ((i64 (a + v1)).toNat) x1)) []), .el (E3 x3), .nb 0 (.row 3 (List.map E3 ((v2.set ((i64 (a + v1)).toNat) x1).set ((i64 (b + v1)).toNat) x2)) []), .ren [0], .el (E3 x2), .nb 0 (.row 3 (List.map E3 (v2.set ((i64 (a + v1)).toNat) x1)) []), .el (E3 x3), .nb 0 (.row 3 (List.map E3 ((v2.set ((i64 (a + v1)).toNat) x1).set ((i64 (b + v1)).toNat) x2)) []), .ren [0], .ren [0], .el (E3 x2), .nb 0 (.row 3 (List.map E3 (v2.set ((i64 (a + v1)).toNat) x1)) []), .el (E3 x3), .nb 0 (.row 3 (List.map E3 ((v2.set ((i64 (a + v1)).toNat) x1).set ((i64 (b + v1)).toNat) x2)) []), .ren [0], .ren [0], .el (E3 x2), .nb 0 (.row 3 (List.map E3 (v2.set ((i64 (a + v1)).toNat) x1)) []), .el (E3 x3), .nb 0 (.row 3 (List.map E3 ((v2.set ((i64 (a + v1)).toNat) x1).set ((i64 (b + v1)).toNat) x2)) []), .ren [0], .ren [0], .loop .go ((slices_swapRangeCmpFunc_int_impl_OrderOf_1_s2 a b n v1 x1 x2 v2)), .loop .go ((slices_swapRangeCmpFunc_int_impl_OrderOf_1_s2 a b n v1 x1 x2 v2)), .loop .go ((slices_swapRangeCmpFunc_int_impl_OrderOf_1_s2 a b n v1 x1 x2 v2)), .el (E3 x2), .nb 0 (.row 3 (List.map E3 (v2.set ((i64 (a + v1)).toNat) x1)) []), .el (E3 x3), .nb 0 (.row 3 (List.map E3 ((v2.set ((i64 (a + v1)).toNat) x1).set ((i64 (b + v1)).toNat) x2)) []), .ren [0], .el (E3 x2), .nb 0 (.row 3 (List.map E3 (v2.set ((i64 (a + v1)).toNat) x1)) []), .el (E3 x3), .nb 0 (.row 3 (List.map E3 ((v2.set ((i64 (a + v1)).toNat) x1).set ((i64 (b + v1)).toNat) x2)) []), .ren [0], .ren [0], .el (E3 x2), .nb 0 (.row 3 (List.map E3 (v2.set ((i64 (a + v1)).toNat) x1)) []), .el (E3 x3), .nb 0 (.row 3 (List.map E3 ((v2.set ((i64 (a + v1)).toNat) x1).set ((i64 (b + v1)).toNat) x2)) []), .ren [0], .ren [0], .loop .go ((slices_swapRangeCmpFunc_int_impl_OrderOf_1_s2 a b n v1 x1 x2 v2)), .loop .go ((slices_swapRangeCmpFunc_int_impl_OrderOf_1_s2 a b n v1 x1 x2 v2)), .el (E3 x2), .nb 0 (.row 3 (List.map E3 (v2.set ((i64 (a + v1)).toNat) x1)) []), .el (E3 x3), .nb 0 (.row 3 (List.map E3 ((v2.set ((i64 (a + v1)).toNat) x1).set ((i64 (b + v1)).toNat) x2)) []), .ren [0], .el (E3 x2), .nb 0 (.row 3 (List.map E3 (v2.set ((i64 (a + v1)).toNat) x1)) []), .el (E3 x3), .nb 0 (.row 3 (List.map E3 ((v2.set ((i64 (a + v1)).toNat) x1).set ((i64 (b + v1)).toNat) x2)) []), .ren [0], .ren [0], .loop .go ((slices_swapRangeCmpFunc_int_impl_OrderOf_1_s2 a b n v1 x1 x2 v2)), .el (E3 x2), .nb 0 (.row 3 (List.map E3 (v2.set ((i64 (a + v1)).toNat) x1)) []), .el (E3 x3), .nb 0 (.row 3 (List.map E3 ((v2.set ((i64 (a + v1)).toNat) x1).set ((i64 (b + v1)).toNat) x2)) []), .ren [0], .el (E3 x2), .nb 0 (.row 3 (List.map E3 (v2.set ((i64 (a + v1)).toNat) x1)) []), .el (E3 x3), .nb 0 (.row 3 (List.map E3 ((v2.set ((i64 (a + v1)).toNat) x1).set ((i64 (b + v1)).toNat) x2)) []), .ren [0], .ren [0], .el (E3 x2), .nb 0 (.row 3 (List.map E3 (v2.set ((i64 (a + v1)).toNat) x1)) []), .el (E3 x3), .nb 0 (.row 3 (List.map E3 ((v2.set ((i64 (a + v1)).toNat) x1).set ((i64 (b + v1)).toNat) x2)) []), .ren [0], .ren [0], .el (E3 x2), .nb 0 (.row 3 (List.map E3 (v2.set ((i64 (a + v1)).toNat) x1)) []), .el (E3 x3), .nb 0 (.row 3 (List.map E3 ((v2.set ((i64 (a + v1)).toNat) x1).set ((i64 (b + v1)).toNat) x2)) []), .ren [0], .ren [0], .loop .go ((slices_swapRangeCmpFunc_int_impl_OrderOf_1_s2 a b n v1 x1 x2 v2)), .loop .go ((slices_swapRangeCmpFunc_int_impl_OrderOf_1_s2 a b n v1 x1 x2 v2)), .loop .go ((slices_swapRangeCmpFunc_int_impl_OrderOf_1_s2 a b n v1 x1 x2 v2)), .el (E3 x2), .nb 0 (.row 3 (List.map E3 (v2.set ((i64 (a + v1)).toNat) x1)) []), .el (E3 x3), .nb 0 (.row 3 (List.map E3 ((v2.set ((i64 (a + v1)).toNat) x1).set ((i64 (b + v1)).toNat) x2)) []), .ren [0], .el (E3 x2), .nb 0 (.row 3 (List.map E3 (v2.set ((i64 (a + v1)).toNat) x1)) []), .el (E3 x3), .nb 0 (.row 3 (List.map E3 ((v2.set ((i64 (a + v1)).toNat) x1).set ((i64 (b + v1)).toNat) x2)) []), .ren [0], .ren [0], .el (E3 x2), .nb 0 (.row 3 (List.map E3 (v2.set ((i64 (a + v1)).toNat) x1)) []), .el (E3 x3), .nb 0 (.row 3 (List.map E3 ((v2.set ((i64 (a + v1)).toNat) x1).set ((i64 (b + v1)).toNat) x2)) []), .ren [0], .ren [0], .loop .go ((slices_swapRangeCmpFunc_int_impl_OrderOf_1_s2 a b n v1 x1 x2 v2)), .loop .go ((slices_swapRangeCmpFunc_int_impl_OrderOf_1_s2 a b n v1 x1 x2 v2)), .el (E3 x2), .nb 0 (.row 3 (List.map E3 (v2.set ((i64 (a + v1)).toNat) x1)) []), .el (E3 x3), .nb 0 (.row 3 (List.map E3 ((v2.set ((i64 (a + v1)).toNat) x1).set ((i64 (b + v1)).toNat) x2)) []), .ren [0], .el (E3 x2), .nb 0 (.row 3 (List.map E3 (v2.set ((i64 (a + v1)).toNat) x1)) []), .el (E3 x3), .nb 0 (.row 3 (List.map E3 ((v2.set ((i64 (a + v1)).toNat) x1).set ((i64 (b + v1)).toNat) x2)) []), .ren [0], .ren [0], .loop .go ((slices_swapRangeCmpFunc_int_impl_OrderOf_1_s2 a b n v1 x1 x2 v2)), .el (E3 x2), .nb 0 (.row 3 (List.map E3 (v2.set ((i64 (a + v1)).toNat) x1)) []), .el (E3 x3), .nb 0 (.row 3 (List.map E3 ((v2.set ((i64 (a + v1)).toNat) x1).set ((i64 (b + v1)).toNat) x2)) []), .ren [0], .el (E3 x2), .nb 0 (.row 3 (List.map E3 (v2.set ((i64 (a + v1)).toNat) x1)) []), .el (E3 x3), .nb 0 (.row 3 (List.map E3 ((v2.set ((i64 (a + v1)).toNat) x1).set ((i64 (b + v1)).toNat) x2)) []), .ren [0], .ren [0], .el (E3 x2), .nb 0 (.row 3 (List.map E3 (v2.set ((i64 (a + v1)).toNat) x1)) []), .el (E3 x3), .nb 0 (.row 3 (List.map E3 ((v2.set ((i64 (a + v1)).toNat) x1).set ((i64 (b + v1)).toNat) x2)) []), .ren [0], .ren [0], .el (E3 x2), .nb 0 (.row 3 (List.map E3 (v2.set ((i64 (a + v1)).toNat) x1)) []), .el (E3 x3), .nb 0 (.row 3 (List.map E3 ((v2.set ((i64 (a + v1)).toNat) x1).set ((i64 (b + v1)).toNat) x2)) []), .ren [0], .ren [0], .el (E3 x2), .nb 0 (.row 3 (List.map E3 (v2.set ((i64 (a + v1)).toNat) x1)) []), .el (E3 x3), .nb 0 (.row 3 (List.map E3 ((v2.set ((i64 (a + v1)).toNat) x1).set ((i64 (b + v1)).toNat) x2)) []), .ren [0], .wait 4, .mask [0, 1, 2, 3, 10], .ren [0]] (p := [(decide (v1 < n)) = true,
            (0 : Int) ≤ (i64 (b + v1)),
            ((i64 (b + v1)) : Int) < ((List.map E3 v2).length : Int),
            look [] ((i64 (b + v1)).toNat) = none,
            (List.map E3 v2)[(i64 (b + v1)).toNat]? = some (E3 x1),
            (0 : Int) ≤ (i64 (a + v1)),
            ((i64 (a + v1)) : Int) < ((List.map E3 v2).length : Int),
            look [] ((i64 (a + v1)).toNat) = none,
            (List.map E3 v2)[(i64 (a + v1)).toNat]? = some (E3 x2),
            (0 : Int) ≤ (i64 (a + v1)),
            ((i64 (a + v1)) : Int) < ((List.map E3 v2).length : Int),
            look [] ((i64 (a + v1)).toNat) = none,
            (List.map E3 v2)[(i64 (a + v1)).toNat]? = some (E3 x2),
            Blk.row 3 ((List.map E3 v2).set ((i64 (a + v1)).toNat) (V.sc (.int .i64 x1))) [] = Blk.row 3 (List.map E3 (v2.set ((i64 (a + v1)).toNat) x1)) [],
            (0 : Int) ≤ (i64 (b + v1)),
            ((i64 (b + v1)) : Int) < ((List.map E3 (v2.set ((i64 (a + v1)).toNat) x1)).length : Int),
            look [] ((i64 (b + v1)).toNat) = none,
            (List.map E3 (v2.set ((i64 (a + v1)).toNat) x1))[(i64 (b + v1)).toNat]? = some (E3 x3),
            Blk.row 3 ((List.map E3 (v2.set ((i64 (a + v1)).toNat) x1)).set ((i64 (b + v1)).toNat) (V.sc (.int .i64 x2))) [] = Blk.row 3 (List.map E3 ((v2.set ((i64 (a + v1)).toNat) x1).set ((i64 (b + v1)).toNat) x2)) [],
            (slices_swapRangeCmpFunc_int_impl_OrderOf_1_s2 a b n v1 x1 x2 v2) = (slices_swapRangeCmpFunc_int_impl_OrderOf_1_s2 a b n v1 x1 x2 v2),
            look [] ((i64 (a + v1)).toNat) = none,
            (List.map E3 v2)[(i64 (a + v1)).toNat]? = some (E3 x2),
            Blk.row 3 ((List.map E3 v2).set ((i64 (a + v1)).toNat) (V.sc (.int .i64 x1))) [] = Blk.row 3 (List.map E3 (v2.set ((i64 (a + v1)).toNat) x1)) [],
            (0 : Int) ≤ (i64 (b + v1)),
            ((i64 (b + v1)) : Int) < ((List.map E3 (v2.set ((i64 (a + v1)).toNat) x1)).length : Int),
            look [] ((i64 (b + v1)).toNat) = none,
            (List.map E3 (v2.set ((i64 (a + v1)).toNat) x1))[(i64 (b + v1)).toNat]? = some (E3 x3),
            Blk.row 3 ((List.map E3 (v2.set ((i64 (a + v1)).toNat) x1)).set ((i64 (b + v1)).toNat) (V.sc (.int .i64 x2))) [] = Blk.row 3 (List.map E3 ((v2.set ((i64 (a + v1)).toNat) x1).set ((i64 (b + v1)).toNat) x2)) [],
            (slices_swapRangeCmpFunc_int_impl_OrderOf_1_s2 a b n v1 x1 x2 v2) = (slices_swapRangeCmpFunc_int_impl_OrderOf_1_s2 a b n v1 x1 x2 v2),
            (slices_swapRangeCmpFunc_int_impl_OrderOf_1_s2 a b n v1 x1 x2 v2) = (slices_swapRangeCmpFunc_int_impl_OrderOf_1_s2 a b n v1 x1 x2 v2),
            look [] ((i64 (a + v1)).toNat) = none,
            (List.map E3 v2)[(i64 (a + v1)).toNat]? = some (E3 x2),
            Blk.row 3 ((List.map E3 v2).set ((i64 (a + v1)).toNat) (V.sc (.int .i64 x1))) [] = Blk.row 3 (List.map E3 (v2.set ((i64 (a + v1)).toNat) x1)) [],
            (0 : Int) ≤ (i64 (b + v1)),
            ((i64 (b + v1)) : Int) < ((List.map E3 (v2.set ((i64 (a + v1)).toNat) x1)).length : Int),
            look [] ((i64 (b + v1)).toNat) = none,
            (List.map E3 (v2.set ((i64 (a + v1)).toNat) x1))[(i64 (b + v1)).toNat]? = some (E3 x3),
            Blk.row 3 ((List.map E3 (v2.set ((i64 (a + v1)).toNat) x1)).set ((i64 (b + v1)).toNat) (V.sc (.int .i64 x2))) [] = Blk.row 3 (List.map E3 ((v2.set ((i64 (a + v1)).toNat) x1).set ((i64 (b + v1)).toNat) x2)) [],
            (slices_swapRangeCmpFunc_int_impl_OrderOf_1_s2 a b n v1 x1 x2 v2) = (slices_swapRangeCmpFunc_int_impl_OrderOf_1_s2 a b n v1 x1 x2 v2),
            (slices_swapRangeCmpFunc_int_impl_OrderOf_1_s2 a b n v1 x1 x2 v2) = (slices_swapRangeCmpFunc_int_impl_OrderOf_1_s2 a b n v1 x1 x2 v2),
            look [] ((i64 (a + v1)).toNat) = none,
            (List.map E3 v2)[(i64 (a + v1)).toNat]? = some (E3 x2),
            Blk.row 3 ((List.map E3 v2).set ((i64 (a + v1)).toNat) (V.sc (.int .i64 x1))) [] = Blk.row 3 (List.map E3 (v2.set ((i64 (a + v1)).toNat) x1)) [],
            (0 : Int) ≤ (i64 (b + v1)),
            ((i64 (b + v1)) : Int) < ((List.map E3 (v2.set ((i64 (a + v1)).toNat) x1)).length : Int),
            look [] ((i64 (b + v1)).toNat) = none,
            (List.map E3 (v2.set ((i64 (a + v1)).toNat) x1))[(i64 (b + v1)).toNat]? = some (E3 x3),
            Blk.row 3 ((List.map E3 (v2.set ((i64 (a + v1)).toNat) x1)).set ((i64 (b + v1)).toNat) (V.sc (.int .i64 x2))) [] = Blk.row 3 (List.map E3 ((v2.set ((i64 (a + v1)).toNat) x1).set ((i64 (b + v1)).toNat) x2)) [],
            (slices_swapRangeCmpFunc_int_impl_OrderOf_1_s2 a b n v1 x1 x2 v2) = (slices_swapRangeCmpFunc_int_impl_OrderOf_1_s2 a b n v1 x1 x2 v2),
            look [] ((i64 (a + v1)).toNat) = none,
            (List.map E3 v2)[(i64 (a + v1)).toNat]? = some (E3 x2),
            Blk.row 3 ((List.map E3 v2).set ((i64 (a + v1)).toNat) (V.sc (.int .i64 x1))) [] = Blk.row 3 (List.map E3 (v2.set ((i64 (a + v1)).toNat) x1)) [],
            (0 : Int) ≤ (i64 (b + v1)),
            ((i64 (b + v1)) : Int) < ((List.map E3 (v2.set ((i64 (a + v1)).toNat) x1)).length : Int),
            look [] ((i64 (b + v1)).toNat) = none,
            (List.map E3 (v2.set ((i64 (a + v1)).toNat) x1))[(i64 (b + v1)).toNat]? = some (E3 x3),
            Blk.row 3 ((List.map E3 (v2.set ((i64 (a + v1)).toNat) x1)).set ((i64 (b + v1)).toNat) (V.sc (.int .i64 x2))) [] = Blk.row 3 (List.map E3 ((v2.set ((i64 (a + v1)).toNat) x1).set ((i64 (b + v1)).toNat) x2)) [],
            (slices_swapRangeCmpFunc_int_impl_OrderOf_1_s2 a b n v1 x1 x2 v2) = (slices_swapRangeCmpFunc_int_impl_OrderOf_1_s2 a b n v1 x1 x2 v2),
            (slices_swapRangeCmpFunc_int_impl_OrderOf_1_s2 a b n v1 x1 x2 v2) = (slices_swapRangeCmpFunc_int_impl_OrderOf_1_s2 a b n v1 x1 x2 v2),
            look [] ((i64 (a + v1)).toNat) = none,
            (List.map E3 v2)[(i64 (a + v1)).toNat]? = some (E3 x2),
            Blk.row 3 ((List.map E3 v2).set ((i64 (a + v1)).toNat) (V.sc (.int .i64 x1))) [] = Blk.row 3 (List.map E3 (v2.set ((i64 (a + v1)).toNat) x1)) [],
            (0 : Int) ≤ (i64 (b + v1)),
            ((i64 (b + v1)) : Int) < ((List.map E3 (v2.set ((i64 (a + v1)).toNat) x1)).length : Int),
            look [] ((i64 (b + v1)).toNat) = none,
            (List.map E3 (v2.set ((i64 (a + v1)).toNat) x1))[(i64 (b + v1)).toNat]? = some (E3 x3),
            Blk.row 3 ((List.map E3 (v2.set ((i64 (a + v1)).toNat) x1)).set ((i64 (b + v1)).toNat) (V.sc (.int .i64 x2))) [] = Blk.row 3 (List.map E3 ((v2.set ((i64 (a + v1)).toNat) x1).set ((i64 (b + v1)).toNat) x2)) [],
            (slices_swapRangeCmpFunc_int_impl_OrderOf_1_s2 a b n v1 x1 x2 v2) = (slices_swapRangeCmpFunc_int_impl_OrderOf_1_s2 a b n v1 x1 x2 v2),
            (slices_swapRangeCmpFunc_int_impl_OrderOf_1_s2 a b n v1 x1 x2 v2) = (slices_swapRangeCmpFunc_int_impl_OrderOf_1_s2 a b n v1 x1 x2 v2),
            look [] ((i64 (a + v1)).toNat) = none,
            (List.map E3 v2)[(i64 (a + v1)).toNat]? = some (E3 x2),
            Blk.row 3 ((List.map E3 v2).set ((i64 (a + v1)).toNat) (V.sc (.int .i64 x1))) [] = Blk.row 3 (List.map E3 (v2.set ((i64 (a + v1)).toNat) x1)) [],
            (0 : Int) ≤ (i64 (b + v1)),
            ((i64 (b + v1)) : Int) < ((List.map E3 (v2.set ((i64 (a + v1)).toNat) x1)).length : Int),
            look [] ((i64 (b + v1)).toNat) = none,
            (List.map E3 (v2.set ((i64 (a + v1)).toNat) x1))[(i64 (b + v1)).toNat]? = some (E3 x3),
            Blk.row 3 ((List.map E3 (v2.set ((i64 (a + v1)).toNat) x1)).set ((i64 (b + v1)).toNat) (V.sc (.int .i64 x2))) [] = Blk.row 3 (List.map E3 ((v2.set ((i64 (a + v1)).toNat) x1).set ((i64 (b + v1)).toNat) x2)) [],
            (slices_swapRangeCmpFunc_int_impl_OrderOf_1_s2 a b n v1 x1 x2 v2) = (slices_swapRangeCmpFunc_int_impl_OrderOf_1_s2 a b n v1 x1 x2 v2),
            (slices_swapRangeCmpFunc_int_impl_OrderOf_1_s2 a b n v1 x1 x2 v2) = (slices_swapRangeCmpFunc_int_impl_OrderOf_1_s2 a b n v1 x1 x2 v2),
            look [] ((i64 (a + v1)).toNat) = none,
            (List.map E3 v2)[(i64 (a + v1)).toNat]? = some (E3 x2),
            Blk.row 3 ((List.map E3 v2).set ((i64 (a + v1)).toNat) (V.sc (.int .i64 x1))) [] = Blk.row 3 (List.map E3 (v2.set ((i64 (a + v1)).toNat) x1)) [],
            (0 : Int) ≤ (i64 (b + v1)),
            ((i64 (b + v1)) : Int) < ((List.map E3 (v2.set ((i64 (a + v1)).toNat) x1)).length : Int),
            look [] ((i64 (b + v1)).toNat) = none,
            (List.map E3 (v2.set ((i64 (a + v1)).toNat) x1))[(i64 (b + v1)).toNat]? = some (E3 x3),
            Blk.row 3 ((List.map E3 (v2.set ((i64 (a + v1)).toNat) x1)).set ((i64 (b + v1)).toNat) (V.sc (.int .i64 x2))) [] = Blk.row 3 (List.map E3 ((v2.set ((i64 (a + v1)).toNat) x1).set ((i64 (b + v1)).toNat) x2)) [],
            (slices_swapRangeCmpFunc_int_impl_OrderOf_1_s2 a b n v1 x1 x2 v2) = (slices_swapRangeCmpFunc_int_impl_OrderOf_1_s2 a b n v1 x1 x2 v2),
            look [] ((i64 (a + v1)).toNat) = none,
            (List.map E3 v2)[(i64 (a + v1)).toNat]? = some (E3 x2),
            Blk.row 3 ((List.map E3 v2).set ((i64 (a + v1)).toNat) (V.sc (.int .i64 x1))) [] = Blk.row 3 (List.map E3 (v2.set ((i64 (a + v1)).toNat) x1)) [],
            (0 : Int) ≤ (i64 (b + v1)),
            ((i64 (b + v1)) : Int) < ((List.map E3 (v2.set ((i64 (a + v1)).toNat) x1)).length : Int),
            look [] ((i64 (b + v1)).toNat) = none,
            (List.map E3 (v2.set ((i64 (a + v1)).toNat) x1))[(i64 (b + v1)).toNat]? = some (E3 x3),
            Blk.row 3 ((List.map E3 (v2.set ((i64 (a + v1)).toNat) x1)).set ((i64 (b + v1)).toNat) (V.sc (.int .i64 x2))) [] = Blk.row 3 (List.map E3 ((v2.set ((i64 (a + v1)).toNat) x1).set ((i64 (b + v1)).toNat) x2)) [],
            (slices_swapRangeCmpFunc_int_impl_OrderOf_1_s2 a b n v1 x1 x2 v2) = (slices_swapRangeCmpFunc_int_impl_OrderOf_1_s2 a b n v1 x1 x2 v2),
            (slices_swapRangeCmpFunc_int_impl_OrderOf_1_s2 a b n v1 x1 x2 v2) = (slices_swapRangeCmpFunc_int_impl_OrderOf_1_s2 a b n v1 x1 x2 v2),
            look [] ((i64 (a + v1)).toNat) = none,
            (List.map E3 v2)[(i64 (a + v1)).toNat]? = some (E3 x2),
            Blk.row 3 ((List.map E3 v2).set ((i64 (a + v1)).toNat) (V.sc (.int .i64 x1))) [] = Blk.row 3 (List.map E3 (v2.set ((i64 (a + v1)).toNat) x1)) [],
            (0 : Int) ≤ (i64 (b + v1)),
            ((i64 (b + v1)) : Int) < ((List.map E3 (v2.set ((i64 (a + v1)).toNat) x1)).length : Int),
            look [] ((i64 (b + v1)).toNat) = none,
            (List.map E3 (v2.set ((i64 (a + v1)).toNat) x1))[(i64 (b + v1)).toNat]? = some (E3 x3),
            Blk.row 3 ((List.map E3 (v2.set ((i64 (a + v1)).toNat) x1)).set ((i64 (b + v1)).toNat) (V.sc (.int .i64 x2))) [] = Blk.row 3 (List.map E3 ((v2.set ((i64 (a + v1)).toNat) x1).set ((i64 (b + v1)).toNat) x2)) [],
            (slices_swapRangeCmpFunc_int_impl_OrderOf_1_s2 a b n v1 x1 x2 v2) = (slices_swapRangeCmpFunc_int_impl_OrderOf_1_s2 a b n v1 x1 x2 v2),
            (slices_swapRangeCmpFunc_int_impl_OrderOf_1_s2 a b n v1 x1 x2 v2) = (slices_swapRangeCmpFunc_int_impl_OrderOf_1_s2 a b n v1 x1 x2 v2),
            look [] ((i64 (a + v1)).toNat) = none,
            (List.map E3 v2)[(i64 (a + v1)).toNat]? = some (E3 x2),
            Blk.row 3 ((List.map E3 v2).set ((i64 (a + v1)).toNat) (V.sc (.int .i64 x1))) [] = Blk.row 3 (List.map E3 (v2.set ((i64 (a + v1)).toNat) x1)) [],
            (0 : Int) ≤ (i64 (b + v1)),
            ((i64 (b + v1)) : Int) < ((List.map E3 (v2.set ((i64 (a + v1)).toNat) x1)).length : Int),
            look [] ((i64 (b + v1)).toNat) = none,
            (List.map E3 (v2.set ((i64 (a + v1)).toNat) x1))[(i64 (b + v1)).toNat]? = some (E3 x3),
            Blk.row 3 ((List.map E3 (v2.set ((i64 (a + v1)).toNat) x1)).set ((i64 (b + v1)).toNat) (V.sc (.int .i64 x2))) [] = Blk.row 3 (List.map E3 ((v2.set ((i64 (a + v1)).toNat) x1).set ((i64 (b + v1)).toNat) x2)) [],
            (slices_swapRangeCmpFunc_int_impl_OrderOf_1_s2 a b n v1 x1 x2 v2) = (slices_swapRangeCmpFunc_int_impl_OrderOf_1_s2 a b n v1 x1 x2 v2),
            look [] ((i64 (a + v1)).toNat) = none,
            (List.map E3 v2)[(i64 (a + v1)).toNat]? = some (E3 x2),
            Blk.row 3 ((List.map E3 v2).set ((i64 (a + v1)).toNat) (V.sc (.int .i64 x1))) [] = Blk.row 3 (List.map E3 (v2.set ((i64 (a + v1)).toNat) x1)) [],
            (0 : Int) ≤ (i64 (b + v1)),
            ((i64 (b + v1)) : Int) < ((List.map E3 (v2.set ((i64 (a + v1)).toNat) x1)).length : Int),
            look [] ((i64 (b + v1)).toNat) = none,
            (List.map E3 (v2.set ((i64 (a + v1)).toNat) x1))[(i64 (b + v1)).toNat]? = some (E3 x3),
            Blk.row 3 ((List.map E3 (v2.set ((i64 (a + v1)).toNat) x1)).set ((i64 (b + v1)).toNat) (V.sc (.int .i64 x2))) [] = Blk.row 3 (List.map E3 ((v2.set ((i64 (a + v1)).toNat) x1).set ((i64 (b + v1)).toNat) x2)) [],
            (slices_swapRangeCmpFunc_int_impl_OrderOf_1_s2 a b n v1 x1 x2 v2) = (slices_swapRangeCmpFunc_int_impl_OrderOf_1_s2 a b n v1 x1 x2 v2),
            (slices_swapRangeCmpFunc_int_impl_OrderOf_1_s2 a b n v1 x1 x2 v2) = (slices_swapRangeCmpFunc_int_impl_OrderOf_1_s2 a b n v1 x1 x2 v2),
            look [] ((i64 (a + v1)).toNat) = none,
            (List.map E3 v2)[(i64 (a + v1)).toNat]? = some (E3 x2),
            Blk.row 3 ((List.map E3 v2).set ((i64 (a + v1)).toNat) (V.sc (.int .i64 x1))) [] = Blk.row 3 (List.map E3 (v2.set ((i64 (a + v1)).toNat) x1)) [],
            (0 : Int) ≤ (i64 (b + v1)),
            ((i64 (b + v1)) : Int) < ((List.map E3 (v2.set ((i64 (a + v1)).toNat) x1)).length : Int),
            look [] ((i64 (b + v1)).toNat) = none,
            (List.map E3 (v2.set ((i64 (a + v1)).toNat) x1))[(i64 (b + v1)).toNat]? = some (E3 x3),
            Blk.row 3 ((List.map E3 (v2.set ((i64 (a + v1)).toNat) x1)).set ((i64 (b + v1)).toNat) (V.sc (.int .i64 x2))) [] = Blk.row 3 (List.map E3 ((v2.set ((i64 (a + v1)).toNat) x1).set ((i64 (b + v1)).toNat) x2)) [],
            (slices_swapRangeCmpFunc_int_impl_OrderOf_1_s2 a b n v1 x1 x2 v2) = (slices_swapRangeCmpFunc_int_impl_OrderOf_1_s2 a b n v1 x1 x2 v2),
            look [] ((i64 (a + v1)).toNat) = none,
            (List.map E3 v2)[(i64 (a + v1)).toNat]? = some (E3 x2),
            Blk.row 3 ((List.map E3 v2).set ((i64 (a + v1)).toNat) (V.sc (.int .i64 x1))) [] = Blk.row 3 (List.map E3 (v2.set ((i64 (a + v1)).toNat) x1)) [],
            (0 : Int) ≤ (i64 (b + v1)),
            ((i64 (b + v1)) : Int) < ((List.map E3 (v2.set ((i64 (a + v1)).toNat) x1)).length : Int),
            look [] ((i64 (b + v1)).toNat) = none,
            (List.map E3 (v2.set ((i64 (a + v1)).toNat) x1))[(i64 (b + v1)).toNat]? = some (E3 x3),
            Blk.row 3 ((List.map E3 (v2.set ((i64 (a + v1)).toNat) x1)).set ((i64 (b + v1)).toNat) (V.sc (.int .i64 x2))) [] = Blk.row 3 (List.map E3 ((v2.set ((i64 (a + v1)).toNat) x1).set ((i64 (b + v1)).toNat) x2)) [],
            (slices_swapRangeCmpFunc_int_impl_OrderOf_1_s2 a b n v1 x1 x2 v2) = (slices_swapRangeCmpFunc_int_impl_OrderOf_1_s2 a b n v1 x1 x2 v2),
            (slices_swapRangeCmpFunc_int_impl_OrderOf_1_s2 a b n v1 x1 x2 v2) = (slices_swapRangeCmpFunc_int_impl_OrderOf_1_s2 a b n v1 x1 x2 v2),
            look [] ((i64 (a + v1)).toNat) = none,
            (List.map E3 v2)[(i64 (a + v1)).toNat]? = some (E3 x2),
            Blk.row 3 ((List.map E3 v2).set ((i64 (a + v1)).toNat) (V.sc (.int .i64 x1))) [] = Blk.row 3 (List.map E3 (v2.set ((i64 (a + v1)).toNat) x1)) [],
            (0 : Int) ≤ (i64 (b + v1)),
            ((i64 (b + v1)) : Int) < ((List.map E3 (v2.set ((i64 (a + v1)).toNat) x1)).length : Int),
            look [] ((i64 (b + v1)).toNat) = none,
            (List.map E3 (v2.set ((i64 (a + v1)).toNat) x1))[(i64 (b + v1)).toNat]? = some (E3 x3),
            Blk.row 3 ((List.map E3 (v2.set ((i64 (a + v1)).toNat) x1)).set ((i64 (b + v1)).toNat) (V.sc (.int .i64 x2))) [] = Blk.row 3 (List.map E3 ((v2.set ((i64 (a + v1)).toNat) x1).set ((i64 (b + v1)).toNat) x2)) [],
            (slices_swapRangeCmpFunc_int_impl_OrderOf_1_s2 a b n v1 x1 x2 v2) = (slices_swapRangeCmpFunc_int_impl_OrderOf_1_s2 a b n v1 x1 x2 v2),
            (slices_swapRangeCmpFunc_int_impl_OrderOf_1_s2 a b n v1 x1 x2 v2) = (slices_swapRangeCmpFunc_int_impl_OrderOf_1_s2 a b n v1 x1 x2 v2),
            look [] ((i64 (a + v1)).toNat) = none,
            (List.map E3 v2)[(i64 (a + v1)).toNat]? = some (E3 x2),
            Blk.row 3 ((List.map E3 v2).set ((i64 (a + v1)).toNat) (V.sc (.int .i64 x1))) [] = Blk.row 3 (List.map E3 (v2.set ((i64 (a + v1)).toNat) x1)) [],
            (0 : Int) ≤ (i64 (b + v1)),
            ((i64 (b + v1)) : Int) < ((List.map E3 (v2.set ((i64 (a + v1)).toNat) x1)).length : Int),
            look [] ((i64 (b + v1)).toNat) = none,
            (List.map E3 (v2.set ((i64 (a + v1)).toNat) x1))[(i64 (b + v1)).toNat]? = some (E3 x3),
            Blk.row 3 ((List.map E3 (v2.set ((i64 (a + v1)).toNat) x1)).set ((i64 (b + v1)).toNat) (V.sc (.int .i64 x2))) [] = Blk.row 3 (List.map E3 ((v2.set ((i64 (a + v1)).toNat) x1).set ((i64 (b + v1)).toNat) x2)) [],
            (slices_swapRangeCmpFunc_int_impl_OrderOf_1_s2 a b n v1 x1 x2 v2) = (slices_swapRangeCmpFunc_int_impl_OrderOf_1_s2 a b n v1 x1 x2 v2),
            (slices_swapRangeCmpFunc_int_impl_OrderOf_1_s2 a b n v1 x1 x2 v2) = (slices_swapRangeCmpFunc_int_impl_OrderOf_1_s2 a b n v1 x1 x2 v2),
            look [] ((i64 (a + v1)).toNat) = none,
            (List.map E3 v2)[(i64 (a + v1)).toNat]? = some (E3 x2),
            Blk.row 3 ((List.map E3 v2).set ((i64 (a + v1)).toNat) (V.sc (.int .i64 x1))) [] = Blk.row 3 (List.map E3 (v2.set ((i64 (a + v1)).toNat) x1)) [],
            (0 : Int) ≤ (i64 (b + v1)),
            ((i64 (b + v1)) : Int) < ((List.map E3 (v2.set ((i64 (a + v1)).toNat) x1)).length : Int),
            look [] ((i64 (b + v1)).toNat) = none,
            (List.map E3 (v2.set ((i64 (a + v1)).toNat) x1))[(i64 (b + v1)).toNat]? = some (E3 x3),
            Blk.row 3 ((List.map E3 (v2.set ((i64 (a + v1)).toNat) x1)).set ((i64 (b + v1)).toNat) (V.sc (.int .i64 x2))) [] = Blk.row 3 (List.map E3 ((v2.set ((i64 (a + v1)).toNat) x1).set ((i64 (b + v1)).toNat) x2)) [],
            (slices_swapRangeCmpFunc_int_impl_OrderOf_1_s2 a b n v1 x1 x2 v2) = (slices_swapRangeCmpFunc_int_impl_OrderOf_1_s2 a b n v1 x1 x2 v2),
            look [] ((i64 (a + v1)).toNat) = none,
            (List.map E3 v2)[(i64 (a + v1)).toNat]? = some (E3 x2),
            Blk.row 3 ((List.map E3 v2).set ((i64 (a + v1)).toNat) (V.sc (.int .i64 x1))) [] = Blk.row 3 (List.map E3 (v2.set ((i64 (a + v1)).toNat) x1)) [],
            (0 : Int) ≤ (i64 (b + v1)),
            ((i64 (b + v1)) : Int) < ((List.map E3 (v2.set ((i64 (a + v1)).toNat) x1)).length : Int),
            look [] ((i64 (b + v1)).toNat) = none,
            (List.map E3 (v2.set ((i64 (a + v1)).toNat) x1))[(i64 (b + v1)).toNat]? = some (E3 x3),
            Blk.row 3 ((List.map E3 (v2.set ((i64 (a + v1)).toNat) x1)).set ((i64 (b + v1)).toNat) (V.sc (.int .i64 x2))) [] = Blk.row 3 (List.map E3 ((v2.set ((i64 (a + v1)).toNat) x1).set ((i64 (b + v1)).toNat) x2)) [],
            (slices_swapRangeCmpFunc_int_impl_OrderOf_1_s2 a b n v1 x1 x2 v2) = (slices_swapRangeCmpFunc_int_impl_OrderOf_1_s2 a b n v1 x1 x2 v2),
            (slices_swapRangeCmpFunc_int_impl_OrderOf_1_s2 a b n v1 x1 x2 v2) = (slices_swapRangeCmpFunc_int_impl_OrderOf_1_s2 a b n v1 x1 x2 v2),
            look [] ((i64 (a + v1)).toNat) = none,
            (List.map E3 v2)[(i64 (a + v1)).toNat]? = some (E3 x2),
            Blk.row 3 ((List.map E3 v2).set ((i64 (a + v1)).toNat) (V.sc (.int .i64 x1))) [] = Blk.row 3 (List.map E3 (v2.set ((i64 (a + v1)).toNat) x1)) [],
            (0 : Int) ≤ (i64 (b + v1)),
            ((i64 (b + v1)) : Int) < ((List.map E3 (v2.set ((i64 (a + v1)).toNat) x1)).length : Int),
            look [] ((i64 (b + v1)).toNat) = none,
            (List.map E3 (v2.set ((i64 (a + v1)).toNat) x1))[(i64 (b + v1)).toNat]? = some (E3 x3),
            Blk.row 3 ((List.map E3 (v2.set ((i64 (a + v1)).toNat) x1)).set ((i64 (b + v1)).toNat) (V.sc (.int .i64 x2))) [] = Blk.row 3 (List.map E3 ((v2.set ((i64 (a + v1)).toNat) x1).set ((i64 (b + v1)).toNat) x2)) [],
            (slices_swapRangeCmpFunc_int_impl_OrderOf_1_s2 a b n v1 x1 x2 v2) = (slices_swapRangeCmpFunc_int_impl_OrderOf_1_s2 a b n v1 x1 x2 v2),
            (slices_swapRangeCmpFunc_int_impl_OrderOf_1_s2 a b n v1 x1 x2 v2) = (slices_swapRangeCmpFunc_int_impl_OrderOf_1_s2 a b n v1 x1 x2 v2),
            look [] ((i64 (a + v1)).toNat) = none,
            (List.map E3 v2)[(i64 (a + v1)).toNat]? = some (E3 x2),
            Blk.row 3 ((List.map E3 v2).set ((i64 (a + v1)).toNat) (V.sc (.int .i64 x1))) [] = Blk.row 3 (List.map E3 (v2.set ((i64 (a + v1)).toNat) x1)) [],
            (0 : Int) ≤ (i64 (b + v1)),
            ((i64 (b + v1)) : Int) < ((List.map E3 (v2.set ((i64 (a + v1)).toNat) x1)).length : Int),
            look [] ((i64 (b + v1)).toNat) = none,
            (List.map E3 (v2.set ((i64 (a + v1)).toNat) x1))[(i64 (b + v1)).toNat]? = some (E3 x3),
            Blk.row 3 ((List.map E3 (v2.set ((i64 (a + v1)).toNat) x1)).set ((i64 (b + v1)).toNat) (V.sc (.int .i64 x2))) [] = Blk.row 3 (List.map E3 ((v2.set ((i64 (a + v1)).toNat) x1).set ((i64 (b + v1)).toNat) x2)) [],
            (slices_swapRangeCmpFunc_int_impl_OrderOf_1_s2 a b n v1 x1 x2 v2) = (slices_swapRangeCmpFunc_int_impl_OrderOf_1_s2 a b n v1 x1 x2 v2),
            look [] ((i64 (a + v1)).toNat) = none,
            (List.map E3 v2)[(i64 (a + v1)).toNat]? = some (E3 x2),
            Blk.row 3 ((List.map E3 v2).set ((i64 (a + v1)).toNat) (V.sc (.int .i64 x1))) [] = Blk.row 3 (List.map E3 (v2.set ((i64 (a + v1)).toNat) x1)) [],
            (0 : Int) ≤ (i64 (b + v1)),
            ((i64 (b + v1)) : Int) < ((List.map E3 (v2.set ((i64 (a + v1)).toNat) x1)).length : Int),
            look [] ((i64 (b + v1)).toNat) = none,
            (List.map E3 (v2.set ((i64 (a + v1)).toNat) x1))[(i64 (b + v1)).toNat]? = some (E3 x3),
            Blk.row 3 ((List.map E3 (v2.set ((i64 (a + v1)).toNat) x1)).set ((i64 (b + v1)).toNat) (V.sc (.int .i64 x2))) [] = Blk.row 3 (List.map E3 ((v2.set ((i64 (a + v1)).toNat) x1).set ((i64 (b + v1)).toNat) x2)) [],
            (slices_swapRangeCmpFunc_int_impl_OrderOf_1_s2 a b n v1 x1 x2 v2) = (slices_swapRangeCmpFunc_int_impl_OrderOf_1_s2 a b n v1 x1 x2 v2),
            (slices_swapRangeCmpFunc_int_impl_OrderOf_1_s2 a b n v1 x1 x2 v2) = (slices_swapRangeCmpFunc_int_impl_OrderOf_1_s2 a b n v1 x1 x2 v2),
            look [] ((i64 (a + v1)).toNat) = none,
            (List.map E3 v2)[(i64 (a + v1)).toNat]? = some (E3 x2),
            Blk.row 3 ((List.map E3 v2).set ((i64 (a + v1)).toNat) (V.sc (.int .i64 x1))) [] = Blk.row 3 (List.map E3 (v2.set ((i64 (a + v1)).toNat) x1)) [],
            (0 : Int) ≤ (i64 (b + v1)),
            ((i64 (b + v1)) : Int) < ((List.map E3 (v2.set ((i64 (a + v1)).toNat) x1)).length : Int),
            look [] ((i64 (b + v1)).toNat) = none,
            (List.map E3 (v2.set ((i64 (a + v1)).toNat) x1))[(i64 (b + v1)).toNat]? = some (E3 x3),
            Blk.row 3 ((List.map E3 (v2.set ((i64 (a + v1)).toNat) x1)).set ((i64 (b + v1)).toNat) (V.sc (.int .i64 x2))) [] = Blk.row 3 (List.map E3 ((v2.set ((i64 (a + v1)).toNat) x1).set ((i64 (b + v1)).toNat) x2)) [],
            (slices_swapRangeCmpFunc_int_impl_OrderOf_1_s2 a b n v1 x1 x2 v2) = (slices_swapRangeCmpFunc_int_impl_OrderOf_1_s2 a b n v1 x1 x2 v2),
            look [] ((i64 (a + v1)).toNat) = none,
            (List.map E3 v2)[(i64 (a + v1)).toNat]? = some (E3 x2),
            Blk.row 3 ((List.map E3 v2).set ((i64 (a + v1)).toNat) (V.sc (.int .i64 x1))) [] = Blk.row 3 (List.map E3 (v2.set ((i64 (a + v1)).toNat) x1)) [],
            (0 : Int) ≤ (i64 (b + v1)),
            ((i64 (b + v1)) : Int) < ((List.map E3 (v2.set ((i64 (a + v1)).toNat) x1)).length : Int),
            look [] ((i64 (b + v1)).toNat) = none,
            (List.map E3 (v2.set ((i64 (a + v1)).toNat) x1))[(i64 (b + v1)).toNat]? = some (E3 x3),
            Blk.row 3 ((List.map E3 (v2.set ((i64 (a + v1)).toNat) x1)).set ((i64 (b + v1)).toNat) (V.sc (.int .i64 x2))) [] = Blk.row 3 (List.map E3 ((v2.set ((i64 (a + v1)).toNat) x1).set ((i64 (b + v1)).toNat) x2)) [],
            (slices_swapRangeCmpFunc_int_impl_OrderOf_1_s2 a b n v1 x1 x2 v2) = (slices_swapRangeCmpFunc_int_impl_OrderOf_1_s2 a b n v1 x1 x2 v2),
            (slices_swapRangeCmpFunc_int_impl_OrderOf_1_s2 a b n v1 x1 x2 v2) = (slices_swapRangeCmpFunc_int_impl_OrderOf_1_s2 a b n v1 x1 x2 v2),
            look [] ((i64 (a + v1)).toNat) = none,
            (List.map E3 v2)[(i64 (a + v1)).toNat]? = some (E3 x2),
            Blk.row 3 ((List.map E3 v2).set ((i64 (a + v1)).toNat) (V.sc (.int .i64 x1))) [] = Blk.row 3 (List.map E3 (v2.set ((i64 (a + v1)).toNat) x1)) [],
            (0 : Int) ≤ (i64 (b + v1)),
            ((i64 (b + v1)) : Int) < ((List.map E3 (v2.set ((i64 (a + v1)).toNat) x1)).length : Int),
            look [] ((i64 (b + v1)).toNat) = none,
            (List.map E3 (v2.set ((i64 (a + v1)).toNat) x1))[(i64 (b + v1)).toNat]? = some (E3 x3),
            Blk.row 3 ((List.map E3 (v2.set ((i64 (a + v1)).toNat) x1)).set ((i64 (b + v1)).toNat) (V.sc (.int .i64 x2))) [] = Blk.row 3 (List.map E3 ((v2.set ((i64 (a + v1)).toNat) x1).set ((i64 (b + v1)).toNat) x2)) [],
            (slices_swapRangeCmpFunc_int_impl_OrderOf_1_s2 a b n v1 x1 x2 v2) = (slices_swapRangeCmpFunc_int_impl_OrderOf_1_s2 a b n v1 x1 x2 v2),
            (slices_swapRangeCmpFunc_int_impl_OrderOf_1_s2 a b n v1 x1 x2 v2) = (slices_swapRangeCmpFunc_int_impl_OrderOf_1_s2 a b n v1 x1 x2 v2),
            look [] ((i64 (a + v1)).toNat) = none,
            (List.map E3 v2)[(i64 (a + v1)).toNat]? = some (E3 x2),
            Blk.row 3 ((List.map E3 v2).set ((i64 (a + v1)).toNat) (V.sc (.int .i64 x1))) [] = Blk.row 3 (List.map E3 (v2.set ((i64 (a + v1)).toNat) x1)) [],
            (0 : Int) ≤ (i64 (b + v1)),
            ((i64 (b + v1)) : Int) < ((List.map E3 (v2.set ((i64 (a + v1)).toNat) x1)).length : Int),
            look [] ((i64 (b + v1)).toNat) = none,
            (List.map E3 (v2.set ((i64 (a + v1)).toNat) x1))[(i64 (b + v1)).toNat]? = some (E3 x3),
            Blk.row 3 ((List.map E3 (v2.set ((i64 (a + v1)).toNat) x1)).set ((i64 (b + v1)).toNat) (V.sc (.int .i64 x2))) [] = Blk.row 3 (List.map E3 ((v2.set ((i64 (a + v1)).toNat) x1).set ((i64 (b + v1)).toNat) x2)) [],
            (slices_swapRangeCmpFunc_int_impl_OrderOf_1_s2 a b n v1 x1 x2 v2) = (slices_swapRangeCmpFunc_int_impl_OrderOf_1_s2 a b n v1 x1 x2 v2),
            (slices_swapRangeCmpFunc_int_impl_OrderOf_1_s2 a b n v1 x1 x2 v2) = (slices_swapRangeCmpFunc_int_impl_OrderOf_1_s2 a b n v1 x1 x2 v2),
            look [] ((i64 (a + v1)).toNat) = none,
            (List.map E3 v2)[(i64 (a + v1)).toNat]? = some (E3 x2),
            Blk.row 3 ((List.map E3 v2).set ((i64 (a + v1)).toNat) (V.sc (.int .i64 x1))) [] = Blk.row 3 (List.map E3 (v2.set ((i64 (a + v1)).toNat) x1)) [],
            (0 : Int) ≤ (i64 (b + v1)),
            ((i64 (b + v1)) : Int) < ((List.map E3 (v2.set ((i64 (a + v1)).toNat) x1)).length : Int),
            look [] ((i64 (b + v1)).toNat) = none,
            (List.map E3 (v2.set ((i64 (a + v1)).toNat) x1))[(i64 (b + v1)).toNat]? = some (E3 x3),
            Blk.row 3 ((List.map E3 (v2.set ((i64 (a + v1)).toNat) x1)).set ((i64 (b + v1)).toNat) (V.sc (.int .i64 x2))) [] = Blk.row 3 (List.map E3 ((v2.set ((i64 (a + v1)).toNat) x1).set ((i64 (b + v1)).toNat) x2)) [],
            (slices_swapRangeCmpFunc_int_impl_OrderOf_1_s2 a b n v1 x1 x2 v2) = (slices_swapRangeCmpFunc_int_impl_OrderOf_1_s2 a b n v1 x1 x2 v2)]) (by kernel_rfl) (cj h1 (cj (od h2) (cj (map_ltN (od h2) h3) (cj rfl (cj (map_get h3) (cj (od h4) (cj (map_ltN (od h4) h5) (cj rfl (cj (map_get h5) (cj (od h4) (cj (map_ltN (od h4) h5) (cj rfl (cj (map_get h5) (cj (nb_set E3 _ _ x1) (cj (od h2) (cj (map_ltN (od h2) h6) (cj rfl (cj (map_get h6) (cj (nb_set E3 _ _ x2) (cj rfl (cj rfl (cj (map_get h5) (cj (nb_set E3 _ _ x1) (cj (od h2) (cj (map_ltN (od h2) h6) (cj rfl (cj (map_get h6) (cj (nb_set E3 _ _ x2) (cj rfl (cj rfl (cj rfl (cj (map_get h5) (cj (nb_set E3 _ _ x1) (cj (od h2) (cj (map_ltN (od h2) h6) (cj rfl (cj (map_get h6) (cj (nb_set E3 _ _ x2) (cj rfl (cj rfl (cj rfl (cj (map_get h5) (cj (nb_set E3 _ _ x1) (cj (od h2) (cj (map_ltN (od h2) h6) (cj rfl (cj (map_get h6) (cj (nb_set E3 _ _ x2) (cj rfl (cj rfl (cj (map_get h5) (cj (nb_set E3 _ _ x1) (cj (od h2) (cj (map_ltN (od h2) h6) (cj rfl (cj (map_get h6) (cj (nb_set E3 _ _ x2) (cj rfl (cj rfl (cj rfl (cj (map_get h5) (cj (nb_set E3 _ _ x1) (cj (od h2) (cj (map_ltN (od h2) h6) (cj rfl (cj (map_get h6) (cj (nb_set E3 _ _ x2) (cj rfl (cj rfl (cj rfl (cj (map_get h5) (cj (nb_set E3 _ _ x1) (cj (od h2) (cj (map_ltN (od h2) h6) (cj rfl (cj (map_get h6) (cj (nb_set E3 _ _ x2) (cj rfl (cj rfl (cj rfl (cj (map_get h5) (cj (nb_set E3 _ _ x1) (cj (od h2) (cj (map_ltN (od h2) h6) (cj rfl (cj (map_get h6) (cj (nb_set E3 _ _ x2) (cj rfl (cj rfl (cj (map_get h5) (cj (nb_set E3 _ _ x1) (cj (od h2) (cj (map_ltN (od h2) h6) (cj rfl (cj (map_get h6) (cj (nb_set E3 _ _ x2) (cj rfl (cj rfl (cj rfl (cj (map_get h5) (cj (nb_set E3 _ _ x1) (cj (od h2) (cj (map_ltN (od h2) h6) (cj rfl (cj (map_get h6) (cj (nb_set E3 _ _ x2) (cj rfl (cj rfl (cj rfl (cj (map_get h5) (cj (nb_set E3 _ _ x1) (cj (od h2) (cj (map_ltN (od h2) h6) (cj rfl (cj (map_get h6) (cj (nb_set E3 _ _ x2) (cj rfl (cj rfl (cj (map_get h5) (cj (nb_set E3 _ _ x1) (cj (od h2) (cj (map_ltN (od h2) h6) (cj rfl (cj (map_get h6) (cj (nb_set E3 _ _ x2) (cj rfl (cj rfl (cj rfl (cj (map_get h5) (cj (nb_set E3 _ _ x1) (cj (od h2) (cj (map_ltN (od h2) h6) (cj rfl (cj (map_get h6) (cj (nb_set E3 _ _ x2) (cj rfl (cj rfl (cj (map_get h5) (cj (nb_set E3 _ _ x1) (cj (od h2) (cj (map_ltN (od h2) h6) (cj rfl (cj (map_get h6) (cj (nb_set E3 _ _ x2) (cj rfl (cj rfl (cj rfl (cj (map_get h5) (cj (nb_set E3 _ _ x1) (cj (od h2) (cj (map_ltN (od h2) h6) (cj rfl (cj (map_get h6) (cj (nb_set E3 _ _ x2) (cj rfl (cj rfl (cj rfl (cj (map_get h5) (cj (nb_set E3 _ _ x1) (cj (od h2) (cj (map_ltN (od h2) h6) (cj rfl (cj (map_get h6) (cj (nb_set E3 _ _ x2) (cj rfl (cj rfl (cj rfl (cj (map_get h5) (cj (nb_set E3 _ _ x1) (cj (od h2) (cj (map_ltN (od h2) h6) (cj rfl (cj (map_get h6) (cj (nb_set E3 _ _ x2) (cj rfl (cj rfl (cj (map_get h5) (cj (nb_set E3 _ _ x1) (cj (od h2) (cj (map_ltN (od h2) h6) (cj rfl (cj (map_get h6) (cj (nb_set E3 _ _ x2) (cj rfl (cj rfl (cj rfl (cj (map_get h5) (cj (nb_set E3 _ _ x1) (cj (od h2) (cj (map_ltN (od h2) h6) (cj rfl (cj (map_get h6) (cj (nb_set E3 _ _ x2) (cj rfl (cj rfl (cj rfl (cj (map_get h5) (cj (nb_set E3 _ _ x1) (cj (od h2) (cj (map_ltN (od h2) h6) (cj rfl (cj (map_get h6) (cj (nb_set E3 _ _ x2) (cj rfl (cj rfl (cj (map_get h5) (cj (nb_set E3 _ _ x1) (cj (od h2) (cj (map_ltN (od h2) h6) (cj rfl (cj (map_get h6) (cj (nb_set E3 _ _ x2) (cj rfl (cj rfl (cj rfl (cj (map_get h5) (cj (nb_set E3 _ _ x1) (cj (od h2) (cj (map_ltN (od h2) h6) (cj rfl (cj (map_get h6) (cj (nb_set E3 _ _ x2) (cj rfl (cj rfl (cj (map_get h5) (cj (nb_set E3 _ _ x1) (cj (od h2) (cj (map_ltN (od h2) h6) (cj rfl (cj (map_get h6) (cj (nb_set E3 _ _ x2) (cj rfl (cj rfl (cj rfl (cj (map_get h5) (cj (nb_set E3 _ _ x1) (cj (od h2) (cj (map_ltN (od h2) h6) (cj rfl (cj (map_get h6) (cj (nb_set E3 _ _ x2) (cj rfl (cj rfl (cj rfl (cj (map_get h5) (cj (nb_set E3 _ _ x1) (cj (od h2) (cj (map_ltN (od h2) h6) (cj rfl (cj (map_get h6) (cj (nb_set E3 _ _ x2) (cj rfl (cj rfl (cj rfl (cj (map_get h5) (cj (nb_set E3 _ _ x1) (cj (od h2) (cj (map_ltN (od h2) h6) (cj rfl (cj (map_get h6) (cj (nb_set E3 _ _ x2) (cj1 rfl)))))))))))))))))))))))))))))))))))))))))))))))))))))))))))))))))))))))))))))))))))))))))))))))))))))))))))))))))))))))))))))))))))))))))))))))))))))))))))))))))))))))))))))))))))))))))))))))))))))))))))))))))))))))))))))))))))))))))))))))))))))))))))))))))))))) (slices_swapRangeCmpFunc_int_impl_OrderOf_1_l0_ok a b n fuel (i64 (v1 + 1)) ((v2.set ((i64 (a + v1)).toNat) x1).set ((i64 (b + v1)).toNat) x2))))) (fun h4 =>
         Pn.none))) (fun h2 =>
       Pn.none)) (fun h1 =>
      Pn.some (LpO.out [.bit false, .mask [], .ren [0]] (p := [(decide (v1 < n)) = false]) (by kernel_rfl) (show X.out 0 ≠ X.go from nofun) (cj1 h1)))
def slices_swapRangeCmpFunc_int_impl_OrderOf_1 (data : List Int) (a : Int) (b : Int) (n : Int) (cmp0_0 : List Stripe) (cmp0_1 : Int) (cmp0_2 : Int) (cmp0_3 : List Task) : Option ((List Int)) :=
 (slices_swapRangeCmpFunc_int_impl_OrderOf_1_l0 a b n FUEL 0 data).bind fun r1 =>
 some r1
theorem slices_swapRangeCmpFunc_int_impl_OrderOf_1_ok (data : List Int) (a : Int) (b : Int) (n : Int) (cmp0_0 : List Stripe) (cmp0_1 : Int) (cmp0_2 : Int) (cmp0_3 : List Task) : Pn (fun y => Fn Try.prog 226 [(true, E24 data), (false, E3 a), (false, E3 b), (false, E3 n), (false, V.fn 163 [V.cp [V.sl true 58 (List.map E58 cmp0_0), V.sc (.int .i64 cmp0_1), V.sc (.int .i64 cmp0_2), V.sl true 137 (List.map E137 cmp0_3)]])] (V.tup []) [V.sl true 3 (List.map E3 y)]) (slices_swapRangeCmpFunc_int_impl_OrderOf_1 data a b n cmp0_0 cmp0_1 cmp0_2 cmp0_3) := by
  unfold slices_swapRangeCmpFunc_int_impl_OrderOf_1
  exact
   Pn.bind (fun r1 h7 =>
    Pn.some (Fn.of [.wait 2, .mask [0, 1, 2, 3, 10], .ren [0], .loop (X.out 0) (st 38 [] [Blk.row 3 (List.map E3 r1) []] [some 0])] (p := [Loop Try.prog (sub (codeOf Try.prog 226) [1, 0, 0]) (st 38 [(0, V.ow 0), (1, V.sc (.int .i64 a)), (2, V.sc (.int .i64 b)), (3, V.sc (.int .i64 n)), (10, V.sc (.int .i64 0))] [Blk.row 3 (List.map E3 data) []] [some 0]) (X.out 0) (st 38 [] [Blk.row 3 (List.map E3 r1) []] [some 0])]) (by kernel_rfl) (cj1 (slices_swapRangeCmpFunc_int_impl_OrderOf_1_l0_ok a b n FUEL 0 data r1 h7))))
def slices_rotateCmpFunc_int_impl_OrderOf_1_l0 (m : Int) (cmp0_0 : List Stripe) (cmp0_1 : Int) (cmp0_2 : Int) (cmp0_3 : List Task) : Nat → Int → Int → (List Int) → Option (Int × (List Int))
  | 0, _, _, _ => none
  | fuel + 1, v1, v2, v3 =>
   if (v1 != v2) = true then
    if (decide (v2 < v1)) = true then
     (slices_swapRangeCmpFunc_int_impl_OrderOf_1 v3 (i64 (m - v1)) m v2 cmp0_0 cmp0_1 cmp0_2 cmp0_3).bind fun r1 =>
     slices_rotateCmpFunc_int_impl_OrderOf_1_l0 m cmp0_0 cmp0_1 cmp0_2 cmp0_3 fuel (i64 (v1 - v2)) v2 r1
    else
     (slices_swapRangeCmpFunc_int_impl_OrderOf_1 v3 (i64 (m - v1)) (i64 ((i64 (m + v2)) - v1)) v1 cmp0_0 cmp0_1 cmp0_2 cmp0_3).bind fun r2 =>
     slices_rotateCmpFunc_int_impl_OrderOf_1_l0 m cmp0_0 cmp0_1 cmp0_2 cmp0_3 fuel v1 (i64 (v2 - v1)) r2
   else
    some (v1, v3)
theorem slices_rotateCmpFunc_int_impl_OrderOf_1_l0_ok (m : Int) (cmp0_0 : List Stripe) (cmp0_1 : Int) (cmp0_2 : Int) (cmp0_3 : List Task) : ∀ (fuel : Nat) (v1 : Int) (v2 : Int) (v3 : List Int), Pn (LpO Try.prog (sub (codeOf Try.prog 225) [1, 1, 0, 0, 0]) (st 58 [(0, V.ow 0), (2, V.sc (.int .i64 m)), (4, V.fn 163 [V.cp [V.sl true 58 (List.map E58 cmp0_0), V.sc (.int .i64 cmp0_1), V.sc (.int .i64 cmp0_2), V.sl true 137 (List.map E137 cmp0_3)]]), (10, V.sc (.int .i64 v1)), (11, V.sc (.int .i64 v2))] [Blk.row 3 (List.map E3 v3) []] [some 0]) (fun (y : Int × (List Int)) => (X.out 0, st 58 [(0, V.ow 0), (2, V.sc (.int .i64 m)), (4, V.fn 163 [V.cp [V.sl true 58 (List.map E58 cmp0_0), V.sc (.int .i64 cmp0_1), V.sc (.int .i64 cmp0_2), V.sl true 137 (List.map E137 cmp0_3)]]), (10, V.sc (.int .i64 y.1))] [Blk.row 3 (List.map E3 y.2) []] [some 0]))) (slices_rotateCmpFunc_int_impl_OrderOf_1_l0 m cmp0_0 cmp0_1 cmp0_2 cmp0_3 fuel v1 v2 v3)
  | 0, _, _, _ => Pn.none
  | fuel + 1, v1, v2, v3 => by
    unfold slices_rotateCmpFunc_int_impl_OrderOf_1_l0
    exact
     Pn.ite (fun h1 =>
      Pn.ite (fun h2 =>
       Pn.bind (fun r1 h3 =>
        LpO.go [.bit true, .bit true, .call [true, false, false, false, false] (V.tup []) [V.sl true 3 (List.map E3 r1)], .wait 5, .mask [0, 2, 4, 10, 11], .ren [0]] (p := [(v1 != v2) = true,
         (decide (v2 < v1)) = true,
         Fn Try.prog 226 [(true, E24 v3), (false, E3 (i64 (m - v1))), (false, E3 m), (false, E3 v2), (false, V.fn 163 [V.cp [V.sl true 58 (List.map E58 cmp0_0), V.sc (.int .i64 cmp0_1), V.sc (.int .i64 cmp0_2), V.sl true 137 (List.map E137 cmp0_3)]])] (V.tup []) [V.sl true 3 (List.map E3 r1)],
         (true || ((V.tup []).nv && nvL [V.sl true 3 (List.map E3 r1)])) = true]) (by kernel_rfl) (cj h1 (cj h2 (cj (slices_swapRangeCmpFunc_int_impl_OrderOf_1_ok v3 (i64 (m - v1)) m v2 cmp0_0 cmp0_1 cmp0_2 cmp0_3 r1 h3) (cj1 rfl)))) (slices_rotateCmpFunc_int_impl_OrderOf_1_l0_ok m cmp0_0 cmp0_1 cmp0_2 cmp0_3 fuel (i64 (v1 - v2)) v2 r1))) (fun h2 =>
       Pn.bind (fun r2 h4 =>
        LpO.go [.bit true, .bit false, .call [true, false, false, false, false] (V.tup []) [V.sl true 3 (List.map E3 r2)], .wait 5, .mask [0, 2, 4, 10, 11], .ren [0]] (p := [(v1 != v2) = true,
         (decide (v2 < v1)) = false,
         Fn Try.prog 226 [(true, E24 v3), (false, E3 (i64 (m - v1))), (false, E3 (i64 ((i64 (m + v2)) - v1))), (false, E3 v1), (false, V.fn 163 [V.cp [V.sl true 58 (List.map E58 cmp0_0), V.sc (.int .i64 cmp0_1), V.sc (.int .i64 cmp0_2), V.sl true 137 (List.map E137 cmp0_3)]])] (V.tup []) [V.sl true 3 (List.map E3 r2)],
         (true || ((V.tup []).nv && nvL [V.sl true 3 (List.map E3 r2)])) = true]) (by kernel_rfl) (cj h1 (cj h2 (cj (slices_swapRangeCmpFunc_int_impl_OrderOf_1_ok v3 (i64 (m - v1)) (i64 ((i64 (m + v2)) - v1)) v1 cmp0_0 cmp0_1 cmp0_2 cmp0_3 r2 h4) (cj1 rfl)))) (slices_rotateCmpFunc_int_impl_OrderOf_1_l0_ok m cmp0_0 cmp0_1 cmp0_2 cmp0_3 fuel v1 (i64 (v2 - v1)) r2)))) (fun h1 =>
      Pn.some (LpO.out [.bit false, .mask [0, 2, 4, 10], .ren [0]] (p := [(v1 != v2) = false]) (by kernel_rfl) (show X.out 0 ≠ X.go from nofun) (cj1 h1)))
def slices_rotateCmpFunc_int_impl_OrderOf_1 (data : List Int) (a : Int) (m : Int) (b : Int) (cmp0_0 : List Stripe) (cmp0_1 : Int) (cmp0_2 : Int) (cmp0_3 : List Task) : Option ((List Int)) :=
 (slices_rotateCmpFunc_int_impl_OrderOf_1_l0 m cmp0_0 cmp0_1 cmp0_2 cmp0_3 FUEL (i64 (m - a)) (i64 (b - m)) data).bind fun r3 =>
 (slices_swapRangeCmpFunc_int_impl_OrderOf_1 r3.2 (i64 (m - r3.1)) m r3.1 cmp0_0 cmp0_1 cmp0_2 cmp0_3).bind fun r4 =>
 some r4
theorem slices_rotateCmpFunc_int_impl_OrderOf_1_ok (data : List Int) (a : Int) (m : Int) (b : Int) (cmp0_0 : List Stripe) (cmp0_1 : Int) (cmp0_2 : Int) (cmp0_3 : List Task) : Pn (fun y => Fn Try.prog 225 [(true, E24 data), (false, E3 a), (false, E3 m), (false, E3 b), (false, V.fn 163 [V.cp [V.sl true 58 (List.map E58 cmp0_0), V.sc (.int .i64 cmp0_1), V.sc (.int .i64 cmp0_2), V.sl true 137 (List.map E137 cmp0_3)]])] (V.tup []) [V.sl true 3 (List.map E3 y)]) (slices_rotateCmpFunc_int_impl_OrderOf_1 data a m b cmp0_0 cmp0_1 cmp0_2 cmp0_3) := by
  unfold slices_rotateCmpFunc_int_impl_OrderOf_1
  exact
   Pn.bind (fun r3 h5 =>
    Pn.bind (fun r4 h6 =>
     Pn.some (Fn.of [.wait 9, .mask [0, 2, 4, 10, 11], .ren [0], .loop (X.out 0) (st 58 [(0, V.ow 0), (2, V.sc (.int .i64 m)), (4, V.fn 163 [V.cp [V.sl true 58 (List.map E58 cmp0_0), V.sc (.int .i64 cmp0_1), V.sc (.int .i64 cmp0_2), V.sl true 137 (List.map E137 cmp0_3)]]), (10, V.sc (.int .i64 r3.1))] [Blk.row 3 (List.map E3 r3.2) []] [some 0]), .call [true, false, false, false, false] (V.tup []) [V.sl true 3 (List.map E3 r4)]] (p := [Loop Try.prog (sub (codeOf Try.prog 225) [1, 1, 0, 0, 0]) (st 58 [(0, V.ow 0), (2, V.sc (.int .i64 m)), (4, V.fn 163 [V.cp [V.sl true 58 (List.map E58 cmp0_0), V.sc (.int .i64 cmp0_1), V.sc (.int .i64 cmp0_2), V.sl true 137 (List.map E137 cmp0_3)]]), (10, V.sc (.int .i64 (i64 (m - a)))), (11, V.sc (.int .i64 (i64 (b - m))))] [Blk.row 3 (List.map E3 data) []] [some 0]) (X.out 0) (st 58 [(0, V.ow 0), (2, V.sc (.int .i64 m)), (4, V.fn 163 [V.cp [V.sl true 58 (List.map E58 cmp0_0), V.sc (.int .i64 cmp0_1), V.sc (.int .i64 cmp0_2), V.sl true 137 (List.map E137 cmp0_3)]]), (10, V.sc (.int .i64 r3.1))] [Blk.row 3 (List.map E3 r3.2) []] [some 0]),
      Fn Try.prog 226 [(true, E24 r3.2), (false, E3 (i64 (m - r3.1))), (false, E3 m), (false, E3 r3.1), (false, V.fn 163 [V.cp [V.sl true 58 (List.map E58 cmp0_0), V.sc (.int .i64 cmp0_1), V.sc (.int .i64 cmp0_2), V.sl true 137 (List.map E137 cmp0_3)]])] (V.tup []) [V.sl true 3 (List.map E3 r4)],
      (true || ((V.tup []).nv && nvL [V.sl true 3 (List.map E3 r4)])) = true]) (by kernel_rfl) (cj (slices_rotateCmpFunc_int_impl_OrderOf_1_l0_ok m cmp0_0 cmp0_1 cmp0_2 cmp0_3 FUEL (i64 (m - a)) (i64 (b - m)) data r3 h5) (cj (slices_swapRangeCmpFunc_int_impl_OrderOf_1_ok r3.2 (i64 (m - r3.1)) m r3.1 cmp0_0 cmp0_1 cmp0_2 cmp0_3 r4 h6) (cj1 rfl))))))
end Go.Proofs.YtdcejeemommkfaaM
