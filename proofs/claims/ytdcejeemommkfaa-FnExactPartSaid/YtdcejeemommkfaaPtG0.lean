/- Printed by gen.py: functions on plain data, and that the program computes them. No condition. -/
import Derived.Test.YtdcejeemommkfaaM18
import Derived.Test.YtdcejeemommkfaaProg
namespace Go.Proofs.YtdcejeemommkfaaM
set_option linter.unusedVariables false
set_option linter.unusedSimpArgs false
open Go.RowKit
set_option maxRecDepth 100000

structure Hold where
  Id : ByteArray
  Amount : Int
  Due : Int
structure Ring where
  Span : Int
  Head : Int
  Counts : List Int
  Sums : List Int
structure Slot where
  Trace : ByteArray
  Mti : ByteArray
  Reply : List Int
structure Acct where
  Id : ByteArray
  Limit : Int
  Posted : Int
  Most : Int
  MostSum : Int
  Holds : List Hold
  Ring : Ring
  Slots : List Slot
structure Stripe where
  Owner : Int
  Accts : List Acct
structure Book where
  Accts : List Acct
def E3 (x : Int) : V := V.sc (.int .i64 x)
def E9 (x : ByteArray) : V := V.sc (.string x)
def E226 (x : Hold) : V := V.agg [V.sc (.string x.Id), V.sc (.int .i64 x.Amount), V.sc (.int .i64 x.Due)]
def E207 (x : List Hold) : V := V.sl true 226 (List.map E226 x)
def E24 (x : List Int) : V := V.sl true 3 (List.map E3 x)
def E208 (x : Ring) : V := V.agg [V.sc (.int .i64 x.Span), V.sc (.int .i64 x.Head), V.sl true 3 (List.map E3 x.Counts), V.sl true 3 (List.map E3 x.Sums)]
def E5 (x : Int) : V := V.sc (.int .u8 x)
def E22 (x : List Int) : V := V.sl true 5 (List.map E5 x)
def E228 (x : Slot) : V := V.agg [V.sc (.string x.Trace), V.sc (.string x.Mti), V.sl true 5 (List.map E5 x.Reply)]
def E209 (x : List Slot) : V := V.sl true 228 (List.map E228 x)
def E211 (x : Acct) : V := V.agg [V.sc (.string x.Id), V.sc (.int .i64 x.Limit), V.sc (.int .i64 x.Posted), V.sc (.int .i64 x.Most), V.sc (.int .i64 x.MostSum), V.sl true 226 (List.map E226 x.Holds), V.sc (.int .i64 x.Ring.Span), V.sc (.int .i64 x.Ring.Head), V.sl true 3 (List.map E3 x.Ring.Counts), V.sl true 3 (List.map E3 x.Ring.Sums), V.sl true 228 (List.map E228 x.Slots)]
def E126 (x : List Acct) : V := V.sl true 211 (List.map E211 x)
def E128 (x : Stripe) : V := V.agg [V.sc (.int .i64 x.Owner), V.sl true 211 (List.map E211 x.Accts)]
def E61 (x : List Stripe) : V := V.sl true 128 (List.map E128 x)
def E4 (x : Bool) : V := V.sc (.bool x)
def E36 (x : Hold) : V := V.agg [V.sc (.string x.Id), V.sc (.int .i64 x.Amount), V.sc (.int .i64 x.Due)]
def E23 (x : List Hold) : V := V.sl true 36 (List.map E36 x)
def E26 (x : Ring) : V := V.agg [V.sc (.int .i64 x.Span), V.sc (.int .i64 x.Head), V.sl true 3 (List.map E3 x.Counts), V.sl true 3 (List.map E3 x.Sums)]
def E164 (x : Slot) : V := V.agg [V.sc (.string x.Trace), V.sc (.string x.Mti), V.sl true 5 (List.map E5 x.Reply)]
def E27 (x : List Slot) : V := V.sl true 164 (List.map E164 x)
def E29 (x : Acct) : V := V.agg [V.sc (.string x.Id), V.sc (.int .i64 x.Limit), V.sc (.int .i64 x.Posted), V.sc (.int .i64 x.Most), V.sc (.int .i64 x.MostSum), V.sl true 36 (List.map E36 x.Holds), V.sc (.int .i64 x.Ring.Span), V.sc (.int .i64 x.Ring.Head), V.sl true 3 (List.map E3 x.Ring.Counts), V.sl true 3 (List.map E3 x.Ring.Sums), V.sl true 164 (List.map E164 x.Slots)]
def E48 (x : List Acct) : V := V.sl true 29 (List.map E29 x)
def E58 (x : Stripe) : V := V.agg [V.sc (.int .i64 x.Owner), V.sl true 29 (List.map E29 x.Accts)]
def E53 (x : List Stripe) : V := V.sl true 58 (List.map E58 x)
def E50 (x : Book) : V := V.agg [V.sl true 29 (List.map E29 x.Accts)]
theorem nv_E3 (x : Int) : (E3 x).nv = true := by
  simp [E3, V.nv, nvL, nvL_all]
theorem nv_E9 (x : ByteArray) : (E9 x).nv = true := by
  simp [E9, V.nv, nvL, nvL_all]
theorem nv_E226 (x : Hold) : (E226 x).nv = true := by
  simp [E226, V.nv, nvL, nvL_all]
theorem nv_E207 (x : List Hold) : (E207 x).nv = true := by
  simp [E207, V.nv, nvL, nvL_all, nv_E226]
theorem nv_E24 (x : List Int) : (E24 x).nv = true := by
  simp [E24, V.nv, nvL, nvL_all, nv_E3]
theorem nv_E208 (x : Ring) : (E208 x).nv = true := by
  simp [E208, V.nv, nvL, nvL_all, nv_E3, nv_E3]
theorem nv_E5 (x : Int) : (E5 x).nv = true := by
  simp [E5, V.nv, nvL, nvL_all]
theorem nv_E22 (x : List Int) : (E22 x).nv = true := by
  simp [E22, V.nv, nvL, nvL_all, nv_E5]
theorem nv_E228 (x : Slot) : (E228 x).nv = true := by
  simp [E228, V.nv, nvL, nvL_all, nv_E5]
theorem nv_E209 (x : List Slot) : (E209 x).nv = true := by
  simp [E209, V.nv, nvL, nvL_all, nv_E228]
theorem nv_E211 (x : Acct) : (E211 x).nv = true := by
  simp [E211, V.nv, nvL, nvL_all, nv_E226, nv_E3, nv_E3, nv_E228]
theorem nv_E126 (x : List Acct) : (E126 x).nv = true := by
  simp [E126, V.nv, nvL, nvL_all, nv_E211]
theorem nv_E128 (x : Stripe) : (E128 x).nv = true := by
  simp [E128, V.nv, nvL, nvL_all, nv_E211]
theorem nv_E61 (x : List Stripe) : (E61 x).nv = true := by
  simp [E61, V.nv, nvL, nvL_all, nv_E128]
theorem nv_E4 (x : Bool) : (E4 x).nv = true := by
  simp [E4, V.nv, nvL, nvL_all]
theorem nv_E36 (x : Hold) : (E36 x).nv = true := by
  simp [E36, V.nv, nvL, nvL_all]
theorem nv_E23 (x : List Hold) : (E23 x).nv = true := by
  simp [E23, V.nv, nvL, nvL_all, nv_E36]
theorem nv_E26 (x : Ring) : (E26 x).nv = true := by
  simp [E26, V.nv, nvL, nvL_all, nv_E3, nv_E3]
theorem nv_E164 (x : Slot) : (E164 x).nv = true := by
  simp [E164, V.nv, nvL, nvL_all, nv_E5]
theorem nv_E27 (x : List Slot) : (E27 x).nv = true := by
  simp [E27, V.nv, nvL, nvL_all, nv_E164]
theorem nv_E29 (x : Acct) : (E29 x).nv = true := by
  simp [E29, V.nv, nvL, nvL_all, nv_E36, nv_E3, nv_E3, nv_E164]
theorem nv_E48 (x : List Acct) : (E48 x).nv = true := by
  simp [E48, V.nv, nvL, nvL_all, nv_E29]
theorem nv_E58 (x : Stripe) : (E58 x).nv = true := by
  simp [E58, V.nv, nvL, nvL_all, nv_E29]
theorem nv_E53 (x : List Stripe) : (E53 x).nv = true := by
  simp [E53, V.nv, nvL, nvL_all, nv_E58]
theorem nv_E50 (x : Book) : (E50 x).nv = true := by
  simp [E50, V.nv, nvL, nvL_all, nv_E29]
def laws_szHold (a : Hold) (left : Int) : Option (Int) :=
 if (decide ((i64 (left - (a.Id.size : Int))) < 0)) = true then
 some (-1)
 else
 some (i64 (left - (a.Id.size : Int)))
theorem laws_szHold_ok (a : Hold) (left : Int) : Pn (fun y => Fn Try.prog 221 [(false, E226 a), (false, E3 left)] (E3 y) []) (laws_szHold a left) := by
  unfold laws_szHold
  exact
   Pn.ite (fun h1 =>
   Pn.some (Fn.of [.bit true] (p := [(decide ((i64 (left - (a.Id.size : Int))) < 0)) = true]) (by kernel_rfl) (cj1 h1))) (fun h1 =>
   Pn.some (Fn.of [.bit false] (p := [(decide ((i64 (left - (a.Id.size : Int))) < 0)) = false]) (by kernel_rfl) (cj1 h1)))
def laws_szHoldS_l0 (a : List Hold) : List Hold → Int → Option (Lo Int Unit)
  | [], v1 =>
   some (.out v1)
  | x1 :: t1, v1 =>
   (laws_szHold x1 v1).bind fun r1 =>
   if (decide (r1 < 0)) = true then
   some (.ret ())
   else
   laws_szHoldS_l0 a t1 r1
theorem laws_szHoldS_l0_ok (a : List Hold) (h3 : capOk a.length = true) : ∀ (t1 p1 : List Hold) (_ : a = p1 ++ t1) (v1 : Int), Pn (LpO Try.prog (sub (codeOf Try.prog 209) [1, 1, 1, 0, 1, 0, 0]) (st 27 [(0, V.sl false 226 (List.map E226 a)), (1, V.sc (.int .i64 v1)), (5, V.sc (.int .i64 (p1.length : Int)))] [] []) (fun (y : Lo Int Unit) => Lo.elim y (fun s => (X.out 0, st 27 [(1, V.sc (.int .i64 s))] [] [])) (fun s => (X.ret, st 27 [(4, V.sc (.int .i64 (-1)))] [] [])))) (laws_szHoldS_l0 a t1 v1)
  | [], p1, h2, v1 => by
    unfold laws_szHoldS_l0
    exact
     Pn.some (LpO.out [.wait 3, .nm 14 (V.sc (.int .i64 (a.length : Int))), .bit false, .mask [1], .ren []] (p := [V.sc (.int .i64 ((List.map E226 a).length : Int)) = V.sc (.int .i64 (a.length : Int)),
      (decide ((p1.length : Int) < (a.length : Int))) = false]) (by kernel_rfl) (show X.out 0 ≠ X.go from nofun) (cj (len_nm _ _) (cj1 (rng_end h2))))
  | x1 :: t1, p1, h2, v1 => by
    unfold laws_szHoldS_l0
    exact
     Pn.bind (fun r1 h4 =>
     Pn.ite (fun h5 =>
     Pn.some (LpO.out [.wait 3, .nm 14 (V.sc (.int .i64 (a.length : Int))), .bit true, .el (E226 x1), .call [] (E3 r1) [], .bit true, .wait 1, .mask [4], .ren []] (p := [V.sc (.int .i64 ((List.map E226 a).length : Int)) = V.sc (.int .i64 (a.length : Int)),
      (decide ((p1.length : Int) < (a.length : Int))) = true,
      (0 : Int) ≤ (p1.length : Int),
      (List.map E226 a)[(p1.length : Int).toNat]? = some (E226 x1),
      Fn Try.prog 221 [(false, E226 x1), (false, E3 v1)] (E3 r1) [],
      (true || ((E3 r1).nv && nvL [])) = true,
      (decide (r1 < 0)) = true]) (by kernel_rfl) (show X.ret ≠ X.go from nofun) (cj (len_nm _ _) (cj (rng_lt h2) (cj (by omega) (cj (rng_get _ h2) (cj (laws_szHold_ok x1 v1 r1 h4) (cj rfl (cj1 h5))))))))) (fun h5 =>
     LpO.go [.wait 3, .nm 14 (V.sc (.int .i64 (a.length : Int))), .bit true, .el (E226 x1), .call [] (E3 r1) [], .bit false, .wait 3, .mask [0, 1, 5], .ren [], .nm 5 (V.sc (.int .i64 ((p1 ++ [x1]).length : Int)))] (p := [V.sc (.int .i64 ((List.map E226 a).length : Int)) = V.sc (.int .i64 (a.length : Int)),
      (decide ((p1.length : Int) < (a.length : Int))) = true,
      (0 : Int) ≤ (p1.length : Int),
      (List.map E226 a)[(p1.length : Int).toNat]? = some (E226 x1),
      Fn Try.prog 221 [(false, E226 x1), (false, E3 v1)] (E3 r1) [],
      (true || ((E3 r1).nv && nvL [])) = true,
      (decide (r1 < 0)) = false,
      V.sc (.int .i64 (i64 ((p1.length : Int) + 1))) = V.sc (.int .i64 ((p1 ++ [x1]).length : Int))]) (by kernel_rfl) (cj (len_nm _ _) (cj (rng_lt h2) (cj (by omega) (cj (rng_get _ h2) (cj (laws_szHold_ok x1 v1 r1 h4) (cj rfl (cj h5 (cj1 (rng_next h2 h3))))))))) (laws_szHoldS_l0_ok a h3 t1 (p1 ++ [x1]) (rng_step h2) r1)))
def laws_szHoldS (a : List Hold) (left : Int) : Option (Int) :=
 if (decide ((i64 (left - (a.length : Int))) < 0)) = true then
 some (-1)
 else
 if (capOk a.length) = true then
 (laws_szHoldS_l0 a a (i64 (left - (a.length : Int)))).bind fun r2 =>
 Lo.elim r2 (fun s1 =>
 some s1) (fun s2 =>
 some (-1))
 else none
theorem laws_szHoldS_ok (a : List Hold) (left : Int) : Pn (fun y => Fn Try.prog 209 [(false, E207 a), (false, E3 left)] (E3 y) []) (laws_szHoldS a left) := by
  unfold laws_szHoldS
  exact
   Pn.ite (fun h1 =>
   Pn.some (Fn.of [.wait 4, .nm 8 (V.sc (.int .i64 (a.length : Int))), .bit true] (p := [V.sc (.int .i64 ((List.map E226 a).length : Int)) = V.sc (.int .i64 (a.length : Int)),
    (decide ((i64 (left - (a.length : Int))) < 0)) = true]) (by kernel_rfl) (cj (len_nm _ _) (cj1 h1)))) (fun h1 =>
   Pn.ite (fun h6 =>
   Pn.bind (fun r2 h7 =>
   Pn.lo (fun s1 h8 =>
   Pn.some (Fn.of [.wait 4, .nm 8 (V.sc (.int .i64 (a.length : Int))), .bit false, .wait 1, .mask [0, 1, 5], .ren [], .loop (X.out 0) (st 27 [(1, V.sc (.int .i64 s1))] [] [])] (p := [V.sc (.int .i64 ((List.map E226 a).length : Int)) = V.sc (.int .i64 (a.length : Int)),
    (decide ((i64 (left - (a.length : Int))) < 0)) = false,
    Loop Try.prog (sub (codeOf Try.prog 209) [1, 1, 1, 0, 1, 0, 0]) (st 27 [(0, V.sl false 226 (List.map E226 a)), (1, V.sc (.int .i64 (i64 (left - (a.length : Int))))), (5, V.sc (.int .i64 0))] [] []) (X.out 0) (st 27 [(1, V.sc (.int .i64 s1))] [] [])]) (by kernel_rfl) (cj (len_nm _ _) (cj h1 (cj1 ((laws_szHoldS_l0_ok a h6 a [] rfl (i64 (left - (a.length : Int))) r2 h7).at h8)))))) (fun s2 h9 =>
   Pn.some (Fn.of [.wait 4, .nm 8 (V.sc (.int .i64 (a.length : Int))), .bit false, .wait 1, .mask [0, 1, 5], .ren [], .loop (X.ret) (st 27 [(4, V.sc (.int .i64 (-1)))] [] [])] (p := [V.sc (.int .i64 ((List.map E226 a).length : Int)) = V.sc (.int .i64 (a.length : Int)),
    (decide ((i64 (left - (a.length : Int))) < 0)) = false,
    Loop Try.prog (sub (codeOf Try.prog 209) [1, 1, 1, 0, 1, 0, 0]) (st 27 [(0, V.sl false 226 (List.map E226 a)), (1, V.sc (.int .i64 (i64 (left - (a.length : Int))))), (5, V.sc (.int .i64 0))] [] []) (X.ret) (st 27 [(4, V.sc (.int .i64 (-1)))] [] [])]) (by kernel_rfl) (cj (len_nm _ _) (cj h1 (cj1 ((laws_szHoldS_l0_ok a h6 a [] rfl (i64 (left - (a.length : Int))) r2 h7).at h9)))))))) (fun h6 =>
   Pn.none))
def laws_szIntS (a : List Int) (left : Int) : Option (Int) :=
 if (decide ((i64 (left - (a.length : Int))) < 0)) = true then
 some (-1)
 else
 some (i64 (left - (a.length : Int)))
theorem laws_szIntS_ok (a : List Int) (left : Int) : Pn (fun y => Fn Try.prog 199 [(false, E24 a), (false, E3 left)] (E3 y) []) (laws_szIntS a left) := by
  unfold laws_szIntS
  exact
   Pn.ite (fun h1 =>
   Pn.some (Fn.of [.wait 4, .nm 7 (V.sc (.int .i64 (a.length : Int))), .bit true] (p := [V.sc (.int .i64 ((List.map E3 a).length : Int)) = V.sc (.int .i64 (a.length : Int)),
    (decide ((i64 (left - (a.length : Int))) < 0)) = true]) (by kernel_rfl) (cj (len_nm _ _) (cj1 h1)))) (fun h1 =>
   Pn.some (Fn.of [.wait 4, .nm 7 (V.sc (.int .i64 (a.length : Int))), .bit false] (p := [V.sc (.int .i64 ((List.map E3 a).length : Int)) = V.sc (.int .i64 (a.length : Int)),
    (decide ((i64 (left - (a.length : Int))) < 0)) = false]) (by kernel_rfl) (cj (len_nm _ _) (cj1 h1))))
def laws_szRing (a : Ring) (left : Int) : Option (Int) :=
 (laws_szIntS a.Counts left).bind fun r1 =>
 if (decide (r1 < 0)) = true then
 some (-1)
 else
 (laws_szIntS a.Sums r1).bind fun r2 =>
 if (decide (r2 < 0)) = true then
 some (-1)
 else
 some r2
theorem laws_szRing_ok (a : Ring) (left : Int) : Pn (fun y => Fn Try.prog 210 [(false, E208 a), (false, E3 left)] (E3 y) []) (laws_szRing a left) := by
  unfold laws_szRing
  exact
   Pn.bind (fun r1 h1 =>
   Pn.ite (fun h2 =>
   Pn.some (Fn.of [.call [] (E3 r1) [], .bit true] (p := [Fn Try.prog 199 [(false, E24 a.Counts), (false, E3 left)] (E3 r1) [],
    (true || ((E3 r1).nv && nvL [])) = true,
    (decide (r1 < 0)) = true]) (by kernel_rfl) (cj (laws_szIntS_ok a.Counts left r1 h1) (cj rfl (cj1 h2))))) (fun h2 =>
   Pn.bind (fun r2 h3 =>
   Pn.ite (fun h4 =>
   Pn.some (Fn.of [.call [] (E3 r1) [], .bit false, .call [] (E3 r2) [], .bit true] (p := [Fn Try.prog 199 [(false, E24 a.Counts), (false, E3 left)] (E3 r1) [],
    (true || ((E3 r1).nv && nvL [])) = true,
    (decide (r1 < 0)) = false,
    Fn Try.prog 199 [(false, E24 a.Sums), (false, E3 r1)] (E3 r2) [],
    (true || ((E3 r2).nv && nvL [])) = true,
    (decide (r2 < 0)) = true]) (by kernel_rfl) (cj (laws_szIntS_ok a.Counts left r1 h1) (cj rfl (cj h2 (cj (laws_szIntS_ok a.Sums r1 r2 h3) (cj rfl (cj1 h4)))))))) (fun h4 =>
   Pn.some (Fn.of [.call [] (E3 r1) [], .bit false, .call [] (E3 r2) [], .bit false] (p := [Fn Try.prog 199 [(false, E24 a.Counts), (false, E3 left)] (E3 r1) [],
    (true || ((E3 r1).nv && nvL [])) = true,
    (decide (r1 < 0)) = false,
    Fn Try.prog 199 [(false, E24 a.Sums), (false, E3 r1)] (E3 r2) [],
    (true || ((E3 r2).nv && nvL [])) = true,
    (decide (r2 < 0)) = false]) (by kernel_rfl) (cj (laws_szIntS_ok a.Counts left r1 h1) (cj rfl (cj h2 (cj (laws_szIntS_ok a.Sums r1 r2 h3) (cj rfl (cj1 h4)))))))))))
def laws_szByteS (a : List Int) (left : Int) : Option (Int) :=
 if (decide ((i64 (left - (a.length : Int))) < 0)) = true then
 some (-1)
 else
 some (i64 (left - (a.length : Int)))
theorem laws_szByteS_ok (a : List Int) (left : Int) : Pn (fun y => Fn Try.prog 198 [(false, E22 a), (false, E3 left)] (E3 y) []) (laws_szByteS a left) := by
  unfold laws_szByteS
  exact
   Pn.ite (fun h1 =>
   Pn.some (Fn.of [.wait 4, .nm 7 (V.sc (.int .i64 (a.length : Int))), .bit true] (p := [V.sc (.int .i64 ((List.map E5 a).length : Int)) = V.sc (.int .i64 (a.length : Int)),
    (decide ((i64 (left - (a.length : Int))) < 0)) = true]) (by kernel_rfl) (cj (len_nm _ _) (cj1 h1)))) (fun h1 =>
   Pn.some (Fn.of [.wait 4, .nm 7 (V.sc (.int .i64 (a.length : Int))), .bit false] (p := [V.sc (.int .i64 ((List.map E5 a).length : Int)) = V.sc (.int .i64 (a.length : Int)),
    (decide ((i64 (left - (a.length : Int))) < 0)) = false]) (by kernel_rfl) (cj (len_nm _ _) (cj1 h1))))
def laws_szSlot (a : Slot) (left : Int) : Option (Int) :=
 if (decide ((i64 (left - (a.Trace.size : Int))) < 0)) = true then
 some (-1)
 else
 if (decide ((i64 ((i64 (left - (a.Trace.size : Int))) - (a.Mti.size : Int))) < 0)) = true then
 some (-1)
 else
 (laws_szByteS a.Reply (i64 ((i64 (left - (a.Trace.size : Int))) - (a.Mti.size : Int)))).bind fun r1 =>
 if (decide (r1 < 0)) = true then
 some (-1)
 else
 some r1
theorem laws_szSlot_ok (a : Slot) (left : Int) : Pn (fun y => Fn Try.prog 222 [(false, E228 a), (false, E3 left)] (E3 y) []) (laws_szSlot a left) := by
  unfold laws_szSlot
  exact
   Pn.ite (fun h1 =>
   Pn.some (Fn.of [.bit true] (p := [(decide ((i64 (left - (a.Trace.size : Int))) < 0)) = true]) (by kernel_rfl) (cj1 h1))) (fun h1 =>
   Pn.ite (fun h2 =>
   Pn.some (Fn.of [.bit false, .bit true] (p := [(decide ((i64 (left - (a.Trace.size : Int))) < 0)) = false,
    (decide ((i64 ((i64 (left - (a.Trace.size : Int))) - (a.Mti.size : Int))) < 0)) = true]) (by kernel_rfl) (cj h1 (cj1 h2)))) (fun h2 =>
   Pn.bind (fun r1 h3 =>
   Pn.ite (fun h4 =>
   Pn.some (Fn.of [.bit false, .bit false, .call [] (E3 r1) [], .bit true] (p := [(decide ((i64 (left - (a.Trace.size : Int))) < 0)) = false,
    (decide ((i64 ((i64 (left - (a.Trace.size : Int))) - (a.Mti.size : Int))) < 0)) = false,
    Fn Try.prog 198 [(false, E22 a.Reply), (false, E3 (i64 ((i64 (left - (a.Trace.size : Int))) - (a.Mti.size : Int))))] (E3 r1) [],
    (true || ((E3 r1).nv && nvL [])) = true,
    (decide (r1 < 0)) = true]) (by kernel_rfl) (cj h1 (cj h2 (cj (laws_szByteS_ok a.Reply (i64 ((i64 (left - (a.Trace.size : Int))) - (a.Mti.size : Int))) r1 h3) (cj rfl (cj1 h4))))))) (fun h4 =>
   Pn.some (Fn.of [.bit false, .bit false, .call [] (E3 r1) [], .bit false] (p := [(decide ((i64 (left - (a.Trace.size : Int))) < 0)) = false,
    (decide ((i64 ((i64 (left - (a.Trace.size : Int))) - (a.Mti.size : Int))) < 0)) = false,
    Fn Try.prog 198 [(false, E22 a.Reply), (false, E3 (i64 ((i64 (left - (a.Trace.size : Int))) - (a.Mti.size : Int))))] (E3 r1) [],
    (true || ((E3 r1).nv && nvL [])) = true,
    (decide (r1 < 0)) = false]) (by kernel_rfl) (cj h1 (cj h2 (cj (laws_szByteS_ok a.Reply (i64 ((i64 (left - (a.Trace.size : Int))) - (a.Mti.size : Int))) r1 h3) (cj rfl (cj1 h4))))))))))
def laws_szSlotS_l0 (a : List Slot) : List Slot → Int → Option (Lo Int Unit)
  | [], v1 =>
   some (.out v1)
  | x1 :: t1, v1 =>
   (laws_szSlot x1 v1).bind fun r1 =>
   if (decide (r1 < 0)) = true then
   some (.ret ())
   else
   laws_szSlotS_l0 a t1 r1
theorem laws_szSlotS_l0_ok (a : List Slot) (h3 : capOk a.length = true) : ∀ (t1 p1 : List Slot) (_ : a = p1 ++ t1) (v1 : Int), Pn (LpO Try.prog (sub (codeOf Try.prog 211) [1, 1, 1, 0, 1, 0, 0]) (st 27 [(0, V.sl false 228 (List.map E228 a)), (1, V.sc (.int .i64 v1)), (5, V.sc (.int .i64 (p1.length : Int)))] [] []) (fun (y : Lo Int Unit) => Lo.elim y (fun s => (X.out 0, st 27 [(1, V.sc (.int .i64 s))] [] [])) (fun s => (X.ret, st 27 [(4, V.sc (.int .i64 (-1)))] [] [])))) (laws_szSlotS_l0 a t1 v1)
  | [], p1, h2, v1 => by
    unfold laws_szSlotS_l0
    exact
     Pn.some (LpO.out [.wait 3, .nm 14 (V.sc (.int .i64 (a.length : Int))), .bit false, .mask [1], .ren []] (p := [V.sc (.int .i64 ((List.map E228 a).length : Int)) = V.sc (.int .i64 (a.length : Int)),
      (decide ((p1.length : Int) < (a.length : Int))) = false]) (by kernel_rfl) (show X.out 0 ≠ X.go from nofun) (cj (len_nm _ _) (cj1 (rng_end h2))))
  | x1 :: t1, p1, h2, v1 => by
    unfold laws_szSlotS_l0
    exact
     Pn.bind (fun r1 h4 =>
     Pn.ite (fun h5 =>
     Pn.some (LpO.out [.wait 3, .nm 14 (V.sc (.int .i64 (a.length : Int))), .bit true, .el (E228 x1), .call [] (E3 r1) [], .bit true, .wait 1, .mask [4], .ren []] (p := [V.sc (.int .i64 ((List.map E228 a).length : Int)) = V.sc (.int .i64 (a.length : Int)),
      (decide ((p1.length : Int) < (a.length : Int))) = true,
      (0 : Int) ≤ (p1.length : Int),
      (List.map E228 a)[(p1.length : Int).toNat]? = some (E228 x1),
      Fn Try.prog 222 [(false, E228 x1), (false, E3 v1)] (E3 r1) [],
      (true || ((E3 r1).nv && nvL [])) = true,
      (decide (r1 < 0)) = true]) (by kernel_rfl) (show X.ret ≠ X.go from nofun) (cj (len_nm _ _) (cj (rng_lt h2) (cj (by omega) (cj (rng_get _ h2) (cj (laws_szSlot_ok x1 v1 r1 h4) (cj rfl (cj1 h5))))))))) (fun h5 =>
     LpO.go [.wait 3, .nm 14 (V.sc (.int .i64 (a.length : Int))), .bit true, .el (E228 x1), .call [] (E3 r1) [], .bit false, .wait 3, .mask [0, 1, 5], .ren [], .nm 5 (V.sc (.int .i64 ((p1 ++ [x1]).length : Int)))] (p := [V.sc (.int .i64 ((List.map E228 a).length : Int)) = V.sc (.int .i64 (a.length : Int)),
      (decide ((p1.length : Int) < (a.length : Int))) = true,
      (0 : Int) ≤ (p1.length : Int),
      (List.map E228 a)[(p1.length : Int).toNat]? = some (E228 x1),
      Fn Try.prog 222 [(false, E228 x1), (false, E3 v1)] (E3 r1) [],
      (true || ((E3 r1).nv && nvL [])) = true,
      (decide (r1 < 0)) = false,
      V.sc (.int .i64 (i64 ((p1.length : Int) + 1))) = V.sc (.int .i64 ((p1 ++ [x1]).length : Int))]) (by kernel_rfl) (cj (len_nm _ _) (cj (rng_lt h2) (cj (by omega) (cj (rng_get _ h2) (cj (laws_szSlot_ok x1 v1 r1 h4) (cj rfl (cj h5 (cj1 (rng_next h2 h3))))))))) (laws_szSlotS_l0_ok a h3 t1 (p1 ++ [x1]) (rng_step h2) r1)))
def laws_szSlotS (a : List Slot) (left : Int) : Option (Int) :=
 if (decide ((i64 (left - (a.length : Int))) < 0)) = true then
 some (-1)
 else
 if (capOk a.length) = true then
 (laws_szSlotS_l0 a a (i64 (left - (a.length : Int)))).bind fun r2 =>
 Lo.elim r2 (fun s1 =>
 some s1) (fun s2 =>
 some (-1))
 else none
theorem laws_szSlotS_ok (a : List Slot) (left : Int) : Pn (fun y => Fn Try.prog 211 [(false, E209 a), (false, E3 left)] (E3 y) []) (laws_szSlotS a left) := by
  unfold laws_szSlotS
  exact
   Pn.ite (fun h1 =>
   Pn.some (Fn.of [.wait 4, .nm 8 (V.sc (.int .i64 (a.length : Int))), .bit true] (p := [V.sc (.int .i64 ((List.map E228 a).length : Int)) = V.sc (.int .i64 (a.length : Int)),
    (decide ((i64 (left - (a.length : Int))) < 0)) = true]) (by kernel_rfl) (cj (len_nm _ _) (cj1 h1)))) (fun h1 =>
   Pn.ite (fun h6 =>
   Pn.bind (fun r2 h7 =>
   Pn.lo (fun s1 h8 =>
   Pn.some (Fn.of [.wait 4, .nm 8 (V.sc (.int .i64 (a.length : Int))), .bit false, .wait 1, .mask [0, 1, 5], .ren [], .loop (X.out 0) (st 27 [(1, V.sc (.int .i64 s1))] [] [])] (p := [V.sc (.int .i64 ((List.map E228 a).length : Int)) = V.sc (.int .i64 (a.length : Int)),
    (decide ((i64 (left - (a.length : Int))) < 0)) = false,
    Loop Try.prog (sub (codeOf Try.prog 211) [1, 1, 1, 0, 1, 0, 0]) (st 27 [(0, V.sl false 228 (List.map E228 a)), (1, V.sc (.int .i64 (i64 (left - (a.length : Int))))), (5, V.sc (.int .i64 0))] [] []) (X.out 0) (st 27 [(1, V.sc (.int .i64 s1))] [] [])]) (by kernel_rfl) (cj (len_nm _ _) (cj h1 (cj1 ((laws_szSlotS_l0_ok a h6 a [] rfl (i64 (left - (a.length : Int))) r2 h7).at h8)))))) (fun s2 h9 =>
   Pn.some (Fn.of [.wait 4, .nm 8 (V.sc (.int .i64 (a.length : Int))), .bit false, .wait 1, .mask [0, 1, 5], .ren [], .loop (X.ret) (st 27 [(4, V.sc (.int .i64 (-1)))] [] [])] (p := [V.sc (.int .i64 ((List.map E228 a).length : Int)) = V.sc (.int .i64 (a.length : Int)),
    (decide ((i64 (left - (a.length : Int))) < 0)) = false,
    Loop Try.prog (sub (codeOf Try.prog 211) [1, 1, 1, 0, 1, 0, 0]) (st 27 [(0, V.sl false 228 (List.map E228 a)), (1, V.sc (.int .i64 (i64 (left - (a.length : Int))))), (5, V.sc (.int .i64 0))] [] []) (X.ret) (st 27 [(4, V.sc (.int .i64 (-1)))] [] [])]) (by kernel_rfl) (cj (len_nm _ _) (cj h1 (cj1 ((laws_szSlotS_l0_ok a h6 a [] rfl (i64 (left - (a.length : Int))) r2 h7).at h9)))))))) (fun h6 =>
   Pn.none))
def laws_szAcct (a : Acct) (left : Int) : Option (Int) :=
 if (decide ((i64 (left - (a.Id.size : Int))) < 0)) = true then
 some (-1)
 else
 (laws_szHoldS a.Holds (i64 (left - (a.Id.size : Int)))).bind fun r1 =>
 if (decide (r1 < 0)) = true then
 some (-1)
 else
 (laws_szRing a.Ring r1).bind fun r2 =>
 if (decide (r2 < 0)) = true then
 some (-1)
 else
 (laws_szSlotS a.Slots r2).bind fun r3 =>
 if (decide (r3 < 0)) = true then
 some (-1)
 else
 some r3
theorem laws_szAcct_ok (a : Acct) (left : Int) : Pn (fun y => Fn Try.prog 193 [(false, E211 a), (false, E3 left)] (E3 y) []) (laws_szAcct a left) := by
  unfold laws_szAcct
  exact
   Pn.ite (fun h1 =>
   Pn.some (Fn.of [.bit true] (p := [(decide ((i64 (left - (a.Id.size : Int))) < 0)) = true]) (by kernel_rfl) (cj1 h1))) (fun h1 =>
   Pn.bind (fun r1 h2 =>
   Pn.ite (fun h3 =>
   Pn.some (Fn.of [.bit false, .call [] (E3 r1) [], .bit true] (p := [(decide ((i64 (left - (a.Id.size : Int))) < 0)) = false,
    Fn Try.prog 209 [(false, E207 a.Holds), (false, E3 (i64 (left - (a.Id.size : Int))))] (E3 r1) [],
    (true || ((E3 r1).nv && nvL [])) = true,
    (decide (r1 < 0)) = true]) (by kernel_rfl) (cj h1 (cj (laws_szHoldS_ok a.Holds (i64 (left - (a.Id.size : Int))) r1 h2) (cj rfl (cj1 h3)))))) (fun h3 =>
   Pn.bind (fun r2 h4 =>
   Pn.ite (fun h5 =>
   Pn.some (Fn.of [.bit false, .call [] (E3 r1) [], .bit false, .call [] (E3 r2) [], .bit true] (p := [(decide ((i64 (left - (a.Id.size : Int))) < 0)) = false,
    Fn Try.prog 209 [(false, E207 a.Holds), (false, E3 (i64 (left - (a.Id.size : Int))))] (E3 r1) [],
    (true || ((E3 r1).nv && nvL [])) = true,
    (decide (r1 < 0)) = false,
    Fn Try.prog 210 [(false, E208 a.Ring), (false, E3 r1)] (E3 r2) [],
    (true || ((E3 r2).nv && nvL [])) = true,
    (decide (r2 < 0)) = true]) (by kernel_rfl) (cj h1 (cj (laws_szHoldS_ok a.Holds (i64 (left - (a.Id.size : Int))) r1 h2) (cj rfl (cj h3 (cj (laws_szRing_ok a.Ring r1 r2 h4) (cj rfl (cj1 h5))))))))) (fun h5 =>
   Pn.bind (fun r3 h6 =>
   Pn.ite (fun h7 =>
   Pn.some (Fn.of [.bit false, .call [] (E3 r1) [], .bit false, .call [] (E3 r2) [], .bit false, .call [] (E3 r3) [], .bit true] (p := [(decide ((i64 (left - (a.Id.size : Int))) < 0)) = false,
    Fn Try.prog 209 [(false, E207 a.Holds), (false, E3 (i64 (left - (a.Id.size : Int))))] (E3 r1) [],
    (true || ((E3 r1).nv && nvL [])) = true,
    (decide (r1 < 0)) = false,
    Fn Try.prog 210 [(false, E208 a.Ring), (false, E3 r1)] (E3 r2) [],
    (true || ((E3 r2).nv && nvL [])) = true,
    (decide (r2 < 0)) = false,
    Fn Try.prog 211 [(false, E209 a.Slots), (false, E3 r2)] (E3 r3) [],
    (true || ((E3 r3).nv && nvL [])) = true,
    (decide (r3 < 0)) = true]) (by kernel_rfl) (cj h1 (cj (laws_szHoldS_ok a.Holds (i64 (left - (a.Id.size : Int))) r1 h2) (cj rfl (cj h3 (cj (laws_szRing_ok a.Ring r1 r2 h4) (cj rfl (cj h5 (cj (laws_szSlotS_ok a.Slots r2 r3 h6) (cj rfl (cj1 h7)))))))))))) (fun h7 =>
   Pn.some (Fn.of [.bit false, .call [] (E3 r1) [], .bit false, .call [] (E3 r2) [], .bit false, .call [] (E3 r3) [], .bit false] (p := [(decide ((i64 (left - (a.Id.size : Int))) < 0)) = false,
    Fn Try.prog 209 [(false, E207 a.Holds), (false, E3 (i64 (left - (a.Id.size : Int))))] (E3 r1) [],
    (true || ((E3 r1).nv && nvL [])) = true,
    (decide (r1 < 0)) = false,
    Fn Try.prog 210 [(false, E208 a.Ring), (false, E3 r1)] (E3 r2) [],
    (true || ((E3 r2).nv && nvL [])) = true,
    (decide (r2 < 0)) = false,
    Fn Try.prog 211 [(false, E209 a.Slots), (false, E3 r2)] (E3 r3) [],
    (true || ((E3 r3).nv && nvL [])) = true,
    (decide (r3 < 0)) = false]) (by kernel_rfl) (cj h1 (cj (laws_szHoldS_ok a.Holds (i64 (left - (a.Id.size : Int))) r1 h2) (cj rfl (cj h3 (cj (laws_szRing_ok a.Ring r1 r2 h4) (cj rfl (cj h5 (cj (laws_szSlotS_ok a.Slots r2 r3 h6) (cj rfl (cj1 h7))))))))))))))))))
def laws_szAcctS_l0 (a : List Acct) : List Acct → Int → Option (Lo Int Unit)
  | [], v1 =>
   some (.out v1)
  | x1 :: t1, v1 =>
   (laws_szAcct x1 v1).bind fun r1 =>
   if (decide (r1 < 0)) = true then
   some (.ret ())
   else
   laws_szAcctS_l0 a t1 r1
theorem laws_szAcctS_l0_ok (a : List Acct) (h3 : capOk a.length = true) : ∀ (t1 p1 : List Acct) (_ : a = p1 ++ t1) (v1 : Int), Pn (LpO Try.prog (sub (codeOf Try.prog 150) [1, 1, 1, 0, 1, 0, 0]) (st 27 [(0, V.sl false 211 (List.map E211 a)), (1, V.sc (.int .i64 v1)), (5, V.sc (.int .i64 (p1.length : Int)))] [] []) (fun (y : Lo Int Unit) => Lo.elim y (fun s => (X.out 0, st 27 [(1, V.sc (.int .i64 s))] [] [])) (fun s => (X.ret, st 27 [(4, V.sc (.int .i64 (-1)))] [] [])))) (laws_szAcctS_l0 a t1 v1)
  | [], p1, h2, v1 => by
    unfold laws_szAcctS_l0
    exact
     Pn.some (LpO.out [.wait 3, .nm 14 (V.sc (.int .i64 (a.length : Int))), .bit false, .mask [1], .ren []] (p := [V.sc (.int .i64 ((List.map E211 a).length : Int)) = V.sc (.int .i64 (a.length : Int)),
      (decide ((p1.length : Int) < (a.length : Int))) = false]) (by kernel_rfl) (show X.out 0 ≠ X.go from nofun) (cj (len_nm _ _) (cj1 (rng_end h2))))
  | x1 :: t1, p1, h2, v1 => by
    unfold laws_szAcctS_l0
    exact
     Pn.bind (fun r1 h4 =>
     Pn.ite (fun h5 =>
     Pn.some (LpO.out [.wait 3, .nm 14 (V.sc (.int .i64 (a.length : Int))), .bit true, .el (E211 x1), .call [] (E3 r1) [], .bit true, .wait 1, .mask [4], .ren []] (p := [V.sc (.int .i64 ((List.map E211 a).length : Int)) = V.sc (.int .i64 (a.length : Int)),
      (decide ((p1.length : Int) < (a.length : Int))) = true,
      (0 : Int) ≤ (p1.length : Int),
      (List.map E211 a)[(p1.length : Int).toNat]? = some (E211 x1),
      Fn Try.prog 193 [(false, E211 x1), (false, E3 v1)] (E3 r1) [],
      (true || ((E3 r1).nv && nvL [])) = true,
      (decide (r1 < 0)) = true]) (by kernel_rfl) (show X.ret ≠ X.go from nofun) (cj (len_nm _ _) (cj (rng_lt h2) (cj (by omega) (cj (rng_get _ h2) (cj (laws_szAcct_ok x1 v1 r1 h4) (cj rfl (cj1 h5))))))))) (fun h5 =>
     LpO.go [.wait 3, .nm 14 (V.sc (.int .i64 (a.length : Int))), .bit true, .el (E211 x1), .call [] (E3 r1) [], .bit false, .wait 3, .mask [0, 1, 5], .ren [], .nm 5 (V.sc (.int .i64 ((p1 ++ [x1]).length : Int)))] (p := [V.sc (.int .i64 ((List.map E211 a).length : Int)) = V.sc (.int .i64 (a.length : Int)),
      (decide ((p1.length : Int) < (a.length : Int))) = true,
      (0 : Int) ≤ (p1.length : Int),
      (List.map E211 a)[(p1.length : Int).toNat]? = some (E211 x1),
      Fn Try.prog 193 [(false, E211 x1), (false, E3 v1)] (E3 r1) [],
      (true || ((E3 r1).nv && nvL [])) = true,
      (decide (r1 < 0)) = false,
      V.sc (.int .i64 (i64 ((p1.length : Int) + 1))) = V.sc (.int .i64 ((p1 ++ [x1]).length : Int))]) (by kernel_rfl) (cj (len_nm _ _) (cj (rng_lt h2) (cj (by omega) (cj (rng_get _ h2) (cj (laws_szAcct_ok x1 v1 r1 h4) (cj rfl (cj h5 (cj1 (rng_next h2 h3))))))))) (laws_szAcctS_l0_ok a h3 t1 (p1 ++ [x1]) (rng_step h2) r1)))
def laws_szAcctS (a : List Acct) (left : Int) : Option (Int) :=
 if (decide ((i64 (left - (a.length : Int))) < 0)) = true then
 some (-1)
 else
 if (capOk a.length) = true then
 (laws_szAcctS_l0 a a (i64 (left - (a.length : Int)))).bind fun r2 =>
 Lo.elim r2 (fun s1 =>
 some s1) (fun s2 =>
 some (-1))
 else none
theorem laws_szAcctS_ok (a : List Acct) (left : Int) : Pn (fun y => Fn Try.prog 150 [(false, E126 a), (false, E3 left)] (E3 y) []) (laws_szAcctS a left) := by
  unfold laws_szAcctS
  exact
   Pn.ite (fun h1 =>
   Pn.some (Fn.of [.wait 4, .nm 8 (V.sc (.int .i64 (a.length : Int))), .bit true] (p := [V.sc (.int .i64 ((List.map E211 a).length : Int)) = V.sc (.int .i64 (a.length : Int)),
    (decide ((i64 (left - (a.length : Int))) < 0)) = true]) (by kernel_rfl) (cj (len_nm _ _) (cj1 h1)))) (fun h1 =>
   Pn.ite (fun h6 =>
   Pn.bind (fun r2 h7 =>
   Pn.lo (fun s1 h8 =>
   Pn.some (Fn.of [.wait 4, .nm 8 (V.sc (.int .i64 (a.length : Int))), .bit false, .wait 1, .mask [0, 1, 5], .ren [], .loop (X.out 0) (st 27 [(1, V.sc (.int .i64 s1))] [] [])] (p := [V.sc (.int .i64 ((List.map E211 a).length : Int)) = V.sc (.int .i64 (a.length : Int)),
    (decide ((i64 (left - (a.length : Int))) < 0)) = false,
    Loop Try.prog (sub (codeOf Try.prog 150) [1, 1, 1, 0, 1, 0, 0]) (st 27 [(0, V.sl false 211 (List.map E211 a)), (1, V.sc (.int .i64 (i64 (left - (a.length : Int))))), (5, V.sc (.int .i64 0))] [] []) (X.out 0) (st 27 [(1, V.sc (.int .i64 s1))] [] [])]) (by kernel_rfl) (cj (len_nm _ _) (cj h1 (cj1 ((laws_szAcctS_l0_ok a h6 a [] rfl (i64 (left - (a.length : Int))) r2 h7).at h8)))))) (fun s2 h9 =>
   Pn.some (Fn.of [.wait 4, .nm 8 (V.sc (.int .i64 (a.length : Int))), .bit false, .wait 1, .mask [0, 1, 5], .ren [], .loop (X.ret) (st 27 [(4, V.sc (.int .i64 (-1)))] [] [])] (p := [V.sc (.int .i64 ((List.map E211 a).length : Int)) = V.sc (.int .i64 (a.length : Int)),
    (decide ((i64 (left - (a.length : Int))) < 0)) = false,
    Loop Try.prog (sub (codeOf Try.prog 150) [1, 1, 1, 0, 1, 0, 0]) (st 27 [(0, V.sl false 211 (List.map E211 a)), (1, V.sc (.int .i64 (i64 (left - (a.length : Int))))), (5, V.sc (.int .i64 0))] [] []) (X.ret) (st 27 [(4, V.sc (.int .i64 (-1)))] [] [])]) (by kernel_rfl) (cj (len_nm _ _) (cj h1 (cj1 ((laws_szAcctS_l0_ok a h6 a [] rfl (i64 (left - (a.length : Int))) r2 h7).at h9)))))))) (fun h6 =>
   Pn.none))
def laws_szStripe (a : Stripe) (left : Int) : Option (Int) :=
 (laws_szAcctS a.Accts left).bind fun r1 =>
 if (decide (r1 < 0)) = true then
 some (-1)
 else
 some r1
theorem laws_szStripe_ok (a : Stripe) (left : Int) : Pn (fun y => Fn Try.prog 91 [(false, E128 a), (false, E3 left)] (E3 y) []) (laws_szStripe a left) := by
  unfold laws_szStripe
  exact
   Pn.bind (fun r1 h1 =>
   Pn.ite (fun h2 =>
   Pn.some (Fn.of [.call [] (E3 r1) [], .bit true] (p := [Fn Try.prog 150 [(false, E126 a.Accts), (false, E3 left)] (E3 r1) [],
    (true || ((E3 r1).nv && nvL [])) = true,
    (decide (r1 < 0)) = true]) (by kernel_rfl) (cj (laws_szAcctS_ok a.Accts left r1 h1) (cj rfl (cj1 h2))))) (fun h2 =>
   Pn.some (Fn.of [.call [] (E3 r1) [], .bit false] (p := [Fn Try.prog 150 [(false, E126 a.Accts), (false, E3 left)] (E3 r1) [],
    (true || ((E3 r1).nv && nvL [])) = true,
    (decide (r1 < 0)) = false]) (by kernel_rfl) (cj (laws_szAcctS_ok a.Accts left r1 h1) (cj rfl (cj1 h2))))))
def laws_szStripeS_l0 (a : List Stripe) : List Stripe → Int → Option (Lo Int Unit)
  | [], v1 =>
   some (.out v1)
  | x1 :: t1, v1 =>
   (laws_szStripe x1 v1).bind fun r1 =>
   if (decide (r1 < 0)) = true then
   some (.ret ())
   else
   laws_szStripeS_l0 a t1 r1
theorem laws_szStripeS_l0_ok (a : List Stripe) (h3 : capOk a.length = true) : ∀ (t1 p1 : List Stripe) (_ : a = p1 ++ t1) (v1 : Int), Pn (LpO Try.prog (sub (codeOf Try.prog 30) [1, 1, 1, 0, 1, 0, 0]) (st 27 [(0, V.sl false 128 (List.map E128 a)), (1, V.sc (.int .i64 v1)), (5, V.sc (.int .i64 (p1.length : Int)))] [] []) (fun (y : Lo Int Unit) => Lo.elim y (fun s => (X.out 0, st 27 [(1, V.sc (.int .i64 s))] [] [])) (fun s => (X.ret, st 27 [(4, V.sc (.int .i64 (-1)))] [] [])))) (laws_szStripeS_l0 a t1 v1)
  | [], p1, h2, v1 => by
    unfold laws_szStripeS_l0
    exact
     Pn.some (LpO.out [.wait 3, .nm 14 (V.sc (.int .i64 (a.length : Int))), .bit false, .mask [1], .ren []] (p := [V.sc (.int .i64 ((List.map E128 a).length : Int)) = V.sc (.int .i64 (a.length : Int)),
      (decide ((p1.length : Int) < (a.length : Int))) = false]) (by kernel_rfl) (show X.out 0 ≠ X.go from nofun) (cj (len_nm _ _) (cj1 (rng_end h2))))
  | x1 :: t1, p1, h2, v1 => by
    unfold laws_szStripeS_l0
    exact
     Pn.bind (fun r1 h4 =>
     Pn.ite (fun h5 =>
     Pn.some (LpO.out [.wait 3, .nm 14 (V.sc (.int .i64 (a.length : Int))), .bit true, .el (E128 x1), .call [] (E3 r1) [], .bit true, .wait 1, .mask [4], .ren []] (p := [V.sc (.int .i64 ((List.map E128 a).length : Int)) = V.sc (.int .i64 (a.length : Int)),
      (decide ((p1.length : Int) < (a.length : Int))) = true,
      (0 : Int) ≤ (p1.length : Int),
      (List.map E128 a)[(p1.length : Int).toNat]? = some (E128 x1),
      Fn Try.prog 91 [(false, E128 x1), (false, E3 v1)] (E3 r1) [],
      (true || ((E3 r1).nv && nvL [])) = true,
      (decide (r1 < 0)) = true]) (by kernel_rfl) (show X.ret ≠ X.go from nofun) (cj (len_nm _ _) (cj (rng_lt h2) (cj (by omega) (cj (rng_get _ h2) (cj (laws_szStripe_ok x1 v1 r1 h4) (cj rfl (cj1 h5))))))))) (fun h5 =>
     LpO.go [.wait 3, .nm 14 (V.sc (.int .i64 (a.length : Int))), .bit true, .el (E128 x1), .call [] (E3 r1) [], .bit false, .wait 3, .mask [0, 1, 5], .ren [], .nm 5 (V.sc (.int .i64 ((p1 ++ [x1]).length : Int)))] (p := [V.sc (.int .i64 ((List.map E128 a).length : Int)) = V.sc (.int .i64 (a.length : Int)),
      (decide ((p1.length : Int) < (a.length : Int))) = true,
      (0 : Int) ≤ (p1.length : Int),
      (List.map E128 a)[(p1.length : Int).toNat]? = some (E128 x1),
      Fn Try.prog 91 [(false, E128 x1), (false, E3 v1)] (E3 r1) [],
      (true || ((E3 r1).nv && nvL [])) = true,
      (decide (r1 < 0)) = false,
      V.sc (.int .i64 (i64 ((p1.length : Int) + 1))) = V.sc (.int .i64 ((p1 ++ [x1]).length : Int))]) (by kernel_rfl) (cj (len_nm _ _) (cj (rng_lt h2) (cj (by omega) (cj (rng_get _ h2) (cj (laws_szStripe_ok x1 v1 r1 h4) (cj rfl (cj h5 (cj1 (rng_next h2 h3))))))))) (laws_szStripeS_l0_ok a h3 t1 (p1 ++ [x1]) (rng_step h2) r1)))
def laws_szStripeS (a : List Stripe) (left : Int) : Option (Int) :=
 if (decide ((i64 (left - (a.length : Int))) < 0)) = true then
 some (-1)
 else
 if (capOk a.length) = true then
 (laws_szStripeS_l0 a a (i64 (left - (a.length : Int)))).bind fun r2 =>
 Lo.elim r2 (fun s1 =>
 some s1) (fun s2 =>
 some (-1))
 else none
theorem laws_szStripeS_ok (a : List Stripe) (left : Int) : Pn (fun y => Fn Try.prog 30 [(false, E61 a), (false, E3 left)] (E3 y) []) (laws_szStripeS a left) := by
  unfold laws_szStripeS
  exact
   Pn.ite (fun h1 =>
   Pn.some (Fn.of [.wait 4, .nm 8 (V.sc (.int .i64 (a.length : Int))), .bit true] (p := [V.sc (.int .i64 ((List.map E128 a).length : Int)) = V.sc (.int .i64 (a.length : Int)),
    (decide ((i64 (left - (a.length : Int))) < 0)) = true]) (by kernel_rfl) (cj (len_nm _ _) (cj1 h1)))) (fun h1 =>
   Pn.ite (fun h6 =>
   Pn.bind (fun r2 h7 =>
   Pn.lo (fun s1 h8 =>
   Pn.some (Fn.of [.wait 4, .nm 8 (V.sc (.int .i64 (a.length : Int))), .bit false, .wait 1, .mask [0, 1, 5], .ren [], .loop (X.out 0) (st 27 [(1, V.sc (.int .i64 s1))] [] [])] (p := [V.sc (.int .i64 ((List.map E128 a).length : Int)) = V.sc (.int .i64 (a.length : Int)),
    (decide ((i64 (left - (a.length : Int))) < 0)) = false,
    Loop Try.prog (sub (codeOf Try.prog 30) [1, 1, 1, 0, 1, 0, 0]) (st 27 [(0, V.sl false 128 (List.map E128 a)), (1, V.sc (.int .i64 (i64 (left - (a.length : Int))))), (5, V.sc (.int .i64 0))] [] []) (X.out 0) (st 27 [(1, V.sc (.int .i64 s1))] [] [])]) (by kernel_rfl) (cj (len_nm _ _) (cj h1 (cj1 ((laws_szStripeS_l0_ok a h6 a [] rfl (i64 (left - (a.length : Int))) r2 h7).at h8)))))) (fun s2 h9 =>
   Pn.some (Fn.of [.wait 4, .nm 8 (V.sc (.int .i64 (a.length : Int))), .bit false, .wait 1, .mask [0, 1, 5], .ren [], .loop (X.ret) (st 27 [(4, V.sc (.int .i64 (-1)))] [] [])] (p := [V.sc (.int .i64 ((List.map E128 a).length : Int)) = V.sc (.int .i64 (a.length : Int)),
    (decide ((i64 (left - (a.length : Int))) < 0)) = false,
    Loop Try.prog (sub (codeOf Try.prog 30) [1, 1, 1, 0, 1, 0, 0]) (st 27 [(0, V.sl false 128 (List.map E128 a)), (1, V.sc (.int .i64 (i64 (left - (a.length : Int))))), (5, V.sc (.int .i64 0))] [] []) (X.ret) (st 27 [(4, V.sc (.int .i64 (-1)))] [] [])]) (by kernel_rfl) (cj (len_nm _ _) (cj h1 (cj1 ((laws_szStripeS_l0_ok a h6 a [] rfl (i64 (left - (a.length : Int))) r2 h7).at h9)))))))) (fun h6 =>
   Pn.none))
def laws_toHold (a : Hold) : Option (Hold) :=
 some a
theorem laws_toHold_ok (a : Hold) : Pn (fun y => Fn Try.prog 223 [(false, E226 a)] (E36 y) []) (laws_toHold a) := by
  unfold laws_toHold
  exact
   Pn.some (Fn.of [] (p := []) (by kernel_rfl) trivial)
def laws_toHoldS_l0 (a : List Hold) : List Hold → List Hold → (List Hold) → Option ((List Hold))
  | [], p1, v1 =>
   some v1
  | x1 :: t1, p1, v1 =>
   (laws_toHold x1).bind fun r1 =>
   (v1[(p1.length : Int).toNat]?).bind fun x2 =>
   laws_toHoldS_l0 a t1 (p1 ++ [x1]) (v1.set ((p1.length : Int).toNat) r1)
theorem laws_toHoldS_l0_ok (a : List Hold) (h4 : capOk a.length = true) : ∀ (t1 p1 : List Hold) (_ : a = p1 ++ t1) (v1 : List Hold), Pn (LpO Try.prog (sub (codeOf Try.prog 212) [1, 1, 0, 1, 0, 0]) (st 23 [(0, V.sl false 226 (List.map E226 a)), (3, V.ow 0), (4, V.sc (.int .i64 (p1.length : Int)))] [Blk.row 36 (List.map E36 v1) []] []) (fun (y : (List Hold)) => (X.out 0, st 23 [(3, V.ow 0)] [Blk.row 36 (List.map E36 y) []] []))) (laws_toHoldS_l0 a t1 p1 v1)
  | [], p1, h3, v1 => by
    unfold laws_toHoldS_l0
    exact
     Pn.some (LpO.out [.wait 3, .nm 10 (V.sc (.int .i64 (a.length : Int))), .bit false, .mask [3], .ren [0]] (p := [V.sc (.int .i64 ((List.map E226 a).length : Int)) = V.sc (.int .i64 (a.length : Int)),
      (decide ((p1.length : Int) < (a.length : Int))) = false]) (by kernel_rfl) (show X.out 0 ≠ X.go from nofun) (cj (len_nm _ _) (cj1 (rng_end h3))))
  | x1 :: t1, p1, h3, v1 => by
    unfold laws_toHoldS_l0
    exact
     Pn.bind (fun r1 h5 =>
     Pn.bind (fun x2 h6 =>
     LpO.go [.wait 3, .nm 10 (V.sc (.int .i64 (a.length : Int))), .bit true, .el (E226 x1), .call [] (E36 r1) [], .el (E36 x2), .nb 0 (.row 36 (List.map E36 (v1.set ((p1.length : Int).toNat) r1)) []), .wait 4, .mask [0, 3, 4], .ren [0], .nm 4 (V.sc (.int .i64 ((p1 ++ [x1]).length : Int)))] (p := [V.sc (.int .i64 ((List.map E226 a).length : Int)) = V.sc (.int .i64 (a.length : Int)),
      (decide ((p1.length : Int) < (a.length : Int))) = true,
      (0 : Int) ≤ (p1.length : Int),
      (List.map E226 a)[(p1.length : Int).toNat]? = some (E226 x1),
      Fn Try.prog 223 [(false, E226 x1)] (E36 r1) [],
      (true || ((E36 r1).nv && nvL [])) = true,
      (0 : Int) ≤ (p1.length : Int),
      ((p1.length : Int) : Int) < ((List.map E36 v1).length : Int),
      look [] ((p1.length : Int).toNat) = none,
      (List.map E36 v1)[(p1.length : Int).toNat]? = some (E36 x2),
      Blk.row 36 ((List.map E36 v1).set ((p1.length : Int).toNat) (V.agg [V.sc (.string r1.Id), V.sc (.int .i64 r1.Amount), V.sc (.int .i64 r1.Due)])) [] = Blk.row 36 (List.map E36 (v1.set ((p1.length : Int).toNat) r1)) [],
      V.sc (.int .i64 (i64 ((p1.length : Int) + 1))) = V.sc (.int .i64 ((p1 ++ [x1]).length : Int))]) (by kernel_rfl) (cj (len_nm _ _) (cj (rng_lt h3) (cj (by omega) (cj (rng_get _ h3) (cj (laws_toHold_ok x1 r1 h5) (cj rfl (cj (by omega) (cj (map_ltN (by omega) h6) (cj rfl (cj (map_get h6) (cj (nb_set E36 _ _ r1) (cj1 (rng_next h3 h4))))))))))))) (laws_toHoldS_l0_ok a h4 t1 (p1 ++ [x1]) (rng_step h3) (v1.set ((p1.length : Int).toNat) r1))))
def laws_toHoldS (a : List Hold) : Option ((List Hold)) :=
 if (decide (0 ≤ (a.length : Int))) = true then
 if (capOk (a.length : Int).toNat) = true then
 if (capOk a.length) = true then
 (laws_toHoldS_l0 a a [] (List.replicate ((a.length : Int).toNat) (Hold.mk ByteArray.empty 0 0))).bind fun r2 =>
 some r2
 else none
 else none
 else none
theorem laws_toHoldS_ok (a : List Hold) : Pn (fun y => Fn Try.prog 212 [(false, E207 a)] (E23 y) []) (laws_toHoldS a) := by
  unfold laws_toHoldS
  exact
   Pn.ite (fun h1 =>
   Pn.ite (fun h2 =>
   Pn.ite (fun h7 =>
   Pn.bind (fun r2 h8 =>
   Pn.some (Fn.of [.wait 3, .nm 6 (V.sc (.int .i64 (a.length : Int))), .wait 1, .nb 0 (.row 36 (List.map E36 (List.replicate ((a.length : Int).toNat) (Hold.mk ByteArray.empty 0 0))) []), .wait 3, .mask [0, 3, 4], .ren [0], .loop (X.out 0) (st 23 [(3, V.ow 0)] [Blk.row 36 (List.map E36 r2) []] [])] (p := [V.sc (.int .i64 ((List.map E226 a).length : Int)) = V.sc (.int .i64 (a.length : Int)),
    ((a.length : Int) : Int) = (a.length : Int),
    (0 : Int) ≤ (a.length : Int),
    ((a.length : Int) : Int) ≤ 9223372036854775807,
    32 * (a.length : Int).toNat ≤ 281474976710656,
    Blk.row 36 (List.replicate ((a.length : Int).toNat) (V.agg [V.sc (.string ByteArray.empty), V.sc (.int .i64 0), V.sc (.int .i64 0)])) [] = Blk.row 36 (List.map E36 (List.replicate ((a.length : Int).toNat) (Hold.mk ByteArray.empty 0 0))) [],
    Loop Try.prog (sub (codeOf Try.prog 212) [1, 1, 0, 1, 0, 0]) (st 23 [(0, V.sl false 226 (List.map E226 a)), (3, V.ow 0), (4, V.sc (.int .i64 0))] [Blk.row 36 (List.map E36 (List.replicate ((a.length : Int).toNat) (Hold.mk ByteArray.empty 0 0))) []] []) (X.out 0) (st 23 [(3, V.ow 0)] [Blk.row 36 (List.map E36 r2) []] [])]) (by kernel_rfl) (cj (len_nm _ _) (cj rfl (cj (od h1) (cj (cap3 h1 h2) (cj (cap4 h2 (by decide)) (cj (nb_rep E36 _ (Hold.mk ByteArray.empty 0 0)) (cj1 (laws_toHoldS_l0_ok a h7 a [] rfl (List.replicate ((a.length : Int).toNat) (Hold.mk ByteArray.empty 0 0)) r2 h8))))))))))) (fun h7 =>
   Pn.none)) (fun h2 =>
   Pn.none)) (fun h1 =>
   Pn.none)
def laws_toIntS_l0 (a : List Int) : List Int → List Int → (List Int) → Option ((List Int))
  | [], p1, v1 =>
   some v1
  | x1 :: t1, p1, v1 =>
   (v1[(p1.length : Int).toNat]?).bind fun x2 =>
   laws_toIntS_l0 a t1 (p1 ++ [x1]) (v1.set ((p1.length : Int).toNat) x1)
theorem laws_toIntS_l0_ok (a : List Int) (h4 : capOk a.length = true) : ∀ (t1 p1 : List Int) (_ : a = p1 ++ t1) (v1 : List Int), Pn (LpO Try.prog (sub (codeOf Try.prog 39) [1, 1, 0, 1, 0, 0]) (st 22 [(0, V.sl false 3 (List.map E3 a)), (3, V.ow 0), (4, V.sc (.int .i64 (p1.length : Int)))] [Blk.row 3 (List.map E3 v1) []] []) (fun (y : (List Int)) => (X.out 0, st 22 [(3, V.ow 0)] [Blk.row 3 (List.map E3 y) []] []))) (laws_toIntS_l0 a t1 p1 v1)
  | [], p1, h3, v1 => by
    unfold laws_toIntS_l0
    exact
     Pn.some (LpO.out [.wait 3, .nm 10 (V.sc (.int .i64 (a.length : Int))), .bit false, .mask [3], .ren [0]] (p := [V.sc (.int .i64 ((List.map E3 a).length : Int)) = V.sc (.int .i64 (a.length : Int)),
      (decide ((p1.length : Int) < (a.length : Int))) = false]) (by kernel_rfl) (show X.out 0 ≠ X.go from nofun) (cj (len_nm _ _) (cj1 (rng_end h3))))
  | x1 :: t1, p1, h3, v1 => by
    unfold laws_toIntS_l0
    exact
     Pn.bind (fun x2 h5 =>
     LpO.go [.wait 3, .nm 10 (V.sc (.int .i64 (a.length : Int))), .bit true, .el (E3 x1), .el (E3 x2), .nb 0 (.row 3 (List.map E3 (v1.set ((p1.length : Int).toNat) x1)) []), .wait 4, .mask [0, 3, 4], .ren [0], .nm 4 (V.sc (.int .i64 ((p1 ++ [x1]).length : Int)))] (p := [V.sc (.int .i64 ((List.map E3 a).length : Int)) = V.sc (.int .i64 (a.length : Int)),
      (decide ((p1.length : Int) < (a.length : Int))) = true,
      (0 : Int) ≤ (p1.length : Int),
      (List.map E3 a)[(p1.length : Int).toNat]? = some (E3 x1),
      (0 : Int) ≤ (p1.length : Int),
      ((p1.length : Int) : Int) < ((List.map E3 v1).length : Int),
      look [] ((p1.length : Int).toNat) = none,
      (List.map E3 v1)[(p1.length : Int).toNat]? = some (E3 x2),
      Blk.row 3 ((List.map E3 v1).set ((p1.length : Int).toNat) (V.sc (.int .i64 x1))) [] = Blk.row 3 (List.map E3 (v1.set ((p1.length : Int).toNat) x1)) [],
      V.sc (.int .i64 (i64 ((p1.length : Int) + 1))) = V.sc (.int .i64 ((p1 ++ [x1]).length : Int))]) (by kernel_rfl) (cj (len_nm _ _) (cj (rng_lt h3) (cj (by omega) (cj (rng_get _ h3) (cj (by omega) (cj (map_ltN (by omega) h5) (cj rfl (cj (map_get h5) (cj (nb_set E3 _ _ x1) (cj1 (rng_next h3 h4))))))))))) (laws_toIntS_l0_ok a h4 t1 (p1 ++ [x1]) (rng_step h3) (v1.set ((p1.length : Int).toNat) x1)))
def laws_toIntS (a : List Int) : Option ((List Int)) :=
 if (decide (0 ≤ (a.length : Int))) = true then
 if (capOk (a.length : Int).toNat) = true then
 if (capOk a.length) = true then
 (laws_toIntS_l0 a a [] (List.replicate ((a.length : Int).toNat) 0)).bind fun r1 =>
 some r1
 else none
 else none
 else none
theorem laws_toIntS_ok (a : List Int) : Pn (fun y => Fn Try.prog 39 [(false, E24 a)] (E24 y) []) (laws_toIntS a) := by
  unfold laws_toIntS
  exact
   Pn.ite (fun h1 =>
   Pn.ite (fun h2 =>
   Pn.ite (fun h6 =>
   Pn.bind (fun r1 h7 =>
   Pn.some (Fn.of [.wait 3, .nm 6 (V.sc (.int .i64 (a.length : Int))), .wait 1, .nb 0 (.row 3 (List.map E3 (List.replicate ((a.length : Int).toNat) 0)) []), .wait 3, .mask [0, 3, 4], .ren [0], .loop (X.out 0) (st 22 [(3, V.ow 0)] [Blk.row 3 (List.map E3 r1) []] [])] (p := [V.sc (.int .i64 ((List.map E3 a).length : Int)) = V.sc (.int .i64 (a.length : Int)),
    ((a.length : Int) : Int) = (a.length : Int),
    (0 : Int) ≤ (a.length : Int),
    ((a.length : Int) : Int) ≤ 9223372036854775807,
    8 * (a.length : Int).toNat ≤ 281474976710656,
    Blk.row 3 (List.replicate ((a.length : Int).toNat) (V.sc (.int .i64 0))) [] = Blk.row 3 (List.map E3 (List.replicate ((a.length : Int).toNat) 0)) [],
    Loop Try.prog (sub (codeOf Try.prog 39) [1, 1, 0, 1, 0, 0]) (st 22 [(0, V.sl false 3 (List.map E3 a)), (3, V.ow 0), (4, V.sc (.int .i64 0))] [Blk.row 3 (List.map E3 (List.replicate ((a.length : Int).toNat) 0)) []] []) (X.out 0) (st 22 [(3, V.ow 0)] [Blk.row 3 (List.map E3 r1) []] [])]) (by kernel_rfl) (cj (len_nm _ _) (cj rfl (cj (od h1) (cj (cap3 h1 h2) (cj (cap4 h2 (by decide)) (cj (nb_rep E3 _ 0) (cj1 (laws_toIntS_l0_ok a h6 a [] rfl (List.replicate ((a.length : Int).toNat) 0) r1 h7))))))))))) (fun h6 =>
   Pn.none)) (fun h2 =>
   Pn.none)) (fun h1 =>
   Pn.none)
def laws_toRing (a : Ring) : Option (Ring) :=
 (laws_toIntS a.Counts).bind fun r1 =>
 (laws_toIntS a.Sums).bind fun r2 =>
 some (Ring.mk a.Span a.Head r1 r2)
theorem laws_toRing_ok (a : Ring) : Pn (fun y => Fn Try.prog 213 [(false, E208 a)] (E26 y) []) (laws_toRing a) := by
  unfold laws_toRing
  exact
   Pn.bind (fun r1 h1 =>
   Pn.bind (fun r2 h2 =>
   Pn.some (Fn.of [.call [] (E24 r1) [], .call [] (E24 r2) []] (p := [Fn Try.prog 39 [(false, E24 a.Counts)] (E24 r1) [],
    (true || ((E24 r1).nv && nvL [])) = true,
    Fn Try.prog 39 [(false, E24 a.Sums)] (E24 r2) [],
    (true || ((E24 r2).nv && nvL [])) = true]) (by kernel_rfl) (cj (laws_toIntS_ok a.Counts r1 h1) (cj rfl (cj (laws_toIntS_ok a.Sums r2 h2) (cj1 rfl)))))))
def laws_toByteS_l0 (a : List Int) : List Int → List Int → (List Int) → Option ((List Int))
  | [], p1, v1 =>
   some v1
  | x1 :: t1, p1, v1 =>
   (v1[(p1.length : Int).toNat]?).bind fun x2 =>
   laws_toByteS_l0 a t1 (p1 ++ [x1]) (v1.set ((p1.length : Int).toNat) x1)
theorem laws_toByteS_l0_ok (a : List Int) (h4 : capOk a.length = true) : ∀ (t1 p1 : List Int) (_ : a = p1 ++ t1) (v1 : List Int), Pn (LpO Try.prog (sub (codeOf Try.prog 200) [1, 1, 0, 1, 0, 0]) (st 22 [(0, V.sl false 5 (List.map E5 a)), (3, V.ow 0), (4, V.sc (.int .i64 (p1.length : Int)))] [Blk.row 5 (List.map E5 v1) []] []) (fun (y : (List Int)) => (X.out 0, st 22 [(3, V.ow 0)] [Blk.row 5 (List.map E5 y) []] []))) (laws_toByteS_l0 a t1 p1 v1)
  | [], p1, h3, v1 => by
    unfold laws_toByteS_l0
    exact
     Pn.some (LpO.out [.wait 3, .nm 10 (V.sc (.int .i64 (a.length : Int))), .bit false, .mask [3], .ren [0]] (p := [V.sc (.int .i64 ((List.map E5 a).length : Int)) = V.sc (.int .i64 (a.length : Int)),
      (decide ((p1.length : Int) < (a.length : Int))) = false]) (by kernel_rfl) (show X.out 0 ≠ X.go from nofun) (cj (len_nm _ _) (cj1 (rng_end h3))))
  | x1 :: t1, p1, h3, v1 => by
    unfold laws_toByteS_l0
    exact
     Pn.bind (fun x2 h5 =>
     LpO.go [.wait 3, .nm 10 (V.sc (.int .i64 (a.length : Int))), .bit true, .el (E5 x1), .el (E5 x2), .nb 0 (.row 5 (List.map E5 (v1.set ((p1.length : Int).toNat) x1)) []), .wait 4, .mask [0, 3, 4], .ren [0], .nm 4 (V.sc (.int .i64 ((p1 ++ [x1]).length : Int)))] (p := [V.sc (.int .i64 ((List.map E5 a).length : Int)) = V.sc (.int .i64 (a.length : Int)),
      (decide ((p1.length : Int) < (a.length : Int))) = true,
      (0 : Int) ≤ (p1.length : Int),
      (List.map E5 a)[(p1.length : Int).toNat]? = some (E5 x1),
      (0 : Int) ≤ (p1.length : Int),
      ((p1.length : Int) : Int) < ((List.map E5 v1).length : Int),
      look [] ((p1.length : Int).toNat) = none,
      (List.map E5 v1)[(p1.length : Int).toNat]? = some (E5 x2),
      Blk.row 5 ((List.map E5 v1).set ((p1.length : Int).toNat) (V.sc (.int .u8 x1))) [] = Blk.row 5 (List.map E5 (v1.set ((p1.length : Int).toNat) x1)) [],
      V.sc (.int .i64 (i64 ((p1.length : Int) + 1))) = V.sc (.int .i64 ((p1 ++ [x1]).length : Int))]) (by kernel_rfl) (cj (len_nm _ _) (cj (rng_lt h3) (cj (by omega) (cj (rng_get _ h3) (cj (by omega) (cj (map_ltN (by omega) h5) (cj rfl (cj (map_get h5) (cj (nb_set E5 _ _ x1) (cj1 (rng_next h3 h4))))))))))) (laws_toByteS_l0_ok a h4 t1 (p1 ++ [x1]) (rng_step h3) (v1.set ((p1.length : Int).toNat) x1)))
def laws_toByteS (a : List Int) : Option ((List Int)) :=
 if (decide (0 ≤ (a.length : Int))) = true then
 if (capOk (a.length : Int).toNat) = true then
 if (capOk a.length) = true then
 (laws_toByteS_l0 a a [] (List.replicate ((a.length : Int).toNat) 0)).bind fun r1 =>
 some r1
 else none
 else none
 else none
theorem laws_toByteS_ok (a : List Int) : Pn (fun y => Fn Try.prog 200 [(false, E22 a)] (E22 y) []) (laws_toByteS a) := by
  unfold laws_toByteS
  exact
   Pn.ite (fun h1 =>
   Pn.ite (fun h2 =>
   Pn.ite (fun h6 =>
   Pn.bind (fun r1 h7 =>
   Pn.some (Fn.of [.wait 3, .nm 6 (V.sc (.int .i64 (a.length : Int))), .wait 1, .nb 0 (.row 5 (List.map E5 (List.replicate ((a.length : Int).toNat) 0)) []), .wait 3, .mask [0, 3, 4], .ren [0], .loop (X.out 0) (st 22 [(3, V.ow 0)] [Blk.row 5 (List.map E5 r1) []] [])] (p := [V.sc (.int .i64 ((List.map E5 a).length : Int)) = V.sc (.int .i64 (a.length : Int)),
    ((a.length : Int) : Int) = (a.length : Int),
    (0 : Int) ≤ (a.length : Int),
    ((a.length : Int) : Int) ≤ 9223372036854775807,
    1 * (a.length : Int).toNat ≤ 281474976710656,
    Blk.row 5 (List.replicate ((a.length : Int).toNat) (V.sc (.int .u8 0))) [] = Blk.row 5 (List.map E5 (List.replicate ((a.length : Int).toNat) 0)) [],
    Loop Try.prog (sub (codeOf Try.prog 200) [1, 1, 0, 1, 0, 0]) (st 22 [(0, V.sl false 5 (List.map E5 a)), (3, V.ow 0), (4, V.sc (.int .i64 0))] [Blk.row 5 (List.map E5 (List.replicate ((a.length : Int).toNat) 0)) []] []) (X.out 0) (st 22 [(3, V.ow 0)] [Blk.row 5 (List.map E5 r1) []] [])]) (by kernel_rfl) (cj (len_nm _ _) (cj rfl (cj (od h1) (cj (cap3 h1 h2) (cj (cap4 h2 (by decide)) (cj (nb_rep E5 _ 0) (cj1 (laws_toByteS_l0_ok a h6 a [] rfl (List.replicate ((a.length : Int).toNat) 0) r1 h7))))))))))) (fun h6 =>
   Pn.none)) (fun h2 =>
   Pn.none)) (fun h1 =>
   Pn.none)
def laws_toSlot (a : Slot) : Option (Slot) :=
 (laws_toByteS a.Reply).bind fun r1 =>
 some (Slot.mk a.Trace a.Mti r1)
theorem laws_toSlot_ok (a : Slot) : Pn (fun y => Fn Try.prog 224 [(false, E228 a)] (E164 y) []) (laws_toSlot a) := by
  unfold laws_toSlot
  exact
   Pn.bind (fun r1 h1 =>
   Pn.some (Fn.of [.call [] (E22 r1) []] (p := [Fn Try.prog 200 [(false, E22 a.Reply)] (E22 r1) [],
    (true || ((E22 r1).nv && nvL [])) = true]) (by kernel_rfl) (cj (laws_toByteS_ok a.Reply r1 h1) (cj1 rfl))))
def laws_toSlotS_l0 (a : List Slot) : List Slot → List Slot → (List Slot) → Option ((List Slot))
  | [], p1, v1 =>
   some v1
  | x1 :: t1, p1, v1 =>
   (laws_toSlot x1).bind fun r1 =>
   (v1[(p1.length : Int).toNat]?).bind fun x2 =>
   laws_toSlotS_l0 a t1 (p1 ++ [x1]) (v1.set ((p1.length : Int).toNat) r1)
theorem laws_toSlotS_l0_ok (a : List Slot) (h4 : capOk a.length = true) : ∀ (t1 p1 : List Slot) (_ : a = p1 ++ t1) (v1 : List Slot), Pn (LpO Try.prog (sub (codeOf Try.prog 214) [1, 1, 0, 1, 0, 0]) (st 23 [(0, V.sl false 228 (List.map E228 a)), (3, V.ow 0), (4, V.sc (.int .i64 (p1.length : Int)))] [Blk.row 164 (List.map E164 v1) []] []) (fun (y : (List Slot)) => (X.out 0, st 23 [(3, V.ow 0)] [Blk.row 164 (List.map E164 y) []] []))) (laws_toSlotS_l0 a t1 p1 v1)
  | [], p1, h3, v1 => by
    unfold laws_toSlotS_l0
    exact
     Pn.some (LpO.out [.wait 3, .nm 10 (V.sc (.int .i64 (a.length : Int))), .bit false, .mask [3], .ren [0]] (p := [V.sc (.int .i64 ((List.map E228 a).length : Int)) = V.sc (.int .i64 (a.length : Int)),
      (decide ((p1.length : Int) < (a.length : Int))) = false]) (by kernel_rfl) (show X.out 0 ≠ X.go from nofun) (cj (len_nm _ _) (cj1 (rng_end h3))))
  | x1 :: t1, p1, h3, v1 => by
    unfold laws_toSlotS_l0
    exact
     Pn.bind (fun r1 h5 =>
     Pn.bind (fun x2 h6 =>
     LpO.go [.wait 3, .nm 10 (V.sc (.int .i64 (a.length : Int))), .bit true, .el (E228 x1), .call [] (E164 r1) [], .wait 1, .foc 0 ((p1.length : Int).toNat) (E164 x2), .fo 0, .wait 4, .shut 0, .nb 0 (.row 164 (List.map E164 (v1.set ((p1.length : Int).toNat) r1)) []), .mask [0, 3, 4], .ren [0], .nm 4 (V.sc (.int .i64 ((p1 ++ [x1]).length : Int)))] (p := [V.sc (.int .i64 ((List.map E228 a).length : Int)) = V.sc (.int .i64 (a.length : Int)),
      (decide ((p1.length : Int) < (a.length : Int))) = true,
      (0 : Int) ≤ (p1.length : Int),
      (List.map E228 a)[(p1.length : Int).toNat]? = some (E228 x1),
      Fn Try.prog 224 [(false, E228 x1)] (E164 r1) [],
      (true || ((E164 r1).nv && nvL [])) = true,
      (0 : Int) ≤ (p1.length : Int),
      ((p1.length : Int) : Int) < ((List.map E164 v1).length : Int),
      look [] ((p1.length : Int).toNat) = none,
      (List.map E164 v1)[(p1.length : Int).toNat]? = some (E164 x2),
      look [((p1.length : Int).toNat, V.agg [V.sc (.string x2.Trace), V.sc (.string x2.Mti), V.ow 2])] ((p1.length : Int).toNat) = some (V.agg [V.sc (.string x2.Trace), V.sc (.string x2.Mti), V.ow 2]),
      ((p1.length : Int).toNat) < (List.map E164 v1).length,
      ((p1.length : Int).toNat) = ((p1.length : Int).toNat),
      Blk.row 164 ((List.map E164 v1).set ((p1.length : Int).toNat) (V.agg [V.sc (.string r1.Trace), V.sc (.string r1.Mti), V.sl true 5 (List.map E5 r1.Reply)])) [] = Blk.row 164 (List.map E164 (v1.set ((p1.length : Int).toNat) r1)) [],
      V.sc (.int .i64 (i64 ((p1.length : Int) + 1))) = V.sc (.int .i64 ((p1 ++ [x1]).length : Int))]) (by kernel_rfl) (cj (len_nm _ _) (cj (rng_lt h3) (cj (by omega) (cj (rng_get _ h3) (cj (laws_toSlot_ok x1 r1 h5) (cj rfl (cj (by omega) (cj (map_ltN (by omega) h6) (cj rfl (cj (map_get h6) (cj (look_cons_self _ _ _) (cj (map_lt h6) (cj rfl (cj (nb_set E164 _ _ r1) (cj1 (rng_next h3 h4)))))))))))))))) (laws_toSlotS_l0_ok a h4 t1 (p1 ++ [x1]) (rng_step h3) (v1.set ((p1.length : Int).toNat) r1))))
def laws_toSlotS (a : List Slot) : Option ((List Slot)) :=
 if (decide (0 ≤ (a.length : Int))) = true then
 if (capOk (a.length : Int).toNat) = true then
 if (capOk a.length) = true then
 (laws_toSlotS_l0 a a [] (List.replicate ((a.length : Int).toNat) (Slot.mk ByteArray.empty ByteArray.empty []))).bind fun r2 =>
 some r2
 else none
 else none
 else none
theorem laws_toSlotS_ok (a : List Slot) : Pn (fun y => Fn Try.prog 214 [(false, E209 a)] (E27 y) []) (laws_toSlotS a) := by
  unfold laws_toSlotS
  exact
   Pn.ite (fun h1 =>
   Pn.ite (fun h2 =>
   Pn.ite (fun h7 =>
   Pn.bind (fun r2 h8 =>
   Pn.some (Fn.of [.wait 3, .nm 6 (V.sc (.int .i64 (a.length : Int))), .wait 1, .nb 0 (.row 164 (List.map E164 (List.replicate ((a.length : Int).toNat) (Slot.mk ByteArray.empty ByteArray.empty []))) []), .wait 3, .mask [0, 3, 4], .ren [0], .loop (X.out 0) (st 23 [(3, V.ow 0)] [Blk.row 164 (List.map E164 r2) []] [])] (p := [V.sc (.int .i64 ((List.map E228 a).length : Int)) = V.sc (.int .i64 (a.length : Int)),
    ((a.length : Int) : Int) = (a.length : Int),
    (0 : Int) ≤ (a.length : Int),
    ((a.length : Int) : Int) ≤ 9223372036854775807,
    56 * (a.length : Int).toNat ≤ 281474976710656,
    Blk.row 164 (List.replicate ((a.length : Int).toNat) (V.agg [V.sc (.string ByteArray.empty), V.sc (.string ByteArray.empty), V.sl true 5 ([] : List V)])) [] = Blk.row 164 (List.map E164 (List.replicate ((a.length : Int).toNat) (Slot.mk ByteArray.empty ByteArray.empty []))) [],
    Loop Try.prog (sub (codeOf Try.prog 214) [1, 1, 0, 1, 0, 0]) (st 23 [(0, V.sl false 228 (List.map E228 a)), (3, V.ow 0), (4, V.sc (.int .i64 0))] [Blk.row 164 (List.map E164 (List.replicate ((a.length : Int).toNat) (Slot.mk ByteArray.empty ByteArray.empty []))) []] []) (X.out 0) (st 23 [(3, V.ow 0)] [Blk.row 164 (List.map E164 r2) []] [])]) (by kernel_rfl) (cj (len_nm _ _) (cj rfl (cj (od h1) (cj (cap3 h1 h2) (cj (cap4 h2 (by decide)) (cj (nb_rep E164 _ (Slot.mk ByteArray.empty ByteArray.empty [])) (cj1 (laws_toSlotS_l0_ok a h7 a [] rfl (List.replicate ((a.length : Int).toNat) (Slot.mk ByteArray.empty ByteArray.empty [])) r2 h8))))))))))) (fun h7 =>
   Pn.none)) (fun h2 =>
   Pn.none)) (fun h1 =>
   Pn.none)
def laws_toAcct (a : Acct) : Option (Acct) :=
 (laws_toHoldS a.Holds).bind fun r1 =>
 (laws_toRing a.Ring).bind fun r2 =>
 (laws_toSlotS a.Slots).bind fun r3 =>
 some (Acct.mk a.Id a.Limit a.Posted a.Most a.MostSum r1 r2 r3)
theorem laws_toAcct_ok (a : Acct) : Pn (fun y => Fn Try.prog 194 [(false, E211 a)] (E29 y) []) (laws_toAcct a) := by
  unfold laws_toAcct
  exact
   Pn.bind (fun r1 h1 =>
   Pn.bind (fun r2 h2 =>
   Pn.bind (fun r3 h3 =>
   Pn.some (Fn.of [.call [] (E23 r1) [], .call [] (E26 r2) [], .call [] (E27 r3) []] (p := [Fn Try.prog 212 [(false, E207 a.Holds)] (E23 r1) [],
    (true || ((E23 r1).nv && nvL [])) = true,
    Fn Try.prog 213 [(false, E208 a.Ring)] (E26 r2) [],
    (true || ((E26 r2).nv && nvL [])) = true,
    Fn Try.prog 214 [(false, E209 a.Slots)] (E27 r3) [],
    (true || ((E27 r3).nv && nvL [])) = true]) (by kernel_rfl) (cj (laws_toHoldS_ok a.Holds r1 h1) (cj rfl (cj (laws_toRing_ok a.Ring r2 h2) (cj rfl (cj (laws_toSlotS_ok a.Slots r3 h3) (cj1 rfl))))))))))
def laws_toAcctS_l0 (a : List Acct) : List Acct → List Acct → (List Acct) → Option ((List Acct))
  | [], p1, v1 =>
   some v1
  | x1 :: t1, p1, v1 =>
   (laws_toAcct x1).bind fun r1 =>
   (v1[(p1.length : Int).toNat]?).bind fun x2 =>
   laws_toAcctS_l0 a t1 (p1 ++ [x1]) (v1.set ((p1.length : Int).toNat) r1)
theorem laws_toAcctS_l0_ok (a : List Acct) (h4 : capOk a.length = true) : ∀ (t1 p1 : List Acct) (_ : a = p1 ++ t1) (v1 : List Acct), Pn (LpO Try.prog (sub (codeOf Try.prog 151) [1, 1, 0, 1, 0, 0]) (st 23 [(0, V.sl false 211 (List.map E211 a)), (3, V.ow 0), (4, V.sc (.int .i64 (p1.length : Int)))] [Blk.row 29 (List.map E29 v1) []] []) (fun (y : (List Acct)) => (X.out 0, st 23 [(3, V.ow 0)] [Blk.row 29 (List.map E29 y) []] []))) (laws_toAcctS_l0 a t1 p1 v1)
  | [], p1, h3, v1 => by
    unfold laws_toAcctS_l0
    exact
     Pn.some (LpO.out [.wait 3, .nm 10 (V.sc (.int .i64 (a.length : Int))), .bit false, .mask [3], .ren [0]] (p := [V.sc (.int .i64 ((List.map E211 a).length : Int)) = V.sc (.int .i64 (a.length : Int)),
      (decide ((p1.length : Int) < (a.length : Int))) = false]) (by kernel_rfl) (show X.out 0 ≠ X.go from nofun) (cj (len_nm _ _) (cj1 (rng_end h3))))
  | x1 :: t1, p1, h3, v1 => by
    unfold laws_toAcctS_l0
    exact
     Pn.bind (fun r1 h5 =>
     Pn.bind (fun x2 h6 =>
     LpO.go [.wait 3, .nm 10 (V.sc (.int .i64 (a.length : Int))), .bit true, .el (E211 x1), .call [] (E29 r1) [], .wait 1, .foc 0 ((p1.length : Int).toNat) (E29 x2), .fo 0, .wait 4, .shut 0, .nb 0 (.row 29 (List.map E29 (v1.set ((p1.length : Int).toNat) r1)) []), .mask [0, 3, 4], .ren [0], .nm 4 (V.sc (.int .i64 ((p1 ++ [x1]).length : Int)))] (p := [V.sc (.int .i64 ((List.map E211 a).length : Int)) = V.sc (.int .i64 (a.length : Int)),
      (decide ((p1.length : Int) < (a.length : Int))) = true,
      (0 : Int) ≤ (p1.length : Int),
      (List.map E211 a)[(p1.length : Int).toNat]? = some (E211 x1),
      Fn Try.prog 194 [(false, E211 x1)] (E29 r1) [],
      (true || ((E29 r1).nv && nvL [])) = true,
      (0 : Int) ≤ (p1.length : Int),
      ((p1.length : Int) : Int) < ((List.map E29 v1).length : Int),
      look [] ((p1.length : Int).toNat) = none,
      (List.map E29 v1)[(p1.length : Int).toNat]? = some (E29 x2),
      look [((p1.length : Int).toNat, V.agg [V.sc (.string x2.Id), V.sc (.int .i64 x2.Limit), V.sc (.int .i64 x2.Posted), V.sc (.int .i64 x2.Most), V.sc (.int .i64 x2.MostSum), V.ow 5, V.sc (.int .i64 x2.Ring.Span), V.sc (.int .i64 x2.Ring.Head), V.ow 6, V.ow 7, V.ow 8])] ((p1.length : Int).toNat) = some (V.agg [V.sc (.string x2.Id), V.sc (.int .i64 x2.Limit), V.sc (.int .i64 x2.Posted), V.sc (.int .i64 x2.Most), V.sc (.int .i64 x2.MostSum), V.ow 5, V.sc (.int .i64 x2.Ring.Span), V.sc (.int .i64 x2.Ring.Head), V.ow 6, V.ow 7, V.ow 8]),
      ((p1.length : Int).toNat) < (List.map E29 v1).length,
      ((p1.length : Int).toNat) = ((p1.length : Int).toNat),
      Blk.row 29 ((List.map E29 v1).set ((p1.length : Int).toNat) (V.agg [V.sc (.string r1.Id), V.sc (.int .i64 r1.Limit), V.sc (.int .i64 r1.Posted), V.sc (.int .i64 r1.Most), V.sc (.int .i64 r1.MostSum), V.sl true 36 (List.map E36 r1.Holds), V.sc (.int .i64 r1.Ring.Span), V.sc (.int .i64 r1.Ring.Head), V.sl true 3 (List.map E3 r1.Ring.Counts), V.sl true 3 (List.map E3 r1.Ring.Sums), V.sl true 164 (List.map E164 r1.Slots)])) [] = Blk.row 29 (List.map E29 (v1.set ((p1.length : Int).toNat) r1)) [],
      V.sc (.int .i64 (i64 ((p1.length : Int) + 1))) = V.sc (.int .i64 ((p1 ++ [x1]).length : Int))]) (by kernel_rfl) (cj (len_nm _ _) (cj (rng_lt h3) (cj (by omega) (cj (rng_get _ h3) (cj (laws_toAcct_ok x1 r1 h5) (cj rfl (cj (by omega) (cj (map_ltN (by omega) h6) (cj rfl (cj (map_get h6) (cj (look_cons_self _ _ _) (cj (map_lt h6) (cj rfl (cj (nb_set E29 _ _ r1) (cj1 (rng_next h3 h4)))))))))))))))) (laws_toAcctS_l0_ok a h4 t1 (p1 ++ [x1]) (rng_step h3) (v1.set ((p1.length : Int).toNat) r1))))
def laws_toAcctS (a : List Acct) : Option ((List Acct)) :=
 if (decide (0 ≤ (a.length : Int))) = true then
 if (capOk (a.length : Int).toNat) = true then
 if (capOk a.length) = true then
 (laws_toAcctS_l0 a a [] (List.replicate ((a.length : Int).toNat) (Acct.mk ByteArray.empty 0 0 0 0 [] (Ring.mk 0 0 [] []) []))).bind fun r2 =>
 some r2
 else none
 else none
 else none
theorem laws_toAcctS_ok (a : List Acct) : Pn (fun y => Fn Try.prog 151 [(false, E126 a)] (E48 y) []) (laws_toAcctS a) := by
  unfold laws_toAcctS
  exact
   Pn.ite (fun h1 =>
   Pn.ite (fun h2 =>
   Pn.ite (fun h7 =>
   Pn.bind (fun r2 h8 =>
   Pn.some (Fn.of [.wait 3, .nm 6 (V.sc (.int .i64 (a.length : Int))), .wait 1, .nb 0 (.row 29 (List.map E29 (List.replicate ((a.length : Int).toNat) (Acct.mk ByteArray.empty 0 0 0 0 [] (Ring.mk 0 0 [] []) []))) []), .wait 3, .mask [0, 3, 4], .ren [0], .loop (X.out 0) (st 23 [(3, V.ow 0)] [Blk.row 29 (List.map E29 r2) []] [])] (p := [V.sc (.int .i64 ((List.map E211 a).length : Int)) = V.sc (.int .i64 (a.length : Int)),
    ((a.length : Int) : Int) = (a.length : Int),
    (0 : Int) ≤ (a.length : Int),
    ((a.length : Int) : Int) ≤ 9223372036854775807,
    160 * (a.length : Int).toNat ≤ 281474976710656,
    Blk.row 29 (List.replicate ((a.length : Int).toNat) (V.agg [V.sc (.string ByteArray.empty), V.sc (.int .i64 0), V.sc (.int .i64 0), V.sc (.int .i64 0), V.sc (.int .i64 0), V.sl true 36 ([] : List V), V.sc (.int .i64 0), V.sc (.int .i64 0), V.sl true 3 ([] : List V), V.sl true 3 ([] : List V), V.sl true 164 ([] : List V)])) [] = Blk.row 29 (List.map E29 (List.replicate ((a.length : Int).toNat) (Acct.mk ByteArray.empty 0 0 0 0 [] (Ring.mk 0 0 [] []) []))) [],
    Loop Try.prog (sub (codeOf Try.prog 151) [1, 1, 0, 1, 0, 0]) (st 23 [(0, V.sl false 211 (List.map E211 a)), (3, V.ow 0), (4, V.sc (.int .i64 0))] [Blk.row 29 (List.map E29 (List.replicate ((a.length : Int).toNat) (Acct.mk ByteArray.empty 0 0 0 0 [] (Ring.mk 0 0 [] []) []))) []] []) (X.out 0) (st 23 [(3, V.ow 0)] [Blk.row 29 (List.map E29 r2) []] [])]) (by kernel_rfl) (cj (len_nm _ _) (cj rfl (cj (od h1) (cj (cap3 h1 h2) (cj (cap4 h2 (by decide)) (cj (nb_rep E29 _ (Acct.mk ByteArray.empty 0 0 0 0 [] (Ring.mk 0 0 [] []) [])) (cj1 (laws_toAcctS_l0_ok a h7 a [] rfl (List.replicate ((a.length : Int).toNat) (Acct.mk ByteArray.empty 0 0 0 0 [] (Ring.mk 0 0 [] []) [])) r2 h8))))))))))) (fun h7 =>
   Pn.none)) (fun h2 =>
   Pn.none)) (fun h1 =>
   Pn.none)
def laws_toStripe (a : Stripe) : Option (Stripe) :=
 (laws_toAcctS a.Accts).bind fun r1 =>
 some (Stripe.mk a.Owner r1)
theorem laws_toStripe_ok (a : Stripe) : Pn (fun y => Fn Try.prog 92 [(false, E128 a)] (E58 y) []) (laws_toStripe a) := by
  unfold laws_toStripe
  exact
   Pn.bind (fun r1 h1 =>
   Pn.some (Fn.of [.call [] (E48 r1) []] (p := [Fn Try.prog 151 [(false, E126 a.Accts)] (E48 r1) [],
    (true || ((E48 r1).nv && nvL [])) = true]) (by kernel_rfl) (cj (laws_toAcctS_ok a.Accts r1 h1) (cj1 rfl))))
def laws_toStripeS_l0 (a : List Stripe) : List Stripe → List Stripe → (List Stripe) → Option ((List Stripe))
  | [], p1, v1 =>
   some v1
  | x1 :: t1, p1, v1 =>
   (laws_toStripe x1).bind fun r1 =>
   (v1[(p1.length : Int).toNat]?).bind fun x2 =>
   laws_toStripeS_l0 a t1 (p1 ++ [x1]) (v1.set ((p1.length : Int).toNat) r1)
theorem laws_toStripeS_l0_ok (a : List Stripe) (h4 : capOk a.length = true) : ∀ (t1 p1 : List Stripe) (_ : a = p1 ++ t1) (v1 : List Stripe), Pn (LpO Try.prog (sub (codeOf Try.prog 32) [1, 1, 0, 1, 0, 0]) (st 23 [(0, V.sl false 128 (List.map E128 a)), (3, V.ow 0), (4, V.sc (.int .i64 (p1.length : Int)))] [Blk.row 58 (List.map E58 v1) []] []) (fun (y : (List Stripe)) => (X.out 0, st 23 [(3, V.ow 0)] [Blk.row 58 (List.map E58 y) []] []))) (laws_toStripeS_l0 a t1 p1 v1)
  | [], p1, h3, v1 => by
    unfold laws_toStripeS_l0
    exact
     Pn.some (LpO.out [.wait 3, .nm 10 (V.sc (.int .i64 (a.length : Int))), .bit false, .mask [3], .ren [0]] (p := [V.sc (.int .i64 ((List.map E128 a).length : Int)) = V.sc (.int .i64 (a.length : Int)),
      (decide ((p1.length : Int) < (a.length : Int))) = false]) (by kernel_rfl) (show X.out 0 ≠ X.go from nofun) (cj (len_nm _ _) (cj1 (rng_end h3))))
  | x1 :: t1, p1, h3, v1 => by
    unfold laws_toStripeS_l0
    exact
     Pn.bind (fun r1 h5 =>
     Pn.bind (fun x2 h6 =>
     LpO.go [.wait 3, .nm 10 (V.sc (.int .i64 (a.length : Int))), .bit true, .el (E128 x1), .call [] (E58 r1) [], .wait 1, .foc 0 ((p1.length : Int).toNat) (E58 x2), .fo 0, .wait 4, .shut 0, .nb 0 (.row 58 (List.map E58 (v1.set ((p1.length : Int).toNat) r1)) []), .mask [0, 3, 4], .ren [0], .nm 4 (V.sc (.int .i64 ((p1 ++ [x1]).length : Int)))] (p := [V.sc (.int .i64 ((List.map E128 a).length : Int)) = V.sc (.int .i64 (a.length : Int)),
      (decide ((p1.length : Int) < (a.length : Int))) = true,
      (0 : Int) ≤ (p1.length : Int),
      (List.map E128 a)[(p1.length : Int).toNat]? = some (E128 x1),
      Fn Try.prog 92 [(false, E128 x1)] (E58 r1) [],
      (true || ((E58 r1).nv && nvL [])) = true,
      (0 : Int) ≤ (p1.length : Int),
      ((p1.length : Int) : Int) < ((List.map E58 v1).length : Int),
      look [] ((p1.length : Int).toNat) = none,
      (List.map E58 v1)[(p1.length : Int).toNat]? = some (E58 x2),
      look [((p1.length : Int).toNat, V.agg [V.sc (.int .i64 x2.Owner), V.ow 2])] ((p1.length : Int).toNat) = some (V.agg [V.sc (.int .i64 x2.Owner), V.ow 2]),
      ((p1.length : Int).toNat) < (List.map E58 v1).length,
      ((p1.length : Int).toNat) = ((p1.length : Int).toNat),
      Blk.row 58 ((List.map E58 v1).set ((p1.length : Int).toNat) (V.agg [V.sc (.int .i64 r1.Owner), V.sl true 29 (List.map E29 r1.Accts)])) [] = Blk.row 58 (List.map E58 (v1.set ((p1.length : Int).toNat) r1)) [],
      V.sc (.int .i64 (i64 ((p1.length : Int) + 1))) = V.sc (.int .i64 ((p1 ++ [x1]).length : Int))]) (by kernel_rfl) (cj (len_nm _ _) (cj (rng_lt h3) (cj (by omega) (cj (rng_get _ h3) (cj (laws_toStripe_ok x1 r1 h5) (cj rfl (cj (by omega) (cj (map_ltN (by omega) h6) (cj rfl (cj (map_get h6) (cj (look_cons_self _ _ _) (cj (map_lt h6) (cj rfl (cj (nb_set E58 _ _ r1) (cj1 (rng_next h3 h4)))))))))))))))) (laws_toStripeS_l0_ok a h4 t1 (p1 ++ [x1]) (rng_step h3) (v1.set ((p1.length : Int).toNat) r1))))
def laws_toStripeS (a : List Stripe) : Option ((List Stripe)) :=
 if (decide (0 ≤ (a.length : Int))) = true then
 if (capOk (a.length : Int).toNat) = true then
 if (capOk a.length) = true then
 (laws_toStripeS_l0 a a [] (List.replicate ((a.length : Int).toNat) (Stripe.mk 0 []))).bind fun r2 =>
 some r2
 else none
 else none
 else none
theorem laws_toStripeS_ok (a : List Stripe) : Pn (fun y => Fn Try.prog 32 [(false, E61 a)] (E53 y) []) (laws_toStripeS a) := by
  unfold laws_toStripeS
  exact
   Pn.ite (fun h1 =>
   Pn.ite (fun h2 =>
   Pn.ite (fun h7 =>
   Pn.bind (fun r2 h8 =>
   Pn.some (Fn.of [.wait 3, .nm 6 (V.sc (.int .i64 (a.length : Int))), .wait 1, .nb 0 (.row 58 (List.map E58 (List.replicate ((a.length : Int).toNat) (Stripe.mk 0 []))) []), .wait 3, .mask [0, 3, 4], .ren [0], .loop (X.out 0) (st 23 [(3, V.ow 0)] [Blk.row 58 (List.map E58 r2) []] [])] (p := [V.sc (.int .i64 ((List.map E128 a).length : Int)) = V.sc (.int .i64 (a.length : Int)),
    ((a.length : Int) : Int) = (a.length : Int),
    (0 : Int) ≤ (a.length : Int),
    ((a.length : Int) : Int) ≤ 9223372036854775807,
    32 * (a.length : Int).toNat ≤ 281474976710656,
    Blk.row 58 (List.replicate ((a.length : Int).toNat) (V.agg [V.sc (.int .i64 0), V.sl true 29 ([] : List V)])) [] = Blk.row 58 (List.map E58 (List.replicate ((a.length : Int).toNat) (Stripe.mk 0 []))) [],
    Loop Try.prog (sub (codeOf Try.prog 32) [1, 1, 0, 1, 0, 0]) (st 23 [(0, V.sl false 128 (List.map E128 a)), (3, V.ow 0), (4, V.sc (.int .i64 0))] [Blk.row 58 (List.map E58 (List.replicate ((a.length : Int).toNat) (Stripe.mk 0 []))) []] []) (X.out 0) (st 23 [(3, V.ow 0)] [Blk.row 58 (List.map E58 r2) []] [])]) (by kernel_rfl) (cj (len_nm _ _) (cj rfl (cj (od h1) (cj (cap3 h1 h2) (cj (cap4 h2 (by decide)) (cj (nb_rep E58 _ (Stripe.mk 0 [])) (cj1 (laws_toStripeS_l0_ok a h7 a [] rfl (List.replicate ((a.length : Int).toNat) (Stripe.mk 0 [])) r2 h8))))))))))) (fun h7 =>
   Pn.none)) (fun h2 =>
   Pn.none)) (fun h1 =>
   Pn.none)
def spec_l13Has_l0 (l : List Int) (n : Int) : List Int → Option (Lo Unit Unit)
  | [] =>
   some (.out ())
  | x1 :: t1 =>
   if (x1 == n) = true then
   some (.ret ())
   else
   spec_l13Has_l0 l n t1
theorem spec_l13Has_l0_ok (l : List Int) (n : Int) (h2 : capOk l.length = true) : ∀ (t1 p1 : List Int) (_ : l = p1 ++ t1) , Pn (LpO Try.prog (sub (codeOf Try.prog 97) [1, 0, 1, 0, 0]) (st 17 [(1, V.sc (.int .i64 n)), (7, V.sl false 3 (List.map E3 l)), (8, V.sc (.int .i64 (l.length : Int))), (9, V.sc (.int .i64 (p1.length : Int)))] [] []) (fun (y : Lo Unit Unit) => Lo.elim y (fun s => (X.out 0, st 17 [] [] [])) (fun s => (X.ret, st 17 [(4, V.sc (.bool true))] [] [])))) (spec_l13Has_l0 l n t1)
  | [], p1, h1 => by
    unfold spec_l13Has_l0
    exact
     Pn.some (LpO.out [.bit false, .mask [], .ren []] (p := [(decide ((p1.length : Int) < (l.length : Int))) = false]) (by kernel_rfl) (show X.out 0 ≠ X.go from nofun) (cj1 (rng_end h1)))
  | x1 :: t1, p1, h1 => by
    unfold spec_l13Has_l0
    exact
     Pn.ite (fun h3 =>
     Pn.some (LpO.out [.bit true, .el (E3 x1), .bit true, .wait 1, .mask [4], .ren []] (p := [(decide ((p1.length : Int) < (l.length : Int))) = true,
      (0 : Int) ≤ (p1.length : Int),
      (List.map E3 l)[(p1.length : Int).toNat]? = some (E3 x1),
      (x1 == n) = true]) (by kernel_rfl) (show X.ret ≠ X.go from nofun) (cj (rng_lt h1) (cj (by omega) (cj (rng_get _ h1) (cj1 h3)))))) (fun h3 =>
     LpO.go [.bit true, .el (E3 x1), .bit false, .wait 2, .mask [1, 7, 8, 9], .ren [], .nm 9 (V.sc (.int .i64 ((p1 ++ [x1]).length : Int)))] (p := [(decide ((p1.length : Int) < (l.length : Int))) = true,
      (0 : Int) ≤ (p1.length : Int),
      (List.map E3 l)[(p1.length : Int).toNat]? = some (E3 x1),
      (x1 == n) = false,
      V.sc (.int .i64 (i64 ((p1.length : Int) + 1))) = V.sc (.int .i64 ((p1 ++ [x1]).length : Int))]) (by kernel_rfl) (cj (rng_lt h1) (cj (by omega) (cj (rng_get _ h1) (cj h3 (cj1 (rng_next h1 h2)))))) (spec_l13Has_l0_ok l n h2 t1 (p1 ++ [x1]) (rng_step h1)))
def spec_l13Has (l : List Int) (n : Int) : Option (Bool) :=
 if (capOk l.length) = true then
 (spec_l13Has_l0 l n l).bind fun r1 =>
 Lo.elim r1 (fun s1 =>
 some false) (fun s2 =>
 some true)
 else none
theorem spec_l13Has_ok (l : List Int) (n : Int) : Pn (fun y => Fn Try.prog 97 [(false, E24 l), (false, E3 n)] (E4 y) []) (spec_l13Has l n) := by
  unfold spec_l13Has
  exact
   Pn.ite (fun h4 =>
   Pn.bind (fun r1 h5 =>
   Pn.lo (fun s1 h6 =>
   Pn.some (Fn.of [.wait 3, .nm 8 (V.sc (.int .i64 (l.length : Int))), .wait 2, .mask [1, 7, 8, 9], .ren [], .loop (X.out 0) (st 17 [] [] [])] (p := [V.sc (.int .i64 ((List.map E3 l).length : Int)) = V.sc (.int .i64 (l.length : Int)),
    Loop Try.prog (sub (codeOf Try.prog 97) [1, 0, 1, 0, 0]) (st 17 [(1, V.sc (.int .i64 n)), (7, V.sl false 3 (List.map E3 l)), (8, V.sc (.int .i64 (l.length : Int))), (9, V.sc (.int .i64 0))] [] []) (X.out 0) (st 17 [] [] [])]) (by kernel_rfl) (cj (len_nm _ _) (cj1 ((spec_l13Has_l0_ok l n h4 l [] rfl r1 h5).at h6))))) (fun s2 h7 =>
   Pn.some (Fn.of [.wait 3, .nm 8 (V.sc (.int .i64 (l.length : Int))), .wait 2, .mask [1, 7, 8, 9], .ren [], .loop (X.ret) (st 17 [(4, V.sc (.bool true))] [] [])] (p := [V.sc (.int .i64 ((List.map E3 l).length : Int)) = V.sc (.int .i64 (l.length : Int)),
    Loop Try.prog (sub (codeOf Try.prog 97) [1, 0, 1, 0, 0]) (st 17 [(1, V.sc (.int .i64 n)), (7, V.sl false 3 (List.map E3 l)), (8, V.sc (.int .i64 (l.length : Int))), (9, V.sc (.int .i64 0))] [] []) (X.ret) (st 17 [(4, V.sc (.bool true))] [] [])]) (by kernel_rfl) (cj (len_nm _ _) (cj1 ((spec_l13Has_l0_ok l n h4 l [] rfl r1 h5).at h7))))))) (fun h4 =>
   Pn.none)
def spec_l06Copy (r_ : Ring) : Option (Ring) :=
 if (capOk (0 + r_.Counts.length)) = true then
 if (capOk (0 + r_.Sums.length)) = true then
 some r_
 else none
 else none
theorem spec_l06Copy_ok (r_ : Ring) : Pn (fun y => Fn Try.prog 120 [(false, E26 r_)] (E26 y) []) (spec_l06Copy r_) := by
  unfold spec_l06Copy
  exact
   Pn.ite (fun h1 =>
   Pn.ite (fun h2 =>
   Pn.some (Fn.of [.cp (List.map E3 r_.Counts), .nb 3 (.row 3 (List.map E3 r_.Counts) []), .cp (List.map E3 r_.Sums), .nb 5 (.row 3 (List.map E3 r_.Sums) [])] (p := [(List.map E3 r_.Counts).map V.vw = (List.map E3 r_.Counts),
    ([] : List V).length + (List.map E3 r_.Counts).length ≤ 9223372036854775807,
    (([] : List V).length + (List.map E3 r_.Counts).length) * 8 ≤ 140737488355328,
    Blk.row 3 (([] : List V) ++ (List.map E3 r_.Counts)) [] = Blk.row 3 (List.map E3 r_.Counts) [],
    (List.map E3 r_.Sums).map V.vw = (List.map E3 r_.Sums),
    ([] : List V).length + (List.map E3 r_.Sums).length ≤ 9223372036854775807,
    (([] : List V).length + (List.map E3 r_.Sums).length) * 8 ≤ 140737488355328,
    Blk.row 3 (([] : List V) ++ (List.map E3 r_.Sums)) [] = Blk.row 3 (List.map E3 r_.Sums) []]) (by kernel_rfl) (cj (vw_id (fun _ => rfl) _) (cj (cap1 (capN (by simp) h1)) (cj (cap2 (capN (by simp) h1) (by decide)) (cj rfl (cj (vw_id (fun _ => rfl) _) (cj (cap1 (capN (by simp) h2)) (cj (cap2 (capN (by simp) h2) (by decide)) (cj1 rfl)))))))))) (fun h2 =>
   Pn.none)) (fun h1 =>
   Pn.none)
def spec_l08Copy_l0 (l : List Slot) : List Slot → (List Slot) → Option ((List Slot))
  | [], v1 =>
   some v1
  | x1 :: t1, v1 =>
   if (capOk (0 + x1.Reply.length)) = true then
   if (capOk (v1.length + 1)) = true then
   spec_l08Copy_l0 l t1 (v1 ++ [x1])
   else none
   else none
theorem spec_l08Copy_l0_ok (l : List Slot) (h2 : capOk l.length = true) : ∀ (t1 p1 : List Slot) (_ : l = p1 ++ t1) (v1 : List Slot), Pn (LpO Try.prog (sub (codeOf Try.prog 121) [1, 1, 0, 1, 0, 0]) (st 24 [(3, V.ow 0), (7, V.sl false 164 (List.map E164 l)), (8, V.sc (.int .i64 (l.length : Int))), (9, V.sc (.int .i64 (p1.length : Int)))] [Blk.row 164 (List.map E164 v1) []] []) (fun (y : (List Slot)) => (X.out 0, st 24 [(3, V.ow 0)] [Blk.row 164 (List.map E164 y) []] []))) (spec_l08Copy_l0 l t1 v1)
  | [], p1, h1, v1 => by
    unfold spec_l08Copy_l0
    exact
     Pn.some (LpO.out [.bit false, .mask [3], .ren [0]] (p := [(decide ((p1.length : Int) < (l.length : Int))) = false]) (by kernel_rfl) (show X.out 0 ≠ X.go from nofun) (cj1 (rng_end h1)))
  | x1 :: t1, p1, h1, v1 => by
    unfold spec_l08Copy_l0
    exact
     Pn.ite (fun h3 =>
     Pn.ite (fun h4 =>
     LpO.go [.bit true, .el (E164 x1), .cp (List.map E5 x1.Reply), .nb 3 (.row 5 (List.map E5 x1.Reply) []), .wait 5, .shut 4, .mv, .nb 5 (.row 164 (List.map E164 (v1 ++ [x1])) []), .wait 4, .mask [3, 7, 8, 9], .ren [5], .nm 9 (V.sc (.int .i64 ((p1 ++ [x1]).length : Int)))] (p := [(decide ((p1.length : Int) < (l.length : Int))) = true,
      (0 : Int) ≤ (p1.length : Int),
      (List.map E164 l)[(p1.length : Int).toNat]? = some (E164 x1),
      (List.map E5 x1.Reply).map V.vw = (List.map E5 x1.Reply),
      ([] : List V).length + (List.map E5 x1.Reply).length ≤ 9223372036854775807,
      (([] : List V).length + (List.map E5 x1.Reply).length) * 1 ≤ 140737488355328,
      Blk.row 5 (([] : List V) ++ (List.map E5 x1.Reply)) [] = Blk.row 5 (List.map E5 x1.Reply) [],
      (List.map E164 v1).length + [V.agg [V.sc (.string x1.Trace), V.sc (.string x1.Mti), V.sl true 5 (List.map E5 x1.Reply)]].length ≤ 9223372036854775807,
      ((List.map E164 v1).length + [V.agg [V.sc (.string x1.Trace), V.sc (.string x1.Mti), V.sl true 5 (List.map E5 x1.Reply)]].length) * 56 ≤ 140737488355328,
      Blk.row 164 ((List.map E164 v1) ++ [V.agg [V.sc (.string x1.Trace), V.sc (.string x1.Mti), V.sl true 5 (List.map E5 x1.Reply)]]) [] = Blk.row 164 (List.map E164 (v1 ++ [x1])) [],
      V.sc (.int .i64 (i64 ((p1.length : Int) + 1))) = V.sc (.int .i64 ((p1 ++ [x1]).length : Int))]) (by kernel_rfl) (cj (rng_lt h1) (cj (by omega) (cj (rng_get _ h1) (cj (vw_id (fun _ => rfl) _) (cj (cap1 (capN (by simp) h3)) (cj (cap2 (capN (by simp) h3) (by decide)) (cj rfl (cj (cap1 (capN (by simp) h4)) (cj (cap2 (capN (by simp) h4) (by decide)) (cj (nb_app E164 v1 [x1]) (cj1 (rng_next h1 h2)))))))))))) (spec_l08Copy_l0_ok l h2 t1 (p1 ++ [x1]) (rng_step h1) (v1 ++ [x1]))) (fun h4 =>
     Pn.none)) (fun h3 =>
     Pn.none)
def spec_l08Copy (l : List Slot) : Option ((List Slot)) :=
 if (capOk l.length) = true then
 (spec_l08Copy_l0 l l []).bind fun r1 =>
 some r1
 else none
theorem spec_l08Copy_ok (l : List Slot) : Pn (fun y => Fn Try.prog 121 [(false, E27 l)] (E27 y) []) (spec_l08Copy l) := by
  unfold spec_l08Copy
  exact
   Pn.ite (fun h5 =>
   Pn.bind (fun r1 h6 =>
   Pn.some (Fn.of [.wait 5, .nm 8 (V.sc (.int .i64 (l.length : Int))), .wait 2, .mask [3, 7, 8, 9], .ren [0], .loop (X.out 0) (st 24 [(3, V.ow 0)] [Blk.row 164 (List.map E164 r1) []] [])] (p := [V.sc (.int .i64 ((List.map E164 l).length : Int)) = V.sc (.int .i64 (l.length : Int)),
    Loop Try.prog (sub (codeOf Try.prog 121) [1, 1, 0, 1, 0, 0]) (st 24 [(3, V.ow 0), (7, V.sl false 164 (List.map E164 l)), (8, V.sc (.int .i64 (l.length : Int))), (9, V.sc (.int .i64 0))] [Blk.row 164 ([] : List V) []] []) (X.out 0) (st 24 [(3, V.ow 0)] [Blk.row 164 (List.map E164 r1) []] [])]) (by kernel_rfl) (cj (len_nm _ _) (cj1 (spec_l08Copy_l0_ok l h5 l [] rfl [] r1 h6)))))) (fun h5 =>
   Pn.none)
def spec_l09Copy (a : Acct) : Option (Acct) :=
 if (capOk (0 + a.Holds.length)) = true then
 (spec_l06Copy a.Ring).bind fun r1 =>
 (spec_l08Copy a.Slots).bind fun r2 =>
 some (Acct.mk a.Id a.Limit a.Posted a.Most a.MostSum a.Holds r1 r2)
 else none
theorem spec_l09Copy_ok (a : Acct) : Pn (fun y => Fn Try.prog 56 [(false, E29 a)] (E29 y) []) (spec_l09Copy a) := by
  unfold spec_l09Copy
  exact
   Pn.ite (fun h1 =>
   Pn.bind (fun r1 h2 =>
   Pn.bind (fun r2 h3 =>
   Pn.some (Fn.of [.cp (List.map E36 a.Holds), .nb 3 (.row 36 (List.map E36 a.Holds) []), .call [] (E26 r1) [], .call [] (E27 r2) []] (p := [(List.map E36 a.Holds).map V.vw = (List.map E36 a.Holds),
    ([] : List V).length + (List.map E36 a.Holds).length ≤ 9223372036854775807,
    (([] : List V).length + (List.map E36 a.Holds).length) * 32 ≤ 140737488355328,
    Blk.row 36 (([] : List V) ++ (List.map E36 a.Holds)) [] = Blk.row 36 (List.map E36 a.Holds) [],
    Fn Try.prog 120 [(false, E26 a.Ring)] (E26 r1) [],
    (true || ((E26 r1).nv && nvL [])) = true,
    Fn Try.prog 121 [(false, E27 a.Slots)] (E27 r2) [],
    (true || ((E27 r2).nv && nvL [])) = true]) (by kernel_rfl) (cj (vw_id (fun _ => rfl) _) (cj (cap1 (capN (by simp) h1)) (cj (cap2 (capN (by simp) h1) (by decide)) (cj rfl (cj (spec_l06Copy_ok a.Ring r1 h2) (cj rfl (cj (spec_l08Copy_ok a.Slots r2 h3) (cj1 rfl)))))))))))) (fun h1 =>
   Pn.none)
def spec_Gather_l2 (l : List Stripe) (p1 : List Stripe) (x1 : Stripe) (p2 : List Acct) (x2 : Acct) : Nat → Int → (List Acct) → Option (Int × (List Acct))
  | 0, _, _ => none
  | fuel + 1, v3, v4 =>
   if (decide (0 < v3)) = true then
   if (decide (0 ≤ (i64 (v3 - 1)))) = true then
   (v4[(i64 (v3 - 1)).toNat]?).bind fun x3 =>
   if (Op.bytesLess x3.Id.toList x2.Id.toList || (x3.Id == x2.Id)) = true then
   some (v3, (v4.set ((i64 (v3 - 1)).toNat) x3))
   else
   spec_Gather_l2 l p1 x1 p2 x2 fuel (i64 (v3 - 1)) (v4.set ((i64 (v3 - 1)).toNat) x3)
   else none
   else
   some (v3, v4)
theorem spec_Gather_l2_ok (l : List Stripe) (p1 : List Stripe) (x1 : Stripe) (p2 : List Acct) (x2 : Acct) : ∀ (fuel : Nat) (v3 : Int) (v4 : List Acct), Pn (LpO Try.prog (sub (codeOf Try.prog 31) [1, 1, 0, 1, 0, 0, 1, 1, 0, 0, 1, 1, 0, 0, 1, 1, 0, 0, 1, 1, 0, 0, 0]) (st 60 [(2, V.ptr 0 0), (3, V.ow 1), (7, V.ptr 2 0), (8, V.sc (.int .i64 v3)), (11, V.sl false 58 (List.map E58 l)), (12, V.sc (.int .i64 (l.length : Int))), (13, V.sc (.int .i64 (p1.length : Int))), (18, V.sl false 29 (List.map E29 x1.Accts)), (19, V.sc (.int .i64 (x1.Accts.length : Int))), (20, V.sc (.int .i64 (p2.length : Int)))] [Blk.box 50 [V.nl 29], Blk.row 29 (List.map E29 v4) [], Blk.box 29 [V.sc (.string x2.Id), V.sc (.int .i64 x2.Limit), V.sc (.int .i64 x2.Posted), V.sc (.int .i64 x2.Most), V.sc (.int .i64 x2.MostSum), V.sl false 36 (List.map E36 x2.Holds), V.sc (.int .i64 x2.Ring.Span), V.sc (.int .i64 x2.Ring.Head), V.sl false 3 (List.map E3 x2.Ring.Counts), V.sl false 3 (List.map E3 x2.Ring.Sums), V.sl false 164 (List.map E164 x2.Slots)]] []) (fun (y : Int × (List Acct)) => (X.out 4, st 60 [(2, V.ptr 0 0), (3, V.ow 1), (7, V.ptr 2 0), (8, V.sc (.int .i64 y.1)), (11, V.sl false 58 (List.map E58 l)), (12, V.sc (.int .i64 (l.length : Int))), (13, V.sc (.int .i64 (p1.length : Int))), (18, V.sl false 29 (List.map E29 x1.Accts)), (19, V.sc (.int .i64 (x1.Accts.length : Int))), (20, V.sc (.int .i64 (p2.length : Int)))] [Blk.box 50 [V.nl 29], Blk.row 29 (List.map E29 y.2) [], Blk.box 29 [V.sc (.string x2.Id), V.sc (.int .i64 x2.Limit), V.sc (.int .i64 x2.Posted), V.sc (.int .i64 x2.Most), V.sc (.int .i64 x2.MostSum), V.sl false 36 (List.map E36 x2.Holds), V.sc (.int .i64 x2.Ring.Span), V.sc (.int .i64 x2.Ring.Head), V.sl false 3 (List.map E3 x2.Ring.Counts), V.sl false 3 (List.map E3 x2.Ring.Sums), V.sl false 164 (List.map E164 x2.Slots)]] []))) (spec_Gather_l2 l p1 x1 p2 x2 fuel v3 v4)
  | 0, _, _ => Pn.none
  | fuel + 1, v3, v4 => by
    unfold spec_Gather_l2
    exact
     Pn.ite (fun h5 =>
     Pn.ite (fun h6 =>
     Pn.bind (fun x3 h7 =>
     Pn.ite (fun h8 =>
     Pn.some (LpO.out [.draw [], .bit true, .bit true, .bit true, .bit true, .foc 1 ((i64 (v3 - 1)).toNat) (E29 x3), .bit true, .bit true, .fo 0, .bit true, .bit true, .bit true, .bit true, .bit false, .shut 1, .nb 1 (.row 29 (List.map E29 (v4.set ((i64 (v3 - 1)).toNat) x3)) []), .mask [2, 3, 7, 8, 11, 12, 13, 18, 19, 20], .ren [0, 1, 2]] (p := [(decide (0 < v3)) = true,
      (decide (0 < v3)) = true,
      (decide (0 < v3)) = true,
      (decide (0 < v3)) = true,
      (0 : Int) ≤ (i64 (v3 - 1)),
      ((i64 (v3 - 1)) : Int) < ((List.map E29 v4).length : Int),
      look [] ((i64 (v3 - 1)).toNat) = none,
      (List.map E29 v4)[(i64 (v3 - 1)).toNat]? = some (E29 x3),
      (decide (0 < v3)) = true,
      (decide (0 < v3)) = true,
      look [((i64 (v3 - 1)).toNat, V.agg [V.sc (.string x3.Id), V.sc (.int .i64 x3.Limit), V.sc (.int .i64 x3.Posted), V.sc (.int .i64 x3.Most), V.sc (.int .i64 x3.MostSum), V.ow 3, V.sc (.int .i64 x3.Ring.Span), V.sc (.int .i64 x3.Ring.Head), V.ow 4, V.ow 5, V.ow 6])] ((i64 (v3 - 1)).toNat) = some (V.agg [V.sc (.string x3.Id), V.sc (.int .i64 x3.Limit), V.sc (.int .i64 x3.Posted), V.sc (.int .i64 x3.Most), V.sc (.int .i64 x3.MostSum), V.ow 3, V.sc (.int .i64 x3.Ring.Span), V.sc (.int .i64 x3.Ring.Head), V.ow 4, V.ow 5, V.ow 6]),
      ((i64 (v3 - 1)).toNat) < (List.map E29 v4).length,
      (decide (0 < v3)) = true,
      (decide (0 < v3)) = true,
      (decide (0 < v3)) = true,
      (decide (0 < v3)) = true,
      (!(Op.bytesLess x3.Id.toList x2.Id.toList || (x3.Id == x2.Id))) = false,
      Blk.row 29 ((List.map E29 v4).set ((i64 (v3 - 1)).toNat) (V.agg [V.sc (.string x3.Id), V.sc (.int .i64 x3.Limit), V.sc (.int .i64 x3.Posted), V.sc (.int .i64 x3.Most), V.sc (.int .i64 x3.MostSum), V.sl true 36 (List.map E36 x3.Holds), V.sc (.int .i64 x3.Ring.Span), V.sc (.int .i64 x3.Ring.Head), V.sl true 3 (List.map E3 x3.Ring.Counts), V.sl true 3 (List.map E3 x3.Ring.Sums), V.sl true 164 (List.map E164 x3.Slots)])) [] = Blk.row 29 (List.map E29 (v4.set ((i64 (v3 - 1)).toNat) x3)) []]) (by kernel_rfl) (show X.out 4 ≠ X.go from nofun) (cj h5 (cj h5 (cj h5 (cj h5 (cj (od h6) (cj (map_ltN (od h6) h7) (cj rfl (cj (map_get h7) (cj h5 (cj h5 (cj (look_cons_self _ _ _) (cj (map_lt h7) (cj h5 (cj h5 (cj h5 (cj h5 (cj (nf h8) (cj1 (nb_set E29 _ _ x3))))))))))))))))))))) (fun h8 =>
     LpO.go [.draw [], .bit true, .bit true, .bit true, .bit true, .foc 1 ((i64 (v3 - 1)).toNat) (E29 x3), .bit true, .bit true, .fo 0, .bit true, .bit true, .bit true, .bit true, .bit true, .wait 3, .shut 1, .nb 1 (.row 29 (List.map E29 (v4.set ((i64 (v3 - 1)).toNat) x3)) []), .mask [2, 3, 7, 8, 11, 12, 13, 18, 19, 20], .ren [0, 1, 2]] (p := [(decide (0 < v3)) = true,
      (decide (0 < v3)) = true,
      (decide (0 < v3)) = true,
      (decide (0 < v3)) = true,
      (0 : Int) ≤ (i64 (v3 - 1)),
      ((i64 (v3 - 1)) : Int) < ((List.map E29 v4).length : Int),
      look [] ((i64 (v3 - 1)).toNat) = none,
      (List.map E29 v4)[(i64 (v3 - 1)).toNat]? = some (E29 x3),
      (decide (0 < v3)) = true,
      (decide (0 < v3)) = true,
      look [((i64 (v3 - 1)).toNat, V.agg [V.sc (.string x3.Id), V.sc (.int .i64 x3.Limit), V.sc (.int .i64 x3.Posted), V.sc (.int .i64 x3.Most), V.sc (.int .i64 x3.MostSum), V.ow 3, V.sc (.int .i64 x3.Ring.Span), V.sc (.int .i64 x3.Ring.Head), V.ow 4, V.ow 5, V.ow 6])] ((i64 (v3 - 1)).toNat) = some (V.agg [V.sc (.string x3.Id), V.sc (.int .i64 x3.Limit), V.sc (.int .i64 x3.Posted), V.sc (.int .i64 x3.Most), V.sc (.int .i64 x3.MostSum), V.ow 3, V.sc (.int .i64 x3.Ring.Span), V.sc (.int .i64 x3.Ring.Head), V.ow 4, V.ow 5, V.ow 6]),
      ((i64 (v3 - 1)).toNat) < (List.map E29 v4).length,
      (decide (0 < v3)) = true,
      (decide (0 < v3)) = true,
      (decide (0 < v3)) = true,
      (decide (0 < v3)) = true,
      (!(Op.bytesLess x3.Id.toList x2.Id.toList || (x3.Id == x2.Id))) = true,
      Blk.row 29 ((List.map E29 v4).set ((i64 (v3 - 1)).toNat) (V.agg [V.sc (.string x3.Id), V.sc (.int .i64 x3.Limit), V.sc (.int .i64 x3.Posted), V.sc (.int .i64 x3.Most), V.sc (.int .i64 x3.MostSum), V.sl true 36 (List.map E36 x3.Holds), V.sc (.int .i64 x3.Ring.Span), V.sc (.int .i64 x3.Ring.Head), V.sl true 3 (List.map E3 x3.Ring.Counts), V.sl true 3 (List.map E3 x3.Ring.Sums), V.sl true 164 (List.map E164 x3.Slots)])) [] = Blk.row 29 (List.map E29 (v4.set ((i64 (v3 - 1)).toNat) x3)) []]) (by kernel_rfl) (cj h5 (cj h5 (cj h5 (cj h5 (cj (od h6) (cj (map_ltN (od h6) h7) (cj rfl (cj (map_get h7) (cj h5 (cj h5 (cj (look_cons_self _ _ _) (cj (map_lt h7) (cj h5 (cj h5 (cj h5 (cj h5 (cj (nt h8) (cj1 (nb_set E29 _ _ x3))))))))))))))))))) (spec_Gather_l2_ok l p1 x1 p2 x2 fuel (i64 (v3 - 1)) (v4.set ((i64 (v3 - 1)).toNat) x3))))) (fun h6 =>
     Pn.none)) (fun h5 =>
     Pn.some (LpO.out [.draw [], .bit false, .bit false, .bit false, .bit false, .bit false, .bit false, .bit false, .bit false, .bit false, .bit false, .bit false, .mask [2, 3, 7, 8, 11, 12, 13, 18, 19, 20], .ren [0, 1, 2]] (p := [(decide (0 < v3)) = false,
      (decide (0 < v3)) = false,
      (decide (0 < v3)) = false,
      (decide (0 < v3)) = false,
      (decide (0 < v3)) = false,
      (decide (0 < v3)) = false,
      (decide (0 < v3)) = false,
      (decide (0 < v3)) = false,
      (decide (0 < v3)) = false,
      (decide (0 < v3)) = false,
      false = false]) (by kernel_rfl) (show X.out 4 ≠ X.go from nofun) (cj h5 (cj h5 (cj h5 (cj h5 (cj h5 (cj h5 (cj h5 (cj h5 (cj h5 (cj h5 (cj1 rfl)))))))))))))
def spec_Gather_l1 (l : List Stripe) (p1 : List Stripe) (x1 : Stripe) : List Acct → List Acct → (List Acct) → Option ((List Acct))
  | [], p2, v2 =>
   some v2
  | x2 :: t2, p2, v2 =>
   (spec_Gather_l2 l p1 x1 p2 x2 FUEL (v2.length : Int) v2).bind fun r1 =>
   if (decide (0 ≤ r1.1)) = true then
   if (decide (r1.1 ≤ (r1.2.length : Int))) = true then
   if (capOk (0 + (r1.2.take r1.1.toNat).length)) = true then
   (spec_l09Copy x2).bind fun r2 =>
   if (capOk ((r1.2.take r1.1.toNat).length + 1)) = true then
   if (capOk (((r1.2.take r1.1.toNat) ++ [r2]).length + (r1.2.drop r1.1.toNat).length)) = true then
   spec_Gather_l1 l p1 x1 t2 (p2 ++ [x2]) (((r1.2.take r1.1.toNat) ++ [r2]) ++ (r1.2.drop r1.1.toNat))
   else none
   else none
   else none
   else none
   else none
theorem spec_Gather_l1_ok (l : List Stripe) (p1 : List Stripe) (x1 : Stripe) (h4 : capOk x1.Accts.length = true) : ∀ (t2 p2 : List Acct) (_ : x1.Accts = p2 ++ t2) (v2 : List Acct), Pn (LpO Try.prog (sub (codeOf Try.prog 31) [1, 1, 0, 1, 0, 0, 1, 1, 0, 0, 1, 1, 0, 0]) (st 60 [(2, V.ptr 0 0), (3, V.ow 1), (11, V.sl false 58 (List.map E58 l)), (12, V.sc (.int .i64 (l.length : Int))), (13, V.sc (.int .i64 (p1.length : Int))), (18, V.sl false 29 (List.map E29 x1.Accts)), (19, V.sc (.int .i64 (x1.Accts.length : Int))), (20, V.sc (.int .i64 (p2.length : Int)))] [Blk.box 50 [V.nl 29], Blk.row 29 (List.map E29 v2) []] []) (fun (y : (List Acct)) => (X.out 2, st 60 [(2, V.ptr 0 0), (3, V.ow 1), (11, V.sl false 58 (List.map E58 l)), (12, V.sc (.int .i64 (l.length : Int))), (13, V.sc (.int .i64 (p1.length : Int)))] [Blk.box 50 [V.nl 29], Blk.row 29 (List.map E29 y) []] []))) (spec_Gather_l1 l p1 x1 t2 p2 v2)
  | [], p2, h3, v2 => by
    unfold spec_Gather_l1
    exact
     Pn.some (LpO.out [.bit false, .mask [2, 3, 11, 12, 13], .ren [0, 1]] (p := [(decide ((p2.length : Int) < (x1.Accts.length : Int))) = false]) (by kernel_rfl) (show X.out 2 ≠ X.go from nofun) (cj1 (rng_end h3)))
  | x2 :: t2, p2, h3, v2 => by
    unfold spec_Gather_l1
    exact
     Pn.bind (fun r1 h9 =>
     Pn.ite (fun h10 =>
     Pn.ite (fun h11 =>
     Pn.ite (fun h12 =>
     Pn.bind (fun r2 h13 =>
     Pn.ite (fun h14 =>
     Pn.ite (fun h15 =>
     LpO.go [.bit true, .el (E29 x2), .wait 5, .nm 25 (V.sc (.int .i64 (v2.length : Int))), .wait 2, .mask [2, 3, 7, 8, 11, 12, 13, 18, 19, 20], .ren [0, 1, 2], .loop (X.out 4) (st 60 [(2, V.ptr 0 0), (3, V.ow 1), (7, V.ptr 2 0), (8, V.sc (.int .i64 r1.1)), (11, V.sl false 58 (List.map E58 l)), (12, V.sc (.int .i64 (l.length : Int))), (13, V.sc (.int .i64 (p1.length : Int))), (18, V.sl false 29 (List.map E29 x1.Accts)), (19, V.sc (.int .i64 (x1.Accts.length : Int))), (20, V.sc (.int .i64 (p2.length : Int)))] [Blk.box 50 [V.nl 29], Blk.row 29 (List.map E29 r1.2) [], Blk.box 29 [V.sc (.string x2.Id), V.sc (.int .i64 x2.Limit), V.sc (.int .i64 x2.Posted), V.sc (.int .i64 x2.Most), V.sc (.int .i64 x2.MostSum), V.sl false 36 (List.map E36 x2.Holds), V.sc (.int .i64 x2.Ring.Span), V.sc (.int .i64 x2.Ring.Head), V.sl false 3 (List.map E3 x2.Ring.Counts), V.sl false 3 (List.map E3 x2.Ring.Sums), V.sl false 164 (List.map E164 x2.Slots)]] []), .mv, .nb 1 (.row 29 (gap 11 r1.1.toNat ++ List.map E29 (r1.2.drop r1.1.toNat)) []), .nb 4 (.row 29 (List.map E29 (r1.2.take r1.1.toNat)) []), .call [] (E29 r2) [], .wait 1, .shut 9, .mv, .nb 10 (.row 29 (List.map E29 ((r1.2.take r1.1.toNat) ++ [r2])) []), .wait 5, .nm 54 (V.sb 1 11 r1.1.toNat ((r1.2.drop r1.1.toNat).length)), .mv, .nb 11 (.row 29 (List.map E29 (((r1.2.take r1.1.toNat) ++ [r2]) ++ (r1.2.drop r1.1.toNat))) []), .wait 4, .mask [2, 3, 11, 12, 13, 18, 19, 20], .ren [0, 11], .nm 20 (V.sc (.int .i64 ((p2 ++ [x2]).length : Int)))] (p := [(decide ((p2.length : Int) < (x1.Accts.length : Int))) = true,
      (0 : Int) ≤ (p2.length : Int),
      (List.map E29 x1.Accts)[(p2.length : Int).toNat]? = some (E29 x2),
      V.sc (.int .i64 ((List.map E29 v2).length : Int)) = V.sc (.int .i64 (v2.length : Int)),
      Loop Try.prog (sub (codeOf Try.prog 31) [1, 1, 0, 1, 0, 0, 1, 1, 0, 0, 1, 1, 0, 0, 1, 1, 0, 0, 1, 1, 0, 0, 0]) (st 60 [(2, V.ptr 0 0), (3, V.ow 1), (7, V.ptr 2 0), (8, V.sc (.int .i64 (v2.length : Int))), (11, V.sl false 58 (List.map E58 l)), (12, V.sc (.int .i64 (l.length : Int))), (13, V.sc (.int .i64 (p1.length : Int))), (18, V.sl false 29 (List.map E29 x1.Accts)), (19, V.sc (.int .i64 (x1.Accts.length : Int))), (20, V.sc (.int .i64 (p2.length : Int)))] [Blk.box 50 [V.nl 29], Blk.row 29 (List.map E29 v2) [], Blk.box 29 [V.sc (.string x2.Id), V.sc (.int .i64 x2.Limit), V.sc (.int .i64 x2.Posted), V.sc (.int .i64 x2.Most), V.sc (.int .i64 x2.MostSum), V.sl false 36 (List.map E36 x2.Holds), V.sc (.int .i64 x2.Ring.Span), V.sc (.int .i64 x2.Ring.Head), V.sl false 3 (List.map E3 x2.Ring.Counts), V.sl false 3 (List.map E3 x2.Ring.Sums), V.sl false 164 (List.map E164 x2.Slots)]] []) (X.out 4) (st 60 [(2, V.ptr 0 0), (3, V.ow 1), (7, V.ptr 2 0), (8, V.sc (.int .i64 r1.1)), (11, V.sl false 58 (List.map E58 l)), (12, V.sc (.int .i64 (l.length : Int))), (13, V.sc (.int .i64 (p1.length : Int))), (18, V.sl false 29 (List.map E29 x1.Accts)), (19, V.sc (.int .i64 (x1.Accts.length : Int))), (20, V.sc (.int .i64 (p2.length : Int)))] [Blk.box 50 [V.nl 29], Blk.row 29 (List.map E29 r1.2) [], Blk.box 29 [V.sc (.string x2.Id), V.sc (.int .i64 x2.Limit), V.sc (.int .i64 x2.Posted), V.sc (.int .i64 x2.Most), V.sc (.int .i64 x2.MostSum), V.sl false 36 (List.map E36 x2.Holds), V.sc (.int .i64 x2.Ring.Span), V.sc (.int .i64 x2.Ring.Head), V.sl false 3 (List.map E3 x2.Ring.Counts), V.sl false 3 (List.map E3 x2.Ring.Sums), V.sl false 164 (List.map E164 x2.Slots)]] []),
      (0 : Int) ≤ 0,
      (0 : Int) ≤ r1.1,
      (r1.1 : Int) ≤ ((List.map E29 r1.2).length : Int),
      ([] : List V).length + (((List.map E29 r1.2).drop 0).take r1.1.toNat).length ≤ 9223372036854775807,
      (([] : List V).length + (((List.map E29 r1.2).drop 0).take r1.1.toNat).length) * 160 ≤ 140737488355328,
      Blk.row 29 ((List.map E29 r1.2).take 0 ++ (gap 11 r1.1.toNat ++ (List.map E29 r1.2).drop (0 + r1.1.toNat))) [] = Blk.row 29 (gap 11 r1.1.toNat ++ List.map E29 (r1.2.drop r1.1.toNat)) [],
      Blk.row 29 (([] : List V) ++ (((List.map E29 r1.2).drop 0).take r1.1.toNat)) [] = Blk.row 29 (List.map E29 (r1.2.take r1.1.toNat)) [],
      Fn Try.prog 56 [(false, E29 x2)] (E29 r2) [],
      (true || ((E29 r2).nv && nvL [])) = true,
      (List.map E29 (r1.2.take r1.1.toNat)).length + [V.agg [V.sc (.string r2.Id), V.sc (.int .i64 r2.Limit), V.sc (.int .i64 r2.Posted), V.sc (.int .i64 r2.Most), V.sc (.int .i64 r2.MostSum), V.sl true 36 (List.map E36 r2.Holds), V.sc (.int .i64 r2.Ring.Span), V.sc (.int .i64 r2.Ring.Head), V.sl true 3 (List.map E3 r2.Ring.Counts), V.sl true 3 (List.map E3 r2.Ring.Sums), V.sl true 164 (List.map E164 r2.Slots)]].length ≤ 9223372036854775807,
      ((List.map E29 (r1.2.take r1.1.toNat)).length + [V.agg [V.sc (.string r2.Id), V.sc (.int .i64 r2.Limit), V.sc (.int .i64 r2.Posted), V.sc (.int .i64 r2.Most), V.sc (.int .i64 r2.MostSum), V.sl true 36 (List.map E36 r2.Holds), V.sc (.int .i64 r2.Ring.Span), V.sc (.int .i64 r2.Ring.Head), V.sl true 3 (List.map E3 r2.Ring.Counts), V.sl true 3 (List.map E3 r2.Ring.Sums), V.sl true 164 (List.map E164 r2.Slots)]].length) * 160 ≤ 140737488355328,
      Blk.row 29 ((List.map E29 (r1.2.take r1.1.toNat)) ++ [V.agg [V.sc (.string r2.Id), V.sc (.int .i64 r2.Limit), V.sc (.int .i64 r2.Posted), V.sc (.int .i64 r2.Most), V.sc (.int .i64 r2.MostSum), V.sl true 36 (List.map E36 r2.Holds), V.sc (.int .i64 r2.Ring.Span), V.sc (.int .i64 r2.Ring.Head), V.sl true 3 (List.map E3 r2.Ring.Counts), V.sl true 3 (List.map E3 r2.Ring.Sums), V.sl true 164 (List.map E164 r2.Slots)]]) [] = Blk.row 29 (List.map E29 ((r1.2.take r1.1.toNat) ++ [r2])) [],
      (0 : Int) ≤ r1.1,
      (r1.1 : Int) ≤ ((gap 11 r1.1.toNat ++ List.map E29 (r1.2.drop r1.1.toNat)).length : Int),
      (((gap 11 r1.1.toNat ++ List.map E29 (r1.2.drop r1.1.toNat)).length : Int) : Int) ≤ ((gap 11 r1.1.toNat ++ List.map E29 (r1.2.drop r1.1.toNat)).length : Int),
      V.sb 1 11 r1.1.toNat ((((gap 11 r1.1.toNat ++ List.map E29 (r1.2.drop r1.1.toNat)).length : Int).toNat) - (r1.1.toNat)) = V.sb 1 11 r1.1.toNat ((r1.2.drop r1.1.toNat).length),
      (List.map E29 ((r1.2.take r1.1.toNat) ++ [r2])).length + (((gap 11 r1.1.toNat ++ List.map E29 (r1.2.drop r1.1.toNat)).drop r1.1.toNat).take ((r1.2.drop r1.1.toNat).length)).length ≤ 9223372036854775807,
      ((List.map E29 ((r1.2.take r1.1.toNat) ++ [r2])).length + (((gap 11 r1.1.toNat ++ List.map E29 (r1.2.drop r1.1.toNat)).drop r1.1.toNat).take ((r1.2.drop r1.1.toNat).length)).length) * 160 ≤ 140737488355328,
      Blk.row 29 ((List.map E29 ((r1.2.take r1.1.toNat) ++ [r2])) ++ (((gap 11 r1.1.toNat ++ List.map E29 (r1.2.drop r1.1.toNat)).drop r1.1.toNat).take ((r1.2.drop r1.1.toNat).length))) [] = Blk.row 29 (List.map E29 (((r1.2.take r1.1.toNat) ++ [r2]) ++ (r1.2.drop r1.1.toNat))) [],
      V.sc (.int .i64 (i64 ((p2.length : Int) + 1))) = V.sc (.int .i64 ((p2 ++ [x2]).length : Int))]) (by kernel_rfl) (cj (rng_lt h3) (cj (by omega) (cj (rng_get _ h3) (cj (len_nm _ _) (cj (spec_Gather_l2_ok l p1 x1 p2 x2 FUEL (v2.length : Int) v2 r1 h9) (cj (by decide) (cj (od h10) (cj (by rw [List.length_map]; exact (od h11)) (cj (cap1 (capN (by simp [gap]) h12)) (cj (cap2 (capN (by simp [gap]) h12) (by decide)) (cj (gap_nb _ _ _) (cj (by simp) (cj (spec_l09Copy_ok x2 r2 h13) (cj rfl (cj (cap1 (capN (by simp) h14)) (cj (cap2 (capN (by simp) h14) (by decide)) (cj (nb_app E29 (r1.2.take r1.1.toNat) [r2]) (cj (od h10) (cj (by simp [gap]; omega) (cj (Int.le_refl _) (cj (by simp [gap]; try omega) (cj (cap1 (capN (by simp [gap]) h15)) (cj (cap2 (capN (by simp [gap]) h15) (by decide)) (cj (gap_app _ _ _ _ _ (by simp)) (cj1 (rng_next h3 h4)))))))))))))))))))))))))) (spec_Gather_l1_ok l p1 x1 h4 t2 (p2 ++ [x2]) (rng_step h3) (((r1.2.take r1.1.toNat) ++ [r2]) ++ (r1.2.drop r1.1.toNat)))) (fun h15 =>
     Pn.none)) (fun h14 =>
     Pn.none))) (fun h12 =>
     Pn.none)) (fun h11 =>
     Pn.none)) (fun h10 =>
     Pn.none))
def spec_Gather_l0 (l : List Stripe) : List Stripe → List Stripe → (List Acct) → Option ((List Acct))
  | [], p1, v1 =>
   some v1
  | x1 :: t1, p1, v1 =>
   if (capOk x1.Accts.length) = true then
   (spec_Gather_l1 l p1 x1 x1.Accts [] v1).bind fun r3 =>
   spec_Gather_l0 l t1 (p1 ++ [x1]) r3
   else none
theorem spec_Gather_l0_ok (l : List Stripe) (h2 : capOk l.length = true) : ∀ (t1 p1 : List Stripe) (_ : l = p1 ++ t1) (v1 : List Acct), Pn (LpO Try.prog (sub (codeOf Try.prog 31) [1, 1, 0, 1, 0, 0]) (st 60 [(2, V.ptr 0 0), (3, V.ow 1), (11, V.sl false 58 (List.map E58 l)), (12, V.sc (.int .i64 (l.length : Int))), (13, V.sc (.int .i64 (p1.length : Int)))] [Blk.box 50 [V.nl 29], Blk.row 29 (List.map E29 v1) []] []) (fun (y : (List Acct)) => (X.out 0, st 60 [(2, V.ptr 0 0), (3, V.ow 1)] [Blk.box 50 [V.nl 29], Blk.row 29 (List.map E29 y) []] []))) (spec_Gather_l0 l t1 p1 v1)
  | [], p1, h1, v1 => by
    unfold spec_Gather_l0
    exact
     Pn.some (LpO.out [.bit false, .mask [2, 3], .ren [0, 1]] (p := [(decide ((p1.length : Int) < (l.length : Int))) = false]) (by kernel_rfl) (show X.out 0 ≠ X.go from nofun) (cj1 (rng_end h1)))
  | x1 :: t1, p1, h1, v1 => by
    unfold spec_Gather_l0
    exact
     Pn.ite (fun h16 =>
     Pn.bind (fun r3 h17 =>
     LpO.go [.bit true, .el (E58 x1), .wait 6, .nm 19 (V.sc (.int .i64 (x1.Accts.length : Int))), .wait 2, .mask [2, 3, 11, 12, 13, 18, 19, 20], .ren [0, 1], .loop (X.out 2) (st 60 [(2, V.ptr 0 0), (3, V.ow 1), (11, V.sl false 58 (List.map E58 l)), (12, V.sc (.int .i64 (l.length : Int))), (13, V.sc (.int .i64 (p1.length : Int)))] [Blk.box 50 [V.nl 29], Blk.row 29 (List.map E29 r3) []] []), .wait 3, .mask [2, 3, 11, 12, 13], .ren [0, 1], .nm 13 (V.sc (.int .i64 ((p1 ++ [x1]).length : Int)))] (p := [(decide ((p1.length : Int) < (l.length : Int))) = true,
      (0 : Int) ≤ (p1.length : Int),
      (List.map E58 l)[(p1.length : Int).toNat]? = some (E58 x1),
      V.sc (.int .i64 ((List.map E29 x1.Accts).length : Int)) = V.sc (.int .i64 (x1.Accts.length : Int)),
      Loop Try.prog (sub (codeOf Try.prog 31) [1, 1, 0, 1, 0, 0, 1, 1, 0, 0, 1, 1, 0, 0]) (st 60 [(2, V.ptr 0 0), (3, V.ow 1), (11, V.sl false 58 (List.map E58 l)), (12, V.sc (.int .i64 (l.length : Int))), (13, V.sc (.int .i64 (p1.length : Int))), (18, V.sl false 29 (List.map E29 x1.Accts)), (19, V.sc (.int .i64 (x1.Accts.length : Int))), (20, V.sc (.int .i64 0))] [Blk.box 50 [V.nl 29], Blk.row 29 (List.map E29 v1) []] []) (X.out 2) (st 60 [(2, V.ptr 0 0), (3, V.ow 1), (11, V.sl false 58 (List.map E58 l)), (12, V.sc (.int .i64 (l.length : Int))), (13, V.sc (.int .i64 (p1.length : Int)))] [Blk.box 50 [V.nl 29], Blk.row 29 (List.map E29 r3) []] []),
      V.sc (.int .i64 (i64 ((p1.length : Int) + 1))) = V.sc (.int .i64 ((p1 ++ [x1]).length : Int))]) (by kernel_rfl) (cj (rng_lt h1) (cj (by omega) (cj (rng_get _ h1) (cj (len_nm _ _) (cj (spec_Gather_l1_ok l p1 x1 h16 x1.Accts [] rfl v1 r3 h17) (cj1 (rng_next h1 h2))))))) (spec_Gather_l0_ok l h2 t1 (p1 ++ [x1]) (rng_step h1) r3))) (fun h16 =>
     Pn.none)
def spec_Gather (l : List Stripe) : Option (Book) :=
 if (capOk l.length) = true then
 (spec_Gather_l0 l l [] []).bind fun r4 =>
 some (Book.mk r4)
 else none
theorem spec_Gather_ok (l : List Stripe) : Pn (fun y => Fn Try.prog 31 [(false, E53 l)] (E50 y) []) (spec_Gather l) := by
  unfold spec_Gather
  exact
   Pn.ite (fun h18 =>
   Pn.bind (fun r4 h19 =>
   Pn.some (Fn.of [.wait 5, .nm 12 (V.sc (.int .i64 (l.length : Int))), .wait 2, .mask [2, 3, 11, 12, 13], .ren [0, 1], .loop (X.out 0) (st 60 [(2, V.ptr 0 0), (3, V.ow 1)] [Blk.box 50 [V.nl 29], Blk.row 29 (List.map E29 r4) []] [])] (p := [V.sc (.int .i64 ((List.map E58 l).length : Int)) = V.sc (.int .i64 (l.length : Int)),
    Loop Try.prog (sub (codeOf Try.prog 31) [1, 1, 0, 1, 0, 0]) (st 60 [(2, V.ptr 0 0), (3, V.ow 1), (11, V.sl false 58 (List.map E58 l)), (12, V.sc (.int .i64 (l.length : Int))), (13, V.sc (.int .i64 0))] [Blk.box 50 [V.nl 29], Blk.row 29 ([] : List V) []] []) (X.out 0) (st 60 [(2, V.ptr 0 0), (3, V.ow 1)] [Blk.box 50 [V.nl 29], Blk.row 29 (List.map E29 r4) []] [])]) (by kernel_rfl) (cj (len_nm _ _) (cj1 (spec_Gather_l0_ok l h18 l [] rfl [] r4 h19)))))) (fun h18 =>
   Pn.none)
def spec_Part_l0 (l : List Stripe) (set : List Int) : List Stripe → List Stripe → (List Stripe) → Option ((List Stripe))
  | [], p1, v1 =>
   some v1
  | x1 :: t1, p1, v1 =>
   (spec_l13Has set (p1.length : Int)).bind fun r1 =>
   if r1 = true then
   if (capOk (v1.length + 1)) = true then
   spec_Part_l0 l set t1 (p1 ++ [x1]) (v1 ++ [x1])
   else none
   else
   spec_Part_l0 l set t1 (p1 ++ [x1]) v1
theorem spec_Part_l0_ok (l : List Stripe) (set : List Int) (h2 : capOk l.length = true) : ∀ (t1 p1 : List Stripe) (_ : l = p1 ++ t1) (v1 : List Stripe), Pn (LpO Try.prog (sub (codeOf Try.prog 38) [1, 1, 0, 1, 0, 0]) (st 26 [(1, V.sl false 3 (List.map E3 set)), (4, V.ptr 0 0), (5, V.ow 1), (9, V.sl false 58 (List.map E58 l)), (10, V.sc (.int .i64 (l.length : Int))), (11, V.sc (.int .i64 (p1.length : Int)))] [Blk.box 50 [V.nl 29], Blk.row 58 (List.map (fun x => (E58 x).vw) v1) []] []) (fun (y : (List Stripe)) => (X.out 0, st 26 [(4, V.ptr 0 0), (5, V.ow 1)] [Blk.box 50 [V.nl 29], Blk.row 58 (List.map (fun x => (E58 x).vw) y) []] []))) (spec_Part_l0 l set t1 p1 v1)
  | [], p1, h1, v1 => by
    unfold spec_Part_l0
    exact
     Pn.some (LpO.out [.bit false, .mask [4, 5], .ren [0, 1]] (p := [(decide ((p1.length : Int) < (l.length : Int))) = false]) (by kernel_rfl) (show X.out 0 ≠ X.go from nofun) (cj1 (rng_end h1)))
  | x1 :: t1, p1, h1, v1 => by
    unfold spec_Part_l0
    exact
     Pn.bind (fun r1 h3 =>
     Pn.ite (fun h4 =>
     Pn.ite (fun h5 =>
     LpO.go [.bit true, .el (E58 x1), .call [] (E4 r1) [], .bit true, .mv, .nb 4 (.row 58 (List.map (fun x => (E58 x).vw) (v1 ++ [x1])) []), .wait 4, .mask [1, 4, 5, 9, 10, 11], .ren [0, 4], .nm 11 (V.sc (.int .i64 ((p1 ++ [x1]).length : Int)))] (p := [(decide ((p1.length : Int) < (l.length : Int))) = true,
      (0 : Int) ≤ (p1.length : Int),
      (List.map E58 l)[(p1.length : Int).toNat]? = some (E58 x1),
      Fn Try.prog 97 [(false, E24 set), (false, E3 (p1.length : Int))] (E4 r1) [],
      (true || ((E4 r1).nv && nvL [])) = true,
      r1 = true,
      (List.map (fun x => (E58 x).vw) v1).length + [V.agg [V.sc (.int .i64 x1.Owner), V.sl false 29 (List.map E29 x1.Accts)]].length ≤ 9223372036854775807,
      ((List.map (fun x => (E58 x).vw) v1).length + [V.agg [V.sc (.int .i64 x1.Owner), V.sl false 29 (List.map E29 x1.Accts)]].length) * 32 ≤ 140737488355328,
      Blk.row 58 ((List.map (fun x => (E58 x).vw) v1) ++ [V.agg [V.sc (.int .i64 x1.Owner), V.sl false 29 (List.map E29 x1.Accts)]]) [] = Blk.row 58 (List.map (fun x => (E58 x).vw) (v1 ++ [x1])) [],
      V.sc (.int .i64 (i64 ((p1.length : Int) + 1))) = V.sc (.int .i64 ((p1 ++ [x1]).length : Int))]) (by kernel_rfl) (cj (rng_lt h1) (cj (by omega) (cj (rng_get _ h1) (cj (spec_l13Has_ok set (p1.length : Int) r1 h3) (cj rfl (cj h4 (cj (cap1 (capN (by simp) h5)) (cj (cap2 (capN (by simp) h5) (by decide)) (cj (nb_app _ v1 [x1]) (cj1 (rng_next h1 h2))))))))))) (spec_Part_l0_ok l set h2 t1 (p1 ++ [x1]) (rng_step h1) (v1 ++ [x1]))) (fun h5 =>
     Pn.none)) (fun h4 =>
     LpO.go [.bit true, .el (E58 x1), .call [] (E4 r1) [], .bit false, .wait 2, .mask [1, 4, 5, 9, 10, 11], .ren [0, 1], .nm 11 (V.sc (.int .i64 ((p1 ++ [x1]).length : Int)))] (p := [(decide ((p1.length : Int) < (l.length : Int))) = true,
      (0 : Int) ≤ (p1.length : Int),
      (List.map E58 l)[(p1.length : Int).toNat]? = some (E58 x1),
      Fn Try.prog 97 [(false, E24 set), (false, E3 (p1.length : Int))] (E4 r1) [],
      (true || ((E4 r1).nv && nvL [])) = true,
      r1 = false,
      V.sc (.int .i64 (i64 ((p1.length : Int) + 1))) = V.sc (.int .i64 ((p1 ++ [x1]).length : Int))]) (by kernel_rfl) (cj (rng_lt h1) (cj (by omega) (cj (rng_get _ h1) (cj (spec_l13Has_ok set (p1.length : Int) r1 h3) (cj rfl (cj h4 (cj1 (rng_next h1 h2)))))))) (spec_Part_l0_ok l set h2 t1 (p1 ++ [x1]) (rng_step h1) v1)))
def spec_Part (l : List Stripe) (set : List Int) : Option (Book) :=
 if (capOk l.length) = true then
 (spec_Part_l0 l set l [] []).bind fun r2 =>
 (spec_Gather r2).bind fun r3 =>
 some r3
 else none
theorem spec_Part_ok (l : List Stripe) (set : List Int) : Pn (fun y => Fn Try.prog 38 [(false, E53 l), (false, E24 set)] (E50 y) []) (spec_Part l set) := by
  unfold spec_Part
  exact
   Pn.ite (fun h6 =>
   Pn.bind (fun r2 h7 =>
   Pn.bind (fun r3 h8 =>
   Pn.some (Fn.of [.wait 5, .nm 10 (V.sc (.int .i64 (l.length : Int))), .wait 2, .mask [1, 4, 5, 9, 10, 11], .ren [0, 1], .loop (X.out 0) (st 26 [(4, V.ptr 0 0), (5, V.ow 1)] [Blk.box 50 [V.nl 29], Blk.row 58 (List.map (fun x => (E58 x).vw) r2) []] []), .call [] (E50 r3) []] (p := [V.sc (.int .i64 ((List.map E58 l).length : Int)) = V.sc (.int .i64 (l.length : Int)),
    Loop Try.prog (sub (codeOf Try.prog 38) [1, 1, 0, 1, 0, 0]) (st 26 [(1, V.sl false 3 (List.map E3 set)), (4, V.ptr 0 0), (5, V.ow 1), (9, V.sl false 58 (List.map E58 l)), (10, V.sc (.int .i64 (l.length : Int))), (11, V.sc (.int .i64 0))] [Blk.box 50 [V.nl 29], Blk.row 58 ([] : List V) []] []) (X.out 0) (st 26 [(4, V.ptr 0 0), (5, V.ow 1)] [Blk.box 50 [V.nl 29], Blk.row 58 (List.map (fun x => (E58 x).vw) r2) []] []),
    Fn Try.prog 31 [(false, V.sl true 58 (List.map (fun x => (E58 x).vw) r2))] (E50 r3) [],
    (false || ((E50 r3).nv && nvL [])) = true]) (by kernel_rfl) (cj (len_nm _ _) (cj (spec_Part_l0_ok l set h6 l [] rfl [] r2 h7) (cj (Fn.flag 0 (congrArg (fun z => [(false, V.sl true 58 z)]) (flag_vmap E58 (fun _ => rfl) r2)) (spec_Gather_ok r2 r3 h8)) (cj1 (by simp [V.nv, nvL, nvL_all, nv_E3, nv_E5, nv_E9, nv_E22, nv_E23, nv_E24, nv_E26, nv_E27, nv_E29, nv_E36, nv_E48, nv_E50, nv_E164]))))))))) (fun h6 =>
   Pn.none)
def slices_Index_int_l0 (s_ : List Int) (v_ : Int) : List Int → List Int → Option (Lo Unit Int)
  | [], p1 =>
   some (.out ())
  | x1 :: t1, p1 =>
   if (v_ == x1) = true then
   some (.ret (p1.length : Int))
   else
   slices_Index_int_l0 s_ v_ t1 (p1 ++ [x1])
theorem slices_Index_int_l0_ok (s_ : List Int) (v_ : Int) (h2 : capOk s_.length = true) : ∀ (t1 p1 : List Int) (_ : s_ = p1 ++ t1) , Pn (LpO Try.prog (sub (codeOf Try.prog 159) [1, 0, 1, 0, 0]) (st 19 [(0, V.sl false 3 (List.map E3 s_)), (1, V.sc (.int .i64 v_)), (7, V.sc (.int .i64 (s_.length : Int))), (8, V.sc (.int .i64 (p1.length : Int)))] [] []) (fun (y : Lo Unit Int) => Lo.elim y (fun s => (X.out 0, st 19 [] [] [])) (fun s => (X.ret, st 19 [(4, V.sc (.int .i64 s))] [] [])))) (slices_Index_int_l0 s_ v_ t1 p1)
  | [], p1, h1 => by
    unfold slices_Index_int_l0
    exact
     Pn.some (LpO.out [.bit false, .mask [], .ren []] (p := [(decide ((p1.length : Int) < (s_.length : Int))) = false]) (by kernel_rfl) (show X.out 0 ≠ X.go from nofun) (cj1 (rng_end h1)))
  | x1 :: t1, p1, h1 => by
    unfold slices_Index_int_l0
    exact
     Pn.ite (fun h3 =>
     Pn.some (LpO.out [.bit true, .el (E3 x1), .bit true, .wait 2, .mask [4], .ren []] (p := [(decide ((p1.length : Int) < (s_.length : Int))) = true,
      (0 : Int) ≤ (p1.length : Int),
      (List.map E3 s_)[(p1.length : Int).toNat]? = some (E3 x1),
      (v_ == x1) = true]) (by kernel_rfl) (show X.ret ≠ X.go from nofun) (cj (rng_lt h1) (cj (by omega) (cj (rng_get _ h1) (cj1 h3)))))) (fun h3 =>
     LpO.go [.bit true, .el (E3 x1), .bit false, .wait 2, .mask [0, 1, 7, 8], .ren [], .nm 8 (V.sc (.int .i64 ((p1 ++ [x1]).length : Int)))] (p := [(decide ((p1.length : Int) < (s_.length : Int))) = true,
      (0 : Int) ≤ (p1.length : Int),
      (List.map E3 s_)[(p1.length : Int).toNat]? = some (E3 x1),
      (v_ == x1) = false,
      V.sc (.int .i64 (i64 ((p1.length : Int) + 1))) = V.sc (.int .i64 ((p1 ++ [x1]).length : Int))]) (by kernel_rfl) (cj (rng_lt h1) (cj (by omega) (cj (rng_get _ h1) (cj h3 (cj1 (rng_next h1 h2)))))) (slices_Index_int_l0_ok s_ v_ h2 t1 (p1 ++ [x1]) (rng_step h1)))
def slices_Index_int (s_ : List Int) (v_ : Int) : Option (Int) :=
 if (capOk s_.length) = true then
 (slices_Index_int_l0 s_ v_ s_ []).bind fun r1 =>
 Lo.elim r1 (fun s1 =>
 some (-1)) (fun s2 =>
 some s2)
 else none
theorem slices_Index_int_ok (s_ : List Int) (v_ : Int) : Pn (fun y => Fn Try.prog 159 [(false, E24 s_), (false, E3 v_)] (E3 y) []) (slices_Index_int s_ v_) := by
  unfold slices_Index_int
  exact
   Pn.ite (fun h4 =>
   Pn.bind (fun r1 h5 =>
   Pn.lo (fun s1 h6 =>
   Pn.some (Fn.of [.wait 3, .nm 7 (V.sc (.int .i64 (s_.length : Int))), .wait 2, .mask [0, 1, 7, 8], .ren [], .loop (X.out 0) (st 19 [] [] [])] (p := [V.sc (.int .i64 ((List.map E3 s_).length : Int)) = V.sc (.int .i64 (s_.length : Int)),
    Loop Try.prog (sub (codeOf Try.prog 159) [1, 0, 1, 0, 0]) (st 19 [(0, V.sl false 3 (List.map E3 s_)), (1, V.sc (.int .i64 v_)), (7, V.sc (.int .i64 (s_.length : Int))), (8, V.sc (.int .i64 0))] [] []) (X.out 0) (st 19 [] [] [])]) (by kernel_rfl) (cj (len_nm _ _) (cj1 ((slices_Index_int_l0_ok s_ v_ h4 s_ [] rfl r1 h5).at h6))))) (fun s2 h7 =>
   Pn.some (Fn.of [.wait 3, .nm 7 (V.sc (.int .i64 (s_.length : Int))), .wait 2, .mask [0, 1, 7, 8], .ren [], .loop (X.ret) (st 19 [(4, V.sc (.int .i64 s2))] [] [])] (p := [V.sc (.int .i64 ((List.map E3 s_).length : Int)) = V.sc (.int .i64 (s_.length : Int)),
    Loop Try.prog (sub (codeOf Try.prog 159) [1, 0, 1, 0, 0]) (st 19 [(0, V.sl false 3 (List.map E3 s_)), (1, V.sc (.int .i64 v_)), (7, V.sc (.int .i64 (s_.length : Int))), (8, V.sc (.int .i64 0))] [] []) (X.ret) (st 19 [(4, V.sc (.int .i64 s2))] [] [])]) (by kernel_rfl) (cj (len_nm _ _) (cj1 ((slices_Index_int_l0_ok s_ v_ h4 s_ [] rfl r1 h5).at h7))))))) (fun h4 =>
   Pn.none)
def slices_Contains_int (s_ : List Int) (v_ : Int) : Option (Bool) :=
 (slices_Index_int s_ v_).bind fun r1 =>
 some (decide (0 ≤ r1))
theorem slices_Contains_int_ok (s_ : List Int) (v_ : Int) : Pn (fun y => Fn Try.prog 98 [(false, E24 s_), (false, E3 v_)] (E4 y) []) (slices_Contains_int s_ v_) := by
  unfold slices_Contains_int
  exact
   Pn.bind (fun r1 h1 =>
   Pn.some (Fn.of [.call [] (E3 r1) []] (p := [Fn Try.prog 159 [(false, E24 s_), (false, E3 v_)] (E3 r1) [],
    (true || ((E3 r1).nv && nvL [])) = true]) (by kernel_rfl) (cj (slices_Index_int_ok s_ v_ r1 h1) (cj1 rfl))))
def slices_Clone_impl_Hold (s_ : List Hold) : Option (List Hold) := if capOk s_.length = true then some s_ else none
theorem slices_Clone_impl_Hold_ok : ∀ (s_ : List Hold), Pn (fun y => Fn Try.prog 131 [(false, E23 s_)] (E23 y) []) (slices_Clone_impl_Hold s_)
  | [] => by
    unfold slices_Clone_impl_Hold
    exact Pn.ite (fun h => Pn.some (Fn.two [] [.bit true] [.bit false, .cp (List.map E36 []), .nb 1 (.row 36 (List.map E36 []) [])] (p := []) (pT := [true = true]) (pF := [false = false, (List.map E36 []).map V.vw = (List.map E36 []), ([] : List V).length + (List.map E36 []).length ≤ 9223372036854775807, (([] : List V).length + (List.map E36 []).length) * 32 ≤ 140737488355328, Blk.row 36 (([] : List V) ++ (List.map E36 [])) [] = Blk.row 36 (List.map E36 []) []]) (by kernel_rfl) trivial (cj1 rfl) (cj rfl (cj (vw_id (fun _ => rfl) _) (cj (cap1 (capN (by simp) h)) (cj (cap2 (capN (by simp) h) (by decide)) (cj1 rfl))))))) (fun _ => Pn.none)
  | x :: t => by
    unfold slices_Clone_impl_Hold
    exact Pn.ite (fun h => Pn.some (Fn.two [] [.bit true] [.bit false, .cp (List.map E36 (x :: t)), .nb 1 (.row 36 (List.map E36 (x :: t)) [])] (p := []) (pT := [false = false, (List.map E36 (x :: t)).map V.vw = (List.map E36 (x :: t)), ([] : List V).length + (List.map E36 (x :: t)).length ≤ 9223372036854775807, (([] : List V).length + (List.map E36 (x :: t)).length) * 32 ≤ 140737488355328, Blk.row 36 (([] : List V) ++ (List.map E36 (x :: t))) [] = Blk.row 36 (List.map E36 (x :: t)) []]) (pF := [false = false, (List.map E36 (x :: t)).map V.vw = (List.map E36 (x :: t)), ([] : List V).length + (List.map E36 (x :: t)).length ≤ 9223372036854775807, (([] : List V).length + (List.map E36 (x :: t)).length) * 32 ≤ 140737488355328, Blk.row 36 (([] : List V) ++ (List.map E36 (x :: t))) [] = Blk.row 36 (List.map E36 (x :: t)) []]) (by kernel_rfl) trivial (cj rfl (cj (vw_id (fun _ => rfl) _) (cj (cap1 (capN (by simp) h)) (cj (cap2 (capN (by simp) h) (by decide)) (cj1 rfl))))) (cj rfl (cj (vw_id (fun _ => rfl) _) (cj (cap1 (capN (by simp) h)) (cj (cap2 (capN (by simp) h) (by decide)) (cj1 rfl))))))) (fun _ => Pn.none)
def slices_Clone_int (s_ : List Int) : Option (List Int) := if capOk s_.length = true then some s_ else none
theorem slices_Clone_int_ok : ∀ (s_ : List Int), Pn (fun y => Fn Try.prog 165 [(false, E24 s_)] (E24 y) []) (slices_Clone_int s_)
  | [] => by
    unfold slices_Clone_int
    exact Pn.ite (fun h => Pn.some (Fn.two [] [.bit true] [.bit false, .cp (List.map E3 []), .nb 1 (.row 3 (List.map E3 []) [])] (p := []) (pT := [true = true]) (pF := [false = false, (List.map E3 []).map V.vw = (List.map E3 []), ([] : List V).length + (List.map E3 []).length ≤ 9223372036854775807, (([] : List V).length + (List.map E3 []).length) * 8 ≤ 140737488355328, Blk.row 3 (([] : List V) ++ (List.map E3 [])) [] = Blk.row 3 (List.map E3 []) []]) (by kernel_rfl) trivial (cj1 rfl) (cj rfl (cj (vw_id (fun _ => rfl) _) (cj (cap1 (capN (by simp) h)) (cj (cap2 (capN (by simp) h) (by decide)) (cj1 rfl))))))) (fun _ => Pn.none)
  | x :: t => by
    unfold slices_Clone_int
    exact Pn.ite (fun h => Pn.some (Fn.two [] [.bit true] [.bit false, .cp (List.map E3 (x :: t)), .nb 1 (.row 3 (List.map E3 (x :: t)) [])] (p := []) (pT := [false = false, (List.map E3 (x :: t)).map V.vw = (List.map E3 (x :: t)), ([] : List V).length + (List.map E3 (x :: t)).length ≤ 9223372036854775807, (([] : List V).length + (List.map E3 (x :: t)).length) * 8 ≤ 140737488355328, Blk.row 3 (([] : List V) ++ (List.map E3 (x :: t))) [] = Blk.row 3 (List.map E3 (x :: t)) []]) (pF := [false = false, (List.map E3 (x :: t)).map V.vw = (List.map E3 (x :: t)), ([] : List V).length + (List.map E3 (x :: t)).length ≤ 9223372036854775807, (([] : List V).length + (List.map E3 (x :: t)).length) * 8 ≤ 140737488355328, Blk.row 3 (([] : List V) ++ (List.map E3 (x :: t))) [] = Blk.row 3 (List.map E3 (x :: t)) []]) (by kernel_rfl) trivial (cj rfl (cj (vw_id (fun _ => rfl) _) (cj (cap1 (capN (by simp) h)) (cj (cap2 (capN (by simp) h) (by decide)) (cj1 rfl))))) (cj rfl (cj (vw_id (fun _ => rfl) _) (cj (cap1 (capN (by simp) h)) (cj (cap2 (capN (by simp) h) (by decide)) (cj1 rfl))))))) (fun _ => Pn.none)
def impl_Ring_copied (r_ : Ring) : Option (Ring) :=
 (slices_Clone_int r_.Counts).bind fun r1 =>
 (slices_Clone_int r_.Sums).bind fun r2 =>
 some (Ring.mk r_.Span r_.Head r1 r2)
theorem impl_Ring_copied_ok (r_ : Ring) : Pn (fun y => Fn Try.prog 138 [(false, E26 r_)] (E26 y) []) (impl_Ring_copied r_) := by
  unfold impl_Ring_copied
  exact
   Pn.bind (fun r1 h1 =>
   Pn.bind (fun r2 h2 =>
   Pn.some (Fn.of [.draw [7, 9], .call [] (E24 r1) [], .call [] (E24 r2) []] (p := [Fn Try.prog 165 [(false, E24 r_.Counts)] (E24 r1) [],
    (true || ((E24 r1).nv && nvL [])) = true,
    Fn Try.prog 165 [(false, E24 r_.Sums)] (E24 r2) [],
    (true || ((E24 r2).nv && nvL [])) = true]) (by kernel_rfl) (cj (slices_Clone_int_ok r_.Counts r1 h1) (cj rfl (cj (slices_Clone_int_ok r_.Sums r2 h2) (cj1 rfl)))))))
def slices_Clone_byte (s_ : List Int) : Option (List Int) := if capOk s_.length = true then some s_ else none
theorem slices_Clone_byte_ok : ∀ (s_ : List Int), Pn (fun y => Fn Try.prog 164 [(false, E22 s_)] (E22 y) []) (slices_Clone_byte s_)
  | [] => by
    unfold slices_Clone_byte
    exact Pn.ite (fun h => Pn.some (Fn.two [] [.bit true] [.bit false, .cp (List.map E5 []), .nb 1 (.row 5 (List.map E5 []) [])] (p := []) (pT := [true = true]) (pF := [false = false, (List.map E5 []).map V.vw = (List.map E5 []), ([] : List V).length + (List.map E5 []).length ≤ 9223372036854775807, (([] : List V).length + (List.map E5 []).length) * 1 ≤ 140737488355328, Blk.row 5 (([] : List V) ++ (List.map E5 [])) [] = Blk.row 5 (List.map E5 []) []]) (by kernel_rfl) trivial (cj1 rfl) (cj rfl (cj (vw_id (fun _ => rfl) _) (cj (cap1 (capN (by simp) h)) (cj (cap2 (capN (by simp) h) (by decide)) (cj1 rfl))))))) (fun _ => Pn.none)
  | x :: t => by
    unfold slices_Clone_byte
    exact Pn.ite (fun h => Pn.some (Fn.two [] [.bit true] [.bit false, .cp (List.map E5 (x :: t)), .nb 1 (.row 5 (List.map E5 (x :: t)) [])] (p := []) (pT := [false = false, (List.map E5 (x :: t)).map V.vw = (List.map E5 (x :: t)), ([] : List V).length + (List.map E5 (x :: t)).length ≤ 9223372036854775807, (([] : List V).length + (List.map E5 (x :: t)).length) * 1 ≤ 140737488355328, Blk.row 5 (([] : List V) ++ (List.map E5 (x :: t))) [] = Blk.row 5 (List.map E5 (x :: t)) []]) (pF := [false = false, (List.map E5 (x :: t)).map V.vw = (List.map E5 (x :: t)), ([] : List V).length + (List.map E5 (x :: t)).length ≤ 9223372036854775807, (([] : List V).length + (List.map E5 (x :: t)).length) * 1 ≤ 140737488355328, Blk.row 5 (([] : List V) ++ (List.map E5 (x :: t))) [] = Blk.row 5 (List.map E5 (x :: t)) []]) (by kernel_rfl) trivial (cj rfl (cj (vw_id (fun _ => rfl) _) (cj (cap1 (capN (by simp) h)) (cj (cap2 (capN (by simp) h) (by decide)) (cj1 rfl))))) (cj rfl (cj (vw_id (fun _ => rfl) _) (cj (cap1 (capN (by simp) h)) (cj (cap2 (capN (by simp) h) (by decide)) (cj1 rfl))))))) (fun _ => Pn.none)
def impl_copySlots_l0 (l : List Slot) : List Slot → (List Slot) → Option ((List Slot))
  | [], v1 =>
   some v1
  | x1 :: t1, v1 =>
   (slices_Clone_byte x1.Reply).bind fun r1 =>
   if (capOk (v1.length + 1)) = true then
   impl_copySlots_l0 l t1 (v1 ++ [(Slot.mk x1.Trace x1.Mti r1)])
   else none
theorem impl_copySlots_l0_ok (l : List Slot) (h2 : capOk l.length = true) : ∀ (t1 p1 : List Slot) (_ : l = p1 ++ t1) (v1 : List Slot), Pn (LpO Try.prog (sub (codeOf Try.prog 139) [1, 1, 0, 1, 0, 0]) (st 26 [(3, V.ow 0), (7, V.sl false 164 (List.map E164 l)), (8, V.sc (.int .i64 (l.length : Int))), (9, V.sc (.int .i64 (p1.length : Int)))] [Blk.row 164 (List.map E164 v1) []] []) (fun (y : (List Slot)) => (X.out 0, st 26 [(3, V.ow 0)] [Blk.row 164 (List.map E164 y) []] []))) (impl_copySlots_l0 l t1 v1)
  | [], p1, h1, v1 => by
    unfold impl_copySlots_l0
    exact
     Pn.some (LpO.out [.bit false, .mask [3], .ren [0]] (p := [(decide ((p1.length : Int) < (l.length : Int))) = false]) (by kernel_rfl) (show X.out 0 ≠ X.go from nofun) (cj1 (rng_end h1)))
  | x1 :: t1, p1, h1, v1 => by
    unfold impl_copySlots_l0
    exact
     Pn.bind (fun r1 h3 =>
     Pn.ite (fun h4 =>
     LpO.go [.bit true, .el (E164 x1), .draw [10], .call [] (E22 r1) [], .wait 2, .shut 3, .mv, .nb 4 (.row 164 (List.map E164 (v1 ++ [(Slot.mk x1.Trace x1.Mti r1)])) []), .wait 4, .mask [3, 7, 8, 9], .ren [4], .nm 9 (V.sc (.int .i64 ((p1 ++ [x1]).length : Int)))] (p := [(decide ((p1.length : Int) < (l.length : Int))) = true,
      (0 : Int) ≤ (p1.length : Int),
      (List.map E164 l)[(p1.length : Int).toNat]? = some (E164 x1),
      Fn Try.prog 164 [(false, E22 x1.Reply)] (E22 r1) [],
      (true || ((E22 r1).nv && nvL [])) = true,
      (List.map E164 v1).length + [V.agg [V.sc (.string x1.Trace), V.sc (.string x1.Mti), V.sl true 5 (List.map E5 r1)]].length ≤ 9223372036854775807,
      ((List.map E164 v1).length + [V.agg [V.sc (.string x1.Trace), V.sc (.string x1.Mti), V.sl true 5 (List.map E5 r1)]].length) * 56 ≤ 140737488355328,
      Blk.row 164 ((List.map E164 v1) ++ [V.agg [V.sc (.string x1.Trace), V.sc (.string x1.Mti), V.sl true 5 (List.map E5 r1)]]) [] = Blk.row 164 (List.map E164 (v1 ++ [(Slot.mk x1.Trace x1.Mti r1)])) [],
      V.sc (.int .i64 (i64 ((p1.length : Int) + 1))) = V.sc (.int .i64 ((p1 ++ [x1]).length : Int))]) (by kernel_rfl) (cj (rng_lt h1) (cj (by omega) (cj (rng_get _ h1) (cj (slices_Clone_byte_ok x1.Reply r1 h3) (cj rfl (cj (cap1 (capN (by simp) h4)) (cj (cap2 (capN (by simp) h4) (by decide)) (cj (nb_app E164 v1 [(Slot.mk x1.Trace x1.Mti r1)]) (cj1 (rng_next h1 h2)))))))))) (impl_copySlots_l0_ok l h2 t1 (p1 ++ [x1]) (rng_step h1) (v1 ++ [(Slot.mk x1.Trace x1.Mti r1)]))) (fun h4 =>
     Pn.none))
def impl_copySlots (l : List Slot) : Option ((List Slot)) :=
 if (capOk l.length) = true then
 (impl_copySlots_l0 l l []).bind fun r2 =>
 some r2
 else none
theorem impl_copySlots_ok (l : List Slot) : Pn (fun y => Fn Try.prog 139 [(false, E27 l)] (E27 y) []) (impl_copySlots l) := by
  unfold impl_copySlots
  exact
   Pn.ite (fun h5 =>
   Pn.bind (fun r2 h6 =>
   Pn.some (Fn.of [.wait 5, .nm 8 (V.sc (.int .i64 (l.length : Int))), .wait 2, .mask [3, 7, 8, 9], .ren [0], .loop (X.out 0) (st 26 [(3, V.ow 0)] [Blk.row 164 (List.map E164 r2) []] [])] (p := [V.sc (.int .i64 ((List.map E164 l).length : Int)) = V.sc (.int .i64 (l.length : Int)),
    Loop Try.prog (sub (codeOf Try.prog 139) [1, 1, 0, 1, 0, 0]) (st 26 [(3, V.ow 0), (7, V.sl false 164 (List.map E164 l)), (8, V.sc (.int .i64 (l.length : Int))), (9, V.sc (.int .i64 0))] [Blk.row 164 ([] : List V) []] []) (X.out 0) (st 26 [(3, V.ow 0)] [Blk.row 164 (List.map E164 r2) []] [])]) (by kernel_rfl) (cj (len_nm _ _) (cj1 (impl_copySlots_l0_ok l h5 l [] rfl [] r2 h6)))))) (fun h5 =>
   Pn.none)
def impl_Acct_copied (a : Acct) : Option (Acct) :=
 (slices_Clone_impl_Hold a.Holds).bind fun r1 =>
 (impl_Ring_copied a.Ring).bind fun r2 =>
 (impl_copySlots a.Slots).bind fun r3 =>
 some (Acct.mk a.Id a.Limit a.Posted a.Most a.MostSum r1 r2 r3)
theorem impl_Acct_copied_ok (a : Acct) : Pn (fun y => Fn Try.prog 78 [(false, E29 a)] (E29 y) []) (impl_Acct_copied a) := by
  unfold impl_Acct_copied
  exact
   Pn.bind (fun r1 h1 =>
   Pn.bind (fun r2 h2 =>
   Pn.bind (fun r3 h3 =>
   Pn.some (Fn.of [.draw [10, 12, 14], .call [] (E23 r1) [], .call [] (E26 r2) [], .call [] (E27 r3) []] (p := [Fn Try.prog 131 [(false, E23 a.Holds)] (E23 r1) [],
    (true || ((E23 r1).nv && nvL [])) = true,
    Fn Try.prog 138 [(false, E26 a.Ring)] (E26 r2) [],
    (true || ((E26 r2).nv && nvL [])) = true,
    Fn Try.prog 139 [(false, E27 a.Slots)] (E27 r3) [],
    (true || ((E27 r3).nv && nvL [])) = true]) (by kernel_rfl) (cj (slices_Clone_impl_Hold_ok a.Holds r1 h1) (cj rfl (cj (impl_Ring_copied_ok a.Ring r2 h2) (cj rfl (cj (impl_copySlots_ok a.Slots r3 h3) (cj1 rfl))))))))))
def impl_Book_each_impl_Acct_copied_l0 (b : Book) : List Acct → (List Acct) → Option ((List Acct))
  | [], v1 =>
   some v1
  | x1 :: t1, v1 =>
   (impl_Acct_copied x1).bind fun r1 =>
   if (capOk (v1.length + 1)) = true then
   impl_Book_each_impl_Acct_copied_l0 b t1 (v1 ++ [r1])
   else none
theorem impl_Book_each_impl_Acct_copied_l0_ok (b : Book) (h2 : capOk b.Accts.length = true) : ∀ (t1 p1 : List Acct) (_ : b.Accts = p1 ++ t1) (v1 : List Acct), Pn (LpO Try.prog (sub (codeOf Try.prog 148) [1, 1, 0, 1, 0, 0]) (st 26 [(1, V.fn 78 []), (4, V.ptr 0 0), (5, V.ptr 1 0), (10, V.sl false 29 (List.map E29 b.Accts)), (11, V.sc (.int .i64 (b.Accts.length : Int))), (12, V.sc (.int .i64 (p1.length : Int)))] [Blk.box 50 [V.nl 29], Blk.box 50 [V.ow 2], Blk.row 29 (List.map E29 v1) []] []) (fun (y : (List Acct)) => (X.out 0, st 26 [(4, V.ptr 0 0), (5, V.ptr 1 0)] [Blk.box 50 [V.nl 29], Blk.box 50 [V.ow 2], Blk.row 29 (List.map E29 y) []] []))) (impl_Book_each_impl_Acct_copied_l0 b t1 v1)
  | [], p1, h1, v1 => by
    unfold impl_Book_each_impl_Acct_copied_l0
    exact
     Pn.some (LpO.out [.bit false, .mask [4, 5], .ren [0, 1, 2]] (p := [(decide ((p1.length : Int) < (b.Accts.length : Int))) = false]) (by kernel_rfl) (show X.out 0 ≠ X.go from nofun) (cj1 (rng_end h1)))
  | x1 :: t1, p1, h1, v1 => by
    unfold impl_Book_each_impl_Acct_copied_l0
    exact
     Pn.bind (fun r1 h3 =>
     Pn.ite (fun h4 =>
     LpO.go [.bit true, .el (E29 x1), .draw [6, 8], .call [] (E29 r1) [], .wait 1, .shut 8, .mv, .nb 9 (.row 29 (List.map E29 (v1 ++ [r1])) []), .wait 5, .mask [1, 4, 5, 10, 11, 12], .ren [0, 1, 9], .nm 12 (V.sc (.int .i64 ((p1 ++ [x1]).length : Int)))] (p := [(decide ((p1.length : Int) < (b.Accts.length : Int))) = true,
      (0 : Int) ≤ (p1.length : Int),
      (List.map E29 b.Accts)[(p1.length : Int).toNat]? = some (E29 x1),
      Fn Try.prog 78 [(false, E29 x1)] (E29 r1) [],
      (true || ((E29 r1).nv && nvL [])) = true,
      (List.map E29 v1).length + [V.agg [V.sc (.string r1.Id), V.sc (.int .i64 r1.Limit), V.sc (.int .i64 r1.Posted), V.sc (.int .i64 r1.Most), V.sc (.int .i64 r1.MostSum), V.sl true 36 (List.map E36 r1.Holds), V.sc (.int .i64 r1.Ring.Span), V.sc (.int .i64 r1.Ring.Head), V.sl true 3 (List.map E3 r1.Ring.Counts), V.sl true 3 (List.map E3 r1.Ring.Sums), V.sl true 164 (List.map E164 r1.Slots)]].length ≤ 9223372036854775807,
      ((List.map E29 v1).length + [V.agg [V.sc (.string r1.Id), V.sc (.int .i64 r1.Limit), V.sc (.int .i64 r1.Posted), V.sc (.int .i64 r1.Most), V.sc (.int .i64 r1.MostSum), V.sl true 36 (List.map E36 r1.Holds), V.sc (.int .i64 r1.Ring.Span), V.sc (.int .i64 r1.Ring.Head), V.sl true 3 (List.map E3 r1.Ring.Counts), V.sl true 3 (List.map E3 r1.Ring.Sums), V.sl true 164 (List.map E164 r1.Slots)]].length) * 160 ≤ 140737488355328,
      Blk.row 29 ((List.map E29 v1) ++ [V.agg [V.sc (.string r1.Id), V.sc (.int .i64 r1.Limit), V.sc (.int .i64 r1.Posted), V.sc (.int .i64 r1.Most), V.sc (.int .i64 r1.MostSum), V.sl true 36 (List.map E36 r1.Holds), V.sc (.int .i64 r1.Ring.Span), V.sc (.int .i64 r1.Ring.Head), V.sl true 3 (List.map E3 r1.Ring.Counts), V.sl true 3 (List.map E3 r1.Ring.Sums), V.sl true 164 (List.map E164 r1.Slots)]]) [] = Blk.row 29 (List.map E29 (v1 ++ [r1])) [],
      V.sc (.int .i64 (i64 ((p1.length : Int) + 1))) = V.sc (.int .i64 ((p1 ++ [x1]).length : Int))]) (by kernel_rfl) (cj (rng_lt h1) (cj (by omega) (cj (rng_get _ h1) (cj (impl_Acct_copied_ok x1 r1 h3) (cj rfl (cj (cap1 (capN (by simp) h4)) (cj (cap2 (capN (by simp) h4) (by decide)) (cj (nb_app E29 v1 [r1]) (cj1 (rng_next h1 h2)))))))))) (impl_Book_each_impl_Acct_copied_l0_ok b h2 t1 (p1 ++ [x1]) (rng_step h1) (v1 ++ [r1]))) (fun h4 =>
     Pn.none))
def impl_Book_each_impl_Acct_copied (b : Book) : Option (Book) :=
 if (capOk b.Accts.length) = true then
 (impl_Book_each_impl_Acct_copied_l0 b b.Accts []).bind fun r2 =>
 some (Book.mk r2)
 else none
theorem impl_Book_each_impl_Acct_copied_ok (b : Book) : Pn (fun y => Fn Try.prog 148 [(false, E50 b), (false, V.fn 78 [])] (E50 y) []) (impl_Book_each_impl_Acct_copied b) := by
  unfold impl_Book_each_impl_Acct_copied
  exact
   Pn.ite (fun h5 =>
   Pn.bind (fun r2 h6 =>
   Pn.some (Fn.of [.wait 8, .nm 11 (V.sc (.int .i64 (b.Accts.length : Int))), .wait 2, .mask [1, 4, 5, 10, 11, 12], .ren [1, 2], .ownb 1 0, .mask [1, 4, 5, 10, 11, 12], .ren [0, 1, 2], .loop (X.out 0) (st 26 [(4, V.ptr 0 0), (5, V.ptr 1 0)] [Blk.box 50 [V.nl 29], Blk.box 50 [V.ow 2], Blk.row 29 (List.map E29 r2) []] [])] (p := [V.sc (.int .i64 ((List.map E29 b.Accts).length : Int)) = V.sc (.int .i64 (b.Accts.length : Int)),
    Loop Try.prog (sub (codeOf Try.prog 148) [1, 1, 0, 1, 0, 0]) (st 26 [(1, V.fn 78 []), (4, V.ptr 0 0), (5, V.ptr 1 0), (10, V.sl false 29 (List.map E29 b.Accts)), (11, V.sc (.int .i64 (b.Accts.length : Int))), (12, V.sc (.int .i64 0))] [Blk.box 50 [V.nl 29], Blk.box 50 [V.ow 2], Blk.row 29 ([] : List V) []] []) (X.out 0) (st 26 [(4, V.ptr 0 0), (5, V.ptr 1 0)] [Blk.box 50 [V.nl 29], Blk.box 50 [V.ow 2], Blk.row 29 (List.map E29 r2) []] [])]) (by kernel_rfl) (cj (len_nm _ _) (cj1 (impl_Book_each_impl_Acct_copied_l0_ok b h5 b.Accts [] rfl [] r2 h6)))))) (fun h5 =>
   Pn.none)
def impl_Book_copied (b : Book) : Option (Book) :=
 (impl_Book_each_impl_Acct_copied b).bind fun r1 =>
 some r1
theorem impl_Book_copied_ok (b : Book) : Pn (fun y => Fn Try.prog 88 [(false, E50 b)] (E50 y) []) (impl_Book_copied b) := by
  unfold impl_Book_copied
  exact
   Pn.bind (fun r1 h1 =>
   Pn.some (Fn.of [.call [] (E50 r1) []] (p := [Fn Try.prog 148 [(false, E50 b), (false, V.fn 78 [])] (E50 r1) [],
    (true || ((E50 r1).nv && nvL [])) = true]) (by kernel_rfl) (cj (impl_Book_each_impl_Acct_copied_ok b r1 h1) (cj1 rfl))))
def impl_Gather_1 (a : Acct) (b : Acct) : Option (Int) :=
 if (Op.bytesLess a.Id.toList b.Id.toList) = true then
 some (-1)
 else
 if (Op.bytesLess a.Id.toList b.Id.toList || (a.Id == b.Id)) = true then
 some 0
 else
 some 1
theorem impl_Gather_1_ok (a : Acct) (b : Acct) : Pn (fun y => Fn Try.prog 90 [(false, E29 a), (false, E29 b)] (E3 y) []) (impl_Gather_1 a b) := by
  unfold impl_Gather_1
  exact
   Pn.ite (fun h1 =>
   Pn.some (Fn.of [.bit true] (p := [(Op.bytesLess a.Id.toList b.Id.toList) = true]) (by kernel_rfl) (cj1 h1))) (fun h1 =>
   Pn.ite (fun h2 =>
   Pn.some (Fn.of [.bit false, .bit false] (p := [(Op.bytesLess a.Id.toList b.Id.toList) = false,
    (!(Op.bytesLess a.Id.toList b.Id.toList || (a.Id == b.Id))) = false]) (by kernel_rfl) (cj h1 (cj1 (nf h2))))) (fun h2 =>
   Pn.some (Fn.of [.bit false, .bit true] (p := [(Op.bytesLess a.Id.toList b.Id.toList) = false,
    (!(Op.bytesLess a.Id.toList b.Id.toList || (a.Id == b.Id))) = true]) (by kernel_rfl) (cj h1 (cj1 (nt h2))))))
def slices_insertionSortCmpFunc_impl_Acct_impl_Gather_1_s4 (a : Int) (b : Int) (v1 : Int) (v3 : Int) (x1 : Acct) (x2 : Acct) (r1 : Int) (v4 : List Acct) : St := st 53 [(0, V.ow 0), (1, V.sc (.int .i64 a)), (2, V.sc (.int .i64 b)), (3, V.fn 90 []), (8, V.sc (.int .i64 v1)), (9, V.sc (.int .i64 v3)), (18, V.sc (.int .i64 v3)), (19, V.sc (.int .i64 a)), (20, V.sc (.bool (decide (a < v3)))), (21, V.sc (.bool (decide (a < v3)))), (22, V.fn 90 []), (23, V.ow 0), (24, V.sc (.int .i64 v3)), (25, V.ep 0 11 v3.toNat 0), (26, V.agg [V.sc (.string x1.Id), V.sc (.int .i64 x1.Limit), V.sc (.int .i64 x1.Posted), V.sc (.int .i64 x1.Most), V.sc (.int .i64 x1.MostSum), V.ow 1, V.sc (.int .i64 x1.Ring.Span), V.sc (.int .i64 x1.Ring.Head), V.ow 2, V.ow 3, V.ow 4]), (27, V.ow 0), (28, V.sc (.int .i64 v3)), (29, V.sc (.int .i64 (i64 (v3 - 1)))), (30, V.ep 0 11 ((i64 (v3 - 1)).toNat) 0), (31, V.agg [V.sc (.string x2.Id), V.sc (.int .i64 x2.Limit), V.sc (.int .i64 x2.Posted), V.sc (.int .i64 x2.Most), V.sc (.int .i64 x2.MostSum), V.ow 5, V.sc (.int .i64 x2.Ring.Span), V.sc (.int .i64 x2.Ring.Head), V.ow 6, V.ow 7, V.ow 8]), (32, V.sc (.int .i64 r1)), (33, V.sc (.bool (decide (r1 < 0)))), (34, V.sc (.bool (decide (r1 < 0)))), (37, V.ow 0), (38, V.sc (.int .i64 v3)), (39, V.ow 0), (40, V.sc (.int .i64 v3)), (41, V.sc (.int .i64 (i64 (v3 - 1)))), (42, V.ow 0), (43, V.sc (.int .i64 v3)), (44, V.sc (.int .i64 (i64 (v3 - 1)))), (45, V.ep 0 11 ((i64 (v3 - 1)).toNat) 0), (46, V.agg [V.sc (.string x2.Id), V.sc (.int .i64 x2.Limit), V.sc (.int .i64 x2.Posted), V.sc (.int .i64 x2.Most), V.sc (.int .i64 x2.MostSum), V.ow 5, V.sc (.int .i64 x2.Ring.Span), V.sc (.int .i64 x2.Ring.Head), V.ow 6, V.ow 7, V.ow 8]), (47, V.ow 0), (48, V.sc (.int .i64 v3)), (49, V.ep 0 11 v3.toNat 0), (50, V.agg [V.sc (.string x1.Id), V.sc (.int .i64 x1.Limit), V.sc (.int .i64 x1.Posted), V.sc (.int .i64 x1.Most), V.sc (.int .i64 x1.MostSum), V.ow 1, V.sc (.int .i64 x1.Ring.Span), V.sc (.int .i64 x1.Ring.Head), V.ow 2, V.ow 3, V.ow 4]), (51, V.ep 0 11 v3.toNat 0), (52, V.ep 0 11 ((i64 (v3 - 1)).toNat) 0)] [Blk.row 29 (List.map E29 v4) [((i64 (v3 - 1)).toNat, V.agg [V.sc (.string x1.Id), V.sc (.int .i64 x1.Limit), V.sc (.int .i64 x1.Posted), V.sc (.int .i64 x1.Most), V.sc (.int .i64 x1.MostSum), V.ow 1, V.sc (.int .i64 x1.Ring.Span), V.sc (.int .i64 x1.Ring.Head), V.ow 2, V.ow 3, V.ow 4]), (v3.toNat, V.agg [V.sc (.string x2.Id), V.sc (.int .i64 x2.Limit), V.sc (.int .i64 x2.Posted), V.sc (.int .i64 x2.Most), V.sc (.int .i64 x2.MostSum), V.ow 5, V.sc (.int .i64 x2.Ring.Span), V.sc (.int .i64 x2.Ring.Head), V.ow 6, V.ow 7, V.ow 8])], Blk.row 36 (List.map E36 x1.Holds) [], Blk.row 3 (List.map E3 x1.Ring.Counts) [], Blk.row 3 (List.map E3 x1.Ring.Sums) [], Blk.row 164 (List.map E164 x1.Slots) [], Blk.row 36 (List.map E36 x2.Holds) [], Blk.row 3 (List.map E3 x2.Ring.Counts) [], Blk.row 3 (List.map E3 x2.Ring.Sums) [], Blk.row 164 (List.map E164 x2.Slots) []] [some 0]
def slices_insertionSortCmpFunc_impl_Acct_impl_Gather_1_l1 (a : Int) (b : Int) (v1 : Int) : Nat → Int → (List Acct) → Option ((List Acct))
  | 0, _, _ => none
  | fuel + 1, v3, v4 =>
   if (decide (a < v3)) = true then
   if (decide (0 ≤ v3)) = true then
   (v4[v3.toNat]?).bind fun x1 =>
   if (decide (0 ≤ (i64 (v3 - 1)))) = true then
   (v4[(i64 (v3 - 1)).toNat]?).bind fun x2 =>
   if (decide (¬ ((i64 (v3 - 1)).toNat) = v3.toNat)) = true then
   (impl_Gather_1 x1 x2).bind fun r1 =>
   if (decide (r1 < 0)) = true then
   slices_insertionSortCmpFunc_impl_Acct_impl_Gather_1_l1 a b v1 fuel (i64 (v3 - 1)) ((v4.set v3.toNat x2).set ((i64 (v3 - 1)).toNat) x1)
   else
   some ((v4.set v3.toNat x1).set ((i64 (v3 - 1)).toNat) x2)
   else none
   else none
   else none
   else
   some v4
theorem slices_insertionSortCmpFunc_impl_Acct_impl_Gather_1_l1_ok (a : Int) (b : Int) (v1 : Int) : ∀ (fuel : Nat) (v3 : Int) (v4 : List Acct), Pn (LpO Try.prog (sub (codeOf Try.prog 191) [1, 0, 0, 1, 0, 0, 1, 0, 0]) (st 53 [(0, V.ow 0), (1, V.sc (.int .i64 a)), (2, V.sc (.int .i64 b)), (3, V.fn 90 []), (8, V.sc (.int .i64 v1)), (9, V.sc (.int .i64 v3))] [Blk.row 29 (List.map E29 v4) []] [some 0]) (fun (y : (List Acct)) => (X.out 2, st 53 [(0, V.ow 0), (1, V.sc (.int .i64 a)), (2, V.sc (.int .i64 b)), (3, V.fn 90 []), (8, V.sc (.int .i64 v1))] [Blk.row 29 (List.map E29 y) []] [some 0]))) (slices_insertionSortCmpFunc_impl_Acct_impl_Gather_1_l1 a b v1 fuel v3 v4)
  | 0, _, _ => Pn.none
  | fuel + 1, v3, v4 => by
    unfold slices_insertionSortCmpFunc_impl_Acct_impl_Gather_1_l1
    exact
     Pn.ite (fun h2 =>
     Pn.ite (fun h3 =>
     Pn.bind (fun x1 h4 =>
     Pn.ite (fun h5 =>
     Pn.bind (fun x2 h6 =>
     Pn.ite (fun h7 =>
     Pn.bind (fun r1 h8 =>
     Pn.ite (fun h9 =>
     LpO.go [.draw [], .bit true, .bit true, .bit true, .bit true, .foc 0 v3.toNat (E29 x1), .bit true, .fo 0, .bit true, .bit true, .bit true, .bit true, .foc 0 ((i64 (v3 - 1)).toNat) (E29 x2), .bit true, .fo 0, .bit true, .call [] (E3 r1) [], .bit true, .bit true, .bit true, .draw [15, 17], .fo 0, .fo 1, .loop .go ((slices_insertionSortCmpFunc_impl_Acct_impl_Gather_1_s4 a b v1 v3 x1 x2 r1 v4)), .loop .go ((slices_insertionSortCmpFunc_impl_Acct_impl_Gather_1_s4 a b v1 v3 x1 x2 r1 v4)), .loop .go ((slices_insertionSortCmpFunc_impl_Acct_impl_Gather_1_s4 a b v1 v3 x1 x2 r1 v4)), .fo 1, .fo 1, .ren [0, 1, 2, 3, 4, 5, 6, 7, 8], .fo 1, .fo 1, .ren [0, 1, 2, 3, 4, 5, 6, 7, 8], .ren [0, 1, 2, 3, 4, 5, 6, 7, 8], .fo 1, .fo 1, .ren [0, 1, 2, 3, 4, 5, 6, 7, 8], .ren [0, 1, 2, 3, 4, 5, 6, 7, 8], .loop .go ((slices_insertionSortCmpFunc_impl_Acct_impl_Gather_1_s4 a b v1 v3 x1 x2 r1 v4)), .loop .go ((slices_insertionSortCmpFunc_impl_Acct_impl_Gather_1_s4 a b v1 v3 x1 x2 r1 v4)), .fo 1, .fo 1, .ren [0, 1, 2, 3, 4, 5, 6, 7, 8], .fo 1, .fo 1, .ren [0, 1, 2, 3, 4, 5, 6, 7, 8], .ren [0, 1, 2, 3, 4, 5, 6, 7, 8], .loop .go ((slices_insertionSortCmpFunc_impl_Acct_impl_Gather_1_s4 a b v1 v3 x1 x2 r1 v4)), .fo 1, .fo 1, .ren [0, 1, 2, 3, 4, 5, 6, 7, 8], .fo 1, .fo 1, .ren [0, 1, 2, 3, 4, 5, 6, 7, 8], .ren [0, 1, 2, 3, 4, 5, 6, 7, 8], .fo 1, .fo 1, .ren [0, 1, 2, 3, 4, 5, 6, 7, 8], .ren [0, 1, 2, 3, 4, 5, 6, 7, 8], .fo 1, .fo 1, .ren [0, 1, 2, 3, 4, 5, 6, 7, 8], .wait 4, .shut 0, .nb 0 (.row 29 (List.map E29 ((v4.set v3.toNat x2).set ((i64 (v3 - 1)).toNat) x1)) []), .mask [0, 1, 2, 3, 8, 9], .ren [0]] (p := [(decide (a < v3)) = true,
      (decide (a < v3)) = true,
      (decide (a < v3)) = true,
      (decide (a < v3)) = true,
      (0 : Int) ≤ v3,
      (v3 : Int) < ((List.map E29 v4).length : Int),
      look [] v3.toNat = none,
      (List.map E29 v4)[v3.toNat]? = some (E29 x1),
      (decide (a < v3)) = true,
      look [(v3.toNat, V.agg [V.sc (.string x1.Id), V.sc (.int .i64 x1.Limit), V.sc (.int .i64 x1.Posted), V.sc (.int .i64 x1.Most), V.sc (.int .i64 x1.MostSum), V.ow 1, V.sc (.int .i64 x1.Ring.Span), V.sc (.int .i64 x1.Ring.Head), V.ow 2, V.ow 3, V.ow 4])] v3.toNat = some (V.agg [V.sc (.string x1.Id), V.sc (.int .i64 x1.Limit), V.sc (.int .i64 x1.Posted), V.sc (.int .i64 x1.Most), V.sc (.int .i64 x1.MostSum), V.ow 1, V.sc (.int .i64 x1.Ring.Span), V.sc (.int .i64 x1.Ring.Head), V.ow 2, V.ow 3, V.ow 4]),
      v3.toNat < (List.map E29 v4).length,
      (decide (a < v3)) = true,
      (decide (a < v3)) = true,
      (decide (a < v3)) = true,
      (decide (a < v3)) = true,
      (0 : Int) ≤ (i64 (v3 - 1)),
      ((i64 (v3 - 1)) : Int) < ((List.map E29 v4).length : Int),
      look [(v3.toNat, V.agg [V.sc (.string x1.Id), V.sc (.int .i64 x1.Limit), V.sc (.int .i64 x1.Posted), V.sc (.int .i64 x1.Most), V.sc (.int .i64 x1.MostSum), V.ow 1, V.sc (.int .i64 x1.Ring.Span), V.sc (.int .i64 x1.Ring.Head), V.ow 2, V.ow 3, V.ow 4])] ((i64 (v3 - 1)).toNat) = none,
      (List.map E29 v4)[(i64 (v3 - 1)).toNat]? = some (E29 x2),
      (decide (a < v3)) = true,
      look [((i64 (v3 - 1)).toNat, V.agg [V.sc (.string x2.Id), V.sc (.int .i64 x2.Limit), V.sc (.int .i64 x2.Posted), V.sc (.int .i64 x2.Most), V.sc (.int .i64 x2.MostSum), V.ow 5, V.sc (.int .i64 x2.Ring.Span), V.sc (.int .i64 x2.Ring.Head), V.ow 6, V.ow 7, V.ow 8]), (v3.toNat, V.agg [V.sc (.string x1.Id), V.sc (.int .i64 x1.Limit), V.sc (.int .i64 x1.Posted), V.sc (.int .i64 x1.Most), V.sc (.int .i64 x1.MostSum), V.ow 1, V.sc (.int .i64 x1.Ring.Span), V.sc (.int .i64 x1.Ring.Head), V.ow 2, V.ow 3, V.ow 4])] ((i64 (v3 - 1)).toNat) = some (V.agg [V.sc (.string x2.Id), V.sc (.int .i64 x2.Limit), V.sc (.int .i64 x2.Posted), V.sc (.int .i64 x2.Most), V.sc (.int .i64 x2.MostSum), V.ow 5, V.sc (.int .i64 x2.Ring.Span), V.sc (.int .i64 x2.Ring.Head), V.ow 6, V.ow 7, V.ow 8]),
      ((i64 (v3 - 1)).toNat) < (List.map E29 v4).length,
      (decide (a < v3)) = true,
      Fn Try.prog 90 [(false, E29 x1), (false, E29 x2)] (E3 r1) [],
      (false || ((E3 r1).nv && nvL [])) = true,
      (decide (a < v3)) = true,
      (decide (a < v3)) = true,
      (decide (r1 < 0)) = true,
      (0 : Int) ≤ (i64 (v3 - 1)),
      ((i64 (v3 - 1)) : Int) < ((List.map E29 v4).length : Int),
      look [((i64 (v3 - 1)).toNat, V.agg [V.sc (.string x2.Id), V.sc (.int .i64 x2.Limit), V.sc (.int .i64 x2.Posted), V.sc (.int .i64 x2.Most), V.sc (.int .i64 x2.MostSum), V.ow 5, V.sc (.int .i64 x2.Ring.Span), V.sc (.int .i64 x2.Ring.Head), V.ow 6, V.ow 7, V.ow 8]), (v3.toNat, V.agg [V.sc (.string x1.Id), V.sc (.int .i64 x1.Limit), V.sc (.int .i64 x1.Posted), V.sc (.int .i64 x1.Most), V.sc (.int .i64 x1.MostSum), V.ow 1, V.sc (.int .i64 x1.Ring.Span), V.sc (.int .i64 x1.Ring.Head), V.ow 2, V.ow 3, V.ow 4])] ((i64 (v3 - 1)).toNat) = some (V.agg [V.sc (.string x2.Id), V.sc (.int .i64 x2.Limit), V.sc (.int .i64 x2.Posted), V.sc (.int .i64 x2.Most), V.sc (.int .i64 x2.MostSum), V.ow 5, V.sc (.int .i64 x2.Ring.Span), V.sc (.int .i64 x2.Ring.Head), V.ow 6, V.ow 7, V.ow 8]),
      ((i64 (v3 - 1)).toNat) < (List.map E29 v4).length,
      (0 : Int) ≤ v3,
      (v3 : Int) < ((List.map E29 v4).length : Int),
      look [((i64 (v3 - 1)).toNat, V.agg [V.sc (.string x2.Id), V.sc (.int .i64 x2.Limit), V.sc (.int .i64 x2.Posted), V.sc (.int .i64 x2.Most), V.sc (.int .i64 x2.MostSum), V.ow 5, V.sc (.int .i64 x2.Ring.Span), V.sc (.int .i64 x2.Ring.Head), V.ow 6, V.ow 7, V.ow 8]), (v3.toNat, V.agg [V.sc (.string x1.Id), V.sc (.int .i64 x1.Limit), V.sc (.int .i64 x1.Posted), V.sc (.int .i64 x1.Most), V.sc (.int .i64 x1.MostSum), V.ow 1, V.sc (.int .i64 x1.Ring.Span), V.sc (.int .i64 x1.Ring.Head), V.ow 2, V.ow 3, V.ow 4])] v3.toNat = some (V.agg [V.sc (.string x1.Id), V.sc (.int .i64 x1.Limit), V.sc (.int .i64 x1.Posted), V.sc (.int .i64 x1.Most), V.sc (.int .i64 x1.MostSum), V.ow 1, V.sc (.int .i64 x1.Ring.Span), V.sc (.int .i64 x1.Ring.Head), V.ow 2, V.ow 3, V.ow 4]),
      v3.toNat < (List.map E29 v4).length,
      (0 : Int) ≤ v3,
      (v3 : Int) < ((List.map E29 v4).length : Int),
      look [((i64 (v3 - 1)).toNat, V.agg [V.sc (.string x2.Id), V.sc (.int .i64 x2.Limit), V.sc (.int .i64 x2.Posted), V.sc (.int .i64 x2.Most), V.sc (.int .i64 x2.MostSum), V.ow 5, V.sc (.int .i64 x2.Ring.Span), V.sc (.int .i64 x2.Ring.Head), V.ow 6, V.ow 7, V.ow 8]), (v3.toNat, V.agg [V.sc (.string x1.Id), V.sc (.int .i64 x1.Limit), V.sc (.int .i64 x1.Posted), V.sc (.int .i64 x1.Most), V.sc (.int .i64 x1.MostSum), V.ow 1, V.sc (.int .i64 x1.Ring.Span), V.sc (.int .i64 x1.Ring.Head), V.ow 2, V.ow 3, V.ow 4])] v3.toNat = some (V.agg [V.sc (.string x1.Id), V.sc (.int .i64 x1.Limit), V.sc (.int .i64 x1.Posted), V.sc (.int .i64 x1.Most), V.sc (.int .i64 x1.MostSum), V.ow 1, V.sc (.int .i64 x1.Ring.Span), V.sc (.int .i64 x1.Ring.Head), V.ow 2, V.ow 3, V.ow 4]),
      v3.toNat < (List.map E29 v4).length,
      v3.toNat = v3.toNat,
      (0 : Int) ≤ (i64 (v3 - 1)),
      ((i64 (v3 - 1)) : Int) < ((List.map E29 v4).length : Int),
      look [(v3.toNat, V.agg [V.sc (.string x2.Id), V.sc (.int .i64 x2.Limit), V.sc (.int .i64 x2.Posted), V.sc (.int .i64 x2.Most), V.sc (.int .i64 x2.MostSum), V.ow 5, V.sc (.int .i64 x2.Ring.Span), V.sc (.int .i64 x2.Ring.Head), V.ow 6, V.ow 7, V.ow 8]), ((i64 (v3 - 1)).toNat, V.agg [V.sc (.string x2.Id), V.sc (.int .i64 x2.Limit), V.sc (.int .i64 x2.Posted), V.sc (.int .i64 x2.Most), V.sc (.int .i64 x2.MostSum), V.ow 5, V.sc (.int .i64 x2.Ring.Span), V.sc (.int .i64 x2.Ring.Head), V.ow 6, V.ow 7, V.ow 8])] ((i64 (v3 - 1)).toNat) = some (V.agg [V.sc (.string x2.Id), V.sc (.int .i64 x2.Limit), V.sc (.int .i64 x2.Posted), V.sc (.int .i64 x2.Most), V.sc (.int .i64 x2.MostSum), V.ow 5, V.sc (.int .i64 x2.Ring.Span), V.sc (.int .i64 x2.Ring.Head), V.ow 6, V.ow 7, V.ow 8]),
      ((i64 (v3 - 1)).toNat) < (List.map E29 v4).length,
      ((i64 (v3 - 1)).toNat) = ((i64 (v3 - 1)).toNat),
      (slices_insertionSortCmpFunc_impl_Acct_impl_Gather_1_s4 a b v1 v3 x1 x2 r1 v4) = (slices_insertionSortCmpFunc_impl_Acct_impl_Gather_1_s4 a b v1 v3 x1 x2 r1 v4),
      look [((i64 (v3 - 1)).toNat, V.agg [V.sc (.string x2.Id), V.sc (.int .i64 x2.Limit), V.sc (.int .i64 x2.Posted), V.sc (.int .i64 x2.Most), V.sc (.int .i64 x2.MostSum), V.ow 5, V.sc (.int .i64 x2.Ring.Span), V.sc (.int .i64 x2.Ring.Head), V.ow 6, V.ow 7, V.ow 8]), (v3.toNat, V.agg [V.sc (.string x1.Id), V.sc (.int .i64 x1.Limit), V.sc (.int .i64 x1.Posted), V.sc (.int .i64 x1.Most), V.sc (.int .i64 x1.MostSum), V.ow 1, V.sc (.int .i64 x1.Ring.Span), V.sc (.int .i64 x1.Ring.Head), V.ow 2, V.ow 3, V.ow 4])] v3.toNat = some (V.agg [V.sc (.string x1.Id), V.sc (.int .i64 x1.Limit), V.sc (.int .i64 x1.Posted), V.sc (.int .i64 x1.Most), V.sc (.int .i64 x1.MostSum), V.ow 1, V.sc (.int .i64 x1.Ring.Span), V.sc (.int .i64 x1.Ring.Head), V.ow 2, V.ow 3, V.ow 4]),
      v3.toNat < (List.map E29 v4).length,
      v3.toNat = v3.toNat,
      (0 : Int) ≤ (i64 (v3 - 1)),
      ((i64 (v3 - 1)) : Int) < ((List.map E29 v4).length : Int),
      look [(v3.toNat, V.agg [V.sc (.string x2.Id), V.sc (.int .i64 x2.Limit), V.sc (.int .i64 x2.Posted), V.sc (.int .i64 x2.Most), V.sc (.int .i64 x2.MostSum), V.ow 5, V.sc (.int .i64 x2.Ring.Span), V.sc (.int .i64 x2.Ring.Head), V.ow 6, V.ow 7, V.ow 8]), ((i64 (v3 - 1)).toNat, V.agg [V.sc (.string x2.Id), V.sc (.int .i64 x2.Limit), V.sc (.int .i64 x2.Posted), V.sc (.int .i64 x2.Most), V.sc (.int .i64 x2.MostSum), V.ow 5, V.sc (.int .i64 x2.Ring.Span), V.sc (.int .i64 x2.Ring.Head), V.ow 6, V.ow 7, V.ow 8])] ((i64 (v3 - 1)).toNat) = some (V.agg [V.sc (.string x2.Id), V.sc (.int .i64 x2.Limit), V.sc (.int .i64 x2.Posted), V.sc (.int .i64 x2.Most), V.sc (.int .i64 x2.MostSum), V.ow 5, V.sc (.int .i64 x2.Ring.Span), V.sc (.int .i64 x2.Ring.Head), V.ow 6, V.ow 7, V.ow 8]),
      ((i64 (v3 - 1)).toNat) < (List.map E29 v4).length,
      ((i64 (v3 - 1)).toNat) = ((i64 (v3 - 1)).toNat),
      (slices_insertionSortCmpFunc_impl_Acct_impl_Gather_1_s4 a b v1 v3 x1 x2 r1 v4) = (slices_insertionSortCmpFunc_impl_Acct_impl_Gather_1_s4 a b v1 v3 x1 x2 r1 v4),
      (slices_insertionSortCmpFunc_impl_Acct_impl_Gather_1_s4 a b v1 v3 x1 x2 r1 v4) = (slices_insertionSortCmpFunc_impl_Acct_impl_Gather_1_s4 a b v1 v3 x1 x2 r1 v4),
      look [((i64 (v3 - 1)).toNat, V.agg [V.sc (.string x2.Id), V.sc (.int .i64 x2.Limit), V.sc (.int .i64 x2.Posted), V.sc (.int .i64 x2.Most), V.sc (.int .i64 x2.MostSum), V.ow 5, V.sc (.int .i64 x2.Ring.Span), V.sc (.int .i64 x2.Ring.Head), V.ow 6, V.ow 7, V.ow 8]), (v3.toNat, V.agg [V.sc (.string x1.Id), V.sc (.int .i64 x1.Limit), V.sc (.int .i64 x1.Posted), V.sc (.int .i64 x1.Most), V.sc (.int .i64 x1.MostSum), V.ow 1, V.sc (.int .i64 x1.Ring.Span), V.sc (.int .i64 x1.Ring.Head), V.ow 2, V.ow 3, V.ow 4])] v3.toNat = some (V.agg [V.sc (.string x1.Id), V.sc (.int .i64 x1.Limit), V.sc (.int .i64 x1.Posted), V.sc (.int .i64 x1.Most), V.sc (.int .i64 x1.MostSum), V.ow 1, V.sc (.int .i64 x1.Ring.Span), V.sc (.int .i64 x1.Ring.Head), V.ow 2, V.ow 3, V.ow 4]),
      v3.toNat < (List.map E29 v4).length,
      v3.toNat = v3.toNat,
      (0 : Int) ≤ (i64 (v3 - 1)),
      ((i64 (v3 - 1)) : Int) < ((List.map E29 v4).length : Int),
      look [(v3.toNat, V.agg [V.sc (.string x2.Id), V.sc (.int .i64 x2.Limit), V.sc (.int .i64 x2.Posted), V.sc (.int .i64 x2.Most), V.sc (.int .i64 x2.MostSum), V.ow 5, V.sc (.int .i64 x2.Ring.Span), V.sc (.int .i64 x2.Ring.Head), V.ow 6, V.ow 7, V.ow 8]), ((i64 (v3 - 1)).toNat, V.agg [V.sc (.string x2.Id), V.sc (.int .i64 x2.Limit), V.sc (.int .i64 x2.Posted), V.sc (.int .i64 x2.Most), V.sc (.int .i64 x2.MostSum), V.ow 5, V.sc (.int .i64 x2.Ring.Span), V.sc (.int .i64 x2.Ring.Head), V.ow 6, V.ow 7, V.ow 8])] ((i64 (v3 - 1)).toNat) = some (V.agg [V.sc (.string x2.Id), V.sc (.int .i64 x2.Limit), V.sc (.int .i64 x2.Posted), V.sc (.int .i64 x2.Most), V.sc (.int .i64 x2.MostSum), V.ow 5, V.sc (.int .i64 x2.Ring.Span), V.sc (.int .i64 x2.Ring.Head), V.ow 6, V.ow 7, V.ow 8]),
      ((i64 (v3 - 1)).toNat) < (List.map E29 v4).length,
      ((i64 (v3 - 1)).toNat) = ((i64 (v3 - 1)).toNat),
      (slices_insertionSortCmpFunc_impl_Acct_impl_Gather_1_s4 a b v1 v3 x1 x2 r1 v4) = (slices_insertionSortCmpFunc_impl_Acct_impl_Gather_1_s4 a b v1 v3 x1 x2 r1 v4),
      (slices_insertionSortCmpFunc_impl_Acct_impl_Gather_1_s4 a b v1 v3 x1 x2 r1 v4) = (slices_insertionSortCmpFunc_impl_Acct_impl_Gather_1_s4 a b v1 v3 x1 x2 r1 v4),
      look [((i64 (v3 - 1)).toNat, V.agg [V.sc (.string x2.Id), V.sc (.int .i64 x2.Limit), V.sc (.int .i64 x2.Posted), V.sc (.int .i64 x2.Most), V.sc (.int .i64 x2.MostSum), V.ow 5, V.sc (.int .i64 x2.Ring.Span), V.sc (.int .i64 x2.Ring.Head), V.ow 6, V.ow 7, V.ow 8]), (v3.toNat, V.agg [V.sc (.string x1.Id), V.sc (.int .i64 x1.Limit), V.sc (.int .i64 x1.Posted), V.sc (.int .i64 x1.Most), V.sc (.int .i64 x1.MostSum), V.ow 1, V.sc (.int .i64 x1.Ring.Span), V.sc (.int .i64 x1.Ring.Head), V.ow 2, V.ow 3, V.ow 4])] v3.toNat = some (V.agg [V.sc (.string x1.Id), V.sc (.int .i64 x1.Limit), V.sc (.int .i64 x1.Posted), V.sc (.int .i64 x1.Most), V.sc (.int .i64 x1.MostSum), V.ow 1, V.sc (.int .i64 x1.Ring.Span), V.sc (.int .i64 x1.Ring.Head), V.ow 2, V.ow 3, V.ow 4]),
      v3.toNat < (List.map E29 v4).length,
      v3.toNat = v3.toNat,
      (0 : Int) ≤ (i64 (v3 - 1)),
      ((i64 (v3 - 1)) : Int) < ((List.map E29 v4).length : Int),
      look [(v3.toNat, V.agg [V.sc (.string x2.Id), V.sc (.int .i64 x2.Limit), V.sc (.int .i64 x2.Posted), V.sc (.int .i64 x2.Most), V.sc (.int .i64 x2.MostSum), V.ow 5, V.sc (.int .i64 x2.Ring.Span), V.sc (.int .i64 x2.Ring.Head), V.ow 6, V.ow 7, V.ow 8]), ((i64 (v3 - 1)).toNat, V.agg [V.sc (.string x2.Id), V.sc (.int .i64 x2.Limit), V.sc (.int .i64 x2.Posted), V.sc (.int .i64 x2.Most), V.sc (.int .i64 x2.MostSum), V.ow 5, V.sc (.int .i64 x2.Ring.Span), V.sc (.int .i64 x2.Ring.Head), V.ow 6, V.ow 7, V.ow 8])] ((i64 (v3 - 1)).toNat) = some (V.agg [V.sc (.string x2.Id), V.sc (.int .i64 x2.Limit), V.sc (.int .i64 x2.Posted), V.sc (.int .i64 x2.Most), V.sc (.int .i64 x2.MostSum), V.ow 5, V.sc (.int .i64 x2.Ring.Span), V.sc (.int .i64 x2.Ring.Head), V.ow 6, V.ow 7, V.ow 8]),
      ((i64 (v3 - 1)).toNat) < (List.map E29 v4).length,
      ((i64 (v3 - 1)).toNat) = ((i64 (v3 - 1)).toNat),
      (slices_insertionSortCmpFunc_impl_Acct_impl_Gather_1_s4 a b v1 v3 x1 x2 r1 v4) = (slices_insertionSortCmpFunc_impl_Acct_impl_Gather_1_s4 a b v1 v3 x1 x2 r1 v4),
      look [((i64 (v3 - 1)).toNat, V.agg [V.sc (.string x2.Id), V.sc (.int .i64 x2.Limit), V.sc (.int .i64 x2.Posted), V.sc (.int .i64 x2.Most), V.sc (.int .i64 x2.MostSum), V.ow 5, V.sc (.int .i64 x2.Ring.Span), V.sc (.int .i64 x2.Ring.Head), V.ow 6, V.ow 7, V.ow 8]), (v3.toNat, V.agg [V.sc (.string x1.Id), V.sc (.int .i64 x1.Limit), V.sc (.int .i64 x1.Posted), V.sc (.int .i64 x1.Most), V.sc (.int .i64 x1.MostSum), V.ow 1, V.sc (.int .i64 x1.Ring.Span), V.sc (.int .i64 x1.Ring.Head), V.ow 2, V.ow 3, V.ow 4])] v3.toNat = some (V.agg [V.sc (.string x1.Id), V.sc (.int .i64 x1.Limit), V.sc (.int .i64 x1.Posted), V.sc (.int .i64 x1.Most), V.sc (.int .i64 x1.MostSum), V.ow 1, V.sc (.int .i64 x1.Ring.Span), V.sc (.int .i64 x1.Ring.Head), V.ow 2, V.ow 3, V.ow 4]),
      v3.toNat < (List.map E29 v4).length,
      v3.toNat = v3.toNat,
      (0 : Int) ≤ (i64 (v3 - 1)),
      ((i64 (v3 - 1)) : Int) < ((List.map E29 v4).length : Int),
      look [(v3.toNat, V.agg [V.sc (.string x2.Id), V.sc (.int .i64 x2.Limit), V.sc (.int .i64 x2.Posted), V.sc (.int .i64 x2.Most), V.sc (.int .i64 x2.MostSum), V.ow 5, V.sc (.int .i64 x2.Ring.Span), V.sc (.int .i64 x2.Ring.Head), V.ow 6, V.ow 7, V.ow 8]), ((i64 (v3 - 1)).toNat, V.agg [V.sc (.string x2.Id), V.sc (.int .i64 x2.Limit), V.sc (.int .i64 x2.Posted), V.sc (.int .i64 x2.Most), V.sc (.int .i64 x2.MostSum), V.ow 5, V.sc (.int .i64 x2.Ring.Span), V.sc (.int .i64 x2.Ring.Head), V.ow 6, V.ow 7, V.ow 8])] ((i64 (v3 - 1)).toNat) = some (V.agg [V.sc (.string x2.Id), V.sc (.int .i64 x2.Limit), V.sc (.int .i64 x2.Posted), V.sc (.int .i64 x2.Most), V.sc (.int .i64 x2.MostSum), V.ow 5, V.sc (.int .i64 x2.Ring.Span), V.sc (.int .i64 x2.Ring.Head), V.ow 6, V.ow 7, V.ow 8]),
      ((i64 (v3 - 1)).toNat) < (List.map E29 v4).length,
      ((i64 (v3 - 1)).toNat) = ((i64 (v3 - 1)).toNat),
      (slices_insertionSortCmpFunc_impl_Acct_impl_Gather_1_s4 a b v1 v3 x1 x2 r1 v4) = (slices_insertionSortCmpFunc_impl_Acct_impl_Gather_1_s4 a b v1 v3 x1 x2 r1 v4),
      (slices_insertionSortCmpFunc_impl_Acct_impl_Gather_1_s4 a b v1 v3 x1 x2 r1 v4) = (slices_insertionSortCmpFunc_impl_Acct_impl_Gather_1_s4 a b v1 v3 x1 x2 r1 v4),
      look [((i64 (v3 - 1)).toNat, V.agg [V.sc (.string x2.Id), V.sc (.int .i64 x2.Limit), V.sc (.int .i64 x2.Posted), V.sc (.int .i64 x2.Most), V.sc (.int .i64 x2.MostSum), V.ow 5, V.sc (.int .i64 x2.Ring.Span), V.sc (.int .i64 x2.Ring.Head), V.ow 6, V.ow 7, V.ow 8]), (v3.toNat, V.agg [V.sc (.string x1.Id), V.sc (.int .i64 x1.Limit), V.sc (.int .i64 x1.Posted), V.sc (.int .i64 x1.Most), V.sc (.int .i64 x1.MostSum), V.ow 1, V.sc (.int .i64 x1.Ring.Span), V.sc (.int .i64 x1.Ring.Head), V.ow 2, V.ow 3, V.ow 4])] v3.toNat = some (V.agg [V.sc (.string x1.Id), V.sc (.int .i64 x1.Limit), V.sc (.int .i64 x1.Posted), V.sc (.int .i64 x1.Most), V.sc (.int .i64 x1.MostSum), V.ow 1, V.sc (.int .i64 x1.Ring.Span), V.sc (.int .i64 x1.Ring.Head), V.ow 2, V.ow 3, V.ow 4]),
      v3.toNat < (List.map E29 v4).length,
      v3.toNat = v3.toNat,
      (0 : Int) ≤ (i64 (v3 - 1)),
      ((i64 (v3 - 1)) : Int) < ((List.map E29 v4).length : Int),
      look [(v3.toNat, V.agg [V.sc (.string x2.Id), V.sc (.int .i64 x2.Limit), V.sc (.int .i64 x2.Posted), V.sc (.int .i64 x2.Most), V.sc (.int .i64 x2.MostSum), V.ow 5, V.sc (.int .i64 x2.Ring.Span), V.sc (.int .i64 x2.Ring.Head), V.ow 6, V.ow 7, V.ow 8]), ((i64 (v3 - 1)).toNat, V.agg [V.sc (.string x2.Id), V.sc (.int .i64 x2.Limit), V.sc (.int .i64 x2.Posted), V.sc (.int .i64 x2.Most), V.sc (.int .i64 x2.MostSum), V.ow 5, V.sc (.int .i64 x2.Ring.Span), V.sc (.int .i64 x2.Ring.Head), V.ow 6, V.ow 7, V.ow 8])] ((i64 (v3 - 1)).toNat) = some (V.agg [V.sc (.string x2.Id), V.sc (.int .i64 x2.Limit), V.sc (.int .i64 x2.Posted), V.sc (.int .i64 x2.Most), V.sc (.int .i64 x2.MostSum), V.ow 5, V.sc (.int .i64 x2.Ring.Span), V.sc (.int .i64 x2.Ring.Head), V.ow 6, V.ow 7, V.ow 8]),
      ((i64 (v3 - 1)).toNat) < (List.map E29 v4).length,
      ((i64 (v3 - 1)).toNat) = ((i64 (v3 - 1)).toNat),
      (slices_insertionSortCmpFunc_impl_Acct_impl_Gather_1_s4 a b v1 v3 x1 x2 r1 v4) = (slices_insertionSortCmpFunc_impl_Acct_impl_Gather_1_s4 a b v1 v3 x1 x2 r1 v4),
      look [((i64 (v3 - 1)).toNat, V.agg [V.sc (.string x2.Id), V.sc (.int .i64 x2.Limit), V.sc (.int .i64 x2.Posted), V.sc (.int .i64 x2.Most), V.sc (.int .i64 x2.MostSum), V.ow 5, V.sc (.int .i64 x2.Ring.Span), V.sc (.int .i64 x2.Ring.Head), V.ow 6, V.ow 7, V.ow 8]), (v3.toNat, V.agg [V.sc (.string x1.Id), V.sc (.int .i64 x1.Limit), V.sc (.int .i64 x1.Posted), V.sc (.int .i64 x1.Most), V.sc (.int .i64 x1.MostSum), V.ow 1, V.sc (.int .i64 x1.Ring.Span), V.sc (.int .i64 x1.Ring.Head), V.ow 2, V.ow 3, V.ow 4])] v3.toNat = some (V.agg [V.sc (.string x1.Id), V.sc (.int .i64 x1.Limit), V.sc (.int .i64 x1.Posted), V.sc (.int .i64 x1.Most), V.sc (.int .i64 x1.MostSum), V.ow 1, V.sc (.int .i64 x1.Ring.Span), V.sc (.int .i64 x1.Ring.Head), V.ow 2, V.ow 3, V.ow 4]),
      v3.toNat < (List.map E29 v4).length,
      v3.toNat = v3.toNat,
      (0 : Int) ≤ (i64 (v3 - 1)),
      ((i64 (v3 - 1)) : Int) < ((List.map E29 v4).length : Int),
      look [(v3.toNat, V.agg [V.sc (.string x2.Id), V.sc (.int .i64 x2.Limit), V.sc (.int .i64 x2.Posted), V.sc (.int .i64 x2.Most), V.sc (.int .i64 x2.MostSum), V.ow 5, V.sc (.int .i64 x2.Ring.Span), V.sc (.int .i64 x2.Ring.Head), V.ow 6, V.ow 7, V.ow 8]), ((i64 (v3 - 1)).toNat, V.agg [V.sc (.string x2.Id), V.sc (.int .i64 x2.Limit), V.sc (.int .i64 x2.Posted), V.sc (.int .i64 x2.Most), V.sc (.int .i64 x2.MostSum), V.ow 5, V.sc (.int .i64 x2.Ring.Span), V.sc (.int .i64 x2.Ring.Head), V.ow 6, V.ow 7, V.ow 8])] ((i64 (v3 - 1)).toNat) = some (V.agg [V.sc (.string x2.Id), V.sc (.int .i64 x2.Limit), V.sc (.int .i64 x2.Posted), V.sc (.int .i64 x2.Most), V.sc (.int .i64 x2.MostSum), V.ow 5, V.sc (.int .i64 x2.Ring.Span), V.sc (.int .i64 x2.Ring.Head), V.ow 6, V.ow 7, V.ow 8]),
      ((i64 (v3 - 1)).toNat) < (List.map E29 v4).length,
      ((i64 (v3 - 1)).toNat) = ((i64 (v3 - 1)).toNat),
      (slices_insertionSortCmpFunc_impl_Acct_impl_Gather_1_s4 a b v1 v3 x1 x2 r1 v4) = (slices_insertionSortCmpFunc_impl_Acct_impl_Gather_1_s4 a b v1 v3 x1 x2 r1 v4),
      (slices_insertionSortCmpFunc_impl_Acct_impl_Gather_1_s4 a b v1 v3 x1 x2 r1 v4) = (slices_insertionSortCmpFunc_impl_Acct_impl_Gather_1_s4 a b v1 v3 x1 x2 r1 v4),
      look [((i64 (v3 - 1)).toNat, V.agg [V.sc (.string x2.Id), V.sc (.int .i64 x2.Limit), V.sc (.int .i64 x2.Posted), V.sc (.int .i64 x2.Most), V.sc (.int .i64 x2.MostSum), V.ow 5, V.sc (.int .i64 x2.Ring.Span), V.sc (.int .i64 x2.Ring.Head), V.ow 6, V.ow 7, V.ow 8]), (v3.toNat, V.agg [V.sc (.string x1.Id), V.sc (.int .i64 x1.Limit), V.sc (.int .i64 x1.Posted), V.sc (.int .i64 x1.Most), V.sc (.int .i64 x1.MostSum), V.ow 1, V.sc (.int .i64 x1.Ring.Span), V.sc (.int .i64 x1.Ring.Head), V.ow 2, V.ow 3, V.ow 4])] v3.toNat = some (V.agg [V.sc (.string x1.Id), V.sc (.int .i64 x1.Limit), V.sc (.int .i64 x1.Posted), V.sc (.int .i64 x1.Most), V.sc (.int .i64 x1.MostSum), V.ow 1, V.sc (.int .i64 x1.Ring.Span), V.sc (.int .i64 x1.Ring.Head), V.ow 2, V.ow 3, V.ow 4]),
      v3.toNat < (List.map E29 v4).length,
      v3.toNat = v3.toNat,
      (0 : Int) ≤ (i64 (v3 - 1)),
      ((i64 (v3 - 1)) : Int) < ((List.map E29 v4).length : Int),
      look [(v3.toNat, V.agg [V.sc (.string x2.Id), V.sc (.int .i64 x2.Limit), V.sc (.int .i64 x2.Posted), V.sc (.int .i64 x2.Most), V.sc (.int .i64 x2.MostSum), V.ow 5, V.sc (.int .i64 x2.Ring.Span), V.sc (.int .i64 x2.Ring.Head), V.ow 6, V.ow 7, V.ow 8]), ((i64 (v3 - 1)).toNat, V.agg [V.sc (.string x2.Id), V.sc (.int .i64 x2.Limit), V.sc (.int .i64 x2.Posted), V.sc (.int .i64 x2.Most), V.sc (.int .i64 x2.MostSum), V.ow 5, V.sc (.int .i64 x2.Ring.Span), V.sc (.int .i64 x2.Ring.Head), V.ow 6, V.ow 7, V.ow 8])] ((i64 (v3 - 1)).toNat) = some (V.agg [V.sc (.string x2.Id), V.sc (.int .i64 x2.Limit), V.sc (.int .i64 x2.Posted), V.sc (.int .i64 x2.Most), V.sc (.int .i64 x2.MostSum), V.ow 5, V.sc (.int .i64 x2.Ring.Span), V.sc (.int .i64 x2.Ring.Head), V.ow 6, V.ow 7, V.ow 8]),
      ((i64 (v3 - 1)).toNat) < (List.map E29 v4).length,
      ((i64 (v3 - 1)).toNat) = ((i64 (v3 - 1)).toNat),
      (slices_insertionSortCmpFunc_impl_Acct_impl_Gather_1_s4 a b v1 v3 x1 x2 r1 v4) = (slices_insertionSortCmpFunc_impl_Acct_impl_Gather_1_s4 a b v1 v3 x1 x2 r1 v4),
      (slices_insertionSortCmpFunc_impl_Acct_impl_Gather_1_s4 a b v1 v3 x1 x2 r1 v4) = (slices_insertionSortCmpFunc_impl_Acct_impl_Gather_1_s4 a b v1 v3 x1 x2 r1 v4),
      look [((i64 (v3 - 1)).toNat, V.agg [V.sc (.string x2.Id), V.sc (.int .i64 x2.Limit), V.sc (.int .i64 x2.Posted), V.sc (.int .i64 x2.Most), V.sc (.int .i64 x2.MostSum), V.ow 5, V.sc (.int .i64 x2.Ring.Span), V.sc (.int .i64 x2.Ring.Head), V.ow 6, V.ow 7, V.ow 8]), (v3.toNat, V.agg [V.sc (.string x1.Id), V.sc (.int .i64 x1.Limit), V.sc (.int .i64 x1.Posted), V.sc (.int .i64 x1.Most), V.sc (.int .i64 x1.MostSum), V.ow 1, V.sc (.int .i64 x1.Ring.Span), V.sc (.int .i64 x1.Ring.Head), V.ow 2, V.ow 3, V.ow 4])] v3.toNat = some (V.agg [V.sc (.string x1.Id), V.sc (.int .i64 x1.Limit), V.sc (.int .i64 x1.Posted), V.sc (.int .i64 x1.Most), V.sc (.int .i64 x1.MostSum), V.ow 1, V.sc (.int .i64 x1.Ring.Span), V.sc (.int .i64 x1.Ring.Head), V.ow 2, V.ow 3, V.ow 4]),
      v3.toNat < (List.map E29 v4).length,
      v3.toNat = v3.toNat,
      (0 : Int) ≤ (i64 (v3 - 1)),
      ((i64 (v3 - 1)) : Int) < ((List.map E29 v4).length : Int),
      look [(v3.toNat, V.agg [V.sc (.string x2.Id), V.sc (.int .i64 x2.Limit), V.sc (.int .i64 x2.Posted), V.sc (.int .i64 x2.Most), V.sc (.int .i64 x2.MostSum), V.ow 5, V.sc (.int .i64 x2.Ring.Span), V.sc (.int .i64 x2.Ring.Head), V.ow 6, V.ow 7, V.ow 8]), ((i64 (v3 - 1)).toNat, V.agg [V.sc (.string x2.Id), V.sc (.int .i64 x2.Limit), V.sc (.int .i64 x2.Posted), V.sc (.int .i64 x2.Most), V.sc (.int .i64 x2.MostSum), V.ow 5, V.sc (.int .i64 x2.Ring.Span), V.sc (.int .i64 x2.Ring.Head), V.ow 6, V.ow 7, V.ow 8])] ((i64 (v3 - 1)).toNat) = some (V.agg [V.sc (.string x2.Id), V.sc (.int .i64 x2.Limit), V.sc (.int .i64 x2.Posted), V.sc (.int .i64 x2.Most), V.sc (.int .i64 x2.MostSum), V.ow 5, V.sc (.int .i64 x2.Ring.Span), V.sc (.int .i64 x2.Ring.Head), V.ow 6, V.ow 7, V.ow 8]),
      ((i64 (v3 - 1)).toNat) < (List.map E29 v4).length,
      ((i64 (v3 - 1)).toNat) = ((i64 (v3 - 1)).toNat),
      (slices_insertionSortCmpFunc_impl_Acct_impl_Gather_1_s4 a b v1 v3 x1 x2 r1 v4) = (slices_insertionSortCmpFunc_impl_Acct_impl_Gather_1_s4 a b v1 v3 x1 x2 r1 v4),
      Blk.row 29 (((List.map E29 v4).set v3.toNat (V.agg [V.sc (.string x2.Id), V.sc (.int .i64 x2.Limit), V.sc (.int .i64 x2.Posted), V.sc (.int .i64 x2.Most), V.sc (.int .i64 x2.MostSum), V.sl true 36 (List.map E36 x2.Holds), V.sc (.int .i64 x2.Ring.Span), V.sc (.int .i64 x2.Ring.Head), V.sl true 3 (List.map E3 x2.Ring.Counts), V.sl true 3 (List.map E3 x2.Ring.Sums), V.sl true 164 (List.map E164 x2.Slots)])).set ((i64 (v3 - 1)).toNat) (V.agg [V.sc (.string x1.Id), V.sc (.int .i64 x1.Limit), V.sc (.int .i64 x1.Posted), V.sc (.int .i64 x1.Most), V.sc (.int .i64 x1.MostSum), V.sl true 36 (List.map E36 x1.Holds), V.sc (.int .i64 x1.Ring.Span), V.sc (.int .i64 x1.Ring.Head), V.sl true 3 (List.map E3 x1.Ring.Counts), V.sl true 3 (List.map E3 x1.Ring.Sums), V.sl true 164 (List.map E164 x1.Slots)])) [] = Blk.row 29 (List.map E29 ((v4.set v3.toNat x2).set ((i64 (v3 - 1)).toNat) x1)) []]) (by kernel_rfl) (cj h2 (cj h2 (cj h2 (cj h2 (cj (od h3) (cj (map_ltN (od h3) h4) (cj rfl (cj (map_get h4) (cj h2 (cj (look_cons_self _ _ _) (cj (map_lt h4) (cj h2 (cj h2 (cj h2 (cj h2 (cj (od h5) (cj (map_ltN (od h5) h6) (cj ((look_cons_ne _ _ (od h7)).trans rfl) (cj (map_get h6) (cj h2 (cj (look_cons_self _ _ _) (cj (map_lt h6) (cj h2 (cj (impl_Gather_1_ok x1 x2 r1 h8) (cj (by simp [V.nv, nvL, nvL_all, nv_E3]) (cj h2 (cj h2 (cj h9 (cj (od h5) (cj (map_ltN (od h5) h6) (cj (look_cons_self _ _ _) (cj (map_lt h6) (cj (od h3) (cj (map_ltN (od h3) h4) (cj ((look_cons_ne _ _ (fun z => od h7 z.symm)).trans (look_cons_self _ _ _)) (cj (map_lt h4) (cj (od h3) (cj (map_ltN (od h3) h4) (cj ((look_cons_ne _ _ (fun z => od h7 z.symm)).trans (look_cons_self _ _ _)) (cj (map_lt h4) (cj rfl (cj (od h5) (cj (map_ltN (od h5) h6) (cj ((look_cons_ne _ _ (od h7)).trans (look_cons_self _ _ _)) (cj (map_lt h6) (cj rfl (cj rfl (cj ((look_cons_ne _ _ (fun z => od h7 z.symm)).trans (look_cons_self _ _ _)) (cj (map_lt h4) (cj rfl (cj (od h5) (cj (map_ltN (od h5) h6) (cj ((look_cons_ne _ _ (od h7)).trans (look_cons_self _ _ _)) (cj (map_lt h6) (cj rfl (cj rfl (cj rfl (cj ((look_cons_ne _ _ (fun z => od h7 z.symm)).trans (look_cons_self _ _ _)) (cj (map_lt h4) (cj rfl (cj (od h5) (cj (map_ltN (od h5) h6) (cj ((look_cons_ne _ _ (od h7)).trans (look_cons_self _ _ _)) (cj (map_lt h6) (cj rfl (cj rfl (cj rfl (cj ((look_cons_ne _ _ (fun z => od h7 z.symm)).trans (look_cons_self _ _ _)) (cj (map_lt h4) (cj rfl (cj (od h5) (cj (map_ltN (od h5) h6) (cj ((look_cons_ne _ _ (od h7)).trans (look_cons_self _ _ _)) (cj (map_lt h6) (cj rfl (cj rfl (cj ((look_cons_ne _ _ (fun z => od h7 z.symm)).trans (look_cons_self _ _ _)) (cj (map_lt h4) (cj rfl (cj (od h5) (cj (map_ltN (od h5) h6) (cj ((look_cons_ne _ _ (od h7)).trans (look_cons_self _ _ _)) (cj (map_lt h6) (cj rfl (cj rfl (cj rfl (cj ((look_cons_ne _ _ (fun z => od h7 z.symm)).trans (look_cons_self _ _ _)) (cj (map_lt h4) (cj rfl (cj (od h5) (cj (map_ltN (od h5) h6) (cj ((look_cons_ne _ _ (od h7)).trans (look_cons_self _ _ _)) (cj (map_lt h6) (cj rfl (cj rfl (cj ((look_cons_ne _ _ (fun z => od h7 z.symm)).trans (look_cons_self _ _ _)) (cj (map_lt h4) (cj rfl (cj (od h5) (cj (map_ltN (od h5) h6) (cj ((look_cons_ne _ _ (od h7)).trans (look_cons_self _ _ _)) (cj (map_lt h6) (cj rfl (cj rfl (cj rfl (cj ((look_cons_ne _ _ (fun z => od h7 z.symm)).trans (look_cons_self _ _ _)) (cj (map_lt h4) (cj rfl (cj (od h5) (cj (map_ltN (od h5) h6) (cj ((look_cons_ne _ _ (od h7)).trans (look_cons_self _ _ _)) (cj (map_lt h6) (cj rfl (cj rfl (cj rfl (cj ((look_cons_ne _ _ (fun z => od h7 z.symm)).trans (look_cons_self _ _ _)) (cj (map_lt h4) (cj rfl (cj (od h5) (cj (map_ltN (od h5) h6) (cj ((look_cons_ne _ _ (od h7)).trans (look_cons_self _ _ _)) (cj (map_lt h6) (cj rfl (cj rfl (cj1 (nb_set2 E29 _ _ x2 _ x1)))))))))))))))))))))))))))))))))))))))))))))))))))))))))))))))))))))))))))))))))))))))))))))))))))))))))))))))))))))))))))))) (slices_insertionSortCmpFunc_impl_Acct_impl_Gather_1_l1_ok a b v1 fuel (i64 (v3 - 1)) ((v4.set v3.toNat x2).set ((i64 (v3 - 1)).toNat) x1))) (fun h9 =>
     Pn.some (LpO.out [.draw [], .bit true, .bit true, .bit true, .bit true, .foc 0 v3.toNat (E29 x1), .bit true, .fo 0, .bit true, .bit true, .bit true, .bit true, .foc 0 ((i64 (v3 - 1)).toNat) (E29 x2), .bit true, .fo 0, .bit true, .call [] (E3 r1) [], .bit true, .bit true, .bit false, .shut 0, .nb 0 (.row 29 (List.map E29 ((v4.set v3.toNat x1).set ((i64 (v3 - 1)).toNat) x2)) []), .mask [0, 1, 2, 3, 8], .ren [0]] (p := [(decide (a < v3)) = true,
      (decide (a < v3)) = true,
      (decide (a < v3)) = true,
      (decide (a < v3)) = true,
      (0 : Int) ≤ v3,
      (v3 : Int) < ((List.map E29 v4).length : Int),
      look [] v3.toNat = none,
      (List.map E29 v4)[v3.toNat]? = some (E29 x1),
      (decide (a < v3)) = true,
      look [(v3.toNat, V.agg [V.sc (.string x1.Id), V.sc (.int .i64 x1.Limit), V.sc (.int .i64 x1.Posted), V.sc (.int .i64 x1.Most), V.sc (.int .i64 x1.MostSum), V.ow 1, V.sc (.int .i64 x1.Ring.Span), V.sc (.int .i64 x1.Ring.Head), V.ow 2, V.ow 3, V.ow 4])] v3.toNat = some (V.agg [V.sc (.string x1.Id), V.sc (.int .i64 x1.Limit), V.sc (.int .i64 x1.Posted), V.sc (.int .i64 x1.Most), V.sc (.int .i64 x1.MostSum), V.ow 1, V.sc (.int .i64 x1.Ring.Span), V.sc (.int .i64 x1.Ring.Head), V.ow 2, V.ow 3, V.ow 4]),
      v3.toNat < (List.map E29 v4).length,
      (decide (a < v3)) = true,
      (decide (a < v3)) = true,
      (decide (a < v3)) = true,
      (decide (a < v3)) = true,
      (0 : Int) ≤ (i64 (v3 - 1)),
      ((i64 (v3 - 1)) : Int) < ((List.map E29 v4).length : Int),
      look [(v3.toNat, V.agg [V.sc (.string x1.Id), V.sc (.int .i64 x1.Limit), V.sc (.int .i64 x1.Posted), V.sc (.int .i64 x1.Most), V.sc (.int .i64 x1.MostSum), V.ow 1, V.sc (.int .i64 x1.Ring.Span), V.sc (.int .i64 x1.Ring.Head), V.ow 2, V.ow 3, V.ow 4])] ((i64 (v3 - 1)).toNat) = none,
      (List.map E29 v4)[(i64 (v3 - 1)).toNat]? = some (E29 x2),
      (decide (a < v3)) = true,
      look [((i64 (v3 - 1)).toNat, V.agg [V.sc (.string x2.Id), V.sc (.int .i64 x2.Limit), V.sc (.int .i64 x2.Posted), V.sc (.int .i64 x2.Most), V.sc (.int .i64 x2.MostSum), V.ow 5, V.sc (.int .i64 x2.Ring.Span), V.sc (.int .i64 x2.Ring.Head), V.ow 6, V.ow 7, V.ow 8]), (v3.toNat, V.agg [V.sc (.string x1.Id), V.sc (.int .i64 x1.Limit), V.sc (.int .i64 x1.Posted), V.sc (.int .i64 x1.Most), V.sc (.int .i64 x1.MostSum), V.ow 1, V.sc (.int .i64 x1.Ring.Span), V.sc (.int .i64 x1.Ring.Head), V.ow 2, V.ow 3, V.ow 4])] ((i64 (v3 - 1)).toNat) = some (V.agg [V.sc (.string x2.Id), V.sc (.int .i64 x2.Limit), V.sc (.int .i64 x2.Posted), V.sc (.int .i64 x2.Most), V.sc (.int .i64 x2.MostSum), V.ow 5, V.sc (.int .i64 x2.Ring.Span), V.sc (.int .i64 x2.Ring.Head), V.ow 6, V.ow 7, V.ow 8]),
      ((i64 (v3 - 1)).toNat) < (List.map E29 v4).length,
      (decide (a < v3)) = true,
      Fn Try.prog 90 [(false, E29 x1), (false, E29 x2)] (E3 r1) [],
      (false || ((E3 r1).nv && nvL [])) = true,
      (decide (a < v3)) = true,
      (decide (a < v3)) = true,
      (decide (r1 < 0)) = false,
      Blk.row 29 (((List.map E29 v4).set v3.toNat (V.agg [V.sc (.string x1.Id), V.sc (.int .i64 x1.Limit), V.sc (.int .i64 x1.Posted), V.sc (.int .i64 x1.Most), V.sc (.int .i64 x1.MostSum), V.sl true 36 (List.map E36 x1.Holds), V.sc (.int .i64 x1.Ring.Span), V.sc (.int .i64 x1.Ring.Head), V.sl true 3 (List.map E3 x1.Ring.Counts), V.sl true 3 (List.map E3 x1.Ring.Sums), V.sl true 164 (List.map E164 x1.Slots)])).set ((i64 (v3 - 1)).toNat) (V.agg [V.sc (.string x2.Id), V.sc (.int .i64 x2.Limit), V.sc (.int .i64 x2.Posted), V.sc (.int .i64 x2.Most), V.sc (.int .i64 x2.MostSum), V.sl true 36 (List.map E36 x2.Holds), V.sc (.int .i64 x2.Ring.Span), V.sc (.int .i64 x2.Ring.Head), V.sl true 3 (List.map E3 x2.Ring.Counts), V.sl true 3 (List.map E3 x2.Ring.Sums), V.sl true 164 (List.map E164 x2.Slots)])) [] = Blk.row 29 (List.map E29 ((v4.set v3.toNat x1).set ((i64 (v3 - 1)).toNat) x2)) []]) (by kernel_rfl) (show X.out 2 ≠ X.go from nofun) (cj h2 (cj h2 (cj h2 (cj h2 (cj (od h3) (cj (map_ltN (od h3) h4) (cj rfl (cj (map_get h4) (cj h2 (cj (look_cons_self _ _ _) (cj (map_lt h4) (cj h2 (cj h2 (cj h2 (cj h2 (cj (od h5) (cj (map_ltN (od h5) h6) (cj ((look_cons_ne _ _ (od h7)).trans rfl) (cj (map_get h6) (cj h2 (cj (look_cons_self _ _ _) (cj (map_lt h6) (cj h2 (cj (impl_Gather_1_ok x1 x2 r1 h8) (cj (by simp [V.nv, nvL, nvL_all, nv_E3]) (cj h2 (cj h2 (cj h9 (cj1 (nb_set2 E29 _ _ x1 _ x2)))))))))))))))))))))))))))))))))) (fun h7 =>
     Pn.none))) (fun h5 =>
     Pn.none))) (fun h3 =>
     Pn.none)) (fun h2 =>
     Pn.some (LpO.out [.draw [], .bit false, .bit false, .bit false, .bit false, .bit false, .bit false, .bit false, .bit false, .bit false, .bit false, .bit false, .bit false, .bit false, .bit false, .mask [0, 1, 2, 3, 8], .ren [0]] (p := [(decide (a < v3)) = false,
      (decide (a < v3)) = false,
      (decide (a < v3)) = false,
      (decide (a < v3)) = false,
      (decide (a < v3)) = false,
      (decide (a < v3)) = false,
      (decide (a < v3)) = false,
      (decide (a < v3)) = false,
      (decide (a < v3)) = false,
      (decide (a < v3)) = false,
      (decide (a < v3)) = false,
      (decide (a < v3)) = false,
      (decide (a < v3)) = false,
      false = false]) (by kernel_rfl) (show X.out 2 ≠ X.go from nofun) (cj h2 (cj h2 (cj h2 (cj h2 (cj h2 (cj h2 (cj h2 (cj h2 (cj h2 (cj h2 (cj h2 (cj h2 (cj h2 (cj1 rfl))))))))))))))))
def slices_insertionSortCmpFunc_impl_Acct_impl_Gather_1_l0 (a : Int) (b : Int) : Nat → Int → (List Acct) → Option ((List Acct))
  | 0, _, _ => none
  | fuel + 1, v1, v2 =>
   if (decide (v1 < b)) = true then
   (slices_insertionSortCmpFunc_impl_Acct_impl_Gather_1_l1 a b v1 FUEL v1 v2).bind fun r2 =>
   slices_insertionSortCmpFunc_impl_Acct_impl_Gather_1_l0 a b fuel (i64 (v1 + 1)) r2
   else
   some v2
theorem slices_insertionSortCmpFunc_impl_Acct_impl_Gather_1_l0_ok (a : Int) (b : Int) : ∀ (fuel : Nat) (v1 : Int) (v2 : List Acct), Pn (LpO Try.prog (sub (codeOf Try.prog 191) [1, 0, 0]) (st 53 [(0, V.ow 0), (1, V.sc (.int .i64 a)), (2, V.sc (.int .i64 b)), (3, V.fn 90 []), (8, V.sc (.int .i64 v1))] [Blk.row 29 (List.map E29 v2) []] [some 0]) (fun (y : (List Acct)) => (X.out 0, st 53 [] [Blk.row 29 (List.map E29 y) []] [some 0]))) (slices_insertionSortCmpFunc_impl_Acct_impl_Gather_1_l0 a b fuel v1 v2)
  | 0, _, _ => Pn.none
  | fuel + 1, v1, v2 => by
    unfold slices_insertionSortCmpFunc_impl_Acct_impl_Gather_1_l0
    exact
     Pn.ite (fun h1 =>
     Pn.bind (fun r2 h10 =>
     LpO.go [.bit true, .wait 2, .mask [0, 1, 2, 3, 8, 9], .ren [0], .loop (X.out 2) (st 53 [(0, V.ow 0), (1, V.sc (.int .i64 a)), (2, V.sc (.int .i64 b)), (3, V.fn 90 []), (8, V.sc (.int .i64 v1))] [Blk.row 29 (List.map E29 r2) []] [some 0]), .wait 4, .mask [0, 1, 2, 3, 8], .ren [0]] (p := [(decide (v1 < b)) = true,
      Loop Try.prog (sub (codeOf Try.prog 191) [1, 0, 0, 1, 0, 0, 1, 0, 0]) (st 53 [(0, V.ow 0), (1, V.sc (.int .i64 a)), (2, V.sc (.int .i64 b)), (3, V.fn 90 []), (8, V.sc (.int .i64 v1)), (9, V.sc (.int .i64 v1))] [Blk.row 29 (List.map E29 v2) []] [some 0]) (X.out 2) (st 53 [(0, V.ow 0), (1, V.sc (.int .i64 a)), (2, V.sc (.int .i64 b)), (3, V.fn 90 []), (8, V.sc (.int .i64 v1))] [Blk.row 29 (List.map E29 r2) []] [some 0])]) (by kernel_rfl) (cj h1 (cj1 (slices_insertionSortCmpFunc_impl_Acct_impl_Gather_1_l1_ok a b v1 FUEL v1 v2 r2 h10))) (slices_insertionSortCmpFunc_impl_Acct_impl_Gather_1_l0_ok a b fuel (i64 (v1 + 1)) r2))) (fun h1 =>
     Pn.some (LpO.out [.bit false, .mask [], .ren [0]] (p := [(decide (v1 < b)) = false]) (by kernel_rfl) (show X.out 0 ≠ X.go from nofun) (cj1 h1)))
def slices_insertionSortCmpFunc_impl_Acct_impl_Gather_1 (data : List Acct) (a : Int) (b : Int) : Option ((List Acct)) :=
 (slices_insertionSortCmpFunc_impl_Acct_impl_Gather_1_l0 a b FUEL (i64 (a + 1)) data).bind fun r3 =>
 some r3
theorem slices_insertionSortCmpFunc_impl_Acct_impl_Gather_1_ok (data : List Acct) (a : Int) (b : Int) : Pn (fun y => Fn Try.prog 191 [(true, E48 data), (false, E3 a), (false, E3 b), (false, V.fn 90 [])] (V.tup []) [V.sl true 29 (List.map E29 y)]) (slices_insertionSortCmpFunc_impl_Acct_impl_Gather_1 data a b) := by
  unfold slices_insertionSortCmpFunc_impl_Acct_impl_Gather_1
  exact
   Pn.bind (fun r3 h11 =>
   Pn.some (Fn.of [.wait 4, .mask [0, 1, 2, 3, 8], .ren [0], .loop (X.out 0) (st 53 [] [Blk.row 29 (List.map E29 r3) []] [some 0])] (p := [Loop Try.prog (sub (codeOf Try.prog 191) [1, 0, 0]) (st 53 [(0, V.ow 0), (1, V.sc (.int .i64 a)), (2, V.sc (.int .i64 b)), (3, V.fn 90 []), (8, V.sc (.int .i64 (i64 (a + 1))))] [Blk.row 29 (List.map E29 data) []] [some 0]) (X.out 0) (st 53 [] [Blk.row 29 (List.map E29 r3) []] [some 0])]) (by kernel_rfl) (cj1 (slices_insertionSortCmpFunc_impl_Acct_impl_Gather_1_l0_ok a b FUEL (i64 (a + 1)) data r3 h11))))
def slices_swapRangeCmpFunc_impl_Acct_impl_Gather_1_s2 (a : Int) (b : Int) (n : Int) (v1 : Int) (x1 : Acct) (x2 : Acct) (v2 : List Acct) : St := st 38 [(0, V.ow 0), (1, V.sc (.int .i64 a)), (2, V.sc (.int .i64 b)), (3, V.sc (.int .i64 n)), (10, V.sc (.int .i64 v1)), (11, V.sc (.int .i64 v1)), (12, V.sc (.int .i64 n)), (13, V.sc (.bool (decide (v1 < n)))), (16, V.ow 0), (17, V.sc (.int .i64 a)), (18, V.sc (.int .i64 v1)), (19, V.sc (.int .i64 (i64 (a + v1)))), (20, V.ow 0), (21, V.sc (.int .i64 b)), (22, V.sc (.int .i64 v1)), (23, V.sc (.int .i64 (i64 (b + v1)))), (24, V.ow 0), (25, V.sc (.int .i64 b)), (26, V.sc (.int .i64 v1)), (27, V.sc (.int .i64 (i64 (b + v1)))), (28, V.ep 0 11 ((i64 (b + v1)).toNat) 0), (29, V.agg [V.sc (.string x1.Id), V.sc (.int .i64 x1.Limit), V.sc (.int .i64 x1.Posted), V.sc (.int .i64 x1.Most), V.sc (.int .i64 x1.MostSum), V.ow 5, V.sc (.int .i64 x1.Ring.Span), V.sc (.int .i64 x1.Ring.Head), V.ow 6, V.ow 7, V.ow 8]), (30, V.ow 0), (31, V.sc (.int .i64 a)), (32, V.sc (.int .i64 v1)), (33, V.sc (.int .i64 (i64 (a + v1)))), (34, V.ep 0 11 ((i64 (a + v1)).toNat) 0), (35, V.agg [V.sc (.string x2.Id), V.sc (.int .i64 x2.Limit), V.sc (.int .i64 x2.Posted), V.sc (.int .i64 x2.Most), V.sc (.int .i64 x2.MostSum), V.ow 1, V.sc (.int .i64 x2.Ring.Span), V.sc (.int .i64 x2.Ring.Head), V.ow 2, V.ow 3, V.ow 4]), (36, V.ep 0 11 ((i64 (a + v1)).toNat) 0), (37, V.ep 0 11 ((i64 (b + v1)).toNat) 0)] [Blk.row 29 (List.map E29 v2) [((i64 (b + v1)).toNat, V.agg [V.sc (.string x2.Id), V.sc (.int .i64 x2.Limit), V.sc (.int .i64 x2.Posted), V.sc (.int .i64 x2.Most), V.sc (.int .i64 x2.MostSum), V.ow 1, V.sc (.int .i64 x2.Ring.Span), V.sc (.int .i64 x2.Ring.Head), V.ow 2, V.ow 3, V.ow 4]), ((i64 (a + v1)).toNat, V.agg [V.sc (.string x1.Id), V.sc (.int .i64 x1.Limit), V.sc (.int .i64 x1.Posted), V.sc (.int .i64 x1.Most), V.sc (.int .i64 x1.MostSum), V.ow 5, V.sc (.int .i64 x1.Ring.Span), V.sc (.int .i64 x1.Ring.Head), V.ow 6, V.ow 7, V.ow 8])], Blk.row 36 (List.map E36 x2.Holds) [], Blk.row 3 (List.map E3 x2.Ring.Counts) [], Blk.row 3 (List.map E3 x2.Ring.Sums) [], Blk.row 164 (List.map E164 x2.Slots) [], Blk.row 36 (List.map E36 x1.Holds) [], Blk.row 3 (List.map E3 x1.Ring.Counts) [], Blk.row 3 (List.map E3 x1.Ring.Sums) [], Blk.row 164 (List.map E164 x1.Slots) []] [some 0]
def slices_swapRangeCmpFunc_impl_Acct_impl_Gather_1_l0 (a : Int) (b : Int) (n : Int) : Nat → Int → (List Acct) → Option ((List Acct))
  | 0, _, _ => none
  | fuel + 1, v1, v2 =>
   if (decide (v1 < n)) = true then
   if (decide (0 ≤ (i64 (b + v1)))) = true then
   (v2[(i64 (b + v1)).toNat]?).bind fun x1 =>
   if (decide (0 ≤ (i64 (a + v1)))) = true then
   (v2[(i64 (a + v1)).toNat]?).bind fun x2 =>
   if (decide (¬ ((i64 (a + v1)).toNat) = ((i64 (b + v1)).toNat))) = true then
   slices_swapRangeCmpFunc_impl_Acct_impl_Gather_1_l0 a b n fuel (i64 (v1 + 1)) ((v2.set ((i64 (a + v1)).toNat) x1).set ((i64 (b + v1)).toNat) x2)
   else none
   else none
   else none
   else
   some v2
theorem slices_swapRangeCmpFunc_impl_Acct_impl_Gather_1_l0_ok (a : Int) (b : Int) (n : Int) : ∀ (fuel : Nat) (v1 : Int) (v2 : List Acct), Pn (LpO Try.prog (sub (codeOf Try.prog 220) [1, 0, 0]) (st 38 [(0, V.ow 0), (1, V.sc (.int .i64 a)), (2, V.sc (.int .i64 b)), (3, V.sc (.int .i64 n)), (10, V.sc (.int .i64 v1))] [Blk.row 29 (List.map E29 v2) []] [some 0]) (fun (y : (List Acct)) => (X.out 0, st 38 [] [Blk.row 29 (List.map E29 y) []] [some 0]))) (slices_swapRangeCmpFunc_impl_Acct_impl_Gather_1_l0 a b n fuel v1 v2)
  | 0, _, _ => Pn.none
  | fuel + 1, v1, v2 => by
    unfold slices_swapRangeCmpFunc_impl_Acct_impl_Gather_1_l0
    exact
     Pn.ite (fun h1 =>
     Pn.ite (fun h2 =>
     Pn.bind (fun x1 h3 =>
     Pn.ite (fun h4 =>
     Pn.bind (fun x2 h5 =>
     Pn.ite (fun h6 =>
     LpO.go [.bit true, .draw [21, 23], .wait 8, .foc 0 ((i64 (b + v1)).toNat) (E29 x1), .fo 0, .wait 5, .foc 0 ((i64 (a + v1)).toNat) (E29 x2), .fo 0, .loop .go ((slices_swapRangeCmpFunc_impl_Acct_impl_Gather_1_s2 a b n v1 x1 x2 v2)), .loop .go ((slices_swapRangeCmpFunc_impl_Acct_impl_Gather_1_s2 a b n v1 x1 x2 v2)), .loop .go ((slices_swapRangeCmpFunc_impl_Acct_impl_Gather_1_s2 a b n v1 x1 x2 v2)), .loop .go ((slices_swapRangeCmpFunc_impl_Acct_impl_Gather_1_s2 a b n v1 x1 x2 v2)), .fo 0, .fo 1, .ren [0, 5, 6, 7, 8, 1, 2, 3, 4], .fo 0, .fo 1, .ren [0, 5, 6, 7, 8, 1, 2, 3, 4], .ren [0, 1, 2, 3, 4, 5, 6, 7, 8], .fo 0, .fo 1, .ren [0, 5, 6, 7, 8, 1, 2, 3, 4], .ren [0, 1, 2, 3, 4, 5, 6, 7, 8], .loop .go ((slices_swapRangeCmpFunc_impl_Acct_impl_Gather_1_s2 a b n v1 x1 x2 v2)), .loop .go ((slices_swapRangeCmpFunc_impl_Acct_impl_Gather_1_s2 a b n v1 x1 x2 v2)), .fo 0, .fo 1, .ren [0, 5, 6, 7, 8, 1, 2, 3, 4], .fo 0, .fo 1, .ren [0, 5, 6, 7, 8, 1, 2, 3, 4], .ren [0, 1, 2, 3, 4, 5, 6, 7, 8], .fo 0, .fo 1, .ren [0, 5, 6, 7, 8, 1, 2, 3, 4], .ren [0, 1, 2, 3, 4, 5, 6, 7, 8], .fo 0, .fo 1, .ren [0, 5, 6, 7, 8, 1, 2, 3, 4], .ren [0, 1, 2, 3, 4, 5, 6, 7, 8], .loop .go ((slices_swapRangeCmpFunc_impl_Acct_impl_Gather_1_s2 a b n v1 x1 x2 v2)), .loop .go ((slices_swapRangeCmpFunc_impl_Acct_impl_Gather_1_s2 a b n v1 x1 x2 v2)), .loop .go ((slices_swapRangeCmpFunc_impl_Acct_impl_Gather_1_s2 a b n v1 x1 x2 v2)), .fo 0, .fo 1, .ren [0, 5, 6, 7, 8, 1, 2, 3, 4], .fo 0, .fo 1, .ren [0, 5, 6, 7, 8, 1, 2, 3, 4], .ren [0, 1, 2, 3, 4, 5, 6, 7, 8], .fo 0, .fo 1, .ren [0, 5, 6, 7, 8, 1, 2, 3, 4], .ren [0, 1, 2, 3, 4, 5, 6, 7, 8], .loop .go ((slices_swapRangeCmpFunc_impl_Acct_impl_Gather_1_s2 a b n v1 x1 x2 v2)), .loop .go ((slices_swapRangeCmpFunc_impl_Acct_impl_Gather_1_s2 a b n v1 x1 x2 v2)), .fo 0, .fo 1, .ren [0, 5, 6, 7, 8, 1, 2, 3, 4], .fo 0, .fo 1, .ren [0, 5, 6, 7, 8, 1, 2, 3, 4], .ren [0, 1, 2, 3, 4, 5, 6, 7, 8], .loop .go ((slices_swapRangeCmpFunc_impl_Acct_impl_Gather_1_s2 a b n v1 x1 x2 v2)), .fo 0, .fo 1, .ren [0, 5, 6, 7, 8, 1, 2, 3, 4], .fo 0, .fo 1, .ren [0, 5, 6, 7, 8, 1, 2, 3, 4], .ren [0, 1, 2, 3, 4, 5, 6, 7, 8], .fo 0, .fo 1, .ren [0, 5, 6, 7, 8, 1, 2, 3, 4], .ren [0, 1, 2, 3, 4, 5, 6, 7, 8], .fo 0, .fo 1, .ren [0, 5, 6, 7, 8, 1, 2, 3, 4], .ren [0, 1, 2, 3, 4, 5, 6, 7, 8], .loop .go ((slices_swapRangeCmpFunc_impl_Acct_impl_Gather_1_s2 a b n v1 x1 x2 v2)), .loop .go ((slices_swapRangeCmpFunc_impl_Acct_impl_Gather_1_s2 a b n v1 x1 x2 v2)), .loop .go ((slices_swapRangeCmpFunc_impl_Acct_impl_Gather_1_s2 a b n v1 x1 x2 v2)), .fo 0, .fo 1, .ren [0, 5, 6, 7, 8, 1, 2, 3, 4], .fo 0, .fo 1, .ren [0, 5, 6, 7, 8, 1, 2, 3, 4], .ren [0, 1, 2, 3, 4, 5, 6, 7, 8], .fo 0, .fo 1, .ren [0, 5, 6, 7, 8, 1, 2, 3, 4], .ren [0, 1, 2, 3, 4, 5, 6, 7, 8], .loop .go ((slices_swapRangeCmpFunc_impl_Acct_impl_Gather_1_s2 a b n v1 x1 x2 v2)), .loop .go ((slices_swapRangeCmpFunc_impl_Acct_impl_Gather_1_s2 a b n v1 x1 x2 v2)), .fo 0, .fo 1, .ren [0, 5, 6, 7, 8, 1, 2, 3, 4], .fo 0, .fo 1, .ren [0, 5, 6, 7, 8, 1, 2, 3, 4], .ren [0, 1, 2, 3, 4, 5, 6, 7, 8], .loop .go ((slices_swapRangeCmpFunc_impl_Acct_impl_Gather_1_s2 a b n v1 x1 x2 v2)), .fo 0, .fo 1, .ren [0, 5, 6, 7, 8, 1, 2, 3, 4], .fo 0, .fo 1, .ren [0, 5, 6, 7, 8, 1, 2, 3, 4], .ren [0, 1, 2, 3, 4, 5, 6, 7, 8], .fo 0, .fo 1, .ren [0, 5, 6, 7, 8, 1, 2, 3, 4], .ren [0, 1, 2, 3, 4, 5, 6, 7, 8], .fo 0, .fo 1, .ren [0, 5, 6, 7, 8, 1, 2, 3, 4], .ren [0, 1, 2, 3, 4, 5, 6, 7, 8], .fo 0, .fo 1, .ren [0, 5, 6, 7, 8, 1, 2, 3, 4], .wait 4, .shut 0, .nb 0 (.row 29 (List.map E29 ((v2.set ((i64 (a + v1)).toNat) x1).set ((i64 (b + v1)).toNat) x2)) []), .mask [0, 1, 2, 3, 10], .ren [0]] (p := [(decide (v1 < n)) = true,
      (0 : Int) ≤ (i64 (b + v1)),
      ((i64 (b + v1)) : Int) < ((List.map E29 v2).length : Int),
      look [] ((i64 (b + v1)).toNat) = none,
      (List.map E29 v2)[(i64 (b + v1)).toNat]? = some (E29 x1),
      look [((i64 (b + v1)).toNat, V.agg [V.sc (.string x1.Id), V.sc (.int .i64 x1.Limit), V.sc (.int .i64 x1.Posted), V.sc (.int .i64 x1.Most), V.sc (.int .i64 x1.MostSum), V.ow 1, V.sc (.int .i64 x1.Ring.Span), V.sc (.int .i64 x1.Ring.Head), V.ow 2, V.ow 3, V.ow 4])] ((i64 (b + v1)).toNat) = some (V.agg [V.sc (.string x1.Id), V.sc (.int .i64 x1.Limit), V.sc (.int .i64 x1.Posted), V.sc (.int .i64 x1.Most), V.sc (.int .i64 x1.MostSum), V.ow 1, V.sc (.int .i64 x1.Ring.Span), V.sc (.int .i64 x1.Ring.Head), V.ow 2, V.ow 3, V.ow 4]),
      ((i64 (b + v1)).toNat) < (List.map E29 v2).length,
      (0 : Int) ≤ (i64 (a + v1)),
      ((i64 (a + v1)) : Int) < ((List.map E29 v2).length : Int),
      look [((i64 (b + v1)).toNat, V.agg [V.sc (.string x1.Id), V.sc (.int .i64 x1.Limit), V.sc (.int .i64 x1.Posted), V.sc (.int .i64 x1.Most), V.sc (.int .i64 x1.MostSum), V.ow 1, V.sc (.int .i64 x1.Ring.Span), V.sc (.int .i64 x1.Ring.Head), V.ow 2, V.ow 3, V.ow 4])] ((i64 (a + v1)).toNat) = none,
      (List.map E29 v2)[(i64 (a + v1)).toNat]? = some (E29 x2),
      look [((i64 (a + v1)).toNat, V.agg [V.sc (.string x2.Id), V.sc (.int .i64 x2.Limit), V.sc (.int .i64 x2.Posted), V.sc (.int .i64 x2.Most), V.sc (.int .i64 x2.MostSum), V.ow 5, V.sc (.int .i64 x2.Ring.Span), V.sc (.int .i64 x2.Ring.Head), V.ow 6, V.ow 7, V.ow 8]), ((i64 (b + v1)).toNat, V.agg [V.sc (.string x1.Id), V.sc (.int .i64 x1.Limit), V.sc (.int .i64 x1.Posted), V.sc (.int .i64 x1.Most), V.sc (.int .i64 x1.MostSum), V.ow 1, V.sc (.int .i64 x1.Ring.Span), V.sc (.int .i64 x1.Ring.Head), V.ow 2, V.ow 3, V.ow 4])] ((i64 (a + v1)).toNat) = some (V.agg [V.sc (.string x2.Id), V.sc (.int .i64 x2.Limit), V.sc (.int .i64 x2.Posted), V.sc (.int .i64 x2.Most), V.sc (.int .i64 x2.MostSum), V.ow 5, V.sc (.int .i64 x2.Ring.Span), V.sc (.int .i64 x2.Ring.Head), V.ow 6, V.ow 7, V.ow 8]),
      ((i64 (a + v1)).toNat) < (List.map E29 v2).length,
      (0 : Int) ≤ (i64 (a + v1)),
      ((i64 (a + v1)) : Int) < ((List.map E29 v2).length : Int),
      look [((i64 (a + v1)).toNat, V.agg [V.sc (.string x2.Id), V.sc (.int .i64 x2.Limit), V.sc (.int .i64 x2.Posted), V.sc (.int .i64 x2.Most), V.sc (.int .i64 x2.MostSum), V.ow 5, V.sc (.int .i64 x2.Ring.Span), V.sc (.int .i64 x2.Ring.Head), V.ow 6, V.ow 7, V.ow 8]), ((i64 (b + v1)).toNat, V.agg [V.sc (.string x1.Id), V.sc (.int .i64 x1.Limit), V.sc (.int .i64 x1.Posted), V.sc (.int .i64 x1.Most), V.sc (.int .i64 x1.MostSum), V.ow 1, V.sc (.int .i64 x1.Ring.Span), V.sc (.int .i64 x1.Ring.Head), V.ow 2, V.ow 3, V.ow 4])] ((i64 (a + v1)).toNat) = some (V.agg [V.sc (.string x2.Id), V.sc (.int .i64 x2.Limit), V.sc (.int .i64 x2.Posted), V.sc (.int .i64 x2.Most), V.sc (.int .i64 x2.MostSum), V.ow 5, V.sc (.int .i64 x2.Ring.Span), V.sc (.int .i64 x2.Ring.Head), V.ow 6, V.ow 7, V.ow 8]),
      ((i64 (a + v1)).toNat) < (List.map E29 v2).length,
      ((i64 (a + v1)).toNat) = ((i64 (a + v1)).toNat),
      (0 : Int) ≤ (i64 (b + v1)),
      ((i64 (b + v1)) : Int) < ((List.map E29 v2).length : Int),
      look [((i64 (a + v1)).toNat, V.agg [V.sc (.string x1.Id), V.sc (.int .i64 x1.Limit), V.sc (.int .i64 x1.Posted), V.sc (.int .i64 x1.Most), V.sc (.int .i64 x1.MostSum), V.ow 1, V.sc (.int .i64 x1.Ring.Span), V.sc (.int .i64 x1.Ring.Head), V.ow 2, V.ow 3, V.ow 4]), ((i64 (b + v1)).toNat, V.agg [V.sc (.string x1.Id), V.sc (.int .i64 x1.Limit), V.sc (.int .i64 x1.Posted), V.sc (.int .i64 x1.Most), V.sc (.int .i64 x1.MostSum), V.ow 1, V.sc (.int .i64 x1.Ring.Span), V.sc (.int .i64 x1.Ring.Head), V.ow 2, V.ow 3, V.ow 4])] ((i64 (b + v1)).toNat) = some (V.agg [V.sc (.string x1.Id), V.sc (.int .i64 x1.Limit), V.sc (.int .i64 x1.Posted), V.sc (.int .i64 x1.Most), V.sc (.int .i64 x1.MostSum), V.ow 1, V.sc (.int .i64 x1.Ring.Span), V.sc (.int .i64 x1.Ring.Head), V.ow 2, V.ow 3, V.ow 4]),
      ((i64 (b + v1)).toNat) < (List.map E29 v2).length,
      ((i64 (b + v1)).toNat) = ((i64 (b + v1)).toNat),
      (slices_swapRangeCmpFunc_impl_Acct_impl_Gather_1_s2 a b n v1 x1 x2 v2) = (slices_swapRangeCmpFunc_impl_Acct_impl_Gather_1_s2 a b n v1 x1 x2 v2),
      look [((i64 (a + v1)).toNat, V.agg [V.sc (.string x2.Id), V.sc (.int .i64 x2.Limit), V.sc (.int .i64 x2.Posted), V.sc (.int .i64 x2.Most), V.sc (.int .i64 x2.MostSum), V.ow 5, V.sc (.int .i64 x2.Ring.Span), V.sc (.int .i64 x2.Ring.Head), V.ow 6, V.ow 7, V.ow 8]), ((i64 (b + v1)).toNat, V.agg [V.sc (.string x1.Id), V.sc (.int .i64 x1.Limit), V.sc (.int .i64 x1.Posted), V.sc (.int .i64 x1.Most), V.sc (.int .i64 x1.MostSum), V.ow 1, V.sc (.int .i64 x1.Ring.Span), V.sc (.int .i64 x1.Ring.Head), V.ow 2, V.ow 3, V.ow 4])] ((i64 (a + v1)).toNat) = some (V.agg [V.sc (.string x2.Id), V.sc (.int .i64 x2.Limit), V.sc (.int .i64 x2.Posted), V.sc (.int .i64 x2.Most), V.sc (.int .i64 x2.MostSum), V.ow 5, V.sc (.int .i64 x2.Ring.Span), V.sc (.int .i64 x2.Ring.Head), V.ow 6, V.ow 7, V.ow 8]),
      ((i64 (a + v1)).toNat) < (List.map E29 v2).length,
      ((i64 (a + v1)).toNat) = ((i64 (a + v1)).toNat),
      (0 : Int) ≤ (i64 (b + v1)),
      ((i64 (b + v1)) : Int) < ((List.map E29 v2).length : Int),
      look [((i64 (a + v1)).toNat, V.agg [V.sc (.string x1.Id), V.sc (.int .i64 x1.Limit), V.sc (.int .i64 x1.Posted), V.sc (.int .i64 x1.Most), V.sc (.int .i64 x1.MostSum), V.ow 1, V.sc (.int .i64 x1.Ring.Span), V.sc (.int .i64 x1.Ring.Head), V.ow 2, V.ow 3, V.ow 4]), ((i64 (b + v1)).toNat, V.agg [V.sc (.string x1.Id), V.sc (.int .i64 x1.Limit), V.sc (.int .i64 x1.Posted), V.sc (.int .i64 x1.Most), V.sc (.int .i64 x1.MostSum), V.ow 1, V.sc (.int .i64 x1.Ring.Span), V.sc (.int .i64 x1.Ring.Head), V.ow 2, V.ow 3, V.ow 4])] ((i64 (b + v1)).toNat) = some (V.agg [V.sc (.string x1.Id), V.sc (.int .i64 x1.Limit), V.sc (.int .i64 x1.Posted), V.sc (.int .i64 x1.Most), V.sc (.int .i64 x1.MostSum), V.ow 1, V.sc (.int .i64 x1.Ring.Span), V.sc (.int .i64 x1.Ring.Head), V.ow 2, V.ow 3, V.ow 4]),
      ((i64 (b + v1)).toNat) < (List.map E29 v2).length,
      ((i64 (b + v1)).toNat) = ((i64 (b + v1)).toNat),
      (slices_swapRangeCmpFunc_impl_Acct_impl_Gather_1_s2 a b n v1 x1 x2 v2) = (slices_swapRangeCmpFunc_impl_Acct_impl_Gather_1_s2 a b n v1 x1 x2 v2),
      (slices_swapRangeCmpFunc_impl_Acct_impl_Gather_1_s2 a b n v1 x1 x2 v2) = (slices_swapRangeCmpFunc_impl_Acct_impl_Gather_1_s2 a b n v1 x1 x2 v2),
      look [((i64 (a + v1)).toNat, V.agg [V.sc (.string x2.Id), V.sc (.int .i64 x2.Limit), V.sc (.int .i64 x2.Posted), V.sc (.int .i64 x2.Most), V.sc (.int .i64 x2.MostSum), V.ow 5, V.sc (.int .i64 x2.Ring.Span), V.sc (.int .i64 x2.Ring.Head), V.ow 6, V.ow 7, V.ow 8]), ((i64 (b + v1)).toNat, V.agg [V.sc (.string x1.Id), V.sc (.int .i64 x1.Limit), V.sc (.int .i64 x1.Posted), V.sc (.int .i64 x1.Most), V.sc (.int .i64 x1.MostSum), V.ow 1, V.sc (.int .i64 x1.Ring.Span), V.sc (.int .i64 x1.Ring.Head), V.ow 2, V.ow 3, V.ow 4])] ((i64 (a + v1)).toNat) = some (V.agg [V.sc (.string x2.Id), V.sc (.int .i64 x2.Limit), V.sc (.int .i64 x2.Posted), V.sc (.int .i64 x2.Most), V.sc (.int .i64 x2.MostSum), V.ow 5, V.sc (.int .i64 x2.Ring.Span), V.sc (.int .i64 x2.Ring.Head), V.ow 6, V.ow 7, V.ow 8]),
      ((i64 (a + v1)).toNat) < (List.map E29 v2).length,
      ((i64 (a + v1)).toNat) = ((i64 (a + v1)).toNat),
      (0 : Int) ≤ (i64 (b + v1)),
      ((i64 (b + v1)) : Int) < ((List.map E29 v2).length : Int),
      look [((i64 (a + v1)).toNat, V.agg [V.sc (.string x1.Id), V.sc (.int .i64 x1.Limit), V.sc (.int .i64 x1.Posted), V.sc (.int .i64 x1.Most), V.sc (.int .i64 x1.MostSum), V.ow 1, V.sc (.int .i64 x1.Ring.Span), V.sc (.int .i64 x1.Ring.Head), V.ow 2, V.ow 3, V.ow 4]), ((i64 (b + v1)).toNat, V.agg [V.sc (.string x1.Id), V.sc (.int .i64 x1.Limit), V.sc (.int .i64 x1.Posted), V.sc (.int .i64 x1.Most), V.sc (.int .i64 x1.MostSum), V.ow 1, V.sc (.int .i64 x1.Ring.Span), V.sc (.int .i64 x1.Ring.Head), V.ow 2, V.ow 3, V.ow 4])] ((i64 (b + v1)).toNat) = some (V.agg [V.sc (.string x1.Id), V.sc (.int .i64 x1.Limit), V.sc (.int .i64 x1.Posted), V.sc (.int .i64 x1.Most), V.sc (.int .i64 x1.MostSum), V.ow 1, V.sc (.int .i64 x1.Ring.Span), V.sc (.int .i64 x1.Ring.Head), V.ow 2, V.ow 3, V.ow 4]),
      ((i64 (b + v1)).toNat) < (List.map E29 v2).length,
      ((i64 (b + v1)).toNat) = ((i64 (b + v1)).toNat),
      (slices_swapRangeCmpFunc_impl_Acct_impl_Gather_1_s2 a b n v1 x1 x2 v2) = (slices_swapRangeCmpFunc_impl_Acct_impl_Gather_1_s2 a b n v1 x1 x2 v2),
      (slices_swapRangeCmpFunc_impl_Acct_impl_Gather_1_s2 a b n v1 x1 x2 v2) = (slices_swapRangeCmpFunc_impl_Acct_impl_Gather_1_s2 a b n v1 x1 x2 v2),
      look [((i64 (a + v1)).toNat, V.agg [V.sc (.string x2.Id), V.sc (.int .i64 x2.Limit), V.sc (.int .i64 x2.Posted), V.sc (.int .i64 x2.Most), V.sc (.int .i64 x2.MostSum), V.ow 5, V.sc (.int .i64 x2.Ring.Span), V.sc (.int .i64 x2.Ring.Head), V.ow 6, V.ow 7, V.ow 8]), ((i64 (b + v1)).toNat, V.agg [V.sc (.string x1.Id), V.sc (.int .i64 x1.Limit), V.sc (.int .i64 x1.Posted), V.sc (.int .i64 x1.Most), V.sc (.int .i64 x1.MostSum), V.ow 1, V.sc (.int .i64 x1.Ring.Span), V.sc (.int .i64 x1.Ring.Head), V.ow 2, V.ow 3, V.ow 4])] ((i64 (a + v1)).toNat) = some (V.agg [V.sc (.string x2.Id), V.sc (.int .i64 x2.Limit), V.sc (.int .i64 x2.Posted), V.sc (.int .i64 x2.Most), V.sc (.int .i64 x2.MostSum), V.ow 5, V.sc (.int .i64 x2.Ring.Span), V.sc (.int .i64 x2.Ring.Head), V.ow 6, V.ow 7, V.ow 8]),
      ((i64 (a + v1)).toNat) < (List.map E29 v2).length,
      ((i64 (a + v1)).toNat) = ((i64 (a + v1)).toNat),
      (0 : Int) ≤ (i64 (b + v1)),
      ((i64 (b + v1)) : Int) < ((List.map E29 v2).length : Int),
      look [((i64 (a + v1)).toNat, V.agg [V.sc (.string x1.Id), V.sc (.int .i64 x1.Limit), V.sc (.int .i64 x1.Posted), V.sc (.int .i64 x1.Most), V.sc (.int .i64 x1.MostSum), V.ow 1, V.sc (.int .i64 x1.Ring.Span), V.sc (.int .i64 x1.Ring.Head), V.ow 2, V.ow 3, V.ow 4]), ((i64 (b + v1)).toNat, V.agg [V.sc (.string x1.Id), V.sc (.int .i64 x1.Limit), V.sc (.int .i64 x1.Posted), V.sc (.int .i64 x1.Most), V.sc (.int .i64 x1.MostSum), V.ow 1, V.sc (.int .i64 x1.Ring.Span), V.sc (.int .i64 x1.Ring.Head), V.ow 2, V.ow 3, V.ow 4])] ((i64 (b + v1)).toNat) = some (V.agg [V.sc (.string x1.Id), V.sc (.int .i64 x1.Limit), V.sc (.int .i64 x1.Posted), V.sc (.int .i64 x1.Most), V.sc (.int .i64 x1.MostSum), V.ow 1, V.sc (.int .i64 x1.Ring.Span), V.sc (.int .i64 x1.Ring.Head), V.ow 2, V.ow 3, V.ow 4]),
      ((i64 (b + v1)).toNat) < (List.map E29 v2).length,
      ((i64 (b + v1)).toNat) = ((i64 (b + v1)).toNat),
      (slices_swapRangeCmpFunc_impl_Acct_impl_Gather_1_s2 a b n v1 x1 x2 v2) = (slices_swapRangeCmpFunc_impl_Acct_impl_Gather_1_s2 a b n v1 x1 x2 v2),
      look [((i64 (a + v1)).toNat, V.agg [V.sc (.string x2.Id), V.sc (.int .i64 x2.Limit), V.sc (.int .i64 x2.Posted), V.sc (.int .i64 x2.Most), V.sc (.int .i64 x2.MostSum), V.ow 5, V.sc (.int .i64 x2.Ring.Span), V.sc (.int .i64 x2.Ring.Head), V.ow 6, V.ow 7, V.ow 8]), ((i64 (b + v1)).toNat, V.agg [V.sc (.string x1.Id), V.sc (.int .i64 x1.Limit), V.sc (.int .i64 x1.Posted), V.sc (.int .i64 x1.Most), V.sc (.int .i64 x1.MostSum), V.ow 1, V.sc (.int .i64 x1.Ring.Span), V.sc (.int .i64 x1.Ring.Head), V.ow 2, V.ow 3, V.ow 4])] ((i64 (a + v1)).toNat) = some (V.agg [V.sc (.string x2.Id), V.sc (.int .i64 x2.Limit), V.sc (.int .i64 x2.Posted), V.sc (.int .i64 x2.Most), V.sc (.int .i64 x2.MostSum), V.ow 5, V.sc (.int .i64 x2.Ring.Span), V.sc (.int .i64 x2.Ring.Head), V.ow 6, V.ow 7, V.ow 8]),
      ((i64 (a + v1)).toNat) < (List.map E29 v2).length,
      ((i64 (a + v1)).toNat) = ((i64 (a + v1)).toNat),
      (0 : Int) ≤ (i64 (b + v1)),
      ((i64 (b + v1)) : Int) < ((List.map E29 v2).length : Int),
      look [((i64 (a + v1)).toNat, V.agg [V.sc (.string x1.Id), V.sc (.int .i64 x1.Limit), V.sc (.int .i64 x1.Posted), V.sc (.int .i64 x1.Most), V.sc (.int .i64 x1.MostSum), V.ow 1, V.sc (.int .i64 x1.Ring.Span), V.sc (.int .i64 x1.Ring.Head), V.ow 2, V.ow 3, V.ow 4]), ((i64 (b + v1)).toNat, V.agg [V.sc (.string x1.Id), V.sc (.int .i64 x1.Limit), V.sc (.int .i64 x1.Posted), V.sc (.int .i64 x1.Most), V.sc (.int .i64 x1.MostSum), V.ow 1, V.sc (.int .i64 x1.Ring.Span), V.sc (.int .i64 x1.Ring.Head), V.ow 2, V.ow 3, V.ow 4])] ((i64 (b + v1)).toNat) = some (V.agg [V.sc (.string x1.Id), V.sc (.int .i64 x1.Limit), V.sc (.int .i64 x1.Posted), V.sc (.int .i64 x1.Most), V.sc (.int .i64 x1.MostSum), V.ow 1, V.sc (.int .i64 x1.Ring.Span), V.sc (.int .i64 x1.Ring.Head), V.ow 2, V.ow 3, V.ow 4]),
      ((i64 (b + v1)).toNat) < (List.map E29 v2).length,
      ((i64 (b + v1)).toNat) = ((i64 (b + v1)).toNat),
      (slices_swapRangeCmpFunc_impl_Acct_impl_Gather_1_s2 a b n v1 x1 x2 v2) = (slices_swapRangeCmpFunc_impl_Acct_impl_Gather_1_s2 a b n v1 x1 x2 v2),
      (slices_swapRangeCmpFunc_impl_Acct_impl_Gather_1_s2 a b n v1 x1 x2 v2) = (slices_swapRangeCmpFunc_impl_Acct_impl_Gather_1_s2 a b n v1 x1 x2 v2),
      look [((i64 (a + v1)).toNat, V.agg [V.sc (.string x2.Id), V.sc (.int .i64 x2.Limit), V.sc (.int .i64 x2.Posted), V.sc (.int .i64 x2.Most), V.sc (.int .i64 x2.MostSum), V.ow 5, V.sc (.int .i64 x2.Ring.Span), V.sc (.int .i64 x2.Ring.Head), V.ow 6, V.ow 7, V.ow 8]), ((i64 (b + v1)).toNat, V.agg [V.sc (.string x1.Id), V.sc (.int .i64 x1.Limit), V.sc (.int .i64 x1.Posted), V.sc (.int .i64 x1.Most), V.sc (.int .i64 x1.MostSum), V.ow 1, V.sc (.int .i64 x1.Ring.Span), V.sc (.int .i64 x1.Ring.Head), V.ow 2, V.ow 3, V.ow 4])] ((i64 (a + v1)).toNat) = some (V.agg [V.sc (.string x2.Id), V.sc (.int .i64 x2.Limit), V.sc (.int .i64 x2.Posted), V.sc (.int .i64 x2.Most), V.sc (.int .i64 x2.MostSum), V.ow 5, V.sc (.int .i64 x2.Ring.Span), V.sc (.int .i64 x2.Ring.Head), V.ow 6, V.ow 7, V.ow 8]),
      ((i64 (a + v1)).toNat) < (List.map E29 v2).length,
      ((i64 (a + v1)).toNat) = ((i64 (a + v1)).toNat),
      (0 : Int) ≤ (i64 (b + v1)),
      ((i64 (b + v1)) : Int) < ((List.map E29 v2).length : Int),
      look [((i64 (a + v1)).toNat, V.agg [V.sc (.string x1.Id), V.sc (.int .i64 x1.Limit), V.sc (.int .i64 x1.Posted), V.sc (.int .i64 x1.Most), V.sc (.int .i64 x1.MostSum), V.ow 1, V.sc (.int .i64 x1.Ring.Span), V.sc (.int .i64 x1.Ring.Head), V.ow 2, V.ow 3, V.ow 4]), ((i64 (b + v1)).toNat, V.agg [V.sc (.string x1.Id), V.sc (.int .i64 x1.Limit), V.sc (.int .i64 x1.Posted), V.sc (.int .i64 x1.Most), V.sc (.int .i64 x1.MostSum), V.ow 1, V.sc (.int .i64 x1.Ring.Span), V.sc (.int .i64 x1.Ring.Head), V.ow 2, V.ow 3, V.ow 4])] ((i64 (b + v1)).toNat) = some (V.agg [V.sc (.string x1.Id), V.sc (.int .i64 x1.Limit), V.sc (.int .i64 x1.Posted), V.sc (.int .i64 x1.Most), V.sc (.int .i64 x1.MostSum), V.ow 1, V.sc (.int .i64 x1.Ring.Span), V.sc (.int .i64 x1.Ring.Head), V.ow 2, V.ow 3, V.ow 4]),
      ((i64 (b + v1)).toNat) < (List.map E29 v2).length,
      ((i64 (b + v1)).toNat) = ((i64 (b + v1)).toNat),
      (slices_swapRangeCmpFunc_impl_Acct_impl_Gather_1_s2 a b n v1 x1 x2 v2) = (slices_swapRangeCmpFunc_impl_Acct_impl_Gather_1_s2 a b n v1 x1 x2 v2),
      (slices_swapRangeCmpFunc_impl_Acct_impl_Gather_1_s2 a b n v1 x1 x2 v2) = (slices_swapRangeCmpFunc_impl_Acct_impl_Gather_1_s2 a b n v1 x1 x2 v2),
      look [((i64 (a + v1)).toNat, V.agg [V.sc (.string x2.Id), V.sc (.int .i64 x2.Limit), V.sc (.int .i64 x2.Posted), V.sc (.int .i64 x2.Most), V.sc (.int .i64 x2.MostSum), V.ow 5, V.sc (.int .i64 x2.Ring.Span), V.sc (.int .i64 x2.Ring.Head), V.ow 6, V.ow 7, V.ow 8]), ((i64 (b + v1)).toNat, V.agg [V.sc (.string x1.Id), V.sc (.int .i64 x1.Limit), V.sc (.int .i64 x1.Posted), V.sc (.int .i64 x1.Most), V.sc (.int .i64 x1.MostSum), V.ow 1, V.sc (.int .i64 x1.Ring.Span), V.sc (.int .i64 x1.Ring.Head), V.ow 2, V.ow 3, V.ow 4])] ((i64 (a + v1)).toNat) = some (V.agg [V.sc (.string x2.Id), V.sc (.int .i64 x2.Limit), V.sc (.int .i64 x2.Posted), V.sc (.int .i64 x2.Most), V.sc (.int .i64 x2.MostSum), V.ow 5, V.sc (.int .i64 x2.Ring.Span), V.sc (.int .i64 x2.Ring.Head), V.ow 6, V.ow 7, V.ow 8]),
      ((i64 (a + v1)).toNat) < (List.map E29 v2).length,
      ((i64 (a + v1)).toNat) = ((i64 (a + v1)).toNat),
      (0 : Int) ≤ (i64 (b + v1)),
      ((i64 (b + v1)) : Int) < ((List.map E29 v2).length : Int),
      look [((i64 (a + v1)).toNat, V.agg [V.sc (.string x1.Id), V.sc (.int .i64 x1.Limit), V.sc (.int .i64 x1.Posted), V.sc (.int .i64 x1.Most), V.sc (.int .i64 x1.MostSum), V.ow 1, V.sc (.int .i64 x1.Ring.Span), V.sc (.int .i64 x1.Ring.Head), V.ow 2, V.ow 3, V.ow 4]), ((i64 (b + v1)).toNat, V.agg [V.sc (.string x1.Id), V.sc (.int .i64 x1.Limit), V.sc (.int .i64 x1.Posted), V.sc (.int .i64 x1.Most), V.sc (.int .i64 x1.MostSum), V.ow 1, V.sc (.int .i64 x1.Ring.Span), V.sc (.int .i64 x1.Ring.Head), V.ow 2, V.ow 3, V.ow 4])] ((i64 (b + v1)).toNat) = some (V.agg [V.sc (.string x1.Id), V.sc (.int .i64 x1.Limit), V.sc (.int .i64 x1.Posted), V.sc (.int .i64 x1.Most), V.sc (.int .i64 x1.MostSum), V.ow 1, V.sc (.int .i64 x1.Ring.Span), V.sc (.int .i64 x1.Ring.Head), V.ow 2, V.ow 3, V.ow 4]),
      ((i64 (b + v1)).toNat) < (List.map E29 v2).length,
      ((i64 (b + v1)).toNat) = ((i64 (b + v1)).toNat),
      (slices_swapRangeCmpFunc_impl_Acct_impl_Gather_1_s2 a b n v1 x1 x2 v2) = (slices_swapRangeCmpFunc_impl_Acct_impl_Gather_1_s2 a b n v1 x1 x2 v2),
      (slices_swapRangeCmpFunc_impl_Acct_impl_Gather_1_s2 a b n v1 x1 x2 v2) = (slices_swapRangeCmpFunc_impl_Acct_impl_Gather_1_s2 a b n v1 x1 x2 v2),
      look [((i64 (a + v1)).toNat, V.agg [V.sc (.string x2.Id), V.sc (.int .i64 x2.Limit), V.sc (.int .i64 x2.Posted), V.sc (.int .i64 x2.Most), V.sc (.int .i64 x2.MostSum), V.ow 5, V.sc (.int .i64 x2.Ring.Span), V.sc (.int .i64 x2.Ring.Head), V.ow 6, V.ow 7, V.ow 8]), ((i64 (b + v1)).toNat, V.agg [V.sc (.string x1.Id), V.sc (.int .i64 x1.Limit), V.sc (.int .i64 x1.Posted), V.sc (.int .i64 x1.Most), V.sc (.int .i64 x1.MostSum), V.ow 1, V.sc (.int .i64 x1.Ring.Span), V.sc (.int .i64 x1.Ring.Head), V.ow 2, V.ow 3, V.ow 4])] ((i64 (a + v1)).toNat) = some (V.agg [V.sc (.string x2.Id), V.sc (.int .i64 x2.Limit), V.sc (.int .i64 x2.Posted), V.sc (.int .i64 x2.Most), V.sc (.int .i64 x2.MostSum), V.ow 5, V.sc (.int .i64 x2.Ring.Span), V.sc (.int .i64 x2.Ring.Head), V.ow 6, V.ow 7, V.ow 8]),
      ((i64 (a + v1)).toNat) < (List.map E29 v2).length,
      ((i64 (a + v1)).toNat) = ((i64 (a + v1)).toNat),
      (0 : Int) ≤ (i64 (b + v1)),
      ((i64 (b + v1)) : Int) < ((List.map E29 v2).length : Int),
      look [((i64 (a + v1)).toNat, V.agg [V.sc (.string x1.Id), V.sc (.int .i64 x1.Limit), V.sc (.int .i64 x1.Posted), V.sc (.int .i64 x1.Most), V.sc (.int .i64 x1.MostSum), V.ow 1, V.sc (.int .i64 x1.Ring.Span), V.sc (.int .i64 x1.Ring.Head), V.ow 2, V.ow 3, V.ow 4]), ((i64 (b + v1)).toNat, V.agg [V.sc (.string x1.Id), V.sc (.int .i64 x1.Limit), V.sc (.int .i64 x1.Posted), V.sc (.int .i64 x1.Most), V.sc (.int .i64 x1.MostSum), V.ow 1, V.sc (.int .i64 x1.Ring.Span), V.sc (.int .i64 x1.Ring.Head), V.ow 2, V.ow 3, V.ow 4])] ((i64 (b + v1)).toNat) = some (V.agg [V.sc (.string x1.Id), V.sc (.int .i64 x1.Limit), V.sc (.int .i64 x1.Posted), V.sc (.int .i64 x1.Most), V.sc (.int .i64 x1.MostSum), V.ow 1, V.sc (.int .i64 x1.Ring.Span), V.sc (.int .i64 x1.Ring.Head), V.ow 2, V.ow 3, V.ow 4]),
      ((i64 (b + v1)).toNat) < (List.map E29 v2).length,
      ((i64 (b + v1)).toNat) = ((i64 (b + v1)).toNat),
      (slices_swapRangeCmpFunc_impl_Acct_impl_Gather_1_s2 a b n v1 x1 x2 v2) = (slices_swapRangeCmpFunc_impl_Acct_impl_Gather_1_s2 a b n v1 x1 x2 v2),
      look [((i64 (a + v1)).toNat, V.agg [V.sc (.string x2.Id), V.sc (.int .i64 x2.Limit), V.sc (.int .i64 x2.Posted), V.sc (.int .i64 x2.Most), V.sc (.int .i64 x2.MostSum), V.ow 5, V.sc (.int .i64 x2.Ring.Span), V.sc (.int .i64 x2.Ring.Head), V.ow 6, V.ow 7, V.ow 8]), ((i64 (b + v1)).toNat, V.agg [V.sc (.string x1.Id), V.sc (.int .i64 x1.Limit), V.sc (.int .i64 x1.Posted), V.sc (.int .i64 x1.Most), V.sc (.int .i64 x1.MostSum), V.ow 1, V.sc (.int .i64 x1.Ring.Span), V.sc (.int .i64 x1.Ring.Head), V.ow 2, V.ow 3, V.ow 4])] ((i64 (a + v1)).toNat) = some (V.agg [V.sc (.string x2.Id), V.sc (.int .i64 x2.Limit), V.sc (.int .i64 x2.Posted), V.sc (.int .i64 x2.Most), V.sc (.int .i64 x2.MostSum), V.ow 5, V.sc (.int .i64 x2.Ring.Span), V.sc (.int .i64 x2.Ring.Head), V.ow 6, V.ow 7, V.ow 8]),
      ((i64 (a + v1)).toNat) < (List.map E29 v2).length,
      ((i64 (a + v1)).toNat) = ((i64 (a + v1)).toNat),
      (0 : Int) ≤ (i64 (b + v1)),
      ((i64 (b + v1)) : Int) < ((List.map E29 v2).length : Int),
      look [((i64 (a + v1)).toNat, V.agg [V.sc (.string x1.Id), V.sc (.int .i64 x1.Limit), V.sc (.int .i64 x1.Posted), V.sc (.int .i64 x1.Most), V.sc (.int .i64 x1.MostSum), V.ow 1, V.sc (.int .i64 x1.Ring.Span), V.sc (.int .i64 x1.Ring.Head), V.ow 2, V.ow 3, V.ow 4]), ((i64 (b + v1)).toNat, V.agg [V.sc (.string x1.Id), V.sc (.int .i64 x1.Limit), V.sc (.int .i64 x1.Posted), V.sc (.int .i64 x1.Most), V.sc (.int .i64 x1.MostSum), V.ow 1, V.sc (.int .i64 x1.Ring.Span), V.sc (.int .i64 x1.Ring.Head), V.ow 2, V.ow 3, V.ow 4])] ((i64 (b + v1)).toNat) = some (V.agg [V.sc (.string x1.Id), V.sc (.int .i64 x1.Limit), V.sc (.int .i64 x1.Posted), V.sc (.int .i64 x1.Most), V.sc (.int .i64 x1.MostSum), V.ow 1, V.sc (.int .i64 x1.Ring.Span), V.sc (.int .i64 x1.Ring.Head), V.ow 2, V.ow 3, V.ow 4]),
      ((i64 (b + v1)).toNat) < (List.map E29 v2).length,
      ((i64 (b + v1)).toNat) = ((i64 (b + v1)).toNat),
      (slices_swapRangeCmpFunc_impl_Acct_impl_Gather_1_s2 a b n v1 x1 x2 v2) = (slices_swapRangeCmpFunc_impl_Acct_impl_Gather_1_s2 a b n v1 x1 x2 v2),
      (slices_swapRangeCmpFunc_impl_Acct_impl_Gather_1_s2 a b n v1 x1 x2 v2) = (slices_swapRangeCmpFunc_impl_Acct_impl_Gather_1_s2 a b n v1 x1 x2 v2),
      look [((i64 (a + v1)).toNat, V.agg [V.sc (.string x2.Id), V.sc (.int .i64 x2.Limit), V.sc (.int .i64 x2.Posted), V.sc (.int .i64 x2.Most), V.sc (.int .i64 x2.MostSum), V.ow 5, V.sc (.int .i64 x2.Ring.Span), V.sc (.int .i64 x2.Ring.Head), V.ow 6, V.ow 7, V.ow 8]), ((i64 (b + v1)).toNat, V.agg [V.sc (.string x1.Id), V.sc (.int .i64 x1.Limit), V.sc (.int .i64 x1.Posted), V.sc (.int .i64 x1.Most), V.sc (.int .i64 x1.MostSum), V.ow 1, V.sc (.int .i64 x1.Ring.Span), V.sc (.int .i64 x1.Ring.Head), V.ow 2, V.ow 3, V.ow 4])] ((i64 (a + v1)).toNat) = some (V.agg [V.sc (.string x2.Id), V.sc (.int .i64 x2.Limit), V.sc (.int .i64 x2.Posted), V.sc (.int .i64 x2.Most), V.sc (.int .i64 x2.MostSum), V.ow 5, V.sc (.int .i64 x2.Ring.Span), V.sc (.int .i64 x2.Ring.Head), V.ow 6, V.ow 7, V.ow 8]),
      ((i64 (a + v1)).toNat) < (List.map E29 v2).length,
      ((i64 (a + v1)).toNat) = ((i64 (a + v1)).toNat),
      (0 : Int) ≤ (i64 (b + v1)),
      ((i64 (b + v1)) : Int) < ((List.map E29 v2).length : Int),
      look [((i64 (a + v1)).toNat, V.agg [V.sc (.string x1.Id), V.sc (.int .i64 x1.Limit), V.sc (.int .i64 x1.Posted), V.sc (.int .i64 x1.Most), V.sc (.int .i64 x1.MostSum), V.ow 1, V.sc (.int .i64 x1.Ring.Span), V.sc (.int .i64 x1.Ring.Head), V.ow 2, V.ow 3, V.ow 4]), ((i64 (b + v1)).toNat, V.agg [V.sc (.string x1.Id), V.sc (.int .i64 x1.Limit), V.sc (.int .i64 x1.Posted), V.sc (.int .i64 x1.Most), V.sc (.int .i64 x1.MostSum), V.ow 1, V.sc (.int .i64 x1.Ring.Span), V.sc (.int .i64 x1.Ring.Head), V.ow 2, V.ow 3, V.ow 4])] ((i64 (b + v1)).toNat) = some (V.agg [V.sc (.string x1.Id), V.sc (.int .i64 x1.Limit), V.sc (.int .i64 x1.Posted), V.sc (.int .i64 x1.Most), V.sc (.int .i64 x1.MostSum), V.ow 1, V.sc (.int .i64 x1.Ring.Span), V.sc (.int .i64 x1.Ring.Head), V.ow 2, V.ow 3, V.ow 4]),
      ((i64 (b + v1)).toNat) < (List.map E29 v2).length,
      ((i64 (b + v1)).toNat) = ((i64 (b + v1)).toNat),
      (slices_swapRangeCmpFunc_impl_Acct_impl_Gather_1_s2 a b n v1 x1 x2 v2) = (slices_swapRangeCmpFunc_impl_Acct_impl_Gather_1_s2 a b n v1 x1 x2 v2),
      (slices_swapRangeCmpFunc_impl_Acct_impl_Gather_1_s2 a b n v1 x1 x2 v2) = (slices_swapRangeCmpFunc_impl_Acct_impl_Gather_1_s2 a b n v1 x1 x2 v2),
      look [((i64 (a + v1)).toNat, V.agg [V.sc (.string x2.Id), V.sc (.int .i64 x2.Limit), V.sc (.int .i64 x2.Posted), V.sc (.int .i64 x2.Most), V.sc (.int .i64 x2.MostSum), V.ow 5, V.sc (.int .i64 x2.Ring.Span), V.sc (.int .i64 x2.Ring.Head), V.ow 6, V.ow 7, V.ow 8]), ((i64 (b + v1)).toNat, V.agg [V.sc (.string x1.Id), V.sc (.int .i64 x1.Limit), V.sc (.int .i64 x1.Posted), V.sc (.int .i64 x1.Most), V.sc (.int .i64 x1.MostSum), V.ow 1, V.sc (.int .i64 x1.Ring.Span), V.sc (.int .i64 x1.Ring.Head), V.ow 2, V.ow 3, V.ow 4])] ((i64 (a + v1)).toNat) = some (V.agg [V.sc (.string x2.Id), V.sc (.int .i64 x2.Limit), V.sc (.int .i64 x2.Posted), V.sc (.int .i64 x2.Most), V.sc (.int .i64 x2.MostSum), V.ow 5, V.sc (.int .i64 x2.Ring.Span), V.sc (.int .i64 x2.Ring.Head), V.ow 6, V.ow 7, V.ow 8]),
      ((i64 (a + v1)).toNat) < (List.map E29 v2).length,
      ((i64 (a + v1)).toNat) = ((i64 (a + v1)).toNat),
      (0 : Int) ≤ (i64 (b + v1)),
      ((i64 (b + v1)) : Int) < ((List.map E29 v2).length : Int),
      look [((i64 (a + v1)).toNat, V.agg [V.sc (.string x1.Id), V.sc (.int .i64 x1.Limit), V.sc (.int .i64 x1.Posted), V.sc (.int .i64 x1.Most), V.sc (.int .i64 x1.MostSum), V.ow 1, V.sc (.int .i64 x1.Ring.Span), V.sc (.int .i64 x1.Ring.Head), V.ow 2, V.ow 3, V.ow 4]), ((i64 (b + v1)).toNat, V.agg [V.sc (.string x1.Id), V.sc (.int .i64 x1.Limit), V.sc (.int .i64 x1.Posted), V.sc (.int .i64 x1.Most), V.sc (.int .i64 x1.MostSum), V.ow 1, V.sc (.int .i64 x1.Ring.Span), V.sc (.int .i64 x1.Ring.Head), V.ow 2, V.ow 3, V.ow 4])] ((i64 (b + v1)).toNat) = some (V.agg [V.sc (.string x1.Id), V.sc (.int .i64 x1.Limit), V.sc (.int .i64 x1.Posted), V.sc (.int .i64 x1.Most), V.sc (.int .i64 x1.MostSum), V.ow 1, V.sc (.int .i64 x1.Ring.Span), V.sc (.int .i64 x1.Ring.Head), V.ow 2, V.ow 3, V.ow 4]),
      ((i64 (b + v1)).toNat) < (List.map E29 v2).length,
      ((i64 (b + v1)).toNat) = ((i64 (b + v1)).toNat),
      (slices_swapRangeCmpFunc_impl_Acct_impl_Gather_1_s2 a b n v1 x1 x2 v2) = (slices_swapRangeCmpFunc_impl_Acct_impl_Gather_1_s2 a b n v1 x1 x2 v2),
      look [((i64 (a + v1)).toNat, V.agg [V.sc (.string x2.Id), V.sc (.int .i64 x2.Limit), V.sc (.int .i64 x2.Posted), V.sc (.int .i64 x2.Most), V.sc (.int .i64 x2.MostSum), V.ow 5, V.sc (.int .i64 x2.Ring.Span), V.sc (.int .i64 x2.Ring.Head), V.ow 6, V.ow 7, V.ow 8]), ((i64 (b + v1)).toNat, V.agg [V.sc (.string x1.Id), V.sc (.int .i64 x1.Limit), V.sc (.int .i64 x1.Posted), V.sc (.int .i64 x1.Most), V.sc (.int .i64 x1.MostSum), V.ow 1, V.sc (.int .i64 x1.Ring.Span), V.sc (.int .i64 x1.Ring.Head), V.ow 2, V.ow 3, V.ow 4])] ((i64 (a + v1)).toNat) = some (V.agg [V.sc (.string x2.Id), V.sc (.int .i64 x2.Limit), V.sc (.int .i64 x2.Posted), V.sc (.int .i64 x2.Most), V.sc (.int .i64 x2.MostSum), V.ow 5, V.sc (.int .i64 x2.Ring.Span), V.sc (.int .i64 x2.Ring.Head), V.ow 6, V.ow 7, V.ow 8]),
      ((i64 (a + v1)).toNat) < (List.map E29 v2).length,
      ((i64 (a + v1)).toNat) = ((i64 (a + v1)).toNat),
      (0 : Int) ≤ (i64 (b + v1)),
      ((i64 (b + v1)) : Int) < ((List.map E29 v2).length : Int),
      look [((i64 (a + v1)).toNat, V.agg [V.sc (.string x1.Id), V.sc (.int .i64 x1.Limit), V.sc (.int .i64 x1.Posted), V.sc (.int .i64 x1.Most), V.sc (.int .i64 x1.MostSum), V.ow 1, V.sc (.int .i64 x1.Ring.Span), V.sc (.int .i64 x1.Ring.Head), V.ow 2, V.ow 3, V.ow 4]), ((i64 (b + v1)).toNat, V.agg [V.sc (.string x1.Id), V.sc (.int .i64 x1.Limit), V.sc (.int .i64 x1.Posted), V.sc (.int .i64 x1.Most), V.sc (.int .i64 x1.MostSum), V.ow 1, V.sc (.int .i64 x1.Ring.Span), V.sc (.int .i64 x1.Ring.Head), V.ow 2, V.ow 3, V.ow 4])] ((i64 (b + v1)).toNat) = some (V.agg [V.sc (.string x1.Id), V.sc (.int .i64 x1.Limit), V.sc (.int .i64 x1.Posted), V.sc (.int .i64 x1.Most), V.sc (.int .i64 x1.MostSum), V.ow 1, V.sc (.int .i64 x1.Ring.Span), V.sc (.int .i64 x1.Ring.Head), V.ow 2, V.ow 3, V.ow 4]),
      ((i64 (b + v1)).toNat) < (List.map E29 v2).length,
      ((i64 (b + v1)).toNat) = ((i64 (b + v1)).toNat),
      (slices_swapRangeCmpFunc_impl_Acct_impl_Gather_1_s2 a b n v1 x1 x2 v2) = (slices_swapRangeCmpFunc_impl_Acct_impl_Gather_1_s2 a b n v1 x1 x2 v2),
      (slices_swapRangeCmpFunc_impl_Acct_impl_Gather_1_s2 a b n v1 x1 x2 v2) = (slices_swapRangeCmpFunc_impl_Acct_impl_Gather_1_s2 a b n v1 x1 x2 v2),
      look [((i64 (a + v1)).toNat, V.agg [V.sc (.string x2.Id), V.sc (.int .i64 x2.Limit), V.sc (.int .i64 x2.Posted), V.sc (.int .i64 x2.Most), V.sc (.int .i64 x2.MostSum), V.ow 5, V.sc (.int .i64 x2.Ring.Span), V.sc (.int .i64 x2.Ring.Head), V.ow 6, V.ow 7, V.ow 8]), ((i64 (b + v1)).toNat, V.agg [V.sc (.string x1.Id), V.sc (.int .i64 x1.Limit), V.sc (.int .i64 x1.Posted), V.sc (.int .i64 x1.Most), V.sc (.int .i64 x1.MostSum), V.ow 1, V.sc (.int .i64 x1.Ring.Span), V.sc (.int .i64 x1.Ring.Head), V.ow 2, V.ow 3, V.ow 4])] ((i64 (a + v1)).toNat) = some (V.agg [V.sc (.string x2.Id), V.sc (.int .i64 x2.Limit), V.sc (.int .i64 x2.Posted), V.sc (.int .i64 x2.Most), V.sc (.int .i64 x2.MostSum), V.ow 5, V.sc (.int .i64 x2.Ring.Span), V.sc (.int .i64 x2.Ring.Head), V.ow 6, V.ow 7, V.ow 8]),
      ((i64 (a + v1)).toNat) < (List.map E29 v2).length,
      ((i64 (a + v1)).toNat) = ((i64 (a + v1)).toNat),
      (0 : Int) ≤ (i64 (b + v1)),
      ((i64 (b + v1)) : Int) < ((List.map E29 v2).length : Int),
      look [((i64 (a + v1)).toNat, V.agg [V.sc (.string x1.Id), V.sc (.int .i64 x1.Limit), V.sc (.int .i64 x1.Posted), V.sc (.int .i64 x1.Most), V.sc (.int .i64 x1.MostSum), V.ow 1, V.sc (.int .i64 x1.Ring.Span), V.sc (.int .i64 x1.Ring.Head), V.ow 2, V.ow 3, V.ow 4]), ((i64 (b + v1)).toNat, V.agg [V.sc (.string x1.Id), V.sc (.int .i64 x1.Limit), V.sc (.int .i64 x1.Posted), V.sc (.int .i64 x1.Most), V.sc (.int .i64 x1.MostSum), V.ow 1, V.sc (.int .i64 x1.Ring.Span), V.sc (.int .i64 x1.Ring.Head), V.ow 2, V.ow 3, V.ow 4])] ((i64 (b + v1)).toNat) = some (V.agg [V.sc (.string x1.Id), V.sc (.int .i64 x1.Limit), V.sc (.int .i64 x1.Posted), V.sc (.int .i64 x1.Most), V.sc (.int .i64 x1.MostSum), V.ow 1, V.sc (.int .i64 x1.Ring.Span), V.sc (.int .i64 x1.Ring.Head), V.ow 2, V.ow 3, V.ow 4]),
      ((i64 (b + v1)).toNat) < (List.map E29 v2).length,
      ((i64 (b + v1)).toNat) = ((i64 (b + v1)).toNat),
      (slices_swapRangeCmpFunc_impl_Acct_impl_Gather_1_s2 a b n v1 x1 x2 v2) = (slices_swapRangeCmpFunc_impl_Acct_impl_Gather_1_s2 a b n v1 x1 x2 v2),
      look [((i64 (a + v1)).toNat, V.agg [V.sc (.string x2.Id), V.sc (.int .i64 x2.Limit), V.sc (.int .i64 x2.Posted), V.sc (.int .i64 x2.Most), V.sc (.int .i64 x2.MostSum), V.ow 5, V.sc (.int .i64 x2.Ring.Span), V.sc (.int .i64 x2.Ring.Head), V.ow 6, V.ow 7, V.ow 8]), ((i64 (b + v1)).toNat, V.agg [V.sc (.string x1.Id), V.sc (.int .i64 x1.Limit), V.sc (.int .i64 x1.Posted), V.sc (.int .i64 x1.Most), V.sc (.int .i64 x1.MostSum), V.ow 1, V.sc (.int .i64 x1.Ring.Span), V.sc (.int .i64 x1.Ring.Head), V.ow 2, V.ow 3, V.ow 4])] ((i64 (a + v1)).toNat) = some (V.agg [V.sc (.string x2.Id), V.sc (.int .i64 x2.Limit), V.sc (.int .i64 x2.Posted), V.sc (.int .i64 x2.Most), V.sc (.int .i64 x2.MostSum), V.ow 5, V.sc (.int .i64 x2.Ring.Span), V.sc (.int .i64 x2.Ring.Head), V.ow 6, V.ow 7, V.ow 8]),
      ((i64 (a + v1)).toNat) < (List.map E29 v2).length,
      ((i64 (a + v1)).toNat) = ((i64 (a + v1)).toNat),
      (0 : Int) ≤ (i64 (b + v1)),
      ((i64 (b + v1)) : Int) < ((List.map E29 v2).length : Int),
      look [((i64 (a + v1)).toNat, V.agg [V.sc (.string x1.Id), V.sc (.int .i64 x1.Limit), V.sc (.int .i64 x1.Posted), V.sc (.int .i64 x1.Most), V.sc (.int .i64 x1.MostSum), V.ow 1, V.sc (.int .i64 x1.Ring.Span), V.sc (.int .i64 x1.Ring.Head), V.ow 2, V.ow 3, V.ow 4]), ((i64 (b + v1)).toNat, V.agg [V.sc (.string x1.Id), V.sc (.int .i64 x1.Limit), V.sc (.int .i64 x1.Posted), V.sc (.int .i64 x1.Most), V.sc (.int .i64 x1.MostSum), V.ow 1, V.sc (.int .i64 x1.Ring.Span), V.sc (.int .i64 x1.Ring.Head), V.ow 2, V.ow 3, V.ow 4])] ((i64 (b + v1)).toNat) = some (V.agg [V.sc (.string x1.Id), V.sc (.int .i64 x1.Limit), V.sc (.int .i64 x1.Posted), V.sc (.int .i64 x1.Most), V.sc (.int .i64 x1.MostSum), V.ow 1, V.sc (.int .i64 x1.Ring.Span), V.sc (.int .i64 x1.Ring.Head), V.ow 2, V.ow 3, V.ow 4]),
      ((i64 (b + v1)).toNat) < (List.map E29 v2).length,
      ((i64 (b + v1)).toNat) = ((i64 (b + v1)).toNat),
      (slices_swapRangeCmpFunc_impl_Acct_impl_Gather_1_s2 a b n v1 x1 x2 v2) = (slices_swapRangeCmpFunc_impl_Acct_impl_Gather_1_s2 a b n v1 x1 x2 v2),
      (slices_swapRangeCmpFunc_impl_Acct_impl_Gather_1_s2 a b n v1 x1 x2 v2) = (slices_swapRangeCmpFunc_impl_Acct_impl_Gather_1_s2 a b n v1 x1 x2 v2),
      look [((i64 (a + v1)).toNat, V.agg [V.sc (.string x2.Id), V.sc (.int .i64 x2.Limit), V.sc (.int .i64 x2.Posted), V.sc (.int .i64 x2.Most), V.sc (.int .i64 x2.MostSum), V.ow 5, V.sc (.int .i64 x2.Ring.Span), V.sc (.int .i64 x2.Ring.Head), V.ow 6, V.ow 7, V.ow 8]), ((i64 (b + v1)).toNat, V.agg [V.sc (.string x1.Id), V.sc (.int .i64 x1.Limit), V.sc (.int .i64 x1.Posted), V.sc (.int .i64 x1.Most), V.sc (.int .i64 x1.MostSum), V.ow 1, V.sc (.int .i64 x1.Ring.Span), V.sc (.int .i64 x1.Ring.Head), V.ow 2, V.ow 3, V.ow 4])] ((i64 (a + v1)).toNat) = some (V.agg [V.sc (.string x2.Id), V.sc (.int .i64 x2.Limit), V.sc (.int .i64 x2.Posted), V.sc (.int .i64 x2.Most), V.sc (.int .i64 x2.MostSum), V.ow 5, V.sc (.int .i64 x2.Ring.Span), V.sc (.int .i64 x2.Ring.Head), V.ow 6, V.ow 7, V.ow 8]),
      ((i64 (a + v1)).toNat) < (List.map E29 v2).length,
      ((i64 (a + v1)).toNat) = ((i64 (a + v1)).toNat),
      (0 : Int) ≤ (i64 (b + v1)),
      ((i64 (b + v1)) : Int) < ((List.map E29 v2).length : Int),
      look [((i64 (a + v1)).toNat, V.agg [V.sc (.string x1.Id), V.sc (.int .i64 x1.Limit), V.sc (.int .i64 x1.Posted), V.sc (.int .i64 x1.Most), V.sc (.int .i64 x1.MostSum), V.ow 1, V.sc (.int .i64 x1.Ring.Span), V.sc (.int .i64 x1.Ring.Head), V.ow 2, V.ow 3, V.ow 4]), ((i64 (b + v1)).toNat, V.agg [V.sc (.string x1.Id), V.sc (.int .i64 x1.Limit), V.sc (.int .i64 x1.Posted), V.sc (.int .i64 x1.Most), V.sc (.int .i64 x1.MostSum), V.ow 1, V.sc (.int .i64 x1.Ring.Span), V.sc (.int .i64 x1.Ring.Head), V.ow 2, V.ow 3, V.ow 4])] ((i64 (b + v1)).toNat) = some (V.agg [V.sc (.string x1.Id), V.sc (.int .i64 x1.Limit), V.sc (.int .i64 x1.Posted), V.sc (.int .i64 x1.Most), V.sc (.int .i64 x1.MostSum), V.ow 1, V.sc (.int .i64 x1.Ring.Span), V.sc (.int .i64 x1.Ring.Head), V.ow 2, V.ow 3, V.ow 4]),
      ((i64 (b + v1)).toNat) < (List.map E29 v2).length,
      ((i64 (b + v1)).toNat) = ((i64 (b + v1)).toNat),
      (slices_swapRangeCmpFunc_impl_Acct_impl_Gather_1_s2 a b n v1 x1 x2 v2) = (slices_swapRangeCmpFunc_impl_Acct_impl_Gather_1_s2 a b n v1 x1 x2 v2),
      (slices_swapRangeCmpFunc_impl_Acct_impl_Gather_1_s2 a b n v1 x1 x2 v2) = (slices_swapRangeCmpFunc_impl_Acct_impl_Gather_1_s2 a b n v1 x1 x2 v2),
      look [((i64 (a + v1)).toNat, V.agg [V.sc (.string x2.Id), V.sc (.int .i64 x2.Limit), V.sc (.int .i64 x2.Posted), V.sc (.int .i64 x2.Most), V.sc (.int .i64 x2.MostSum), V.ow 5, V.sc (.int .i64 x2.Ring.Span), V.sc (.int .i64 x2.Ring.Head), V.ow 6, V.ow 7, V.ow 8]), ((i64 (b + v1)).toNat, V.agg [V.sc (.string x1.Id), V.sc (.int .i64 x1.Limit), V.sc (.int .i64 x1.Posted), V.sc (.int .i64 x1.Most), V.sc (.int .i64 x1.MostSum), V.ow 1, V.sc (.int .i64 x1.Ring.Span), V.sc (.int .i64 x1.Ring.Head), V.ow 2, V.ow 3, V.ow 4])] ((i64 (a + v1)).toNat) = some (V.agg [V.sc (.string x2.Id), V.sc (.int .i64 x2.Limit), V.sc (.int .i64 x2.Posted), V.sc (.int .i64 x2.Most), V.sc (.int .i64 x2.MostSum), V.ow 5, V.sc (.int .i64 x2.Ring.Span), V.sc (.int .i64 x2.Ring.Head), V.ow 6, V.ow 7, V.ow 8]),
      ((i64 (a + v1)).toNat) < (List.map E29 v2).length,
      ((i64 (a + v1)).toNat) = ((i64 (a + v1)).toNat),
      (0 : Int) ≤ (i64 (b + v1)),
      ((i64 (b + v1)) : Int) < ((List.map E29 v2).length : Int),
      look [((i64 (a + v1)).toNat, V.agg [V.sc (.string x1.Id), V.sc (.int .i64 x1.Limit), V.sc (.int .i64 x1.Posted), V.sc (.int .i64 x1.Most), V.sc (.int .i64 x1.MostSum), V.ow 1, V.sc (.int .i64 x1.Ring.Span), V.sc (.int .i64 x1.Ring.Head), V.ow 2, V.ow 3, V.ow 4]), ((i64 (b + v1)).toNat, V.agg [V.sc (.string x1.Id), V.sc (.int .i64 x1.Limit), V.sc (.int .i64 x1.Posted), V.sc (.int .i64 x1.Most), V.sc (.int .i64 x1.MostSum), V.ow 1, V.sc (.int .i64 x1.Ring.Span), V.sc (.int .i64 x1.Ring.Head), V.ow 2, V.ow 3, V.ow 4])] ((i64 (b + v1)).toNat) = some (V.agg [V.sc (.string x1.Id), V.sc (.int .i64 x1.Limit), V.sc (.int .i64 x1.Posted), V.sc (.int .i64 x1.Most), V.sc (.int .i64 x1.MostSum), V.ow 1, V.sc (.int .i64 x1.Ring.Span), V.sc (.int .i64 x1.Ring.Head), V.ow 2, V.ow 3, V.ow 4]),
      ((i64 (b + v1)).toNat) < (List.map E29 v2).length,
      ((i64 (b + v1)).toNat) = ((i64 (b + v1)).toNat),
      (slices_swapRangeCmpFunc_impl_Acct_impl_Gather_1_s2 a b n v1 x1 x2 v2) = (slices_swapRangeCmpFunc_impl_Acct_impl_Gather_1_s2 a b n v1 x1 x2 v2),
      (slices_swapRangeCmpFunc_impl_Acct_impl_Gather_1_s2 a b n v1 x1 x2 v2) = (slices_swapRangeCmpFunc_impl_Acct_impl_Gather_1_s2 a b n v1 x1 x2 v2),
      look [((i64 (a + v1)).toNat, V.agg [V.sc (.string x2.Id), V.sc (.int .i64 x2.Limit), V.sc (.int .i64 x2.Posted), V.sc (.int .i64 x2.Most), V.sc (.int .i64 x2.MostSum), V.ow 5, V.sc (.int .i64 x2.Ring.Span), V.sc (.int .i64 x2.Ring.Head), V.ow 6, V.ow 7, V.ow 8]), ((i64 (b + v1)).toNat, V.agg [V.sc (.string x1.Id), V.sc (.int .i64 x1.Limit), V.sc (.int .i64 x1.Posted), V.sc (.int .i64 x1.Most), V.sc (.int .i64 x1.MostSum), V.ow 1, V.sc (.int .i64 x1.Ring.Span), V.sc (.int .i64 x1.Ring.Head), V.ow 2, V.ow 3, V.ow 4])] ((i64 (a + v1)).toNat) = some (V.agg [V.sc (.string x2.Id), V.sc (.int .i64 x2.Limit), V.sc (.int .i64 x2.Posted), V.sc (.int .i64 x2.Most), V.sc (.int .i64 x2.MostSum), V.ow 5, V.sc (.int .i64 x2.Ring.Span), V.sc (.int .i64 x2.Ring.Head), V.ow 6, V.ow 7, V.ow 8]),
      ((i64 (a + v1)).toNat) < (List.map E29 v2).length,
      ((i64 (a + v1)).toNat) = ((i64 (a + v1)).toNat),
      (0 : Int) ≤ (i64 (b + v1)),
      ((i64 (b + v1)) : Int) < ((List.map E29 v2).length : Int),
      look [((i64 (a + v1)).toNat, V.agg [V.sc (.string x1.Id), V.sc (.int .i64 x1.Limit), V.sc (.int .i64 x1.Posted), V.sc (.int .i64 x1.Most), V.sc (.int .i64 x1.MostSum), V.ow 1, V.sc (.int .i64 x1.Ring.Span), V.sc (.int .i64 x1.Ring.Head), V.ow 2, V.ow 3, V.ow 4]), ((i64 (b + v1)).toNat, V.agg [V.sc (.string x1.Id), V.sc (.int .i64 x1.Limit), V.sc (.int .i64 x1.Posted), V.sc (.int .i64 x1.Most), V.sc (.int .i64 x1.MostSum), V.ow 1, V.sc (.int .i64 x1.Ring.Span), V.sc (.int .i64 x1.Ring.Head), V.ow 2, V.ow 3, V.ow 4])] ((i64 (b + v1)).toNat) = some (V.agg [V.sc (.string x1.Id), V.sc (.int .i64 x1.Limit), V.sc (.int .i64 x1.Posted), V.sc (.int .i64 x1.Most), V.sc (.int .i64 x1.MostSum), V.ow 1, V.sc (.int .i64 x1.Ring.Span), V.sc (.int .i64 x1.Ring.Head), V.ow 2, V.ow 3, V.ow 4]),
      ((i64 (b + v1)).toNat) < (List.map E29 v2).length,
      ((i64 (b + v1)).toNat) = ((i64 (b + v1)).toNat),
      (slices_swapRangeCmpFunc_impl_Acct_impl_Gather_1_s2 a b n v1 x1 x2 v2) = (slices_swapRangeCmpFunc_impl_Acct_impl_Gather_1_s2 a b n v1 x1 x2 v2),
      look [((i64 (a + v1)).toNat, V.agg [V.sc (.string x2.Id), V.sc (.int .i64 x2.Limit), V.sc (.int .i64 x2.Posted), V.sc (.int .i64 x2.Most), V.sc (.int .i64 x2.MostSum), V.ow 5, V.sc (.int .i64 x2.Ring.Span), V.sc (.int .i64 x2.Ring.Head), V.ow 6, V.ow 7, V.ow 8]), ((i64 (b + v1)).toNat, V.agg [V.sc (.string x1.Id), V.sc (.int .i64 x1.Limit), V.sc (.int .i64 x1.Posted), V.sc (.int .i64 x1.Most), V.sc (.int .i64 x1.MostSum), V.ow 1, V.sc (.int .i64 x1.Ring.Span), V.sc (.int .i64 x1.Ring.Head), V.ow 2, V.ow 3, V.ow 4])] ((i64 (a + v1)).toNat) = some (V.agg [V.sc (.string x2.Id), V.sc (.int .i64 x2.Limit), V.sc (.int .i64 x2.Posted), V.sc (.int .i64 x2.Most), V.sc (.int .i64 x2.MostSum), V.ow 5, V.sc (.int .i64 x2.Ring.Span), V.sc (.int .i64 x2.Ring.Head), V.ow 6, V.ow 7, V.ow 8]),
      ((i64 (a + v1)).toNat) < (List.map E29 v2).length,
      ((i64 (a + v1)).toNat) = ((i64 (a + v1)).toNat),
      (0 : Int) ≤ (i64 (b + v1)),
      ((i64 (b + v1)) : Int) < ((List.map E29 v2).length : Int),
      look [((i64 (a + v1)).toNat, V.agg [V.sc (.string x1.Id), V.sc (.int .i64 x1.Limit), V.sc (.int .i64 x1.Posted), V.sc (.int .i64 x1.Most), V.sc (.int .i64 x1.MostSum), V.ow 1, V.sc (.int .i64 x1.Ring.Span), V.sc (.int .i64 x1.Ring.Head), V.ow 2, V.ow 3, V.ow 4]), ((i64 (b + v1)).toNat, V.agg [V.sc (.string x1.Id), V.sc (.int .i64 x1.Limit), V.sc (.int .i64 x1.Posted), V.sc (.int .i64 x1.Most), V.sc (.int .i64 x1.MostSum), V.ow 1, V.sc (.int .i64 x1.Ring.Span), V.sc (.int .i64 x1.Ring.Head), V.ow 2, V.ow 3, V.ow 4])] ((i64 (b + v1)).toNat) = some (V.agg [V.sc (.string x1.Id), V.sc (.int .i64 x1.Limit), V.sc (.int .i64 x1.Posted), V.sc (.int .i64 x1.Most), V.sc (.int .i64 x1.MostSum), V.ow 1, V.sc (.int .i64 x1.Ring.Span), V.sc (.int .i64 x1.Ring.Head), V.ow 2, V.ow 3, V.ow 4]),
      ((i64 (b + v1)).toNat) < (List.map E29 v2).length,
      ((i64 (b + v1)).toNat) = ((i64 (b + v1)).toNat),
      (slices_swapRangeCmpFunc_impl_Acct_impl_Gather_1_s2 a b n v1 x1 x2 v2) = (slices_swapRangeCmpFunc_impl_Acct_impl_Gather_1_s2 a b n v1 x1 x2 v2),
      (slices_swapRangeCmpFunc_impl_Acct_impl_Gather_1_s2 a b n v1 x1 x2 v2) = (slices_swapRangeCmpFunc_impl_Acct_impl_Gather_1_s2 a b n v1 x1 x2 v2),
      look [((i64 (a + v1)).toNat, V.agg [V.sc (.string x2.Id), V.sc (.int .i64 x2.Limit), V.sc (.int .i64 x2.Posted), V.sc (.int .i64 x2.Most), V.sc (.int .i64 x2.MostSum), V.ow 5, V.sc (.int .i64 x2.Ring.Span), V.sc (.int .i64 x2.Ring.Head), V.ow 6, V.ow 7, V.ow 8]), ((i64 (b + v1)).toNat, V.agg [V.sc (.string x1.Id), V.sc (.int .i64 x1.Limit), V.sc (.int .i64 x1.Posted), V.sc (.int .i64 x1.Most), V.sc (.int .i64 x1.MostSum), V.ow 1, V.sc (.int .i64 x1.Ring.Span), V.sc (.int .i64 x1.Ring.Head), V.ow 2, V.ow 3, V.ow 4])] ((i64 (a + v1)).toNat) = some (V.agg [V.sc (.string x2.Id), V.sc (.int .i64 x2.Limit), V.sc (.int .i64 x2.Posted), V.sc (.int .i64 x2.Most), V.sc (.int .i64 x2.MostSum), V.ow 5, V.sc (.int .i64 x2.Ring.Span), V.sc (.int .i64 x2.Ring.Head), V.ow 6, V.ow 7, V.ow 8]),
      ((i64 (a + v1)).toNat) < (List.map E29 v2).length,
      ((i64 (a + v1)).toNat) = ((i64 (a + v1)).toNat),
      (0 : Int) ≤ (i64 (b + v1)),
      ((i64 (b + v1)) : Int) < ((List.map E29 v2).length : Int),
      look [((i64 (a + v1)).toNat, V.agg [V.sc (.string x1.Id), V.sc (.int .i64 x1.Limit), V.sc (.int .i64 x1.Posted), V.sc (.int .i64 x1.Most), V.sc (.int .i64 x1.MostSum), V.ow 1, V.sc (.int .i64 x1.Ring.Span), V.sc (.int .i64 x1.Ring.Head), V.ow 2, V.ow 3, V.ow 4]), ((i64 (b + v1)).toNat, V.agg [V.sc (.string x1.Id), V.sc (.int .i64 x1.Limit), V.sc (.int .i64 x1.Posted), V.sc (.int .i64 x1.Most), V.sc (.int .i64 x1.MostSum), V.ow 1, V.sc (.int .i64 x1.Ring.Span), V.sc (.int .i64 x1.Ring.Head), V.ow 2, V.ow 3, V.ow 4])] ((i64 (b + v1)).toNat) = some (V.agg [V.sc (.string x1.Id), V.sc (.int .i64 x1.Limit), V.sc (.int .i64 x1.Posted), V.sc (.int .i64 x1.Most), V.sc (.int .i64 x1.MostSum), V.ow 1, V.sc (.int .i64 x1.Ring.Span), V.sc (.int .i64 x1.Ring.Head), V.ow 2, V.ow 3, V.ow 4]),
      ((i64 (b + v1)).toNat) < (List.map E29 v2).length,
      ((i64 (b + v1)).toNat) = ((i64 (b + v1)).toNat),
      (slices_swapRangeCmpFunc_impl_Acct_impl_Gather_1_s2 a b n v1 x1 x2 v2) = (slices_swapRangeCmpFunc_impl_Acct_impl_Gather_1_s2 a b n v1 x1 x2 v2),
      (slices_swapRangeCmpFunc_impl_Acct_impl_Gather_1_s2 a b n v1 x1 x2 v2) = (slices_swapRangeCmpFunc_impl_Acct_impl_Gather_1_s2 a b n v1 x1 x2 v2),
      look [((i64 (a + v1)).toNat, V.agg [V.sc (.string x2.Id), V.sc (.int .i64 x2.Limit), V.sc (.int .i64 x2.Posted), V.sc (.int .i64 x2.Most), V.sc (.int .i64 x2.MostSum), V.ow 5, V.sc (.int .i64 x2.Ring.Span), V.sc (.int .i64 x2.Ring.Head), V.ow 6, V.ow 7, V.ow 8]), ((i64 (b + v1)).toNat, V.agg [V.sc (.string x1.Id), V.sc (.int .i64 x1.Limit), V.sc (.int .i64 x1.Posted), V.sc (.int .i64 x1.Most), V.sc (.int .i64 x1.MostSum), V.ow 1, V.sc (.int .i64 x1.Ring.Span), V.sc (.int .i64 x1.Ring.Head), V.ow 2, V.ow 3, V.ow 4])] ((i64 (a + v1)).toNat) = some (V.agg [V.sc (.string x2.Id), V.sc (.int .i64 x2.Limit), V.sc (.int .i64 x2.Posted), V.sc (.int .i64 x2.Most), V.sc (.int .i64 x2.MostSum), V.ow 5, V.sc (.int .i64 x2.Ring.Span), V.sc (.int .i64 x2.Ring.Head), V.ow 6, V.ow 7, V.ow 8]),
      ((i64 (a + v1)).toNat) < (List.map E29 v2).length,
      ((i64 (a + v1)).toNat) = ((i64 (a + v1)).toNat),
      (0 : Int) ≤ (i64 (b + v1)),
      ((i64 (b + v1)) : Int) < ((List.map E29 v2).length : Int),
      look [((i64 (a + v1)).toNat, V.agg [V.sc (.string x1.Id), V.sc (.int .i64 x1.Limit), V.sc (.int .i64 x1.Posted), V.sc (.int .i64 x1.Most), V.sc (.int .i64 x1.MostSum), V.ow 1, V.sc (.int .i64 x1.Ring.Span), V.sc (.int .i64 x1.Ring.Head), V.ow 2, V.ow 3, V.ow 4]), ((i64 (b + v1)).toNat, V.agg [V.sc (.string x1.Id), V.sc (.int .i64 x1.Limit), V.sc (.int .i64 x1.Posted), V.sc (.int .i64 x1.Most), V.sc (.int .i64 x1.MostSum), V.ow 1, V.sc (.int .i64 x1.Ring.Span), V.sc (.int .i64 x1.Ring.Head), V.ow 2, V.ow 3, V.ow 4])] ((i64 (b + v1)).toNat) = some (V.agg [V.sc (.string x1.Id), V.sc (.int .i64 x1.Limit), V.sc (.int .i64 x1.Posted), V.sc (.int .i64 x1.Most), V.sc (.int .i64 x1.MostSum), V.ow 1, V.sc (.int .i64 x1.Ring.Span), V.sc (.int .i64 x1.Ring.Head), V.ow 2, V.ow 3, V.ow 4]),
      ((i64 (b + v1)).toNat) < (List.map E29 v2).length,
      ((i64 (b + v1)).toNat) = ((i64 (b + v1)).toNat),
      (slices_swapRangeCmpFunc_impl_Acct_impl_Gather_1_s2 a b n v1 x1 x2 v2) = (slices_swapRangeCmpFunc_impl_Acct_impl_Gather_1_s2 a b n v1 x1 x2 v2),
      look [((i64 (a + v1)).toNat, V.agg [V.sc (.string x2.Id), V.sc (.int .i64 x2.Limit), V.sc (.int .i64 x2.Posted), V.sc (.int .i64 x2.Most), V.sc (.int .i64 x2.MostSum), V.ow 5, V.sc (.int .i64 x2.Ring.Span), V.sc (.int .i64 x2.Ring.Head), V.ow 6, V.ow 7, V.ow 8]), ((i64 (b + v1)).toNat, V.agg [V.sc (.string x1.Id), V.sc (.int .i64 x1.Limit), V.sc (.int .i64 x1.Posted), V.sc (.int .i64 x1.Most), V.sc (.int .i64 x1.MostSum), V.ow 1, V.sc (.int .i64 x1.Ring.Span), V.sc (.int .i64 x1.Ring.Head), V.ow 2, V.ow 3, V.ow 4])] ((i64 (a + v1)).toNat) = some (V.agg [V.sc (.string x2.Id), V.sc (.int .i64 x2.Limit), V.sc (.int .i64 x2.Posted), V.sc (.int .i64 x2.Most), V.sc (.int .i64 x2.MostSum), V.ow 5, V.sc (.int .i64 x2.Ring.Span), V.sc (.int .i64 x2.Ring.Head), V.ow 6, V.ow 7, V.ow 8]),
      ((i64 (a + v1)).toNat) < (List.map E29 v2).length,
      ((i64 (a + v1)).toNat) = ((i64 (a + v1)).toNat),
      (0 : Int) ≤ (i64 (b + v1)),
      ((i64 (b + v1)) : Int) < ((List.map E29 v2).length : Int),
      look [((i64 (a + v1)).toNat, V.agg [V.sc (.string x1.Id), V.sc (.int .i64 x1.Limit), V.sc (.int .i64 x1.Posted), V.sc (.int .i64 x1.Most), V.sc (.int .i64 x1.MostSum), V.ow 1, V.sc (.int .i64 x1.Ring.Span), V.sc (.int .i64 x1.Ring.Head), V.ow 2, V.ow 3, V.ow 4]), ((i64 (b + v1)).toNat, V.agg [V.sc (.string x1.Id), V.sc (.int .i64 x1.Limit), V.sc (.int .i64 x1.Posted), V.sc (.int .i64 x1.Most), V.sc (.int .i64 x1.MostSum), V.ow 1, V.sc (.int .i64 x1.Ring.Span), V.sc (.int .i64 x1.Ring.Head), V.ow 2, V.ow 3, V.ow 4])] ((i64 (b + v1)).toNat) = some (V.agg [V.sc (.string x1.Id), V.sc (.int .i64 x1.Limit), V.sc (.int .i64 x1.Posted), V.sc (.int .i64 x1.Most), V.sc (.int .i64 x1.MostSum), V.ow 1, V.sc (.int .i64 x1.Ring.Span), V.sc (.int .i64 x1.Ring.Head), V.ow 2, V.ow 3, V.ow 4]),
      ((i64 (b + v1)).toNat) < (List.map E29 v2).length,
      ((i64 (b + v1)).toNat) = ((i64 (b + v1)).toNat),
      (slices_swapRangeCmpFunc_impl_Acct_impl_Gather_1_s2 a b n v1 x1 x2 v2) = (slices_swapRangeCmpFunc_impl_Acct_impl_Gather_1_s2 a b n v1 x1 x2 v2),
      (slices_swapRangeCmpFunc_impl_Acct_impl_Gather_1_s2 a b n v1 x1 x2 v2) = (slices_swapRangeCmpFunc_impl_Acct_impl_Gather_1_s2 a b n v1 x1 x2 v2),
      look [((i64 (a + v1)).toNat, V.agg [V.sc (.string x2.Id), V.sc (.int .i64 x2.Limit), V.sc (.int .i64 x2.Posted), V.sc (.int .i64 x2.Most), V.sc (.int .i64 x2.MostSum), V.ow 5, V.sc (.int .i64 x2.Ring.Span), V.sc (.int .i64 x2.Ring.Head), V.ow 6, V.ow 7, V.ow 8]), ((i64 (b + v1)).toNat, V.agg [V.sc (.string x1.Id), V.sc (.int .i64 x1.Limit), V.sc (.int .i64 x1.Posted), V.sc (.int .i64 x1.Most), V.sc (.int .i64 x1.MostSum), V.ow 1, V.sc (.int .i64 x1.Ring.Span), V.sc (.int .i64 x1.Ring.Head), V.ow 2, V.ow 3, V.ow 4])] ((i64 (a + v1)).toNat) = some (V.agg [V.sc (.string x2.Id), V.sc (.int .i64 x2.Limit), V.sc (.int .i64 x2.Posted), V.sc (.int .i64 x2.Most), V.sc (.int .i64 x2.MostSum), V.ow 5, V.sc (.int .i64 x2.Ring.Span), V.sc (.int .i64 x2.Ring.Head), V.ow 6, V.ow 7, V.ow 8]),
      ((i64 (a + v1)).toNat) < (List.map E29 v2).length,
      ((i64 (a + v1)).toNat) = ((i64 (a + v1)).toNat),
      (0 : Int) ≤ (i64 (b + v1)),
      ((i64 (b + v1)) : Int) < ((List.map E29 v2).length : Int),
      look [((i64 (a + v1)).toNat, V.agg [V.sc (.string x1.Id), V.sc (.int .i64 x1.Limit), V.sc (.int .i64 x1.Posted), V.sc (.int .i64 x1.Most), V.sc (.int .i64 x1.MostSum), V.ow 1, V.sc (.int .i64 x1.Ring.Span), V.sc (.int .i64 x1.Ring.Head), V.ow 2, V.ow 3, V.ow 4]), ((i64 (b + v1)).toNat, V.agg [V.sc (.string x1.Id), V.sc (.int .i64 x1.Limit), V.sc (.int .i64 x1.Posted), V.sc (.int .i64 x1.Most), V.sc (.int .i64 x1.MostSum), V.ow 1, V.sc (.int .i64 x1.Ring.Span), V.sc (.int .i64 x1.Ring.Head), V.ow 2, V.ow 3, V.ow 4])] ((i64 (b + v1)).toNat) = some (V.agg [V.sc (.string x1.Id), V.sc (.int .i64 x1.Limit), V.sc (.int .i64 x1.Posted), V.sc (.int .i64 x1.Most), V.sc (.int .i64 x1.MostSum), V.ow 1, V.sc (.int .i64 x1.Ring.Span), V.sc (.int .i64 x1.Ring.Head), V.ow 2, V.ow 3, V.ow 4]),
      ((i64 (b + v1)).toNat) < (List.map E29 v2).length,
      ((i64 (b + v1)).toNat) = ((i64 (b + v1)).toNat),
      (slices_swapRangeCmpFunc_impl_Acct_impl_Gather_1_s2 a b n v1 x1 x2 v2) = (slices_swapRangeCmpFunc_impl_Acct_impl_Gather_1_s2 a b n v1 x1 x2 v2),
      look [((i64 (a + v1)).toNat, V.agg [V.sc (.string x2.Id), V.sc (.int .i64 x2.Limit), V.sc (.int .i64 x2.Posted), V.sc (.int .i64 x2.Most), V.sc (.int .i64 x2.MostSum), V.ow 5, V.sc (.int .i64 x2.Ring.Span), V.sc (.int .i64 x2.Ring.Head), V.ow 6, V.ow 7, V.ow 8]), ((i64 (b + v1)).toNat, V.agg [V.sc (.string x1.Id), V.sc (.int .i64 x1.Limit), V.sc (.int .i64 x1.Posted), V.sc (.int .i64 x1.Most), V.sc (.int .i64 x1.MostSum), V.ow 1, V.sc (.int .i64 x1.Ring.Span), V.sc (.int .i64 x1.Ring.Head), V.ow 2, V.ow 3, V.ow 4])] ((i64 (a + v1)).toNat) = some (V.agg [V.sc (.string x2.Id), V.sc (.int .i64 x2.Limit), V.sc (.int .i64 x2.Posted), V.sc (.int .i64 x2.Most), V.sc (.int .i64 x2.MostSum), V.ow 5, V.sc (.int .i64 x2.Ring.Span), V.sc (.int .i64 x2.Ring.Head), V.ow 6, V.ow 7, V.ow 8]),
      ((i64 (a + v1)).toNat) < (List.map E29 v2).length,
      ((i64 (a + v1)).toNat) = ((i64 (a + v1)).toNat),
      (0 : Int) ≤ (i64 (b + v1)),
      ((i64 (b + v1)) : Int) < ((List.map E29 v2).length : Int),
      look [((i64 (a + v1)).toNat, V.agg [V.sc (.string x1.Id), V.sc (.int .i64 x1.Limit), V.sc (.int .i64 x1.Posted), V.sc (.int .i64 x1.Most), V.sc (.int .i64 x1.MostSum), V.ow 1, V.sc (.int .i64 x1.Ring.Span), V.sc (.int .i64 x1.Ring.Head), V.ow 2, V.ow 3, V.ow 4]), ((i64 (b + v1)).toNat, V.agg [V.sc (.string x1.Id), V.sc (.int .i64 x1.Limit), V.sc (.int .i64 x1.Posted), V.sc (.int .i64 x1.Most), V.sc (.int .i64 x1.MostSum), V.ow 1, V.sc (.int .i64 x1.Ring.Span), V.sc (.int .i64 x1.Ring.Head), V.ow 2, V.ow 3, V.ow 4])] ((i64 (b + v1)).toNat) = some (V.agg [V.sc (.string x1.Id), V.sc (.int .i64 x1.Limit), V.sc (.int .i64 x1.Posted), V.sc (.int .i64 x1.Most), V.sc (.int .i64 x1.MostSum), V.ow 1, V.sc (.int .i64 x1.Ring.Span), V.sc (.int .i64 x1.Ring.Head), V.ow 2, V.ow 3, V.ow 4]),
      ((i64 (b + v1)).toNat) < (List.map E29 v2).length,
      ((i64 (b + v1)).toNat) = ((i64 (b + v1)).toNat),
      (slices_swapRangeCmpFunc_impl_Acct_impl_Gather_1_s2 a b n v1 x1 x2 v2) = (slices_swapRangeCmpFunc_impl_Acct_impl_Gather_1_s2 a b n v1 x1 x2 v2),
      (slices_swapRangeCmpFunc_impl_Acct_impl_Gather_1_s2 a b n v1 x1 x2 v2) = (slices_swapRangeCmpFunc_impl_Acct_impl_Gather_1_s2 a b n v1 x1 x2 v2),
      look [((i64 (a + v1)).toNat, V.agg [V.sc (.string x2.Id), V.sc (.int .i64 x2.Limit), V.sc (.int .i64 x2.Posted), V.sc (.int .i64 x2.Most), V.sc (.int .i64 x2.MostSum), V.ow 5, V.sc (.int .i64 x2.Ring.Span), V.sc (.int .i64 x2.Ring.Head), V.ow 6, V.ow 7, V.ow 8]), ((i64 (b + v1)).toNat, V.agg [V.sc (.string x1.Id), V.sc (.int .i64 x1.Limit), V.sc (.int .i64 x1.Posted), V.sc (.int .i64 x1.Most), V.sc (.int .i64 x1.MostSum), V.ow 1, V.sc (.int .i64 x1.Ring.Span), V.sc (.int .i64 x1.Ring.Head), V.ow 2, V.ow 3, V.ow 4])] ((i64 (a + v1)).toNat) = some (V.agg [V.sc (.string x2.Id), V.sc (.int .i64 x2.Limit), V.sc (.int .i64 x2.Posted), V.sc (.int .i64 x2.Most), V.sc (.int .i64 x2.MostSum), V.ow 5, V.sc (.int .i64 x2.Ring.Span), V.sc (.int .i64 x2.Ring.Head), V.ow 6, V.ow 7, V.ow 8]),
      ((i64 (a + v1)).toNat) < (List.map E29 v2).length,
      ((i64 (a + v1)).toNat) = ((i64 (a + v1)).toNat),
      (0 : Int) ≤ (i64 (b + v1)),
      ((i64 (b + v1)) : Int) < ((List.map E29 v2).length : Int),
      look [((i64 (a + v1)).toNat, V.agg [V.sc (.string x1.Id), V.sc (.int .i64 x1.Limit), V.sc (.int .i64 x1.Posted), V.sc (.int .i64 x1.Most), V.sc (.int .i64 x1.MostSum), V.ow 1, V.sc (.int .i64 x1.Ring.Span), V.sc (.int .i64 x1.Ring.Head), V.ow 2, V.ow 3, V.ow 4]), ((i64 (b + v1)).toNat, V.agg [V.sc (.string x1.Id), V.sc (.int .i64 x1.Limit), V.sc (.int .i64 x1.Posted), V.sc (.int .i64 x1.Most), V.sc (.int .i64 x1.MostSum), V.ow 1, V.sc (.int .i64 x1.Ring.Span), V.sc (.int .i64 x1.Ring.Head), V.ow 2, V.ow 3, V.ow 4])] ((i64 (b + v1)).toNat) = some (V.agg [V.sc (.string x1.Id), V.sc (.int .i64 x1.Limit), V.sc (.int .i64 x1.Posted), V.sc (.int .i64 x1.Most), V.sc (.int .i64 x1.MostSum), V.ow 1, V.sc (.int .i64 x1.Ring.Span), V.sc (.int .i64 x1.Ring.Head), V.ow 2, V.ow 3, V.ow 4]),
      ((i64 (b + v1)).toNat) < (List.map E29 v2).length,
      ((i64 (b + v1)).toNat) = ((i64 (b + v1)).toNat),
      (slices_swapRangeCmpFunc_impl_Acct_impl_Gather_1_s2 a b n v1 x1 x2 v2) = (slices_swapRangeCmpFunc_impl_Acct_impl_Gather_1_s2 a b n v1 x1 x2 v2),
      (slices_swapRangeCmpFunc_impl_Acct_impl_Gather_1_s2 a b n v1 x1 x2 v2) = (slices_swapRangeCmpFunc_impl_Acct_impl_Gather_1_s2 a b n v1 x1 x2 v2),
      look [((i64 (a + v1)).toNat, V.agg [V.sc (.string x2.Id), V.sc (.int .i64 x2.Limit), V.sc (.int .i64 x2.Posted), V.sc (.int .i64 x2.Most), V.sc (.int .i64 x2.MostSum), V.ow 5, V.sc (.int .i64 x2.Ring.Span), V.sc (.int .i64 x2.Ring.Head), V.ow 6, V.ow 7, V.ow 8]), ((i64 (b + v1)).toNat, V.agg [V.sc (.string x1.Id), V.sc (.int .i64 x1.Limit), V.sc (.int .i64 x1.Posted), V.sc (.int .i64 x1.Most), V.sc (.int .i64 x1.MostSum), V.ow 1, V.sc (.int .i64 x1.Ring.Span), V.sc (.int .i64 x1.Ring.Head), V.ow 2, V.ow 3, V.ow 4])] ((i64 (a + v1)).toNat) = some (V.agg [V.sc (.string x2.Id), V.sc (.int .i64 x2.Limit), V.sc (.int .i64 x2.Posted), V.sc (.int .i64 x2.Most), V.sc (.int .i64 x2.MostSum), V.ow 5, V.sc (.int .i64 x2.Ring.Span), V.sc (.int .i64 x2.Ring.Head), V.ow 6, V.ow 7, V.ow 8]),
      ((i64 (a + v1)).toNat) < (List.map E29 v2).length,
      ((i64 (a + v1)).toNat) = ((i64 (a + v1)).toNat),
      (0 : Int) ≤ (i64 (b + v1)),
      ((i64 (b + v1)) : Int) < ((List.map E29 v2).length : Int),
      look [((i64 (a + v1)).toNat, V.agg [V.sc (.string x1.Id), V.sc (.int .i64 x1.Limit), V.sc (.int .i64 x1.Posted), V.sc (.int .i64 x1.Most), V.sc (.int .i64 x1.MostSum), V.ow 1, V.sc (.int .i64 x1.Ring.Span), V.sc (.int .i64 x1.Ring.Head), V.ow 2, V.ow 3, V.ow 4]), ((i64 (b + v1)).toNat, V.agg [V.sc (.string x1.Id), V.sc (.int .i64 x1.Limit), V.sc (.int .i64 x1.Posted), V.sc (.int .i64 x1.Most), V.sc (.int .i64 x1.MostSum), V.ow 1, V.sc (.int .i64 x1.Ring.Span), V.sc (.int .i64 x1.Ring.Head), V.ow 2, V.ow 3, V.ow 4])] ((i64 (b + v1)).toNat) = some (V.agg [V.sc (.string x1.Id), V.sc (.int .i64 x1.Limit), V.sc (.int .i64 x1.Posted), V.sc (.int .i64 x1.Most), V.sc (.int .i64 x1.MostSum), V.ow 1, V.sc (.int .i64 x1.Ring.Span), V.sc (.int .i64 x1.Ring.Head), V.ow 2, V.ow 3, V.ow 4]),
      ((i64 (b + v1)).toNat) < (List.map E29 v2).length,
      ((i64 (b + v1)).toNat) = ((i64 (b + v1)).toNat),
      (slices_swapRangeCmpFunc_impl_Acct_impl_Gather_1_s2 a b n v1 x1 x2 v2) = (slices_swapRangeCmpFunc_impl_Acct_impl_Gather_1_s2 a b n v1 x1 x2 v2),
      (slices_swapRangeCmpFunc_impl_Acct_impl_Gather_1_s2 a b n v1 x1 x2 v2) = (slices_swapRangeCmpFunc_impl_Acct_impl_Gather_1_s2 a b n v1 x1 x2 v2),
      look [((i64 (a + v1)).toNat, V.agg [V.sc (.string x2.Id), V.sc (.int .i64 x2.Limit), V.sc (.int .i64 x2.Posted), V.sc (.int .i64 x2.Most), V.sc (.int .i64 x2.MostSum), V.ow 5, V.sc (.int .i64 x2.Ring.Span), V.sc (.int .i64 x2.Ring.Head), V.ow 6, V.ow 7, V.ow 8]), ((i64 (b + v1)).toNat, V.agg [V.sc (.string x1.Id), V.sc (.int .i64 x1.Limit), V.sc (.int .i64 x1.Posted), V.sc (.int .i64 x1.Most), V.sc (.int .i64 x1.MostSum), V.ow 1, V.sc (.int .i64 x1.Ring.Span), V.sc (.int .i64 x1.Ring.Head), V.ow 2, V.ow 3, V.ow 4])] ((i64 (a + v1)).toNat) = some (V.agg [V.sc (.string x2.Id), V.sc (.int .i64 x2.Limit), V.sc (.int .i64 x2.Posted), V.sc (.int .i64 x2.Most), V.sc (.int .i64 x2.MostSum), V.ow 5, V.sc (.int .i64 x2.Ring.Span), V.sc (.int .i64 x2.Ring.Head), V.ow 6, V.ow 7, V.ow 8]),
      ((i64 (a + v1)).toNat) < (List.map E29 v2).length,
      ((i64 (a + v1)).toNat) = ((i64 (a + v1)).toNat),
      (0 : Int) ≤ (i64 (b + v1)),
      ((i64 (b + v1)) : Int) < ((List.map E29 v2).length : Int),
      look [((i64 (a + v1)).toNat, V.agg [V.sc (.string x1.Id), V.sc (.int .i64 x1.Limit), V.sc (.int .i64 x1.Posted), V.sc (.int .i64 x1.Most), V.sc (.int .i64 x1.MostSum), V.ow 1, V.sc (.int .i64 x1.Ring.Span), V.sc (.int .i64 x1.Ring.Head), V.ow 2, V.ow 3, V.ow 4]), ((i64 (b + v1)).toNat, V.agg [V.sc (.string x1.Id), V.sc (.int .i64 x1.Limit), V.sc (.int .i64 x1.Posted), V.sc (.int .i64 x1.Most), V.sc (.int .i64 x1.MostSum), V.ow 1, V.sc (.int .i64 x1.Ring.Span), V.sc (.int .i64 x1.Ring.Head), V.ow 2, V.ow 3, V.ow 4])] ((i64 (b + v1)).toNat) = some (V.agg [V.sc (.string x1.Id), V.sc (.int .i64 x1.Limit), V.sc (.int .i64 x1.Posted), V.sc (.int .i64 x1.Most), V.sc (.int .i64 x1.MostSum), V.ow 1, V.sc (.int .i64 x1.Ring.Span), V.sc (.int .i64 x1.Ring.Head), V.ow 2, V.ow 3, V.ow 4]),
      ((i64 (b + v1)).toNat) < (List.map E29 v2).length,
      ((i64 (b + v1)).toNat) = ((i64 (b + v1)).toNat),
      (slices_swapRangeCmpFunc_impl_Acct_impl_Gather_1_s2 a b n v1 x1 x2 v2) = (slices_swapRangeCmpFunc_impl_Acct_impl_Gather_1_s2 a b n v1 x1 x2 v2),
      Blk.row 29 (((List.map E29 v2).set ((i64 (a + v1)).toNat) (V.agg [V.sc (.string x1.Id), V.sc (.int .i64 x1.Limit), V.sc (.int .i64 x1.Posted), V.sc (.int .i64 x1.Most), V.sc (.int .i64 x1.MostSum), V.sl true 36 (List.map E36 x1.Holds), V.sc (.int .i64 x1.Ring.Span), V.sc (.int .i64 x1.Ring.Head), V.sl true 3 (List.map E3 x1.Ring.Counts), V.sl true 3 (List.map E3 x1.Ring.Sums), V.sl true 164 (List.map E164 x1.Slots)])).set ((i64 (b + v1)).toNat) (V.agg [V.sc (.string x2.Id), V.sc (.int .i64 x2.Limit), V.sc (.int .i64 x2.Posted), V.sc (.int .i64 x2.Most), V.sc (.int .i64 x2.MostSum), V.sl true 36 (List.map E36 x2.Holds), V.sc (.int .i64 x2.Ring.Span), V.sc (.int .i64 x2.Ring.Head), V.sl true 3 (List.map E3 x2.Ring.Counts), V.sl true 3 (List.map E3 x2.Ring.Sums), V.sl true 164 (List.map E164 x2.Slots)])) [] = Blk.row 29 (List.map E29 ((v2.set ((i64 (a + v1)).toNat) x1).set ((i64 (b + v1)).toNat) x2)) []]) (by kernel_rfl) (cj h1 (cj (od h2) (cj (map_ltN (od h2) h3) (cj rfl (cj (map_get h3) (cj (look_cons_self _ _ _) (cj (map_lt h3) (cj (od h4) (cj (map_ltN (od h4) h5) (cj ((look_cons_ne _ _ (od h6)).trans rfl) (cj (map_get h5) (cj (look_cons_self _ _ _) (cj (map_lt h5) (cj (od h4) (cj (map_ltN (od h4) h5) (cj (look_cons_self _ _ _) (cj (map_lt h5) (cj rfl (cj (od h2) (cj (map_ltN (od h2) h3) (cj ((look_cons_ne _ _ (fun z => od h6 z.symm)).trans (look_cons_self _ _ _)) (cj (map_lt h3) (cj rfl (cj rfl (cj (look_cons_self _ _ _) (cj (map_lt h5) (cj rfl (cj (od h2) (cj (map_ltN (od h2) h3) (cj ((look_cons_ne _ _ (fun z => od h6 z.symm)).trans (look_cons_self _ _ _)) (cj (map_lt h3) (cj rfl (cj rfl (cj rfl (cj (look_cons_self _ _ _) (cj (map_lt h5) (cj rfl (cj (od h2) (cj (map_ltN (od h2) h3) (cj ((look_cons_ne _ _ (fun z => od h6 z.symm)).trans (look_cons_self _ _ _)) (cj (map_lt h3) (cj rfl (cj rfl (cj rfl (cj (look_cons_self _ _ _) (cj (map_lt h5) (cj rfl (cj (od h2) (cj (map_ltN (od h2) h3) (cj ((look_cons_ne _ _ (fun z => od h6 z.symm)).trans (look_cons_self _ _ _)) (cj (map_lt h3) (cj rfl (cj rfl (cj (look_cons_self _ _ _) (cj (map_lt h5) (cj rfl (cj (od h2) (cj (map_ltN (od h2) h3) (cj ((look_cons_ne _ _ (fun z => od h6 z.symm)).trans (look_cons_self _ _ _)) (cj (map_lt h3) (cj rfl (cj rfl (cj rfl (cj (look_cons_self _ _ _) (cj (map_lt h5) (cj rfl (cj (od h2) (cj (map_ltN (od h2) h3) (cj ((look_cons_ne _ _ (fun z => od h6 z.symm)).trans (look_cons_self _ _ _)) (cj (map_lt h3) (cj rfl (cj rfl (cj rfl (cj (look_cons_self _ _ _) (cj (map_lt h5) (cj rfl (cj (od h2) (cj (map_ltN (od h2) h3) (cj ((look_cons_ne _ _ (fun z => od h6 z.symm)).trans (look_cons_self _ _ _)) (cj (map_lt h3) (cj rfl (cj rfl (cj rfl (cj (look_cons_self _ _ _) (cj (map_lt h5) (cj rfl (cj (od h2) (cj (map_ltN (od h2) h3) (cj ((look_cons_ne _ _ (fun z => od h6 z.symm)).trans (look_cons_self _ _ _)) (cj (map_lt h3) (cj rfl (cj rfl (cj (look_cons_self _ _ _) (cj (map_lt h5) (cj rfl (cj (od h2) (cj (map_ltN (od h2) h3) (cj ((look_cons_ne _ _ (fun z => od h6 z.symm)).trans (look_cons_self _ _ _)) (cj (map_lt h3) (cj rfl (cj rfl (cj rfl (cj (look_cons_self _ _ _) (cj (map_lt h5) (cj rfl (cj (od h2) (cj (map_ltN (od h2) h3) (cj ((look_cons_ne _ _ (fun z => od h6 z.symm)).trans (look_cons_self _ _ _)) (cj (map_lt h3) (cj rfl (cj rfl (cj rfl (cj (look_cons_self _ _ _) (cj (map_lt h5) (cj rfl (cj (od h2) (cj (map_ltN (od h2) h3) (cj ((look_cons_ne _ _ (fun z => od h6 z.symm)).trans (look_cons_self _ _ _)) (cj (map_lt h3) (cj rfl (cj rfl (cj (look_cons_self _ _ _) (cj (map_lt h5) (cj rfl (cj (od h2) (cj (map_ltN (od h2) h3) (cj ((look_cons_ne _ _ (fun z => od h6 z.symm)).trans (look_cons_self _ _ _)) (cj (map_lt h3) (cj rfl (cj rfl (cj rfl (cj (look_cons_self _ _ _) (cj (map_lt h5) (cj rfl (cj (od h2) (cj (map_ltN (od h2) h3) (cj ((look_cons_ne _ _ (fun z => od h6 z.symm)).trans (look_cons_self _ _ _)) (cj (map_lt h3) (cj rfl (cj rfl (cj (look_cons_self _ _ _) (cj (map_lt h5) (cj rfl (cj (od h2) (cj (map_ltN (od h2) h3) (cj ((look_cons_ne _ _ (fun z => od h6 z.symm)).trans (look_cons_self _ _ _)) (cj (map_lt h3) (cj rfl (cj rfl (cj rfl (cj (look_cons_self _ _ _) (cj (map_lt h5) (cj rfl (cj (od h2) (cj (map_ltN (od h2) h3) (cj ((look_cons_ne _ _ (fun z => od h6 z.symm)).trans (look_cons_self _ _ _)) (cj (map_lt h3) (cj rfl (cj rfl (cj rfl (cj (look_cons_self _ _ _) (cj (map_lt h5) (cj rfl (cj (od h2) (cj (map_ltN (od h2) h3) (cj ((look_cons_ne _ _ (fun z => od h6 z.symm)).trans (look_cons_self _ _ _)) (cj (map_lt h3) (cj rfl (cj rfl (cj rfl (cj (look_cons_self _ _ _) (cj (map_lt h5) (cj rfl (cj (od h2) (cj (map_ltN (od h2) h3) (cj ((look_cons_ne _ _ (fun z => od h6 z.symm)).trans (look_cons_self _ _ _)) (cj (map_lt h3) (cj rfl (cj rfl (cj (look_cons_self _ _ _) (cj (map_lt h5) (cj rfl (cj (od h2) (cj (map_ltN (od h2) h3) (cj ((look_cons_ne _ _ (fun z => od h6 z.symm)).trans (look_cons_self _ _ _)) (cj (map_lt h3) (cj rfl (cj rfl (cj rfl (cj (look_cons_self _ _ _) (cj (map_lt h5) (cj rfl (cj (od h2) (cj (map_ltN (od h2) h3) (cj ((look_cons_ne _ _ (fun z => od h6 z.symm)).trans (look_cons_self _ _ _)) (cj (map_lt h3) (cj rfl (cj rfl (cj rfl (cj (look_cons_self _ _ _) (cj (map_lt h5) (cj rfl (cj (od h2) (cj (map_ltN (od h2) h3) (cj ((look_cons_ne _ _ (fun z => od h6 z.symm)).trans (look_cons_self _ _ _)) (cj (map_lt h3) (cj rfl (cj rfl (cj (look_cons_self _ _ _) (cj (map_lt h5) (cj rfl (cj (od h2) (cj (map_ltN (od h2) h3) (cj ((look_cons_ne _ _ (fun z => od h6 z.symm)).trans (look_cons_self _ _ _)) (cj (map_lt h3) (cj rfl (cj rfl (cj rfl (cj (look_cons_self _ _ _) (cj (map_lt h5) (cj rfl (cj (od h2) (cj (map_ltN (od h2) h3) (cj ((look_cons_ne _ _ (fun z => od h6 z.symm)).trans (look_cons_self _ _ _)) (cj (map_lt h3) (cj rfl (cj rfl (cj (look_cons_self _ _ _) (cj (map_lt h5) (cj rfl (cj (od h2) (cj (map_ltN (od h2) h3) (cj ((look_cons_ne _ _ (fun z => od h6 z.symm)).trans (look_cons_self _ _ _)) (cj (map_lt h3) (cj rfl (cj rfl (cj rfl (cj (look_cons_self _ _ _) (cj (map_lt h5) (cj rfl (cj (od h2) (cj (map_ltN (od h2) h3) (cj ((look_cons_ne _ _ (fun z => od h6 z.symm)).trans (look_cons_self _ _ _)) (cj (map_lt h3) (cj rfl (cj rfl (cj rfl (cj (look_cons_self _ _ _) (cj (map_lt h5) (cj rfl (cj (od h2) (cj (map_ltN (od h2) h3) (cj ((look_cons_ne _ _ (fun z => od h6 z.symm)).trans (look_cons_self _ _ _)) (cj (map_lt h3) (cj rfl (cj rfl (cj rfl (cj (look_cons_self _ _ _) (cj (map_lt h5) (cj rfl (cj (od h2) (cj (map_ltN (od h2) h3) (cj ((look_cons_ne _ _ (fun z => od h6 z.symm)).trans (look_cons_self _ _ _)) (cj (map_lt h3) (cj rfl (cj rfl (cj1 (nb_set2 E29 _ _ x1 _ x2)))))))))))))))))))))))))))))))))))))))))))))))))))))))))))))))))))))))))))))))))))))))))))))))))))))))))))))))))))))))))))))))))))))))))))))))))))))))))))))))))))))))))))))))))))))))))))))))))))))))))))))))))))))))))))))))))))))))))))))))))))))))))))))))))))))))))))) (slices_swapRangeCmpFunc_impl_Acct_impl_Gather_1_l0_ok a b n fuel (i64 (v1 + 1)) ((v2.set ((i64 (a + v1)).toNat) x1).set ((i64 (b + v1)).toNat) x2))) (fun h6 =>
     Pn.none))) (fun h4 =>
     Pn.none))) (fun h2 =>
     Pn.none)) (fun h1 =>
     Pn.some (LpO.out [.bit false, .mask [], .ren [0]] (p := [(decide (v1 < n)) = false]) (by kernel_rfl) (show X.out 0 ≠ X.go from nofun) (cj1 h1)))
def slices_swapRangeCmpFunc_impl_Acct_impl_Gather_1 (data : List Acct) (a : Int) (b : Int) (n : Int) : Option ((List Acct)) :=
 (slices_swapRangeCmpFunc_impl_Acct_impl_Gather_1_l0 a b n FUEL 0 data).bind fun r1 =>
 some r1
theorem slices_swapRangeCmpFunc_impl_Acct_impl_Gather_1_ok (data : List Acct) (a : Int) (b : Int) (n : Int) : Pn (fun y => Fn Try.prog 220 [(true, E48 data), (false, E3 a), (false, E3 b), (false, E3 n), (false, V.fn 90 [])] (V.tup []) [V.sl true 29 (List.map E29 y)]) (slices_swapRangeCmpFunc_impl_Acct_impl_Gather_1 data a b n) := by
  unfold slices_swapRangeCmpFunc_impl_Acct_impl_Gather_1
  exact
   Pn.bind (fun r1 h7 =>
   Pn.some (Fn.of [.wait 2, .mask [0, 1, 2, 3, 10], .ren [0], .loop (X.out 0) (st 38 [] [Blk.row 29 (List.map E29 r1) []] [some 0])] (p := [Loop Try.prog (sub (codeOf Try.prog 220) [1, 0, 0]) (st 38 [(0, V.ow 0), (1, V.sc (.int .i64 a)), (2, V.sc (.int .i64 b)), (3, V.sc (.int .i64 n)), (10, V.sc (.int .i64 0))] [Blk.row 29 (List.map E29 data) []] [some 0]) (X.out 0) (st 38 [] [Blk.row 29 (List.map E29 r1) []] [some 0])]) (by kernel_rfl) (cj1 (slices_swapRangeCmpFunc_impl_Acct_impl_Gather_1_l0_ok a b n FUEL 0 data r1 h7))))
def slices_rotateCmpFunc_impl_Acct_impl_Gather_1_l0 (m : Int) : Nat → Int → Int → (List Acct) → Option (Int × (List Acct))
  | 0, _, _, _ => none
  | fuel + 1, v1, v2, v3 =>
   if (v1 != v2) = true then
   if (decide (v2 < v1)) = true then
   (slices_swapRangeCmpFunc_impl_Acct_impl_Gather_1 v3 (i64 (m - v1)) m v2).bind fun r1 =>
   slices_rotateCmpFunc_impl_Acct_impl_Gather_1_l0 m fuel (i64 (v1 - v2)) v2 r1
   else
   (slices_swapRangeCmpFunc_impl_Acct_impl_Gather_1 v3 (i64 (m - v1)) (i64 ((i64 (m + v2)) - v1)) v1).bind fun r2 =>
   slices_rotateCmpFunc_impl_Acct_impl_Gather_1_l0 m fuel v1 (i64 (v2 - v1)) r2
   else
   some (v1, v3)
theorem slices_rotateCmpFunc_impl_Acct_impl_Gather_1_l0_ok (m : Int) : ∀ (fuel : Nat) (v1 : Int) (v2 : Int) (v3 : List Acct), Pn (LpO Try.prog (sub (codeOf Try.prog 208) [1, 1, 0, 0, 0]) (st 58 [(0, V.ow 0), (2, V.sc (.int .i64 m)), (4, V.fn 90 []), (10, V.sc (.int .i64 v1)), (11, V.sc (.int .i64 v2))] [Blk.row 29 (List.map E29 v3) []] [some 0]) (fun (y : Int × (List Acct)) => (X.out 0, st 58 [(0, V.ow 0), (2, V.sc (.int .i64 m)), (4, V.fn 90 []), (10, V.sc (.int .i64 y.1))] [Blk.row 29 (List.map E29 y.2) []] [some 0]))) (slices_rotateCmpFunc_impl_Acct_impl_Gather_1_l0 m fuel v1 v2 v3)
  | 0, _, _, _ => Pn.none
  | fuel + 1, v1, v2, v3 => by
    unfold slices_rotateCmpFunc_impl_Acct_impl_Gather_1_l0
    exact
     Pn.ite (fun h1 =>
     Pn.ite (fun h2 =>
     Pn.bind (fun r1 h3 =>
     LpO.go [.bit true, .bit true, .call [true, false, false, false, false] (V.tup []) [V.sl true 29 (List.map E29 r1)], .wait 5, .mask [0, 2, 4, 10, 11], .ren [0]] (p := [(v1 != v2) = true,
      (decide (v2 < v1)) = true,
      Fn Try.prog 220 [(true, E48 v3), (false, E3 (i64 (m - v1))), (false, E3 m), (false, E3 v2), (false, V.fn 90 [])] (V.tup []) [V.sl true 29 (List.map E29 r1)],
      (true || ((V.tup []).nv && nvL [V.sl true 29 (List.map E29 r1)])) = true]) (by kernel_rfl) (cj h1 (cj h2 (cj (slices_swapRangeCmpFunc_impl_Acct_impl_Gather_1_ok v3 (i64 (m - v1)) m v2 r1 h3) (cj1 rfl)))) (slices_rotateCmpFunc_impl_Acct_impl_Gather_1_l0_ok m fuel (i64 (v1 - v2)) v2 r1))) (fun h2 =>
     Pn.bind (fun r2 h4 =>
     LpO.go [.bit true, .bit false, .call [true, false, false, false, false] (V.tup []) [V.sl true 29 (List.map E29 r2)], .wait 5, .mask [0, 2, 4, 10, 11], .ren [0]] (p := [(v1 != v2) = true,
      (decide (v2 < v1)) = false,
      Fn Try.prog 220 [(true, E48 v3), (false, E3 (i64 (m - v1))), (false, E3 (i64 ((i64 (m + v2)) - v1))), (false, E3 v1), (false, V.fn 90 [])] (V.tup []) [V.sl true 29 (List.map E29 r2)],
      (true || ((V.tup []).nv && nvL [V.sl true 29 (List.map E29 r2)])) = true]) (by kernel_rfl) (cj h1 (cj h2 (cj (slices_swapRangeCmpFunc_impl_Acct_impl_Gather_1_ok v3 (i64 (m - v1)) (i64 ((i64 (m + v2)) - v1)) v1 r2 h4) (cj1 rfl)))) (slices_rotateCmpFunc_impl_Acct_impl_Gather_1_l0_ok m fuel v1 (i64 (v2 - v1)) r2)))) (fun h1 =>
     Pn.some (LpO.out [.bit false, .mask [0, 2, 4, 10], .ren [0]] (p := [(v1 != v2) = false]) (by kernel_rfl) (show X.out 0 ≠ X.go from nofun) (cj1 h1)))
def slices_rotateCmpFunc_impl_Acct_impl_Gather_1 (data : List Acct) (a : Int) (m : Int) (b : Int) : Option ((List Acct)) :=
 (slices_rotateCmpFunc_impl_Acct_impl_Gather_1_l0 m FUEL (i64 (m - a)) (i64 (b - m)) data).bind fun r3 =>
 (slices_swapRangeCmpFunc_impl_Acct_impl_Gather_1 r3.2 (i64 (m - r3.1)) m r3.1).bind fun r4 =>
 some r4
theorem slices_rotateCmpFunc_impl_Acct_impl_Gather_1_ok (data : List Acct) (a : Int) (m : Int) (b : Int) : Pn (fun y => Fn Try.prog 208 [(true, E48 data), (false, E3 a), (false, E3 m), (false, E3 b), (false, V.fn 90 [])] (V.tup []) [V.sl true 29 (List.map E29 y)]) (slices_rotateCmpFunc_impl_Acct_impl_Gather_1 data a m b) := by
  unfold slices_rotateCmpFunc_impl_Acct_impl_Gather_1
  exact
   Pn.bind (fun r3 h5 =>
   Pn.bind (fun r4 h6 =>
   Pn.some (Fn.of [.wait 9, .mask [0, 2, 4, 10, 11], .ren [0], .loop (X.out 0) (st 58 [(0, V.ow 0), (2, V.sc (.int .i64 m)), (4, V.fn 90 []), (10, V.sc (.int .i64 r3.1))] [Blk.row 29 (List.map E29 r3.2) []] [some 0]), .call [true, false, false, false, false] (V.tup []) [V.sl true 29 (List.map E29 r4)]] (p := [Loop Try.prog (sub (codeOf Try.prog 208) [1, 1, 0, 0, 0]) (st 58 [(0, V.ow 0), (2, V.sc (.int .i64 m)), (4, V.fn 90 []), (10, V.sc (.int .i64 (i64 (m - a)))), (11, V.sc (.int .i64 (i64 (b - m))))] [Blk.row 29 (List.map E29 data) []] [some 0]) (X.out 0) (st 58 [(0, V.ow 0), (2, V.sc (.int .i64 m)), (4, V.fn 90 []), (10, V.sc (.int .i64 r3.1))] [Blk.row 29 (List.map E29 r3.2) []] [some 0]),
    Fn Try.prog 220 [(true, E48 r3.2), (false, E3 (i64 (m - r3.1))), (false, E3 m), (false, E3 r3.1), (false, V.fn 90 [])] (V.tup []) [V.sl true 29 (List.map E29 r4)],
    (true || ((V.tup []).nv && nvL [V.sl true 29 (List.map E29 r4)])) = true]) (by kernel_rfl) (cj (slices_rotateCmpFunc_impl_Acct_impl_Gather_1_l0_ok m FUEL (i64 (m - a)) (i64 (b - m)) data r3 h5) (cj (slices_swapRangeCmpFunc_impl_Acct_impl_Gather_1_ok r3.2 (i64 (m - r3.1)) m r3.1 r4 h6) (cj1 rfl))))))
end Go.Proofs.YtdcejeemommkfaaM
