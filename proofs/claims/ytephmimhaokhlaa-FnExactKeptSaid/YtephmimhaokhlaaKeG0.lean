/- Printed by gen.py: functions on plain data, and that the program computes them. No condition. -/
import Derived.Test.YtephmimhaokhlaaM18
import Derived.Test.YtephmimhaokhlaaProg
namespace Go.Proofs.YtephmimhaokhlaaM
set_option linter.unusedVariables false
set_option linter.unusedSimpArgs false
open Go.RowKit
set_option maxRecDepth 100000

structure Hold where
  Id : ByteArray
  Amount : Int
  Due : Int
structure Ring where
  Span : Int
  Head : Int
  Counts : List Int
  Sums : List Int
structure Slot where
  Trace : ByteArray
  Mti : ByteArray
  Reply : List Int
structure Acct where
  Id : ByteArray
  Limit : Int
  Posted : Int
  Most : Int
  MostSum : Int
  Holds : List Hold
  Ring : Ring
  Slots : List Slot
structure Book where
  Accts : List Acct
def E9 (x : ByteArray) : V := V.sc (.string x)
def E3 (x : Int) : V := V.sc (.int .i64 x)
def E123 (x : Hold) : V := V.agg [V.sc (.string x.Id), V.sc (.int .i64 x.Amount), V.sc (.int .i64 x.Due)]
def E79 (x : List Hold) : V := V.sl true 123 (List.map E123 x)
def E51 (x : List Int) : V := V.sl true 3 (List.map E3 x)
def E80 (x : Ring) : V := V.agg [V.sc (.int .i64 x.Span), V.sc (.int .i64 x.Head), V.sl true 3 (List.map E3 x.Counts), V.sl true 3 (List.map E3 x.Sums)]
def E5 (x : Int) : V := V.sc (.int .u8 x)
def E63 (x : List Int) : V := V.sl true 5 (List.map E5 x)
def E125 (x : Slot) : V := V.agg [V.sc (.string x.Trace), V.sc (.string x.Mti), V.sl true 5 (List.map E5 x.Reply)]
def E81 (x : List Slot) : V := V.sl true 125 (List.map E125 x)
def E83 (x : Acct) : V := V.agg [V.sc (.string x.Id), V.sc (.int .i64 x.Limit), V.sc (.int .i64 x.Posted), V.sc (.int .i64 x.Most), V.sc (.int .i64 x.MostSum), V.sl true 123 (List.map E123 x.Holds), V.sc (.int .i64 x.Ring.Span), V.sc (.int .i64 x.Ring.Head), V.sl true 3 (List.map E3 x.Ring.Counts), V.sl true 3 (List.map E3 x.Ring.Sums), V.sl true 125 (List.map E125 x.Slots)]
def E22 (x : List Acct) : V := V.sl true 83 (List.map E83 x)
def E24 (x : Book) : V := V.agg [V.sl true 83 (List.map E83 x.Accts)]
def E4 (x : Bool) : V := V.sc (.bool x)
def E126 (x : Hold) : V := V.agg [V.sc (.string x.Id), V.sc (.int .i64 x.Amount), V.sc (.int .i64 x.Due)]
def E50 (x : List Hold) : V := V.sl true 126 (List.map E126 x)
def E53 (x : Ring) : V := V.agg [V.sc (.int .i64 x.Span), V.sc (.int .i64 x.Head), V.sl true 3 (List.map E3 x.Counts), V.sl true 3 (List.map E3 x.Sums)]
def E85 (x : Slot) : V := V.agg [V.sc (.string x.Trace), V.sc (.string x.Mti), V.sl true 5 (List.map E5 x.Reply)]
def E54 (x : List Slot) : V := V.sl true 85 (List.map E85 x)
def E56 (x : Acct) : V := V.agg [V.sc (.string x.Id), V.sc (.int .i64 x.Limit), V.sc (.int .i64 x.Posted), V.sc (.int .i64 x.Most), V.sc (.int .i64 x.MostSum), V.sl true 126 (List.map E126 x.Holds), V.sc (.int .i64 x.Ring.Span), V.sc (.int .i64 x.Ring.Head), V.sl true 3 (List.map E3 x.Ring.Counts), V.sl true 3 (List.map E3 x.Ring.Sums), V.sl true 85 (List.map E85 x.Slots)]
def E27 (x : List Acct) : V := V.sl true 56 (List.map E56 x)
def E29 (x : Book) : V := V.agg [V.sl true 56 (List.map E56 x.Accts)]
theorem nv_E9 (x : ByteArray) : (E9 x).nv = true := by
  simp [E9, V.nv, nvL, nvL_all]
theorem nv_E3 (x : Int) : (E3 x).nv = true := by
  simp [E3, V.nv, nvL, nvL_all]
theorem nv_E123 (x : Hold) : (E123 x).nv = true := by
  simp [E123, V.nv, nvL, nvL_all]
theorem nv_E79 (x : List Hold) : (E79 x).nv = true := by
  simp [E79, V.nv, nvL, nvL_all, nv_E123]
theorem nv_E51 (x : List Int) : (E51 x).nv = true := by
  simp [E51, V.nv, nvL, nvL_all, nv_E3]
theorem nv_E80 (x : Ring) : (E80 x).nv = true := by
  simp [E80, V.nv, nvL, nvL_all, nv_E3, nv_E3]
theorem nv_E5 (x : Int) : (E5 x).nv = true := by
  simp [E5, V.nv, nvL, nvL_all]
theorem nv_E63 (x : List Int) : (E63 x).nv = true := by
  simp [E63, V.nv, nvL, nvL_all, nv_E5]
theorem nv_E125 (x : Slot) : (E125 x).nv = true := by
  simp [E125, V.nv, nvL, nvL_all, nv_E5]
theorem nv_E81 (x : List Slot) : (E81 x).nv = true := by
  simp [E81, V.nv, nvL, nvL_all, nv_E125]
theorem nv_E83 (x : Acct) : (E83 x).nv = true := by
  simp [E83, V.nv, nvL, nvL_all, nv_E123, nv_E3, nv_E3, nv_E125]
theorem nv_E22 (x : List Acct) : (E22 x).nv = true := by
  simp [E22, V.nv, nvL, nvL_all, nv_E83]
theorem nv_E24 (x : Book) : (E24 x).nv = true := by
  simp [E24, V.nv, nvL, nvL_all, nv_E83]
theorem nv_E4 (x : Bool) : (E4 x).nv = true := by
  simp [E4, V.nv, nvL, nvL_all]
theorem nv_E126 (x : Hold) : (E126 x).nv = true := by
  simp [E126, V.nv, nvL, nvL_all]
theorem nv_E50 (x : List Hold) : (E50 x).nv = true := by
  simp [E50, V.nv, nvL, nvL_all, nv_E126]
theorem nv_E53 (x : Ring) : (E53 x).nv = true := by
  simp [E53, V.nv, nvL, nvL_all, nv_E3, nv_E3]
theorem nv_E85 (x : Slot) : (E85 x).nv = true := by
  simp [E85, V.nv, nvL, nvL_all, nv_E5]
theorem nv_E54 (x : List Slot) : (E54 x).nv = true := by
  simp [E54, V.nv, nvL, nvL_all, nv_E85]
theorem nv_E56 (x : Acct) : (E56 x).nv = true := by
  simp [E56, V.nv, nvL, nvL_all, nv_E126, nv_E3, nv_E3, nv_E85]
theorem nv_E27 (x : List Acct) : (E27 x).nv = true := by
  simp [E27, V.nv, nvL, nvL_all, nv_E56]
theorem nv_E29 (x : Book) : (E29 x).nv = true := by
  simp [E29, V.nv, nvL, nvL_all, nv_E56]
def laws_szHold (a : Hold) (left : Int) : Option (Int) :=
 if (decide ((i64 (left - (a.Id.size : Int))) < 0)) = true then
  some (-1)
 else
  some (i64 (left - (a.Id.size : Int)))
theorem laws_szHold_ok (a : Hold) (left : Int) : Pn (fun y => Fn Try.prog 76 [(false, E123 a), (false, E3 left)] (E3 y) []) (laws_szHold a left) := by
  unfold laws_szHold
  exact
   Pn.ite (fun h1 =>
    Pn.some (Fn.of [.bit true] (p := [(decide ((i64 (left - (a.Id.size : Int))) < 0)) = true]) (by kernel_rfl) (cj1 h1))) (fun h1 =>
    Pn.some (Fn.of [.bit false] (p := [(decide ((i64 (left - (a.Id.size : Int))) < 0)) = false]) (by kernel_rfl) (cj1 h1)))
def laws_szHoldS_l0 (a : List Hold) : List Hold → Int → Option (Lo Int Unit)
  | [], v1 =>
   some (.out v1)
  | x1 :: t1, v1 =>
   (laws_szHold x1 v1).bind fun r1 =>
   if (decide (r1 < 0)) = true then
    some (.ret ())
   else
    laws_szHoldS_l0 a t1 r1
theorem laws_szHoldS_l0_ok (a : List Hold) (h3 : capOk a.length = true) : ∀ (t1 p1 : List Hold) (_ : a = p1 ++ t1) (v1 : Int), Pn (LpO Try.prog (sub (codeOf Try.prog 58) [1, 1, 1, 0, 1, 0, 0]) (st 27 [(0, V.sl false 123 (List.map E123 a)), (1, V.sc (.int .i64 v1)), (5, V.sc (.int .i64 (p1.length : Int)))] [] []) (fun (y : Lo Int Unit) => Lo.elim y (fun s => (X.out 0, st 27 [(1, V.sc (.int .i64 s))] [] [])) (fun s => (X.ret, st 27 [(4, V.sc (.int .i64 (-1)))] [] [])))) (laws_szHoldS_l0 a t1 v1)
  | [], p1, h2, v1 => by
    unfold laws_szHoldS_l0
    exact
     Pn.some (LpO.out [.wait 3, .nm 14 (V.sc (.int .i64 (a.length : Int))), .bit false, .mask [1], .ren []] (p := [V.sc (.int .i64 ((List.map E123 a).length : Int)) = V.sc (.int .i64 (a.length : Int)),
      (decide ((p1.length : Int) < (a.length : Int))) = false]) (by kernel_rfl) (show X.out 0 ≠ X.go from nofun) (cj (len_nm _ _) (cj1 (rng_end h2))))
  | x1 :: t1, p1, h2, v1 => by
    unfold laws_szHoldS_l0
    exact
     Pn.bind (fun r1 h4 =>
      Pn.ite (fun h5 =>
       Pn.some (LpO.out [.wait 3, .nm 14 (V.sc (.int .i64 (a.length : Int))), .bit true, .el (E123 x1), .call [] (E3 r1) [], .bit true, .wait 1, .mask [4], .ren []] (p := [V.sc (.int .i64 ((List.map E123 a).length : Int)) = V.sc (.int .i64 (a.length : Int)),
        (decide ((p1.length : Int) < (a.length : Int))) = true,
        (0 : Int) ≤ (p1.length : Int),
        (List.map E123 a)[(p1.length : Int).toNat]? = some (E123 x1),
        Fn Try.prog 76 [(false, E123 x1), (false, E3 v1)] (E3 r1) [],
        (true || ((E3 r1).nv && nvL [])) = true,
        (decide (r1 < 0)) = true]) (by kernel_rfl) (show X.ret ≠ X.go from nofun) (cj (len_nm _ _) (cj (rng_lt h2) (cj (by omega) (cj (rng_get _ h2) (cj (laws_szHold_ok x1 v1 r1 h4) (cj rfl (cj1 h5))))))))) (fun h5 =>
       LpO.go [.wait 3, .nm 14 (V.sc (.int .i64 (a.length : Int))), .bit true, .el (E123 x1), .call [] (E3 r1) [], .bit false, .wait 3, .mask [0, 1, 5], .ren [], .nm 5 (V.sc (.int .i64 ((p1 ++ [x1]).length : Int)))] (p := [V.sc (.int .i64 ((List.map E123 a).length : Int)) = V.sc (.int .i64 (a.length : Int)),
        (decide ((p1.length : Int) < (a.length : Int))) = true,
        (0 : Int) ≤ (p1.length : Int),
        (List.map E123 a)[(p1.length : Int).toNat]? = some (E123 x1),
        Fn Try.prog 76 [(false, E123 x1), (false, E3 v1)] (E3 r1) [],
        (true || ((E3 r1).nv && nvL [])) = true,
        (decide (r1 < 0)) = false,
        V.sc (.int .i64 (i64 ((p1.length : Int) + 1))) = V.sc (.int .i64 ((p1 ++ [x1]).length : Int))]) (by kernel_rfl) (cj (len_nm _ _) (cj (rng_lt h2) (cj (by omega) (cj (rng_get _ h2) (cj (laws_szHold_ok x1 v1 r1 h4) (cj rfl (cj h5 (cj1 (rng_next h2 h3))))))))) (laws_szHoldS_l0_ok a h3 t1 (p1 ++ [x1]) (rng_step h2) r1)))
def laws_szHoldS (a : List Hold) (left : Int) : Option (Int) :=
 if (decide ((i64 (left - (a.length : Int))) < 0)) = true then
  some (-1)
 else
  if (capOk a.length) = true then
   (laws_szHoldS_l0 a a (i64 (left - (a.length : Int)))).bind fun r2 =>
   Lo.elim r2 (fun s1 =>
    some s1) (fun s2 =>
    some (-1))
  else none
theorem laws_szHoldS_ok (a : List Hold) (left : Int) : Pn (fun y => Fn Try.prog 58 [(false, E79 a), (false, E3 left)] (E3 y) []) (laws_szHoldS a left) := by
  unfold laws_szHoldS
  exact
   Pn.ite (fun h1 =>
    Pn.some (Fn.of [.wait 4, .nm 8 (V.sc (.int .i64 (a.length : Int))), .bit true] (p := [V.sc (.int .i64 ((List.map E123 a).length : Int)) = V.sc (.int .i64 (a.length : Int)),
     (decide ((i64 (left - (a.length : Int))) < 0)) = true]) (by kernel_rfl) (cj (len_nm _ _) (cj1 h1)))) (fun h1 =>
    Pn.ite (fun h6 =>
     Pn.bind (fun r2 h7 =>
      Pn.lo (fun s1 h8 =>
       Pn.some (Fn.of [.wait 4, .nm 8 (V.sc (.int .i64 (a.length : Int))), .bit false, .wait 1, .mask [0, 1, 5], .ren [], .loop (X.out 0) (st 27 [(1, V.sc (.int .i64 s1))] [] [])] (p := [V.sc (.int .i64 ((List.map E123 a).length : Int)) = V.sc (.int .i64 (a.length : Int)),
        (decide ((i64 (left - (a.length : Int))) < 0)) = false,
        Loop Try.prog (sub (codeOf Try.prog 58) [1, 1, 1, 0, 1, 0, 0]) (st 27 [(0, V.sl false 123 (List.map E123 a)), (1, V.sc (.int .i64 (i64 (left - (a.length : Int))))), (5, V.sc (.int .i64 0))] [] []) (X.out 0) (st 27 [(1, V.sc (.int .i64 s1))] [] [])]) (by kernel_rfl) (cj (len_nm _ _) (cj h1 (cj1 ((laws_szHoldS_l0_ok a h6 a [] rfl (i64 (left - (a.length : Int))) r2 h7).at h8)))))) (fun s2 h9 =>
       Pn.some (Fn.of [.wait 4, .nm 8 (V.sc (.int .i64 (a.length : Int))), .bit false, .wait 1, .mask [0, 1, 5], .ren [], .loop (X.ret) (st 27 [(4, V.sc (.int .i64 (-1)))] [] [])] (p := [V.sc (.int .i64 ((List.map E123 a).length : Int)) = V.sc (.int .i64 (a.length : Int)),
        (decide ((i64 (left - (a.length : Int))) < 0)) = false,
        Loop Try.prog (sub (codeOf Try.prog 58) [1, 1, 1, 0, 1, 0, 0]) (st 27 [(0, V.sl false 123 (List.map E123 a)), (1, V.sc (.int .i64 (i64 (left - (a.length : Int))))), (5, V.sc (.int .i64 0))] [] []) (X.ret) (st 27 [(4, V.sc (.int .i64 (-1)))] [] [])]) (by kernel_rfl) (cj (len_nm _ _) (cj h1 (cj1 ((laws_szHoldS_l0_ok a h6 a [] rfl (i64 (left - (a.length : Int))) r2 h7).at h9)))))))) (fun h6 =>
     Pn.none))
def laws_szIntS (a : List Int) (left : Int) : Option (Int) :=
 if (decide ((i64 (left - (a.length : Int))) < 0)) = true then
  some (-1)
 else
  some (i64 (left - (a.length : Int)))
theorem laws_szIntS_ok (a : List Int) (left : Int) : Pn (fun y => Fn Try.prog 68 [(false, E51 a), (false, E3 left)] (E3 y) []) (laws_szIntS a left) := by
  unfold laws_szIntS
  exact
   Pn.ite (fun h1 =>
    Pn.some (Fn.of [.wait 4, .nm 7 (V.sc (.int .i64 (a.length : Int))), .bit true] (p := [V.sc (.int .i64 ((List.map E3 a).length : Int)) = V.sc (.int .i64 (a.length : Int)),
     (decide ((i64 (left - (a.length : Int))) < 0)) = true]) (by kernel_rfl) (cj (len_nm _ _) (cj1 h1)))) (fun h1 =>
    Pn.some (Fn.of [.wait 4, .nm 7 (V.sc (.int .i64 (a.length : Int))), .bit false] (p := [V.sc (.int .i64 ((List.map E3 a).length : Int)) = V.sc (.int .i64 (a.length : Int)),
     (decide ((i64 (left - (a.length : Int))) < 0)) = false]) (by kernel_rfl) (cj (len_nm _ _) (cj1 h1))))
def laws_szRing (a : Ring) (left : Int) : Option (Int) :=
 (laws_szIntS a.Counts left).bind fun r1 =>
 if (decide (r1 < 0)) = true then
  some (-1)
 else
  (laws_szIntS a.Sums r1).bind fun r2 =>
  if (decide (r2 < 0)) = true then
   some (-1)
  else
   some r2
theorem laws_szRing_ok (a : Ring) (left : Int) : Pn (fun y => Fn Try.prog 59 [(false, E80 a), (false, E3 left)] (E3 y) []) (laws_szRing a left) := by
  unfold laws_szRing
  exact
   Pn.bind (fun r1 h1 =>
    Pn.ite (fun h2 =>
     Pn.some (Fn.of [.call [] (E3 r1) [], .bit true] (p := [Fn Try.prog 68 [(false, E51 a.Counts), (false, E3 left)] (E3 r1) [],
      (true || ((E3 r1).nv && nvL [])) = true,
      (decide (r1 < 0)) = true]) (by kernel_rfl) (cj (laws_szIntS_ok a.Counts left r1 h1) (cj rfl (cj1 h2))))) (fun h2 =>
     Pn.bind (fun r2 h3 =>
      Pn.ite (fun h4 =>
       Pn.some (Fn.of [.call [] (E3 r1) [], .bit false, .call [] (E3 r2) [], .bit true] (p := [Fn Try.prog 68 [(false, E51 a.Counts), (false, E3 left)] (E3 r1) [],
        (true || ((E3 r1).nv && nvL [])) = true,
        (decide (r1 < 0)) = false,
        Fn Try.prog 68 [(false, E51 a.Sums), (false, E3 r1)] (E3 r2) [],
        (true || ((E3 r2).nv && nvL [])) = true,
        (decide (r2 < 0)) = true]) (by kernel_rfl) (cj (laws_szIntS_ok a.Counts left r1 h1) (cj rfl (cj h2 (cj (laws_szIntS_ok a.Sums r1 r2 h3) (cj rfl (cj1 h4)))))))) (fun h4 =>
       Pn.some (Fn.of [.call [] (E3 r1) [], .bit false, .call [] (E3 r2) [], .bit false] (p := [Fn Try.prog 68 [(false, E51 a.Counts), (false, E3 left)] (E3 r1) [],
        (true || ((E3 r1).nv && nvL [])) = true,
        (decide (r1 < 0)) = false,
        Fn Try.prog 68 [(false, E51 a.Sums), (false, E3 r1)] (E3 r2) [],
        (true || ((E3 r2).nv && nvL [])) = true,
        (decide (r2 < 0)) = false]) (by kernel_rfl) (cj (laws_szIntS_ok a.Counts left r1 h1) (cj rfl (cj h2 (cj (laws_szIntS_ok a.Sums r1 r2 h3) (cj rfl (cj1 h4)))))))))))
def laws_szByteS (a : List Int) (left : Int) : Option (Int) :=
 if (decide ((i64 (left - (a.length : Int))) < 0)) = true then
  some (-1)
 else
  some (i64 (left - (a.length : Int)))
theorem laws_szByteS_ok (a : List Int) (left : Int) : Pn (fun y => Fn Try.prog 67 [(false, E63 a), (false, E3 left)] (E3 y) []) (laws_szByteS a left) := by
  unfold laws_szByteS
  exact
   Pn.ite (fun h1 =>
    Pn.some (Fn.of [.wait 4, .nm 7 (V.sc (.int .i64 (a.length : Int))), .bit true] (p := [V.sc (.int .i64 ((List.map E5 a).length : Int)) = V.sc (.int .i64 (a.length : Int)),
     (decide ((i64 (left - (a.length : Int))) < 0)) = true]) (by kernel_rfl) (cj (len_nm _ _) (cj1 h1)))) (fun h1 =>
    Pn.some (Fn.of [.wait 4, .nm 7 (V.sc (.int .i64 (a.length : Int))), .bit false] (p := [V.sc (.int .i64 ((List.map E5 a).length : Int)) = V.sc (.int .i64 (a.length : Int)),
     (decide ((i64 (left - (a.length : Int))) < 0)) = false]) (by kernel_rfl) (cj (len_nm _ _) (cj1 h1))))
def laws_szSlot (a : Slot) (left : Int) : Option (Int) :=
 if (decide ((i64 (left - (a.Trace.size : Int))) < 0)) = true then
  some (-1)
 else
  if (decide ((i64 ((i64 (left - (a.Trace.size : Int))) - (a.Mti.size : Int))) < 0)) = true then
   some (-1)
  else
   (laws_szByteS a.Reply (i64 ((i64 (left - (a.Trace.size : Int))) - (a.Mti.size : Int)))).bind fun r1 =>
   if (decide (r1 < 0)) = true then
    some (-1)
   else
    some r1
theorem laws_szSlot_ok (a : Slot) (left : Int) : Pn (fun y => Fn Try.prog 77 [(false, E125 a), (false, E3 left)] (E3 y) []) (laws_szSlot a left) := by
  unfold laws_szSlot
  exact
   Pn.ite (fun h1 =>
    Pn.some (Fn.of [.bit true] (p := [(decide ((i64 (left - (a.Trace.size : Int))) < 0)) = true]) (by kernel_rfl) (cj1 h1))) (fun h1 =>
    Pn.ite (fun h2 =>
     Pn.some (Fn.of [.bit false, .bit true] (p := [(decide ((i64 (left - (a.Trace.size : Int))) < 0)) = false,
      (decide ((i64 ((i64 (left - (a.Trace.size : Int))) - (a.Mti.size : Int))) < 0)) = true]) (by kernel_rfl) (cj h1 (cj1 h2)))) (fun h2 =>
     Pn.bind (fun r1 h3 =>
      Pn.ite (fun h4 =>
       Pn.some (Fn.of [.bit false, .bit false, .call [] (E3 r1) [], .bit true] (p := [(decide ((i64 (left - (a.Trace.size : Int))) < 0)) = false,
        (decide ((i64 ((i64 (left - (a.Trace.size : Int))) - (a.Mti.size : Int))) < 0)) = false,
        Fn Try.prog 67 [(false, E63 a.Reply), (false, E3 (i64 ((i64 (left - (a.Trace.size : Int))) - (a.Mti.size : Int))))] (E3 r1) [],
        (true || ((E3 r1).nv && nvL [])) = true,
        (decide (r1 < 0)) = true]) (by kernel_rfl) (cj h1 (cj h2 (cj (laws_szByteS_ok a.Reply (i64 ((i64 (left - (a.Trace.size : Int))) - (a.Mti.size : Int))) r1 h3) (cj rfl (cj1 h4))))))) (fun h4 =>
       Pn.some (Fn.of [.bit false, .bit false, .call [] (E3 r1) [], .bit false] (p := [(decide ((i64 (left - (a.Trace.size : Int))) < 0)) = false,
        (decide ((i64 ((i64 (left - (a.Trace.size : Int))) - (a.Mti.size : Int))) < 0)) = false,
        Fn Try.prog 67 [(false, E63 a.Reply), (false, E3 (i64 ((i64 (left - (a.Trace.size : Int))) - (a.Mti.size : Int))))] (E3 r1) [],
        (true || ((E3 r1).nv && nvL [])) = true,
        (decide (r1 < 0)) = false]) (by kernel_rfl) (cj h1 (cj h2 (cj (laws_szByteS_ok a.Reply (i64 ((i64 (left - (a.Trace.size : Int))) - (a.Mti.size : Int))) r1 h3) (cj rfl (cj1 h4))))))))))
def laws_szSlotS_l0 (a : List Slot) : List Slot → Int → Option (Lo Int Unit)
  | [], v1 =>
   some (.out v1)
  | x1 :: t1, v1 =>
   (laws_szSlot x1 v1).bind fun r1 =>
   if (decide (r1 < 0)) = true then
    some (.ret ())
   else
    laws_szSlotS_l0 a t1 r1
theorem laws_szSlotS_l0_ok (a : List Slot) (h3 : capOk a.length = true) : ∀ (t1 p1 : List Slot) (_ : a = p1 ++ t1) (v1 : Int), Pn (LpO Try.prog (sub (codeOf Try.prog 60) [1, 1, 1, 0, 1, 0, 0]) (st 27 [(0, V.sl false 125 (List.map E125 a)), (1, V.sc (.int .i64 v1)), (5, V.sc (.int .i64 (p1.length : Int)))] [] []) (fun (y : Lo Int Unit) => Lo.elim y (fun s => (X.out 0, st 27 [(1, V.sc (.int .i64 s))] [] [])) (fun s => (X.ret, st 27 [(4, V.sc (.int .i64 (-1)))] [] [])))) (laws_szSlotS_l0 a t1 v1)
  | [], p1, h2, v1 => by
    unfold laws_szSlotS_l0
    exact
     Pn.some (LpO.out [.wait 3, .nm 14 (V.sc (.int .i64 (a.length : Int))), .bit false, .mask [1], .ren []] (p := [V.sc (.int .i64 ((List.map E125 a).length : Int)) = V.sc (.int .i64 (a.length : Int)),
      (decide ((p1.length : Int) < (a.length : Int))) = false]) (by kernel_rfl) (show X.out 0 ≠ X.go from nofun) (cj (len_nm _ _) (cj1 (rng_end h2))))
  | x1 :: t1, p1, h2, v1 => by
    unfold laws_szSlotS_l0
    exact
     Pn.bind (fun r1 h4 =>
      Pn.ite (fun h5 =>
       Pn.some (LpO.out [.wait 3, .nm 14 (V.sc (.int .i64 (a.length : Int))), .bit true, .el (E125 x1), .call [] (E3 r1) [], .bit true, .wait 1, .mask [4], .ren []] (p := [V.sc (.int .i64 ((List.map E125 a).length : Int)) = V.sc (.int .i64 (a.length : Int)),
        (decide ((p1.length : Int) < (a.length : Int))) = true,
        (0 : Int) ≤ (p1.length : Int),
        (List.map E125 a)[(p1.length : Int).toNat]? = some (E125 x1),
        Fn Try.prog 77 [(false, E125 x1), (false, E3 v1)] (E3 r1) [],
        (true || ((E3 r1).nv && nvL [])) = true,
        (decide (r1 < 0)) = true]) (by kernel_rfl) (show X.ret ≠ X.go from nofun) (cj (len_nm _ _) (cj (rng_lt h2) (cj (by omega) (cj (rng_get _ h2) (cj (laws_szSlot_ok x1 v1 r1 h4) (cj rfl (cj1 h5))))))))) (fun h5 =>
       LpO.go [.wait 3, .nm 14 (V.sc (.int .i64 (a.length : Int))), .bit true, .el (E125 x1), .call [] (E3 r1) [], .bit false, .wait 3, .mask [0, 1, 5], .ren [], .nm 5 (V.sc (.int .i64 ((p1 ++ [x1]).length : Int)))] (p := [V.sc (.int .i64 ((List.map E125 a).length : Int)) = V.sc (.int .i64 (a.length : Int)),
        (decide ((p1.length : Int) < (a.length : Int))) = true,
        (0 : Int) ≤ (p1.length : Int),
        (List.map E125 a)[(p1.length : Int).toNat]? = some (E125 x1),
        Fn Try.prog 77 [(false, E125 x1), (false, E3 v1)] (E3 r1) [],
        (true || ((E3 r1).nv && nvL [])) = true,
        (decide (r1 < 0)) = false,
        V.sc (.int .i64 (i64 ((p1.length : Int) + 1))) = V.sc (.int .i64 ((p1 ++ [x1]).length : Int))]) (by kernel_rfl) (cj (len_nm _ _) (cj (rng_lt h2) (cj (by omega) (cj (rng_get _ h2) (cj (laws_szSlot_ok x1 v1 r1 h4) (cj rfl (cj h5 (cj1 (rng_next h2 h3))))))))) (laws_szSlotS_l0_ok a h3 t1 (p1 ++ [x1]) (rng_step h2) r1)))
def laws_szSlotS (a : List Slot) (left : Int) : Option (Int) :=
 if (decide ((i64 (left - (a.length : Int))) < 0)) = true then
  some (-1)
 else
  if (capOk a.length) = true then
   (laws_szSlotS_l0 a a (i64 (left - (a.length : Int)))).bind fun r2 =>
   Lo.elim r2 (fun s1 =>
    some s1) (fun s2 =>
    some (-1))
  else none
theorem laws_szSlotS_ok (a : List Slot) (left : Int) : Pn (fun y => Fn Try.prog 60 [(false, E81 a), (false, E3 left)] (E3 y) []) (laws_szSlotS a left) := by
  unfold laws_szSlotS
  exact
   Pn.ite (fun h1 =>
    Pn.some (Fn.of [.wait 4, .nm 8 (V.sc (.int .i64 (a.length : Int))), .bit true] (p := [V.sc (.int .i64 ((List.map E125 a).length : Int)) = V.sc (.int .i64 (a.length : Int)),
     (decide ((i64 (left - (a.length : Int))) < 0)) = true]) (by kernel_rfl) (cj (len_nm _ _) (cj1 h1)))) (fun h1 =>
    Pn.ite (fun h6 =>
     Pn.bind (fun r2 h7 =>
      Pn.lo (fun s1 h8 =>
       Pn.some (Fn.of [.wait 4, .nm 8 (V.sc (.int .i64 (a.length : Int))), .bit false, .wait 1, .mask [0, 1, 5], .ren [], .loop (X.out 0) (st 27 [(1, V.sc (.int .i64 s1))] [] [])] (p := [V.sc (.int .i64 ((List.map E125 a).length : Int)) = V.sc (.int .i64 (a.length : Int)),
        (decide ((i64 (left - (a.length : Int))) < 0)) = false,
        Loop Try.prog (sub (codeOf Try.prog 60) [1, 1, 1, 0, 1, 0, 0]) (st 27 [(0, V.sl false 125 (List.map E125 a)), (1, V.sc (.int .i64 (i64 (left - (a.length : Int))))), (5, V.sc (.int .i64 0))] [] []) (X.out 0) (st 27 [(1, V.sc (.int .i64 s1))] [] [])]) (by kernel_rfl) (cj (len_nm _ _) (cj h1 (cj1 ((laws_szSlotS_l0_ok a h6 a [] rfl (i64 (left - (a.length : Int))) r2 h7).at h8)))))) (fun s2 h9 =>
       Pn.some (Fn.of [.wait 4, .nm 8 (V.sc (.int .i64 (a.length : Int))), .bit false, .wait 1, .mask [0, 1, 5], .ren [], .loop (X.ret) (st 27 [(4, V.sc (.int .i64 (-1)))] [] [])] (p := [V.sc (.int .i64 ((List.map E125 a).length : Int)) = V.sc (.int .i64 (a.length : Int)),
        (decide ((i64 (left - (a.length : Int))) < 0)) = false,
        Loop Try.prog (sub (codeOf Try.prog 60) [1, 1, 1, 0, 1, 0, 0]) (st 27 [(0, V.sl false 125 (List.map E125 a)), (1, V.sc (.int .i64 (i64 (left - (a.length : Int))))), (5, V.sc (.int .i64 0))] [] []) (X.ret) (st 27 [(4, V.sc (.int .i64 (-1)))] [] [])]) (by kernel_rfl) (cj (len_nm _ _) (cj h1 (cj1 ((laws_szSlotS_l0_ok a h6 a [] rfl (i64 (left - (a.length : Int))) r2 h7).at h9)))))))) (fun h6 =>
     Pn.none))
def laws_szAcct (a : Acct) (left : Int) : Option (Int) :=
 if (decide ((i64 (left - (a.Id.size : Int))) < 0)) = true then
  some (-1)
 else
  (laws_szHoldS a.Holds (i64 (left - (a.Id.size : Int)))).bind fun r1 =>
  if (decide (r1 < 0)) = true then
   some (-1)
  else
   (laws_szRing a.Ring r1).bind fun r2 =>
   if (decide (r2 < 0)) = true then
    some (-1)
   else
    (laws_szSlotS a.Slots r2).bind fun r3 =>
    if (decide (r3 < 0)) = true then
     some (-1)
    else
     some r3
theorem laws_szAcct_ok (a : Acct) (left : Int) : Pn (fun y => Fn Try.prog 39 [(false, E83 a), (false, E3 left)] (E3 y) []) (laws_szAcct a left) := by
  unfold laws_szAcct
  exact
   Pn.ite (fun h1 =>
    Pn.some (Fn.of [.bit true] (p := [(decide ((i64 (left - (a.Id.size : Int))) < 0)) = true]) (by kernel_rfl) (cj1 h1))) (fun h1 =>
    Pn.bind (fun r1 h2 =>
     Pn.ite (fun h3 =>
      Pn.some (Fn.of [.bit false, .call [] (E3 r1) [], .bit true] (p := [(decide ((i64 (left - (a.Id.size : Int))) < 0)) = false,
       Fn Try.prog 58 [(false, E79 a.Holds), (false, E3 (i64 (left - (a.Id.size : Int))))] (E3 r1) [],
       (true || ((E3 r1).nv && nvL [])) = true,
       (decide (r1 < 0)) = true]) (by kernel_rfl) (cj h1 (cj (laws_szHoldS_ok a.Holds (i64 (left - (a.Id.size : Int))) r1 h2) (cj rfl (cj1 h3)))))) (fun h3 =>
      Pn.bind (fun r2 h4 =>
       Pn.ite (fun h5 =>
        Pn.some (Fn.of [.bit false, .call [] (E3 r1) [], .bit false, .call [] (E3 r2) [], .bit true] (p := [(decide ((i64 (left - (a.Id.size : Int))) < 0)) = false,
         Fn Try.prog 58 [(false, E79 a.Holds), (false, E3 (i64 (left - (a.Id.size : Int))))] (E3 r1) [],
         (true || ((E3 r1).nv && nvL [])) = true,
         (decide (r1 < 0)) = false,
         Fn Try.prog 59 [(false, E80 a.Ring), (false, E3 r1)] (E3 r2) [],
         (true || ((E3 r2).nv && nvL [])) = true,
         (decide (r2 < 0)) = true]) (by kernel_rfl) (cj h1 (cj (laws_szHoldS_ok a.Holds (i64 (left - (a.Id.size : Int))) r1 h2) (cj rfl (cj h3 (cj (laws_szRing_ok a.Ring r1 r2 h4) (cj rfl (cj1 h5))))))))) (fun h5 =>
        Pn.bind (fun r3 h6 =>
         Pn.ite (fun h7 =>
          Pn.some (Fn.of [.bit false, .call [] (E3 r1) [], .bit false, .call [] (E3 r2) [], .bit false, .call [] (E3 r3) [], .bit true] (p := [(decide ((i64 (left - (a.Id.size : Int))) < 0)) = false,
           Fn Try.prog 58 [(false, E79 a.Holds), (false, E3 (i64 (left - (a.Id.size : Int))))] (E3 r1) [],
           (true || ((E3 r1).nv && nvL [])) = true,
           (decide (r1 < 0)) = false,
           Fn Try.prog 59 [(false, E80 a.Ring), (false, E3 r1)] (E3 r2) [],
           (true || ((E3 r2).nv && nvL [])) = true,
           (decide (r2 < 0)) = false,
           Fn Try.prog 60 [(false, E81 a.Slots), (false, E3 r2)] (E3 r3) [],
           (true || ((E3 r3).nv && nvL [])) = true,
           (decide (r3 < 0)) = true]) (by kernel_rfl) (cj h1 (cj (laws_szHoldS_ok a.Holds (i64 (left - (a.Id.size : Int))) r1 h2) (cj rfl (cj h3 (cj (laws_szRing_ok a.Ring r1 r2 h4) (cj rfl (cj h5 (cj (laws_szSlotS_ok a.Slots r2 r3 h6) (cj rfl (cj1 h7)))))))))))) (fun h7 =>
          Pn.some (Fn.of [.bit false, .call [] (E3 r1) [], .bit false, .call [] (E3 r2) [], .bit false, .call [] (E3 r3) [], .bit false] (p := [(decide ((i64 (left - (a.Id.size : Int))) < 0)) = false,
           Fn Try.prog 58 [(false, E79 a.Holds), (false, E3 (i64 (left - (a.Id.size : Int))))] (E3 r1) [],
           (true || ((E3 r1).nv && nvL [])) = true,
           (decide (r1 < 0)) = false,
           Fn Try.prog 59 [(false, E80 a.Ring), (false, E3 r1)] (E3 r2) [],
           (true || ((E3 r2).nv && nvL [])) = true,
           (decide (r2 < 0)) = false,
           Fn Try.prog 60 [(false, E81 a.Slots), (false, E3 r2)] (E3 r3) [],
           (true || ((E3 r3).nv && nvL [])) = true,
           (decide (r3 < 0)) = false]) (by kernel_rfl) (cj h1 (cj (laws_szHoldS_ok a.Holds (i64 (left - (a.Id.size : Int))) r1 h2) (cj rfl (cj h3 (cj (laws_szRing_ok a.Ring r1 r2 h4) (cj rfl (cj h5 (cj (laws_szSlotS_ok a.Slots r2 r3 h6) (cj rfl (cj1 h7))))))))))))))))))
def laws_szAcctS_l0 (a : List Acct) : List Acct → Int → Option (Lo Int Unit)
  | [], v1 =>
   some (.out v1)
  | x1 :: t1, v1 =>
   (laws_szAcct x1 v1).bind fun r1 =>
   if (decide (r1 < 0)) = true then
    some (.ret ())
   else
    laws_szAcctS_l0 a t1 r1
theorem laws_szAcctS_l0_ok (a : List Acct) (h3 : capOk a.length = true) : ∀ (t1 p1 : List Acct) (_ : a = p1 ++ t1) (v1 : Int), Pn (LpO Try.prog (sub (codeOf Try.prog 19) [1, 1, 1, 0, 1, 0, 0]) (st 27 [(0, V.sl false 83 (List.map E83 a)), (1, V.sc (.int .i64 v1)), (5, V.sc (.int .i64 (p1.length : Int)))] [] []) (fun (y : Lo Int Unit) => Lo.elim y (fun s => (X.out 0, st 27 [(1, V.sc (.int .i64 s))] [] [])) (fun s => (X.ret, st 27 [(4, V.sc (.int .i64 (-1)))] [] [])))) (laws_szAcctS_l0 a t1 v1)
  | [], p1, h2, v1 => by
    unfold laws_szAcctS_l0
    exact
     Pn.some (LpO.out [.wait 3, .nm 14 (V.sc (.int .i64 (a.length : Int))), .bit false, .mask [1], .ren []] (p := [V.sc (.int .i64 ((List.map E83 a).length : Int)) = V.sc (.int .i64 (a.length : Int)),
      (decide ((p1.length : Int) < (a.length : Int))) = false]) (by kernel_rfl) (show X.out 0 ≠ X.go from nofun) (cj (len_nm _ _) (cj1 (rng_end h2))))
  | x1 :: t1, p1, h2, v1 => by
    unfold laws_szAcctS_l0
    exact
     Pn.bind (fun r1 h4 =>
      Pn.ite (fun h5 =>
       Pn.some (LpO.out [.wait 3, .nm 14 (V.sc (.int .i64 (a.length : Int))), .bit true, .el (E83 x1), .call [] (E3 r1) [], .bit true, .wait 1, .mask [4], .ren []] (p := [V.sc (.int .i64 ((List.map E83 a).length : Int)) = V.sc (.int .i64 (a.length : Int)),
        (decide ((p1.length : Int) < (a.length : Int))) = true,
        (0 : Int) ≤ (p1.length : Int),
        (List.map E83 a)[(p1.length : Int).toNat]? = some (E83 x1),
        Fn Try.prog 39 [(false, E83 x1), (false, E3 v1)] (E3 r1) [],
        (true || ((E3 r1).nv && nvL [])) = true,
        (decide (r1 < 0)) = true]) (by kernel_rfl) (show X.ret ≠ X.go from nofun) (cj (len_nm _ _) (cj (rng_lt h2) (cj (by omega) (cj (rng_get _ h2) (cj (laws_szAcct_ok x1 v1 r1 h4) (cj rfl (cj1 h5))))))))) (fun h5 =>
       LpO.go [.wait 3, .nm 14 (V.sc (.int .i64 (a.length : Int))), .bit true, .el (E83 x1), .call [] (E3 r1) [], .bit false, .wait 3, .mask [0, 1, 5], .ren [], .nm 5 (V.sc (.int .i64 ((p1 ++ [x1]).length : Int)))] (p := [V.sc (.int .i64 ((List.map E83 a).length : Int)) = V.sc (.int .i64 (a.length : Int)),
        (decide ((p1.length : Int) < (a.length : Int))) = true,
        (0 : Int) ≤ (p1.length : Int),
        (List.map E83 a)[(p1.length : Int).toNat]? = some (E83 x1),
        Fn Try.prog 39 [(false, E83 x1), (false, E3 v1)] (E3 r1) [],
        (true || ((E3 r1).nv && nvL [])) = true,
        (decide (r1 < 0)) = false,
        V.sc (.int .i64 (i64 ((p1.length : Int) + 1))) = V.sc (.int .i64 ((p1 ++ [x1]).length : Int))]) (by kernel_rfl) (cj (len_nm _ _) (cj (rng_lt h2) (cj (by omega) (cj (rng_get _ h2) (cj (laws_szAcct_ok x1 v1 r1 h4) (cj rfl (cj h5 (cj1 (rng_next h2 h3))))))))) (laws_szAcctS_l0_ok a h3 t1 (p1 ++ [x1]) (rng_step h2) r1)))
def laws_szAcctS (a : List Acct) (left : Int) : Option (Int) :=
 if (decide ((i64 (left - (a.length : Int))) < 0)) = true then
  some (-1)
 else
  if (capOk a.length) = true then
   (laws_szAcctS_l0 a a (i64 (left - (a.length : Int)))).bind fun r2 =>
   Lo.elim r2 (fun s1 =>
    some s1) (fun s2 =>
    some (-1))
  else none
theorem laws_szAcctS_ok (a : List Acct) (left : Int) : Pn (fun y => Fn Try.prog 19 [(false, E22 a), (false, E3 left)] (E3 y) []) (laws_szAcctS a left) := by
  unfold laws_szAcctS
  exact
   Pn.ite (fun h1 =>
    Pn.some (Fn.of [.wait 4, .nm 8 (V.sc (.int .i64 (a.length : Int))), .bit true] (p := [V.sc (.int .i64 ((List.map E83 a).length : Int)) = V.sc (.int .i64 (a.length : Int)),
     (decide ((i64 (left - (a.length : Int))) < 0)) = true]) (by kernel_rfl) (cj (len_nm _ _) (cj1 h1)))) (fun h1 =>
    Pn.ite (fun h6 =>
     Pn.bind (fun r2 h7 =>
      Pn.lo (fun s1 h8 =>
       Pn.some (Fn.of [.wait 4, .nm 8 (V.sc (.int .i64 (a.length : Int))), .bit false, .wait 1, .mask [0, 1, 5], .ren [], .loop (X.out 0) (st 27 [(1, V.sc (.int .i64 s1))] [] [])] (p := [V.sc (.int .i64 ((List.map E83 a).length : Int)) = V.sc (.int .i64 (a.length : Int)),
        (decide ((i64 (left - (a.length : Int))) < 0)) = false,
        Loop Try.prog (sub (codeOf Try.prog 19) [1, 1, 1, 0, 1, 0, 0]) (st 27 [(0, V.sl false 83 (List.map E83 a)), (1, V.sc (.int .i64 (i64 (left - (a.length : Int))))), (5, V.sc (.int .i64 0))] [] []) (X.out 0) (st 27 [(1, V.sc (.int .i64 s1))] [] [])]) (by kernel_rfl) (cj (len_nm _ _) (cj h1 (cj1 ((laws_szAcctS_l0_ok a h6 a [] rfl (i64 (left - (a.length : Int))) r2 h7).at h8)))))) (fun s2 h9 =>
       Pn.some (Fn.of [.wait 4, .nm 8 (V.sc (.int .i64 (a.length : Int))), .bit false, .wait 1, .mask [0, 1, 5], .ren [], .loop (X.ret) (st 27 [(4, V.sc (.int .i64 (-1)))] [] [])] (p := [V.sc (.int .i64 ((List.map E83 a).length : Int)) = V.sc (.int .i64 (a.length : Int)),
        (decide ((i64 (left - (a.length : Int))) < 0)) = false,
        Loop Try.prog (sub (codeOf Try.prog 19) [1, 1, 1, 0, 1, 0, 0]) (st 27 [(0, V.sl false 83 (List.map E83 a)), (1, V.sc (.int .i64 (i64 (left - (a.length : Int))))), (5, V.sc (.int .i64 0))] [] []) (X.ret) (st 27 [(4, V.sc (.int .i64 (-1)))] [] [])]) (by kernel_rfl) (cj (len_nm _ _) (cj h1 (cj1 ((laws_szAcctS_l0_ok a h6 a [] rfl (i64 (left - (a.length : Int))) r2 h7).at h9)))))))) (fun h6 =>
     Pn.none))
def laws_szBook (a : Book) (left : Int) : Option (Int) :=
 (laws_szAcctS a.Accts left).bind fun r1 =>
 if (decide (r1 < 0)) = true then
  some (-1)
 else
  some r1
theorem laws_szBook_ok (a : Book) (left : Int) : Pn (fun y => Fn Try.prog 5 [(false, E24 a), (false, E3 left)] (E3 y) []) (laws_szBook a left) := by
  unfold laws_szBook
  exact
   Pn.bind (fun r1 h1 =>
    Pn.ite (fun h2 =>
     Pn.some (Fn.of [.call [] (E3 r1) [], .bit true] (p := [Fn Try.prog 19 [(false, E22 a.Accts), (false, E3 left)] (E3 r1) [],
      (true || ((E3 r1).nv && nvL [])) = true,
      (decide (r1 < 0)) = true]) (by kernel_rfl) (cj (laws_szAcctS_ok a.Accts left r1 h1) (cj rfl (cj1 h2))))) (fun h2 =>
     Pn.some (Fn.of [.call [] (E3 r1) [], .bit false] (p := [Fn Try.prog 19 [(false, E22 a.Accts), (false, E3 left)] (E3 r1) [],
      (true || ((E3 r1).nv && nvL [])) = true,
      (decide (r1 < 0)) = false]) (by kernel_rfl) (cj (laws_szAcctS_ok a.Accts left r1 h1) (cj rfl (cj1 h2))))))
def laws_toHold (a : Hold) : Option (Hold) :=
 some a
theorem laws_toHold_ok (a : Hold) : Pn (fun y => Fn Try.prog 78 [(false, E123 a)] (E126 y) []) (laws_toHold a) := by
  unfold laws_toHold
  exact
   Pn.some (Fn.of [] (p := []) (by kernel_rfl) trivial)
def laws_toHoldS_l0 (a : List Hold) : List Hold → List Hold → (List Hold) → Option ((List Hold))
  | [], p1, v1 =>
   some v1
  | x1 :: t1, p1, v1 =>
   (laws_toHold x1).bind fun r1 =>
   (v1[(p1.length : Int).toNat]?).bind fun x2 =>
   laws_toHoldS_l0 a t1 (p1 ++ [x1]) (v1.set ((p1.length : Int).toNat) r1)
theorem laws_toHoldS_l0_ok (a : List Hold) (h4 : capOk a.length = true) : ∀ (t1 p1 : List Hold) (_ : a = p1 ++ t1) (v1 : List Hold), Pn (LpO Try.prog (sub (codeOf Try.prog 61) [1, 1, 0, 1, 0, 0]) (st 23 [(0, V.sl false 123 (List.map E123 a)), (3, V.ow 0), (4, V.sc (.int .i64 (p1.length : Int)))] [Blk.row 126 (List.map E126 v1) []] []) (fun (y : (List Hold)) => (X.out 0, st 23 [(3, V.ow 0)] [Blk.row 126 (List.map E126 y) []] []))) (laws_toHoldS_l0 a t1 p1 v1)
  | [], p1, h3, v1 => by
    unfold laws_toHoldS_l0
    exact
     Pn.some (LpO.out [.wait 3, .nm 10 (V.sc (.int .i64 (a.length : Int))), .bit false, .mask [3], .ren [0]] (p := [V.sc (.int .i64 ((List.map E123 a).length : Int)) = V.sc (.int .i64 (a.length : Int)),
      (decide ((p1.length : Int) < (a.length : Int))) = false]) (by kernel_rfl) (show X.out 0 ≠ X.go from nofun) (cj (len_nm _ _) (cj1 (rng_end h3))))
  | x1 :: t1, p1, h3, v1 => by
    unfold laws_toHoldS_l0
    exact
     Pn.bind (fun r1 h5 =>
      Pn.bind (fun x2 h6 =>
       LpO.go [.wait 3, .nm 10 (V.sc (.int .i64 (a.length : Int))), .bit true, .el (E123 x1), .call [] (E126 r1) [], .el (E126 x2), .nb 0 (.row 126 (List.map E126 (v1.set ((p1.length : Int).toNat) r1)) []), .wait 4, .mask [0, 3, 4], .ren [0], .nm 4 (V.sc (.int .i64 ((p1 ++ [x1]).length : Int)))] (p := [V.sc (.int .i64 ((List.map E123 a).length : Int)) = V.sc (.int .i64 (a.length : Int)),
        (decide ((p1.length : Int) < (a.length : Int))) = true,
        (0 : Int) ≤ (p1.length : Int),
        (List.map E123 a)[(p1.length : Int).toNat]? = some (E123 x1),
        Fn Try.prog 78 [(false, E123 x1)] (E126 r1) [],
        (true || ((E126 r1).nv && nvL [])) = true,
        (0 : Int) ≤ (p1.length : Int),
        ((p1.length : Int) : Int) < ((List.map E126 v1).length : Int),
        look [] ((p1.length : Int).toNat) = none,
        (List.map E126 v1)[(p1.length : Int).toNat]? = some (E126 x2),
        Blk.row 126 ((List.map E126 v1).set ((p1.length : Int).toNat) (V.agg [V.sc (.string r1.Id), V.sc (.int .i64 r1.Amount), V.sc (.int .i64 r1.Due)])) [] = Blk.row 126 (List.map E126 (v1.set ((p1.length : Int).toNat) r1)) [],
        V.sc (.int .i64 (i64 ((p1.length : Int) + 1))) = V.sc (.int .i64 ((p1 ++ [x1]).length : Int))]) (by kernel_rfl) (cj (len_nm _ _) (cj (rng_lt h3) (cj (by omega) (cj (rng_get _ h3) (cj (laws_toHold_ok x1 r1 h5) (cj rfl (cj (by omega) (cj (map_ltN (by omega) h6) (cj rfl (cj (map_get h6) (cj (nb_set E126 _ _ r1) (cj1 (rng_next h3 h4))))))))))))) (laws_toHoldS_l0_ok a h4 t1 (p1 ++ [x1]) (rng_step h3) (v1.set ((p1.length : Int).toNat) r1))))
def laws_toHoldS (a : List Hold) : Option ((List Hold)) :=
 if (decide (0 ≤ (a.length : Int))) = true then
  if (capOk (a.length : Int).toNat) = true then
   if (capOk a.length) = true then
    (laws_toHoldS_l0 a a [] (List.replicate ((a.length : Int).toNat) (Hold.mk ByteArray.empty 0 0))).bind fun r2 =>
    some r2
   else none
  else none
 else none
theorem laws_toHoldS_ok (a : List Hold) : Pn (fun y => Fn Try.prog 61 [(false, E79 a)] (E50 y) []) (laws_toHoldS a) := by
  unfold laws_toHoldS
  exact
   Pn.ite (fun h1 =>
    Pn.ite (fun h2 =>
     Pn.ite (fun h7 =>
      Pn.bind (fun r2 h8 =>
       Pn.some (Fn.of [.wait 3, .nm 6 (V.sc (.int .i64 (a.length : Int))), .wait 1, .nb 0 (.row 126 (List.map E126 (List.replicate ((a.length : Int).toNat) (Hold.mk ByteArray.empty 0 0))) []), .wait 3, .mask [0, 3, 4], .ren [0], .loop (X.out 0) (st 23 [(3, V.ow 0)] [Blk.row 126 (List.map E126 r2) []] [])] (p := [V.sc (.int .i64 ((List.map E123 a).length : Int)) = V.sc (.int .i64 (a.length : Int)),
        ((a.length : Int) : Int) = (a.length : Int),
        (0 : Int) ≤ (a.length : Int),
        ((a.length : Int) : Int) ≤ 9223372036854775807,
        32 * (a.length : Int).toNat ≤ 281474976710656,
        Blk.row 126 (List.replicate ((a.length : Int).toNat) (V.agg [V.sc (.string ByteArray.empty), V.sc (.int .i64 0), V.sc (.int .i64 0)])) [] = Blk.row 126 (List.map E126 (List.replicate ((a.length : Int).toNat) (Hold.mk ByteArray.empty 0 0))) [],
        Loop Try.prog (sub (codeOf Try.prog 61) [1, 1, 0, 1, 0, 0]) (st 23 [(0, V.sl false 123 (List.map E123 a)), (3, V.ow 0), (4, V.sc (.int .i64 0))] [Blk.row 126 (List.map E126 (List.replicate ((a.length : Int).toNat) (Hold.mk ByteArray.empty 0 0))) []] []) (X.out 0) (st 23 [(3, V.ow 0)] [Blk.row 126 (List.map E126 r2) []] [])]) (by kernel_rfl) (cj (len_nm _ _) (cj rfl (cj (od h1) (cj (cap3 h1 h2) (cj (cap4 h2 (by decide)) (cj (nb_rep E126 _ (Hold.mk ByteArray.empty 0 0)) (cj1 (laws_toHoldS_l0_ok a h7 a [] rfl (List.replicate ((a.length : Int).toNat) (Hold.mk ByteArray.empty 0 0)) r2 h8))))))))))) (fun h7 =>
      Pn.none)) (fun h2 =>
     Pn.none)) (fun h1 =>
    Pn.none)
def laws_toIntS_l0 (a : List Int) : List Int → List Int → (List Int) → Option ((List Int))
  | [], p1, v1 =>
   some v1
  | x1 :: t1, p1, v1 =>
   (v1[(p1.length : Int).toNat]?).bind fun x2 =>
   laws_toIntS_l0 a t1 (p1 ++ [x1]) (v1.set ((p1.length : Int).toNat) x1)
theorem laws_toIntS_l0_ok (a : List Int) (h4 : capOk a.length = true) : ∀ (t1 p1 : List Int) (_ : a = p1 ++ t1) (v1 : List Int), Pn (LpO Try.prog (sub (codeOf Try.prog 70) [1, 1, 0, 1, 0, 0]) (st 22 [(0, V.sl false 3 (List.map E3 a)), (3, V.ow 0), (4, V.sc (.int .i64 (p1.length : Int)))] [Blk.row 3 (List.map E3 v1) []] []) (fun (y : (List Int)) => (X.out 0, st 22 [(3, V.ow 0)] [Blk.row 3 (List.map E3 y) []] []))) (laws_toIntS_l0 a t1 p1 v1)
  | [], p1, h3, v1 => by
    unfold laws_toIntS_l0
    exact
     Pn.some (LpO.out [.wait 3, .nm 10 (V.sc (.int .i64 (a.length : Int))), .bit false, .mask [3], .ren [0]] (p := [V.sc (.int .i64 ((List.map E3 a).length : Int)) = V.sc (.int .i64 (a.length : Int)),
      (decide ((p1.length : Int) < (a.length : Int))) = false]) (by kernel_rfl) (show X.out 0 ≠ X.go from nofun) (cj (len_nm _ _) (cj1 (rng_end h3))))
  | x1 :: t1, p1, h3, v1 => by
    unfold laws_toIntS_l0
    exact
     Pn.bind (fun x2 h5 =>
      LpO.go [.wait 3, .nm 10 (V.sc (.int .i64 (a.length : Int))), .bit true, .el (E3 x1), .el (E3 x2), .nb 0 (.row 3 (List.map E3 (v1.set ((p1.length : Int).toNat) x1)) []), .wait 4, .mask [0, 3, 4], .ren [0], .nm 4 (V.sc (.int .i64 ((p1 ++ [x1]).length : Int)))] (p := [V.sc (.int .i64 ((List.map E3 a).length : Int)) = V.sc (.int .i64 (a.length : Int)),
       (decide ((p1.length : Int) < (a.length : Int))) = true,
       (0 : Int) ≤ (p1.length : Int),
       (List.map E3 a)[(p1.length : Int).toNat]? = some (E3 x1),
       (0 : Int) ≤ (p1.length : Int),
       ((p1.length : Int) : Int) < ((List.map E3 v1).length : Int),
       look [] ((p1.length : Int).toNat) = none,
       (List.map E3 v1)[(p1.length : Int).toNat]? = some (E3 x2),
       Blk.row 3 ((List.map E3 v1).set ((p1.length : Int).toNat) (V.sc (.int .i64 x1))) [] = Blk.row 3 (List.map E3 (v1.set ((p1.length : Int).toNat) x1)) [],
       V.sc (.int .i64 (i64 ((p1.length : Int) + 1))) = V.sc (.int .i64 ((p1 ++ [x1]).length : Int))]) (by kernel_rfl) (cj (len_nm _ _) (cj (rng_lt h3) (cj (by omega) (cj (rng_get _ h3) (cj (by omega) (cj (map_ltN (by omega) h5) (cj rfl (cj (map_get h5) (cj (nb_set E3 _ _ x1) (cj1 (rng_next h3 h4))))))))))) (laws_toIntS_l0_ok a h4 t1 (p1 ++ [x1]) (rng_step h3) (v1.set ((p1.length : Int).toNat) x1)))
def laws_toIntS (a : List Int) : Option ((List Int)) :=
 if (decide (0 ≤ (a.length : Int))) = true then
  if (capOk (a.length : Int).toNat) = true then
   if (capOk a.length) = true then
    (laws_toIntS_l0 a a [] (List.replicate ((a.length : Int).toNat) 0)).bind fun r1 =>
    some r1
   else none
  else none
 else none
theorem laws_toIntS_ok (a : List Int) : Pn (fun y => Fn Try.prog 70 [(false, E51 a)] (E51 y) []) (laws_toIntS a) := by
  unfold laws_toIntS
  exact
   Pn.ite (fun h1 =>
    Pn.ite (fun h2 =>
     Pn.ite (fun h6 =>
      Pn.bind (fun r1 h7 =>
       Pn.some (Fn.of [.wait 3, .nm 6 (V.sc (.int .i64 (a.length : Int))), .wait 1, .nb 0 (.row 3 (List.map E3 (List.replicate ((a.length : Int).toNat) 0)) []), .wait 3, .mask [0, 3, 4], .ren [0], .loop (X.out 0) (st 22 [(3, V.ow 0)] [Blk.row 3 (List.map E3 r1) []] [])] (p := [V.sc (.int .i64 ((List.map E3 a).length : Int)) = V.sc (.int .i64 (a.length : Int)),
        ((a.length : Int) : Int) = (a.length : Int),
        (0 : Int) ≤ (a.length : Int),
        ((a.length : Int) : Int) ≤ 9223372036854775807,
        8 * (a.length : Int).toNat ≤ 281474976710656,
        Blk.row 3 (List.replicate ((a.length : Int).toNat) (V.sc (.int .i64 0))) [] = Blk.row 3 (List.map E3 (List.replicate ((a.length : Int).toNat) 0)) [],
        Loop Try.prog (sub (codeOf Try.prog 70) [1, 1, 0, 1, 0, 0]) (st 22 [(0, V.sl false 3 (List.map E3 a)), (3, V.ow 0), (4, V.sc (.int .i64 0))] [Blk.row 3 (List.map E3 (List.replicate ((a.length : Int).toNat) 0)) []] []) (X.out 0) (st 22 [(3, V.ow 0)] [Blk.row 3 (List.map E3 r1) []] [])]) (by kernel_rfl) (cj (len_nm _ _) (cj rfl (cj (od h1) (cj (cap3 h1 h2) (cj (cap4 h2 (by decide)) (cj (nb_rep E3 _ 0) (cj1 (laws_toIntS_l0_ok a h6 a [] rfl (List.replicate ((a.length : Int).toNat) 0) r1 h7))))))))))) (fun h6 =>
      Pn.none)) (fun h2 =>
     Pn.none)) (fun h1 =>
    Pn.none)
def laws_toRing (a : Ring) : Option (Ring) :=
 (laws_toIntS a.Counts).bind fun r1 =>
 (laws_toIntS a.Sums).bind fun r2 =>
 some (Ring.mk a.Span a.Head r1 r2)
theorem laws_toRing_ok (a : Ring) : Pn (fun y => Fn Try.prog 62 [(false, E80 a)] (E53 y) []) (laws_toRing a) := by
  unfold laws_toRing
  exact
   Pn.bind (fun r1 h1 =>
    Pn.bind (fun r2 h2 =>
     Pn.some (Fn.of [.call [] (E51 r1) [], .call [] (E51 r2) []] (p := [Fn Try.prog 70 [(false, E51 a.Counts)] (E51 r1) [],
      (true || ((E51 r1).nv && nvL [])) = true,
      Fn Try.prog 70 [(false, E51 a.Sums)] (E51 r2) [],
      (true || ((E51 r2).nv && nvL [])) = true]) (by kernel_rfl) (cj (laws_toIntS_ok a.Counts r1 h1) (cj rfl (cj (laws_toIntS_ok a.Sums r2 h2) (cj1 rfl)))))))
def laws_toByteS_l0 (a : List Int) : List Int → List Int → (List Int) → Option ((List Int))
  | [], p1, v1 =>
   some v1
  | x1 :: t1, p1, v1 =>
   (v1[(p1.length : Int).toNat]?).bind fun x2 =>
   laws_toByteS_l0 a t1 (p1 ++ [x1]) (v1.set ((p1.length : Int).toNat) x1)
theorem laws_toByteS_l0_ok (a : List Int) (h4 : capOk a.length = true) : ∀ (t1 p1 : List Int) (_ : a = p1 ++ t1) (v1 : List Int), Pn (LpO Try.prog (sub (codeOf Try.prog 69) [1, 1, 0, 1, 0, 0]) (st 22 [(0, V.sl false 5 (List.map E5 a)), (3, V.ow 0), (4, V.sc (.int .i64 (p1.length : Int)))] [Blk.row 5 (List.map E5 v1) []] []) (fun (y : (List Int)) => (X.out 0, st 22 [(3, V.ow 0)] [Blk.row 5 (List.map E5 y) []] []))) (laws_toByteS_l0 a t1 p1 v1)
  | [], p1, h3, v1 => by
    unfold laws_toByteS_l0
    exact
     Pn.some (LpO.out [.wait 3, .nm 10 (V.sc (.int .i64 (a.length : Int))), .bit false, .mask [3], .ren [0]] (p := [V.sc (.int .i64 ((List.map E5 a).length : Int)) = V.sc (.int .i64 (a.length : Int)),
      (decide ((p1.length : Int) < (a.length : Int))) = false]) (by kernel_rfl) (show X.out 0 ≠ X.go from nofun) (cj (len_nm _ _) (cj1 (rng_end h3))))
  | x1 :: t1, p1, h3, v1 => by
    unfold laws_toByteS_l0
    exact
     Pn.bind (fun x2 h5 =>
      LpO.go [.wait 3, .nm 10 (V.sc (.int .i64 (a.length : Int))), .bit true, .el (E5 x1), .el (E5 x2), .nb 0 (.row 5 (List.map E5 (v1.set ((p1.length : Int).toNat) x1)) []), .wait 4, .mask [0, 3, 4], .ren [0], .nm 4 (V.sc (.int .i64 ((p1 ++ [x1]).length : Int)))] (p := [V.sc (.int .i64 ((List.map E5 a).length : Int)) = V.sc (.int .i64 (a.length : Int)),
       (decide ((p1.length : Int) < (a.length : Int))) = true,
       (0 : Int) ≤ (p1.length : Int),
       (List.map E5 a)[(p1.length : Int).toNat]? = some (E5 x1),
       (0 : Int) ≤ (p1.length : Int),
       ((p1.length : Int) : Int) < ((List.map E5 v1).length : Int),
       look [] ((p1.length : Int).toNat) = none,
       (List.map E5 v1)[(p1.length : Int).toNat]? = some (E5 x2),
       Blk.row 5 ((List.map E5 v1).set ((p1.length : Int).toNat) (V.sc (.int .u8 x1))) [] = Blk.row 5 (List.map E5 (v1.set ((p1.length : Int).toNat) x1)) [],
       V.sc (.int .i64 (i64 ((p1.length : Int) + 1))) = V.sc (.int .i64 ((p1 ++ [x1]).length : Int))]) (by kernel_rfl) (cj (len_nm _ _) (cj (rng_lt h3) (cj (by omega) (cj (rng_get _ h3) (cj (by omega) (cj (map_ltN (by omega) h5) (cj rfl (cj (map_get h5) (cj (nb_set E5 _ _ x1) (cj1 (rng_next h3 h4))))))))))) (laws_toByteS_l0_ok a h4 t1 (p1 ++ [x1]) (rng_step h3) (v1.set ((p1.length : Int).toNat) x1)))
def laws_toByteS (a : List Int) : Option ((List Int)) :=
 if (decide (0 ≤ (a.length : Int))) = true then
  if (capOk (a.length : Int).toNat) = true then
   if (capOk a.length) = true then
    (laws_toByteS_l0 a a [] (List.replicate ((a.length : Int).toNat) 0)).bind fun r1 =>
    some r1
   else none
  else none
 else none
theorem laws_toByteS_ok (a : List Int) : Pn (fun y => Fn Try.prog 69 [(false, E63 a)] (E63 y) []) (laws_toByteS a) := by
  unfold laws_toByteS
  exact
   Pn.ite (fun h1 =>
    Pn.ite (fun h2 =>
     Pn.ite (fun h6 =>
      Pn.bind (fun r1 h7 =>
       Pn.some (Fn.of [.wait 3, .nm 6 (V.sc (.int .i64 (a.length : Int))), .wait 1, .nb 0 (.row 5 (List.map E5 (List.replicate ((a.length : Int).toNat) 0)) []), .wait 3, .mask [0, 3, 4], .ren [0], .loop (X.out 0) (st 22 [(3, V.ow 0)] [Blk.row 5 (List.map E5 r1) []] [])] (p := [V.sc (.int .i64 ((List.map E5 a).length : Int)) = V.sc (.int .i64 (a.length : Int)),
        ((a.length : Int) : Int) = (a.length : Int),
        (0 : Int) ≤ (a.length : Int),
        ((a.length : Int) : Int) ≤ 9223372036854775807,
        1 * (a.length : Int).toNat ≤ 281474976710656,
        Blk.row 5 (List.replicate ((a.length : Int).toNat) (V.sc (.int .u8 0))) [] = Blk.row 5 (List.map E5 (List.replicate ((a.length : Int).toNat) 0)) [],
        Loop Try.prog (sub (codeOf Try.prog 69) [1, 1, 0, 1, 0, 0]) (st 22 [(0, V.sl false 5 (List.map E5 a)), (3, V.ow 0), (4, V.sc (.int .i64 0))] [Blk.row 5 (List.map E5 (List.replicate ((a.length : Int).toNat) 0)) []] []) (X.out 0) (st 22 [(3, V.ow 0)] [Blk.row 5 (List.map E5 r1) []] [])]) (by kernel_rfl) (cj (len_nm _ _) (cj rfl (cj (od h1) (cj (cap3 h1 h2) (cj (cap4 h2 (by decide)) (cj (nb_rep E5 _ 0) (cj1 (laws_toByteS_l0_ok a h6 a [] rfl (List.replicate ((a.length : Int).toNat) 0) r1 h7))))))))))) (fun h6 =>
      Pn.none)) (fun h2 =>
     Pn.none)) (fun h1 =>
    Pn.none)
def laws_toSlot (a : Slot) : Option (Slot) :=
 (laws_toByteS a.Reply).bind fun r1 =>
 some (Slot.mk a.Trace a.Mti r1)
theorem laws_toSlot_ok (a : Slot) : Pn (fun y => Fn Try.prog 79 [(false, E125 a)] (E85 y) []) (laws_toSlot a) := by
  unfold laws_toSlot
  exact
   Pn.bind (fun r1 h1 =>
    Pn.some (Fn.of [.call [] (E63 r1) []] (p := [Fn Try.prog 69 [(false, E63 a.Reply)] (E63 r1) [],
     (true || ((E63 r1).nv && nvL [])) = true]) (by kernel_rfl) (cj (laws_toByteS_ok a.Reply r1 h1) (cj1 rfl))))
def laws_toSlotS_l0 (a : List Slot) : List Slot → List Slot → (List Slot) → Option ((List Slot))
  | [], p1, v1 =>
   some v1
  | x1 :: t1, p1, v1 =>
   (laws_toSlot x1).bind fun r1 =>
   (v1[(p1.length : Int).toNat]?).bind fun x2 =>
   laws_toSlotS_l0 a t1 (p1 ++ [x1]) (v1.set ((p1.length : Int).toNat) r1)
theorem laws_toSlotS_l0_ok (a : List Slot) (h4 : capOk a.length = true) : ∀ (t1 p1 : List Slot) (_ : a = p1 ++ t1) (v1 : List Slot), Pn (LpO Try.prog (sub (codeOf Try.prog 63) [1, 1, 0, 1, 0, 0]) (st 23 [(0, V.sl false 125 (List.map E125 a)), (3, V.ow 0), (4, V.sc (.int .i64 (p1.length : Int)))] [Blk.row 85 (List.map E85 v1) []] []) (fun (y : (List Slot)) => (X.out 0, st 23 [(3, V.ow 0)] [Blk.row 85 (List.map E85 y) []] []))) (laws_toSlotS_l0 a t1 p1 v1)
  | [], p1, h3, v1 => by
    unfold laws_toSlotS_l0
    exact
     Pn.some (LpO.out [.wait 3, .nm 10 (V.sc (.int .i64 (a.length : Int))), .bit false, .mask [3], .ren [0]] (p := [V.sc (.int .i64 ((List.map E125 a).length : Int)) = V.sc (.int .i64 (a.length : Int)),
      (decide ((p1.length : Int) < (a.length : Int))) = false]) (by kernel_rfl) (show X.out 0 ≠ X.go from nofun) (cj (len_nm _ _) (cj1 (rng_end h3))))
  | x1 :: t1, p1, h3, v1 => by
    unfold laws_toSlotS_l0
    exact
     Pn.bind (fun r1 h5 =>
      Pn.bind (fun x2 h6 =>
       LpO.go [.wait 3, .nm 10 (V.sc (.int .i64 (a.length : Int))), .bit true, .el (E125 x1), .call [] (E85 r1) [], .wait 1, .foc 0 ((p1.length : Int).toNat) (E85 x2), .fo 0, .wait 4, .shut 0, .nb 0 (.row 85 (List.map E85 (v1.set ((p1.length : Int).toNat) r1)) []), .mask [0, 3, 4], .ren [0], .nm 4 (V.sc (.int .i64 ((p1 ++ [x1]).length : Int)))] (p := [V.sc (.int .i64 ((List.map E125 a).length : Int)) = V.sc (.int .i64 (a.length : Int)),
        (decide ((p1.length : Int) < (a.length : Int))) = true,
        (0 : Int) ≤ (p1.length : Int),
        (List.map E125 a)[(p1.length : Int).toNat]? = some (E125 x1),
        Fn Try.prog 79 [(false, E125 x1)] (E85 r1) [],
        (true || ((E85 r1).nv && nvL [])) = true,
        (0 : Int) ≤ (p1.length : Int),
        ((p1.length : Int) : Int) < ((List.map E85 v1).length : Int),
        look [] ((p1.length : Int).toNat) = none,
        (List.map E85 v1)[(p1.length : Int).toNat]? = some (E85 x2),
        look [((p1.length : Int).toNat, V.agg [V.sc (.string x2.Trace), V.sc (.string x2.Mti), V.ow 2])] ((p1.length : Int).toNat) = some (V.agg [V.sc (.string x2.Trace), V.sc (.string x2.Mti), V.ow 2]),
        ((p1.length : Int).toNat) < (List.map E85 v1).length,
        ((p1.length : Int).toNat) = ((p1.length : Int).toNat),
        Blk.row 85 ((List.map E85 v1).set ((p1.length : Int).toNat) (V.agg [V.sc (.string r1.Trace), V.sc (.string r1.Mti), V.sl true 5 (List.map E5 r1.Reply)])) [] = Blk.row 85 (List.map E85 (v1.set ((p1.length : Int).toNat) r1)) [],
        V.sc (.int .i64 (i64 ((p1.length : Int) + 1))) = V.sc (.int .i64 ((p1 ++ [x1]).length : Int))]) (by kernel_rfl) (cj (len_nm _ _) (cj (rng_lt h3) (cj (by omega) (cj (rng_get _ h3) (cj (laws_toSlot_ok x1 r1 h5) (cj rfl (cj (by omega) (cj (map_ltN (by omega) h6) (cj rfl (cj (map_get h6) (cj (look_cons_self _ _ _) (cj (map_lt h6) (cj rfl (cj (nb_set E85 _ _ r1) (cj1 (rng_next h3 h4)))))))))))))))) (laws_toSlotS_l0_ok a h4 t1 (p1 ++ [x1]) (rng_step h3) (v1.set ((p1.length : Int).toNat) r1))))
def laws_toSlotS (a : List Slot) : Option ((List Slot)) :=
 if (decide (0 ≤ (a.length : Int))) = true then
  if (capOk (a.length : Int).toNat) = true then
   if (capOk a.length) = true then
    (laws_toSlotS_l0 a a [] (List.replicate ((a.length : Int).toNat) (Slot.mk ByteArray.empty ByteArray.empty []))).bind fun r2 =>
    some r2
   else none
  else none
 else none
theorem laws_toSlotS_ok (a : List Slot) : Pn (fun y => Fn Try.prog 63 [(false, E81 a)] (E54 y) []) (laws_toSlotS a) := by
  unfold laws_toSlotS
  exact
   Pn.ite (fun h1 =>
    Pn.ite (fun h2 =>
     Pn.ite (fun h7 =>
      Pn.bind (fun r2 h8 =>
       Pn.some (Fn.of [.wait 3, .nm 6 (V.sc (.int .i64 (a.length : Int))), .wait 1, .nb 0 (.row 85 (List.map E85 (List.replicate ((a.length : Int).toNat) (Slot.mk ByteArray.empty ByteArray.empty []))) []), .wait 3, .mask [0, 3, 4], .ren [0], .loop (X.out 0) (st 23 [(3, V.ow 0)] [Blk.row 85 (List.map E85 r2) []] [])] (p := [V.sc (.int .i64 ((List.map E125 a).length : Int)) = V.sc (.int .i64 (a.length : Int)),
        ((a.length : Int) : Int) = (a.length : Int),
        (0 : Int) ≤ (a.length : Int),
        ((a.length : Int) : Int) ≤ 9223372036854775807,
        56 * (a.length : Int).toNat ≤ 281474976710656,
        Blk.row 85 (List.replicate ((a.length : Int).toNat) (V.agg [V.sc (.string ByteArray.empty), V.sc (.string ByteArray.empty), V.sl true 5 ([] : List V)])) [] = Blk.row 85 (List.map E85 (List.replicate ((a.length : Int).toNat) (Slot.mk ByteArray.empty ByteArray.empty []))) [],
        Loop Try.prog (sub (codeOf Try.prog 63) [1, 1, 0, 1, 0, 0]) (st 23 [(0, V.sl false 125 (List.map E125 a)), (3, V.ow 0), (4, V.sc (.int .i64 0))] [Blk.row 85 (List.map E85 (List.replicate ((a.length : Int).toNat) (Slot.mk ByteArray.empty ByteArray.empty []))) []] []) (X.out 0) (st 23 [(3, V.ow 0)] [Blk.row 85 (List.map E85 r2) []] [])]) (by kernel_rfl) (cj (len_nm _ _) (cj rfl (cj (od h1) (cj (cap3 h1 h2) (cj (cap4 h2 (by decide)) (cj (nb_rep E85 _ (Slot.mk ByteArray.empty ByteArray.empty [])) (cj1 (laws_toSlotS_l0_ok a h7 a [] rfl (List.replicate ((a.length : Int).toNat) (Slot.mk ByteArray.empty ByteArray.empty [])) r2 h8))))))))))) (fun h7 =>
      Pn.none)) (fun h2 =>
     Pn.none)) (fun h1 =>
    Pn.none)
def laws_toAcct (a : Acct) : Option (Acct) :=
 (laws_toHoldS a.Holds).bind fun r1 =>
 (laws_toRing a.Ring).bind fun r2 =>
 (laws_toSlotS a.Slots).bind fun r3 =>
 some (Acct.mk a.Id a.Limit a.Posted a.Most a.MostSum r1 r2 r3)
theorem laws_toAcct_ok (a : Acct) : Pn (fun y => Fn Try.prog 40 [(false, E83 a)] (E56 y) []) (laws_toAcct a) := by
  unfold laws_toAcct
  exact
   Pn.bind (fun r1 h1 =>
    Pn.bind (fun r2 h2 =>
     Pn.bind (fun r3 h3 =>
      Pn.some (Fn.of [.call [] (E50 r1) [], .call [] (E53 r2) [], .call [] (E54 r3) []] (p := [Fn Try.prog 61 [(false, E79 a.Holds)] (E50 r1) [],
       (true || ((E50 r1).nv && nvL [])) = true,
       Fn Try.prog 62 [(false, E80 a.Ring)] (E53 r2) [],
       (true || ((E53 r2).nv && nvL [])) = true,
       Fn Try.prog 63 [(false, E81 a.Slots)] (E54 r3) [],
       (true || ((E54 r3).nv && nvL [])) = true]) (by kernel_rfl) (cj (laws_toHoldS_ok a.Holds r1 h1) (cj rfl (cj (laws_toRing_ok a.Ring r2 h2) (cj rfl (cj (laws_toSlotS_ok a.Slots r3 h3) (cj1 rfl))))))))))
def laws_toAcctS_l0 (a : List Acct) : List Acct → List Acct → (List Acct) → Option ((List Acct))
  | [], p1, v1 =>
   some v1
  | x1 :: t1, p1, v1 =>
   (laws_toAcct x1).bind fun r1 =>
   (v1[(p1.length : Int).toNat]?).bind fun x2 =>
   laws_toAcctS_l0 a t1 (p1 ++ [x1]) (v1.set ((p1.length : Int).toNat) r1)
theorem laws_toAcctS_l0_ok (a : List Acct) (h4 : capOk a.length = true) : ∀ (t1 p1 : List Acct) (_ : a = p1 ++ t1) (v1 : List Acct), Pn (LpO Try.prog (sub (codeOf Try.prog 21) [1, 1, 0, 1, 0, 0]) (st 23 [(0, V.sl false 83 (List.map E83 a)), (3, V.ow 0), (4, V.sc (.int .i64 (p1.length : Int)))] [Blk.row 56 (List.map E56 v1) []] []) (fun (y : (List Acct)) => (X.out 0, st 23 [(3, V.ow 0)] [Blk.row 56 (List.map E56 y) []] []))) (laws_toAcctS_l0 a t1 p1 v1)
  | [], p1, h3, v1 => by
    unfold laws_toAcctS_l0
    exact
     Pn.some (LpO.out [.wait 3, .nm 10 (V.sc (.int .i64 (a.length : Int))), .bit false, .mask [3], .ren [0]] (p := [V.sc (.int .i64 ((List.map E83 a).length : Int)) = V.sc (.int .i64 (a.length : Int)),
      (decide ((p1.length : Int) < (a.length : Int))) = false]) (by kernel_rfl) (show X.out 0 ≠ X.go from nofun) (cj (len_nm _ _) (cj1 (rng_end h3))))
  | x1 :: t1, p1, h3, v1 => by
    unfold laws_toAcctS_l0
    exact
     Pn.bind (fun r1 h5 =>
      Pn.bind (fun x2 h6 =>
       LpO.go [.wait 3, .nm 10 (V.sc (.int .i64 (a.length : Int))), .bit true, .el (E83 x1), .call [] (E56 r1) [], .wait 1, .foc 0 ((p1.length : Int).toNat) (E56 x2), .fo 0, .wait 4, .shut 0, .nb 0 (.row 56 (List.map E56 (v1.set ((p1.length : Int).toNat) r1)) []), .mask [0, 3, 4], .ren [0], .nm 4 (V.sc (.int .i64 ((p1 ++ [x1]).length : Int)))] (p := [V.sc (.int .i64 ((List.map E83 a).length : Int)) = V.sc (.int .i64 (a.length : Int)),
        (decide ((p1.length : Int) < (a.length : Int))) = true,
        (0 : Int) ≤ (p1.length : Int),
        (List.map E83 a)[(p1.length : Int).toNat]? = some (E83 x1),
        Fn Try.prog 40 [(false, E83 x1)] (E56 r1) [],
        (true || ((E56 r1).nv && nvL [])) = true,
        (0 : Int) ≤ (p1.length : Int),
        ((p1.length : Int) : Int) < ((List.map E56 v1).length : Int),
        look [] ((p1.length : Int).toNat) = none,
        (List.map E56 v1)[(p1.length : Int).toNat]? = some (E56 x2),
        look [((p1.length : Int).toNat, V.agg [V.sc (.string x2.Id), V.sc (.int .i64 x2.Limit), V.sc (.int .i64 x2.Posted), V.sc (.int .i64 x2.Most), V.sc (.int .i64 x2.MostSum), V.ow 5, V.sc (.int .i64 x2.Ring.Span), V.sc (.int .i64 x2.Ring.Head), V.ow 6, V.ow 7, V.ow 8])] ((p1.length : Int).toNat) = some (V.agg [V.sc (.string x2.Id), V.sc (.int .i64 x2.Limit), V.sc (.int .i64 x2.Posted), V.sc (.int .i64 x2.Most), V.sc (.int .i64 x2.MostSum), V.ow 5, V.sc (.int .i64 x2.Ring.Span), V.sc (.int .i64 x2.Ring.Head), V.ow 6, V.ow 7, V.ow 8]),
        ((p1.length : Int).toNat) < (List.map E56 v1).length,
        ((p1.length : Int).toNat) = ((p1.length : Int).toNat),
        Blk.row 56 ((List.map E56 v1).set ((p1.length : Int).toNat) (V.agg [V.sc (.string r1.Id), V.sc (.int .i64 r1.Limit), V.sc (.int .i64 r1.Posted), V.sc (.int .i64 r1.Most), V.sc (.int .i64 r1.MostSum), V.sl true 126 (List.map E126 r1.Holds), V.sc (.int .i64 r1.Ring.Span), V.sc (.int .i64 r1.Ring.Head), V.sl true 3 (List.map E3 r1.Ring.Counts), V.sl true 3 (List.map E3 r1.Ring.Sums), V.sl true 85 (List.map E85 r1.Slots)])) [] = Blk.row 56 (List.map E56 (v1.set ((p1.length : Int).toNat) r1)) [],
        V.sc (.int .i64 (i64 ((p1.length : Int) + 1))) = V.sc (.int .i64 ((p1 ++ [x1]).length : Int))]) (by kernel_rfl) (cj (len_nm _ _) (cj (rng_lt h3) (cj (by omega) (cj (rng_get _ h3) (cj (laws_toAcct_ok x1 r1 h5) (cj rfl (cj (by omega) (cj (map_ltN (by omega) h6) (cj rfl (cj (map_get h6) (cj (look_cons_self _ _ _) (cj (map_lt h6) (cj rfl (cj (nb_set E56 _ _ r1) (cj1 (rng_next h3 h4)))))))))))))))) (laws_toAcctS_l0_ok a h4 t1 (p1 ++ [x1]) (rng_step h3) (v1.set ((p1.length : Int).toNat) r1))))
def laws_toAcctS (a : List Acct) : Option ((List Acct)) :=
 if (decide (0 ≤ (a.length : Int))) = true then
  if (capOk (a.length : Int).toNat) = true then
   if (capOk a.length) = true then
    (laws_toAcctS_l0 a a [] (List.replicate ((a.length : Int).toNat) (Acct.mk ByteArray.empty 0 0 0 0 [] (Ring.mk 0 0 [] []) []))).bind fun r2 =>
    some r2
   else none
  else none
 else none
theorem laws_toAcctS_ok (a : List Acct) : Pn (fun y => Fn Try.prog 21 [(false, E22 a)] (E27 y) []) (laws_toAcctS a) := by
  unfold laws_toAcctS
  exact
   Pn.ite (fun h1 =>
    Pn.ite (fun h2 =>
     Pn.ite (fun h7 =>
      Pn.bind (fun r2 h8 =>
       Pn.some (Fn.of [.wait 3, .nm 6 (V.sc (.int .i64 (a.length : Int))), .wait 1, .nb 0 (.row 56 (List.map E56 (List.replicate ((a.length : Int).toNat) (Acct.mk ByteArray.empty 0 0 0 0 [] (Ring.mk 0 0 [] []) []))) []), .wait 3, .mask [0, 3, 4], .ren [0], .loop (X.out 0) (st 23 [(3, V.ow 0)] [Blk.row 56 (List.map E56 r2) []] [])] (p := [V.sc (.int .i64 ((List.map E83 a).length : Int)) = V.sc (.int .i64 (a.length : Int)),
        ((a.length : Int) : Int) = (a.length : Int),
        (0 : Int) ≤ (a.length : Int),
        ((a.length : Int) : Int) ≤ 9223372036854775807,
        160 * (a.length : Int).toNat ≤ 281474976710656,
        Blk.row 56 (List.replicate ((a.length : Int).toNat) (V.agg [V.sc (.string ByteArray.empty), V.sc (.int .i64 0), V.sc (.int .i64 0), V.sc (.int .i64 0), V.sc (.int .i64 0), V.sl true 126 ([] : List V), V.sc (.int .i64 0), V.sc (.int .i64 0), V.sl true 3 ([] : List V), V.sl true 3 ([] : List V), V.sl true 85 ([] : List V)])) [] = Blk.row 56 (List.map E56 (List.replicate ((a.length : Int).toNat) (Acct.mk ByteArray.empty 0 0 0 0 [] (Ring.mk 0 0 [] []) []))) [],
        Loop Try.prog (sub (codeOf Try.prog 21) [1, 1, 0, 1, 0, 0]) (st 23 [(0, V.sl false 83 (List.map E83 a)), (3, V.ow 0), (4, V.sc (.int .i64 0))] [Blk.row 56 (List.map E56 (List.replicate ((a.length : Int).toNat) (Acct.mk ByteArray.empty 0 0 0 0 [] (Ring.mk 0 0 [] []) []))) []] []) (X.out 0) (st 23 [(3, V.ow 0)] [Blk.row 56 (List.map E56 r2) []] [])]) (by kernel_rfl) (cj (len_nm _ _) (cj rfl (cj (od h1) (cj (cap3 h1 h2) (cj (cap4 h2 (by decide)) (cj (nb_rep E56 _ (Acct.mk ByteArray.empty 0 0 0 0 [] (Ring.mk 0 0 [] []) [])) (cj1 (laws_toAcctS_l0_ok a h7 a [] rfl (List.replicate ((a.length : Int).toNat) (Acct.mk ByteArray.empty 0 0 0 0 [] (Ring.mk 0 0 [] []) [])) r2 h8))))))))))) (fun h7 =>
      Pn.none)) (fun h2 =>
     Pn.none)) (fun h1 =>
    Pn.none)
def laws_toBook (a : Book) : Option (Book) :=
 (laws_toAcctS a.Accts).bind fun r1 =>
 some (Book.mk r1)
theorem laws_toBook_ok (a : Book) : Pn (fun y => Fn Try.prog 7 [(false, E24 a)] (E29 y) []) (laws_toBook a) := by
  unfold laws_toBook
  exact
   Pn.bind (fun r1 h1 =>
    Pn.some (Fn.of [.call [] (E27 r1) []] (p := [Fn Try.prog 21 [(false, E22 a.Accts)] (E27 r1) [],
     (true || ((E27 r1).nv && nvL [])) = true]) (by kernel_rfl) (cj (laws_toAcctS_ok a.Accts r1 h1) (cj1 rfl))))
def spec_SlotsSame_l0 (a : List Slot) (b : List Slot) : List Slot → List Slot → Option (Lo Unit Unit)
  | [], p1 =>
   some (.out ())
  | x1 :: t1, p1 =>
   (b[(p1.length : Int).toNat]?).bind fun x2 =>
   if (x1.Trace == x2.Trace) = true then
    if (x1.Mti == x2.Mti) = true then
     if ((bstr x1.Reply) == (bstr x2.Reply)) = true then
      spec_SlotsSame_l0 a b t1 (p1 ++ [x1])
     else
      some (.ret ())
    else
     some (.ret ())
   else
    some (.ret ())
theorem spec_SlotsSame_l0_ok (a : List Slot) (b : List Slot) (h3 : capOk a.length = true) : ∀ (t1 p1 : List Slot) (_ : a = p1 ++ t1) , Pn (LpO Try.prog (sub (codeOf Try.prog 20) [1, 1, 0, 1, 0, 0]) (st 50 [(1, V.sl false 85 (List.map E85 b)), (12, V.sl false 85 (List.map E85 a)), (13, V.sc (.int .i64 (a.length : Int))), (14, V.sc (.int .i64 (p1.length : Int)))] [] []) (fun (y : Lo Unit Unit) => Lo.elim y (fun s => (X.out 0, st 50 [] [] [])) (fun s => (X.ret, st 50 [(4, V.sc (.bool false))] [] [])))) (spec_SlotsSame_l0 a b t1 p1)
  | [], p1, h2 => by
    unfold spec_SlotsSame_l0
    exact
     Pn.some (LpO.out [.bit false, .mask [], .ren []] (p := [(decide ((p1.length : Int) < (a.length : Int))) = false]) (by kernel_rfl) (show X.out 0 ≠ X.go from nofun) (cj1 (rng_end h2)))
  | x1 :: t1, p1, h2 => by
    unfold spec_SlotsSame_l0
    exact
     Pn.bind (fun x2 h4 =>
      Pn.ite (fun h5 =>
       Pn.ite (fun h6 =>
        Pn.ite (fun h7 =>
         LpO.go [.bit true, .el (E85 x1), .draw [], .el (E85 x2), .bit false, .bit false, .bit false, .bit false, .bit false, .el (E85 x2), .bit false, .bit false, .bit false, .bit false, .bit false, .bit false, .bit false, .ints x1.Reply, .bit false, .bit false, .bit false, .el (E85 x2), .bit false, .bit false, .bit false, .ints x2.Reply, .bit false, .bit false, .bit false, .wait 2, .mask [1, 12, 13, 14], .ren [], .nm 14 (V.sc (.int .i64 ((p1 ++ [x1]).length : Int)))] (p := [(decide ((p1.length : Int) < (a.length : Int))) = true,
          (0 : Int) ≤ (p1.length : Int),
          (List.map E85 a)[(p1.length : Int).toNat]? = some (E85 x1),
          (0 : Int) ≤ (p1.length : Int),
          (List.map E85 b)[(p1.length : Int).toNat]? = some (E85 x2),
          (!(x1.Trace == x2.Trace)) = false,
          (!(x1.Trace == x2.Trace)) = false,
          (!(x1.Trace == x2.Trace)) = false,
          (!(x1.Trace == x2.Trace)) = false,
          (!(x1.Trace == x2.Trace)) = false,
          (0 : Int) ≤ (p1.length : Int),
          (List.map E85 b)[(p1.length : Int).toNat]? = some (E85 x2),
          (!(x1.Trace == x2.Trace)) = false,
          (!(x1.Trace == x2.Trace)) = false,
          (!(x1.Trace == x2.Trace)) = false,
          (!(x1.Trace == x2.Trace)) = false,
          (!(x1.Mti == x2.Mti)) = false,
          (!(x1.Mti == x2.Mti)) = false,
          (!(x1.Mti == x2.Mti)) = false,
          (List.map E5 x1.Reply) = x1.Reply.map fun n => V.sc (.int .u8 n),
          (!(x1.Mti == x2.Mti)) = false,
          (!(x1.Mti == x2.Mti)) = false,
          (!(x1.Mti == x2.Mti)) = false,
          (0 : Int) ≤ (p1.length : Int),
          (List.map E85 b)[(p1.length : Int).toNat]? = some (E85 x2),
          (!(x1.Mti == x2.Mti)) = false,
          (!(x1.Mti == x2.Mti)) = false,
          (!(x1.Mti == x2.Mti)) = false,
          (List.map E5 x2.Reply) = x2.Reply.map fun n => V.sc (.int .u8 n),
          (!(x1.Mti == x2.Mti)) = false,
          (!(x1.Mti == x2.Mti)) = false,
          (!((bstr x1.Reply) == (bstr x2.Reply))) = false,
          V.sc (.int .i64 (i64 ((p1.length : Int) + 1))) = V.sc (.int .i64 ((p1 ++ [x1]).length : Int))]) (by kernel_rfl) (cj (rng_lt h2) (cj (by omega) (cj (rng_get _ h2) (cj (by omega) (cj (map_get h4) (cj (nf h5) (cj (nf h5) (cj (nf h5) (cj (nf h5) (cj (nf h5) (cj (by omega) (cj (map_get h4) (cj (nf h5) (cj (nf h5) (cj (nf h5) (cj (nf h5) (cj (nf h6) (cj (nf h6) (cj (nf h6) (cj rfl (cj (nf h6) (cj (nf h6) (cj (nf h6) (cj (by omega) (cj (map_get h4) (cj (nf h6) (cj (nf h6) (cj (nf h6) (cj rfl (cj (nf h6) (cj (nf h6) (cj (nf h7) (cj1 (rng_next h2 h3)))))))))))))))))))))))))))))))))) (spec_SlotsSame_l0_ok a b h3 t1 (p1 ++ [x1]) (rng_step h2))) (fun h7 =>
         Pn.some (LpO.out [.bit true, .el (E85 x1), .draw [], .el (E85 x2), .bit false, .bit false, .bit false, .bit false, .bit false, .el (E85 x2), .bit false, .bit false, .bit false, .bit false, .bit false, .bit false, .bit false, .ints x1.Reply, .bit false, .bit false, .bit false, .el (E85 x2), .bit false, .bit false, .bit false, .ints x2.Reply, .bit false, .bit false, .bit true, .wait 1, .mask [4], .ren []] (p := [(decide ((p1.length : Int) < (a.length : Int))) = true,
          (0 : Int) ≤ (p1.length : Int),
          (List.map E85 a)[(p1.length : Int).toNat]? = some (E85 x1),
          (0 : Int) ≤ (p1.length : Int),
          (List.map E85 b)[(p1.length : Int).toNat]? = some (E85 x2),
          (!(x1.Trace == x2.Trace)) = false,
          (!(x1.Trace == x2.Trace)) = false,
          (!(x1.Trace == x2.Trace)) = false,
          (!(x1.Trace == x2.Trace)) = false,
          (!(x1.Trace == x2.Trace)) = false,
          (0 : Int) ≤ (p1.length : Int),
          (List.map E85 b)[(p1.length : Int).toNat]? = some (E85 x2),
          (!(x1.Trace == x2.Trace)) = false,
          (!(x1.Trace == x2.Trace)) = false,
          (!(x1.Trace == x2.Trace)) = false,
          (!(x1.Trace == x2.Trace)) = false,
          (!(x1.Mti == x2.Mti)) = false,
          (!(x1.Mti == x2.Mti)) = false,
          (!(x1.Mti == x2.Mti)) = false,
          (List.map E5 x1.Reply) = x1.Reply.map fun n => V.sc (.int .u8 n),
          (!(x1.Mti == x2.Mti)) = false,
          (!(x1.Mti == x2.Mti)) = false,
          (!(x1.Mti == x2.Mti)) = false,
          (0 : Int) ≤ (p1.length : Int),
          (List.map E85 b)[(p1.length : Int).toNat]? = some (E85 x2),
          (!(x1.Mti == x2.Mti)) = false,
          (!(x1.Mti == x2.Mti)) = false,
          (!(x1.Mti == x2.Mti)) = false,
          (List.map E5 x2.Reply) = x2.Reply.map fun n => V.sc (.int .u8 n),
          (!(x1.Mti == x2.Mti)) = false,
          (!(x1.Mti == x2.Mti)) = false,
          (!((bstr x1.Reply) == (bstr x2.Reply))) = true]) (by kernel_rfl) (show X.ret ≠ X.go from nofun) (cj (rng_lt h2) (cj (by omega) (cj (rng_get _ h2) (cj (by omega) (cj (map_get h4) (cj (nf h5) (cj (nf h5) (cj (nf h5) (cj (nf h5) (cj (nf h5) (cj (by omega) (cj (map_get h4) (cj (nf h5) (cj (nf h5) (cj (nf h5) (cj (nf h5) (cj (nf h6) (cj (nf h6) (cj (nf h6) (cj rfl (cj (nf h6) (cj (nf h6) (cj (nf h6) (cj (by omega) (cj (map_get h4) (cj (nf h6) (cj (nf h6) (cj (nf h6) (cj rfl (cj (nf h6) (cj (nf h6) (cj1 (nt h7)))))))))))))))))))))))))))))))))))) (fun h6 =>
        Pn.some (LpO.out [.bit true, .el (E85 x1), .draw [], .el (E85 x2), .bit false, .bit false, .bit false, .bit false, .bit false, .el (E85 x2), .bit false, .bit false, .bit false, .bit false, .bit true, .bit true, .bit true, .bit true, .bit true, .bit true, .bit true, .bit true, .bit true, .bit true, .bit true, .bit true, .wait 1, .mask [4], .ren []] (p := [(decide ((p1.length : Int) < (a.length : Int))) = true,
         (0 : Int) ≤ (p1.length : Int),
         (List.map E85 a)[(p1.length : Int).toNat]? = some (E85 x1),
         (0 : Int) ≤ (p1.length : Int),
         (List.map E85 b)[(p1.length : Int).toNat]? = some (E85 x2),
         (!(x1.Trace == x2.Trace)) = false,
         (!(x1.Trace == x2.Trace)) = false,
         (!(x1.Trace == x2.Trace)) = false,
         (!(x1.Trace == x2.Trace)) = false,
         (!(x1.Trace == x2.Trace)) = false,
         (0 : Int) ≤ (p1.length : Int),
         (List.map E85 b)[(p1.length : Int).toNat]? = some (E85 x2),
         (!(x1.Trace == x2.Trace)) = false,
         (!(x1.Trace == x2.Trace)) = false,
         (!(x1.Trace == x2.Trace)) = false,
         (!(x1.Trace == x2.Trace)) = false,
         (!(x1.Mti == x2.Mti)) = true,
         (!(x1.Mti == x2.Mti)) = true,
         (!(x1.Mti == x2.Mti)) = true,
         (!(x1.Mti == x2.Mti)) = true,
         (!(x1.Mti == x2.Mti)) = true,
         (!(x1.Mti == x2.Mti)) = true,
         (!(x1.Mti == x2.Mti)) = true,
         (!(x1.Mti == x2.Mti)) = true,
         (!(x1.Mti == x2.Mti)) = true,
         (!(x1.Mti == x2.Mti)) = true,
         (!(x1.Mti == x2.Mti)) = true,
         true = true]) (by kernel_rfl) (show X.ret ≠ X.go from nofun) (cj (rng_lt h2) (cj (by omega) (cj (rng_get _ h2) (cj (by omega) (cj (map_get h4) (cj (nf h5) (cj (nf h5) (cj (nf h5) (cj (nf h5) (cj (nf h5) (cj (by omega) (cj (map_get h4) (cj (nf h5) (cj (nf h5) (cj (nf h5) (cj (nf h5) (cj (nt h6) (cj (nt h6) (cj (nt h6) (cj (nt h6) (cj (nt h6) (cj (nt h6) (cj (nt h6) (cj (nt h6) (cj (nt h6) (cj (nt h6) (cj (nt h6) (cj1 rfl))))))))))))))))))))))))))))))) (fun h5 =>
       Pn.some (LpO.out [.bit true, .el (E85 x1), .draw [], .el (E85 x2), .bit true, .bit true, .bit true, .bit true, .bit true, .bit true, .bit true, .bit true, .bit true, .bit true, .bit true, .bit true, .bit true, .bit true, .bit true, .bit true, .bit true, .bit true, .bit true, .bit true, .bit true, .wait 1, .mask [4], .ren []] (p := [(decide ((p1.length : Int) < (a.length : Int))) = true,
        (0 : Int) ≤ (p1.length : Int),
        (List.map E85 a)[(p1.length : Int).toNat]? = some (E85 x1),
        (0 : Int) ≤ (p1.length : Int),
        (List.map E85 b)[(p1.length : Int).toNat]? = some (E85 x2),
        (!(x1.Trace == x2.Trace)) = true,
        (!(x1.Trace == x2.Trace)) = true,
        (!(x1.Trace == x2.Trace)) = true,
        (!(x1.Trace == x2.Trace)) = true,
        (!(x1.Trace == x2.Trace)) = true,
        (!(x1.Trace == x2.Trace)) = true,
        (!(x1.Trace == x2.Trace)) = true,
        (!(x1.Trace == x2.Trace)) = true,
        (!(x1.Trace == x2.Trace)) = true,
        true = true,
        true = true,
        true = true,
        true = true,
        true = true,
        true = true,
        true = true,
        true = true,
        true = true,
        true = true,
        true = true,
        true = true]) (by kernel_rfl) (show X.ret ≠ X.go from nofun) (cj (rng_lt h2) (cj (by omega) (cj (rng_get _ h2) (cj (by omega) (cj (map_get h4) (cj (nt h5) (cj (nt h5) (cj (nt h5) (cj (nt h5) (cj (nt h5) (cj (nt h5) (cj (nt h5) (cj (nt h5) (cj (nt h5) (cj rfl (cj rfl (cj rfl (cj rfl (cj rfl (cj rfl (cj rfl (cj rfl (cj rfl (cj rfl (cj rfl (cj1 rfl)))))))))))))))))))))))))))))
def spec_SlotsSame (a : List Slot) (b : List Slot) : Option (Bool) :=
 if ((a.length : Int) != (b.length : Int)) = true then
  some false
 else
  if (capOk a.length) = true then
   (spec_SlotsSame_l0 a b a []).bind fun r1 =>
   Lo.elim r1 (fun s1 =>
    some true) (fun s2 =>
    some false)
  else none
theorem spec_SlotsSame_ok (a : List Slot) (b : List Slot) : Pn (fun y => Fn Try.prog 20 [(false, E54 a), (false, E54 b)] (E4 y) []) (spec_SlotsSame a b) := by
  unfold spec_SlotsSame
  exact
   Pn.ite (fun h1 =>
    Pn.some (Fn.of [.wait 3, .nm 8 (V.sc (.int .i64 (a.length : Int))), .wait 2, .nm 10 (V.sc (.int .i64 (b.length : Int))), .bit true] (p := [V.sc (.int .i64 ((List.map E85 a).length : Int)) = V.sc (.int .i64 (a.length : Int)),
     V.sc (.int .i64 ((List.map E85 b).length : Int)) = V.sc (.int .i64 (b.length : Int)),
     ((a.length : Int) != (b.length : Int)) = true]) (by kernel_rfl) (cj (len_nm _ _) (cj (len_nm _ _) (cj1 h1))))) (fun h1 =>
    Pn.ite (fun h8 =>
     Pn.bind (fun r1 h9 =>
      Pn.lo (fun s1 h10 =>
       Pn.some (Fn.of [.wait 3, .nm 8 (V.sc (.int .i64 (a.length : Int))), .wait 2, .nm 10 (V.sc (.int .i64 (b.length : Int))), .bit false, .wait 1, .nm 13 (V.sc (.int .i64 (a.length : Int))), .wait 2, .mask [1, 12, 13, 14], .ren [], .loop (X.out 0) (st 50 [] [] [])] (p := [V.sc (.int .i64 ((List.map E85 a).length : Int)) = V.sc (.int .i64 (a.length : Int)),
        V.sc (.int .i64 ((List.map E85 b).length : Int)) = V.sc (.int .i64 (b.length : Int)),
        ((a.length : Int) != (b.length : Int)) = false,
        V.sc (.int .i64 ((List.map E85 a).length : Int)) = V.sc (.int .i64 (a.length : Int)),
        Loop Try.prog (sub (codeOf Try.prog 20) [1, 1, 0, 1, 0, 0]) (st 50 [(1, V.sl false 85 (List.map E85 b)), (12, V.sl false 85 (List.map E85 a)), (13, V.sc (.int .i64 (a.length : Int))), (14, V.sc (.int .i64 0))] [] []) (X.out 0) (st 50 [] [] [])]) (by kernel_rfl) (cj (len_nm _ _) (cj (len_nm _ _) (cj h1 (cj (len_nm _ _) (cj1 ((spec_SlotsSame_l0_ok a b h8 a [] rfl r1 h9).at h10)))))))) (fun s2 h11 =>
       Pn.some (Fn.of [.wait 3, .nm 8 (V.sc (.int .i64 (a.length : Int))), .wait 2, .nm 10 (V.sc (.int .i64 (b.length : Int))), .bit false, .wait 1, .nm 13 (V.sc (.int .i64 (a.length : Int))), .wait 2, .mask [1, 12, 13, 14], .ren [], .loop (X.ret) (st 50 [(4, V.sc (.bool false))] [] [])] (p := [V.sc (.int .i64 ((List.map E85 a).length : Int)) = V.sc (.int .i64 (a.length : Int)),
        V.sc (.int .i64 ((List.map E85 b).length : Int)) = V.sc (.int .i64 (b.length : Int)),
        ((a.length : Int) != (b.length : Int)) = false,
        V.sc (.int .i64 ((List.map E85 a).length : Int)) = V.sc (.int .i64 (a.length : Int)),
        Loop Try.prog (sub (codeOf Try.prog 20) [1, 1, 0, 1, 0, 0]) (st 50 [(1, V.sl false 85 (List.map E85 b)), (12, V.sl false 85 (List.map E85 a)), (13, V.sc (.int .i64 (a.length : Int))), (14, V.sc (.int .i64 0))] [] []) (X.ret) (st 50 [(4, V.sc (.bool false))] [] [])]) (by kernel_rfl) (cj (len_nm _ _) (cj (len_nm _ _) (cj h1 (cj (len_nm _ _) (cj1 ((spec_SlotsSame_l0_ok a b h8 a [] rfl r1 h9).at h11)))))))))) (fun h8 =>
     Pn.none))
def spec_Kept_l0 (a : Book) (b : Book) : List Acct → List Acct → Option (Lo Unit Unit)
  | [], p1 =>
   some (.out ())
  | x1 :: t1, p1 =>
   (b.Accts[(p1.length : Int).toNat]?).bind fun x2 =>
   if (decide ((x2.Slots.length : Int) < (x1.Slots.length : Int))) = true then
    some (.ret ())
   else
    if (decide (0 ≤ (x1.Slots.length : Int))) = true then
     if (decide ((x1.Slots.length : Int) ≤ (x2.Slots.length : Int))) = true then
      (spec_SlotsSame x1.Slots ((x2.Slots.take ((x1.Slots.length : Int).toNat)).drop 0)).bind fun r1 =>
      if r1 = true then
       spec_Kept_l0 a b t1 (p1 ++ [x1])
      else
       some (.ret ())
     else none
    else none
theorem spec_Kept_l0_ok (a : Book) (b : Book) (h3 : capOk a.Accts.length = true) : ∀ (t1 p1 : List Acct) (_ : a.Accts = p1 ++ t1) , Pn (LpO Try.prog (sub (codeOf Try.prog 6) [1, 1, 0, 1, 0, 0]) (st 47 [(3, V.ptr 0 0), (16, V.sl false 56 (List.map E56 a.Accts)), (17, V.sc (.int .i64 (a.Accts.length : Int))), (18, V.sc (.int .i64 (p1.length : Int)))] [Blk.box 29 [V.sl false 56 (List.map E56 b.Accts)]] []) (fun (y : Lo Unit Unit) => Lo.elim y (fun s => (X.out 0, st 47 [] [] [])) (fun s => (X.ret, st 47 [(4, V.sc (.bool false))] [] [])))) (spec_Kept_l0 a b t1 p1)
  | [], p1, h2 => by
    unfold spec_Kept_l0
    exact
     Pn.some (LpO.out [.bit false, .mask [], .ren []] (p := [(decide ((p1.length : Int) < (a.Accts.length : Int))) = false]) (by kernel_rfl) (show X.out 0 ≠ X.go from nofun) (cj1 (rng_end h2)))
  | x1 :: t1, p1, h2 => by
    unfold spec_Kept_l0
    exact
     Pn.bind (fun x2 h4 =>
      Pn.ite (fun h5 =>
       Pn.some (LpO.out [.bit true, .el (E56 x1), .el (E56 x2), .draw [], .wait 1, .nm 30 (V.sc (.int .i64 (x2.Slots.length : Int))), .wait 3, .nm 33 (V.sc (.int .i64 (x1.Slots.length : Int))), .bit true, .bit true, .bit true, .bit true, .bit true, .bit true, .bit true, .bit true, .bit true, .bit true, .bit true, .wait 1, .mask [4], .ren []] (p := [(decide ((p1.length : Int) < (a.Accts.length : Int))) = true,
        (0 : Int) ≤ (p1.length : Int),
        (List.map E56 a.Accts)[(p1.length : Int).toNat]? = some (E56 x1),
        (0 : Int) ≤ (p1.length : Int),
        (List.map E56 b.Accts)[(p1.length : Int).toNat]? = some (E56 x2),
        V.sc (.int .i64 ((List.map E85 x2.Slots).length : Int)) = V.sc (.int .i64 (x2.Slots.length : Int)),
        V.sc (.int .i64 ((List.map E85 x1.Slots).length : Int)) = V.sc (.int .i64 (x1.Slots.length : Int)),
        (decide ((x2.Slots.length : Int) < (x1.Slots.length : Int))) = true,
        (decide ((x2.Slots.length : Int) < (x1.Slots.length : Int))) = true,
        (decide ((x2.Slots.length : Int) < (x1.Slots.length : Int))) = true,
        (decide ((x2.Slots.length : Int) < (x1.Slots.length : Int))) = true,
        (decide ((x2.Slots.length : Int) < (x1.Slots.length : Int))) = true,
        (decide ((x2.Slots.length : Int) < (x1.Slots.length : Int))) = true,
        (decide ((x2.Slots.length : Int) < (x1.Slots.length : Int))) = true,
        (decide ((x2.Slots.length : Int) < (x1.Slots.length : Int))) = true,
        (decide ((x2.Slots.length : Int) < (x1.Slots.length : Int))) = true,
        (decide ((x2.Slots.length : Int) < (x1.Slots.length : Int))) = true,
        true = true]) (by kernel_rfl) (show X.ret ≠ X.go from nofun) (cj (rng_lt h2) (cj (by omega) (cj (rng_get _ h2) (cj (by omega) (cj (map_get h4) (cj (len_nm _ _) (cj (len_nm _ _) (cj h5 (cj h5 (cj h5 (cj h5 (cj h5 (cj h5 (cj h5 (cj h5 (cj h5 (cj h5 (cj1 rfl)))))))))))))))))))) (fun h5 =>
       Pn.ite (fun h6 =>
        Pn.ite (fun h7 =>
         Pn.bind (fun r1 h8 =>
          Pn.ite (fun h9 =>
           LpO.go [.bit true, .el (E56 x1), .el (E56 x2), .draw [], .wait 1, .nm 30 (V.sc (.int .i64 (x2.Slots.length : Int))), .wait 3, .nm 33 (V.sc (.int .i64 (x1.Slots.length : Int))), .bit false, .bit false, .bit false, .bit false, .bit false, .bit false, .nm 41 (V.sc (.int .i64 (x1.Slots.length : Int))), .bit false, .nm 42 (V.sl false 85 (List.map E85 ((x2.Slots.take ((x1.Slots.length : Int).toNat)).drop 0))), .bit false, .call [] (E4 r1) [], .bit false, .bit false, .bit false, .wait 2, .mask [3, 16, 17, 18], .ren [0], .nm 18 (V.sc (.int .i64 ((p1 ++ [x1]).length : Int)))] (p := [(decide ((p1.length : Int) < (a.Accts.length : Int))) = true,
            (0 : Int) ≤ (p1.length : Int),
            (List.map E56 a.Accts)[(p1.length : Int).toNat]? = some (E56 x1),
            (0 : Int) ≤ (p1.length : Int),
            (List.map E56 b.Accts)[(p1.length : Int).toNat]? = some (E56 x2),
            V.sc (.int .i64 ((List.map E85 x2.Slots).length : Int)) = V.sc (.int .i64 (x2.Slots.length : Int)),
            V.sc (.int .i64 ((List.map E85 x1.Slots).length : Int)) = V.sc (.int .i64 (x1.Slots.length : Int)),
            (decide ((x2.Slots.length : Int) < (x1.Slots.length : Int))) = false,
            (decide ((x2.Slots.length : Int) < (x1.Slots.length : Int))) = false,
            (decide ((x2.Slots.length : Int) < (x1.Slots.length : Int))) = false,
            (decide ((x2.Slots.length : Int) < (x1.Slots.length : Int))) = false,
            (decide ((x2.Slots.length : Int) < (x1.Slots.length : Int))) = false,
            (decide ((x2.Slots.length : Int) < (x1.Slots.length : Int))) = false,
            V.sc (.int .i64 ((List.map E85 x1.Slots).length : Int)) = V.sc (.int .i64 (x1.Slots.length : Int)),
            (decide ((x2.Slots.length : Int) < (x1.Slots.length : Int))) = false,
            (0 : Int) ≤ 0,
            (0 : Int) ≤ (x1.Slots.length : Int),
            ((x1.Slots.length : Int) : Int) ≤ ((List.map E85 x2.Slots).length : Int),
            V.sl false 85 (((List.map E85 x2.Slots).take ((x1.Slots.length : Int).toNat)).drop 0) = V.sl false 85 (List.map E85 ((x2.Slots.take ((x1.Slots.length : Int).toNat)).drop 0)),
            (decide ((x2.Slots.length : Int) < (x1.Slots.length : Int))) = false,
            Fn Try.prog 20 [(false, E54 x1.Slots), (false, E54 ((x2.Slots.take ((x1.Slots.length : Int).toNat)).drop 0))] (E4 r1) [],
            (true || ((E4 r1).nv && nvL [])) = true,
            (decide ((x2.Slots.length : Int) < (x1.Slots.length : Int))) = false,
            (decide ((x2.Slots.length : Int) < (x1.Slots.length : Int))) = false,
            (!r1) = false,
            V.sc (.int .i64 (i64 ((p1.length : Int) + 1))) = V.sc (.int .i64 ((p1 ++ [x1]).length : Int))]) (by kernel_rfl) (cj (rng_lt h2) (cj (by omega) (cj (rng_get _ h2) (cj (by omega) (cj (map_get h4) (cj (len_nm _ _) (cj (len_nm _ _) (cj h5 (cj h5 (cj h5 (cj h5 (cj h5 (cj h5 (cj (len_nm _ _) (cj h5 (cj (by decide) (cj (od h6) (cj (by rw [List.length_map]; exact (od h7)) (cj (nm_cut _ _ _ _ _) (cj h5 (cj (spec_SlotsSame_ok x1.Slots ((x2.Slots.take ((x1.Slots.length : Int).toNat)).drop 0) r1 h8) (cj rfl (cj h5 (cj h5 (cj (nf h9) (cj1 (rng_next h2 h3))))))))))))))))))))))))))) (spec_Kept_l0_ok a b h3 t1 (p1 ++ [x1]) (rng_step h2))) (fun h9 =>
           Pn.some (LpO.out [.bit true, .el (E56 x1), .el (E56 x2), .draw [], .wait 1, .nm 30 (V.sc (.int .i64 (x2.Slots.length : Int))), .wait 3, .nm 33 (V.sc (.int .i64 (x1.Slots.length : Int))), .bit false, .bit false, .bit false, .bit false, .bit false, .bit false, .nm 41 (V.sc (.int .i64 (x1.Slots.length : Int))), .bit false, .nm 42 (V.sl false 85 (List.map E85 ((x2.Slots.take ((x1.Slots.length : Int).toNat)).drop 0))), .bit false, .call [] (E4 r1) [], .bit false, .bit false, .bit true, .wait 1, .mask [4], .ren []] (p := [(decide ((p1.length : Int) < (a.Accts.length : Int))) = true,
            (0 : Int) ≤ (p1.length : Int),
            (List.map E56 a.Accts)[(p1.length : Int).toNat]? = some (E56 x1),
            (0 : Int) ≤ (p1.length : Int),
            (List.map E56 b.Accts)[(p1.length : Int).toNat]? = some (E56 x2),
            V.sc (.int .i64 ((List.map E85 x2.Slots).length : Int)) = V.sc (.int .i64 (x2.Slots.length : Int)),
            V.sc (.int .i64 ((List.map E85 x1.Slots).length : Int)) = V.sc (.int .i64 (x1.Slots.length : Int)),
            (decide ((x2.Slots.length : Int) < (x1.Slots.length : Int))) = false,
            (decide ((x2.Slots.length : Int) < (x1.Slots.length : Int))) = false,
            (decide ((x2.Slots.length : Int) < (x1.Slots.length : Int))) = false,
            (decide ((x2.Slots.length : Int) < (x1.Slots.length : Int))) = false,
            (decide ((x2.Slots.length : Int) < (x1.Slots.length : Int))) = false,
            (decide ((x2.Slots.length : Int) < (x1.Slots.length : Int))) = false,
            V.sc (.int .i64 ((List.map E85 x1.Slots).length : Int)) = V.sc (.int .i64 (x1.Slots.length : Int)),
            (decide ((x2.Slots.length : Int) < (x1.Slots.length : Int))) = false,
            (0 : Int) ≤ 0,
            (0 : Int) ≤ (x1.Slots.length : Int),
            ((x1.Slots.length : Int) : Int) ≤ ((List.map E85 x2.Slots).length : Int),
            V.sl false 85 (((List.map E85 x2.Slots).take ((x1.Slots.length : Int).toNat)).drop 0) = V.sl false 85 (List.map E85 ((x2.Slots.take ((x1.Slots.length : Int).toNat)).drop 0)),
            (decide ((x2.Slots.length : Int) < (x1.Slots.length : Int))) = false,
            Fn Try.prog 20 [(false, E54 x1.Slots), (false, E54 ((x2.Slots.take ((x1.Slots.length : Int).toNat)).drop 0))] (E4 r1) [],
            (true || ((E4 r1).nv && nvL [])) = true,
            (decide ((x2.Slots.length : Int) < (x1.Slots.length : Int))) = false,
            (decide ((x2.Slots.length : Int) < (x1.Slots.length : Int))) = false,
            (!r1) = true]) (by kernel_rfl) (show X.ret ≠ X.go from nofun) (cj (rng_lt h2) (cj (by omega) (cj (rng_get _ h2) (cj (by omega) (cj (map_get h4) (cj (len_nm _ _) (cj (len_nm _ _) (cj h5 (cj h5 (cj h5 (cj h5 (cj h5 (cj h5 (cj (len_nm _ _) (cj h5 (cj (by decide) (cj (od h6) (cj (by rw [List.length_map]; exact (od h7)) (cj (nm_cut _ _ _ _ _) (cj h5 (cj (spec_SlotsSame_ok x1.Slots ((x2.Slots.take ((x1.Slots.length : Int).toNat)).drop 0) r1 h8) (cj rfl (cj h5 (cj h5 (cj1 (nt h9)))))))))))))))))))))))))))))) (fun h7 =>
         Pn.none)) (fun h6 =>
        Pn.none)))
def spec_Kept (a : Book) (b : Book) : Option (Bool) :=
 if ((a.Accts.length : Int) != (b.Accts.length : Int)) = true then
  some false
 else
  if (capOk a.Accts.length) = true then
   (spec_Kept_l0 a b a.Accts []).bind fun r2 =>
   Lo.elim r2 (fun s1 =>
    some true) (fun s2 =>
    some false)
  else none
theorem spec_Kept_ok (a : Book) (b : Book) : Pn (fun y => Fn Try.prog 6 [(false, E29 a), (false, E29 b)] (E4 y) []) (spec_Kept a b) := by
  unfold spec_Kept
  exact
   Pn.ite (fun h1 =>
    Pn.some (Fn.of [.wait 6, .nm 10 (V.sc (.int .i64 (a.Accts.length : Int))), .wait 3, .nm 13 (V.sc (.int .i64 (b.Accts.length : Int))), .bit true] (p := [V.sc (.int .i64 ((List.map E56 a.Accts).length : Int)) = V.sc (.int .i64 (a.Accts.length : Int)),
     V.sc (.int .i64 ((List.map E56 b.Accts).length : Int)) = V.sc (.int .i64 (b.Accts.length : Int)),
     ((a.Accts.length : Int) != (b.Accts.length : Int)) = true]) (by kernel_rfl) (cj (len_nm _ _) (cj (len_nm _ _) (cj1 h1))))) (fun h1 =>
    Pn.ite (fun h10 =>
     Pn.bind (fun r2 h11 =>
      Pn.lo (fun s1 h12 =>
       Pn.some (Fn.of [.wait 6, .nm 10 (V.sc (.int .i64 (a.Accts.length : Int))), .wait 3, .nm 13 (V.sc (.int .i64 (b.Accts.length : Int))), .bit false, .wait 2, .nm 17 (V.sc (.int .i64 (a.Accts.length : Int))), .wait 2, .mask [3, 16, 17, 18], .ren [1], .loop (X.out 0) (st 47 [] [] [])] (p := [V.sc (.int .i64 ((List.map E56 a.Accts).length : Int)) = V.sc (.int .i64 (a.Accts.length : Int)),
        V.sc (.int .i64 ((List.map E56 b.Accts).length : Int)) = V.sc (.int .i64 (b.Accts.length : Int)),
        ((a.Accts.length : Int) != (b.Accts.length : Int)) = false,
        V.sc (.int .i64 ((List.map E56 a.Accts).length : Int)) = V.sc (.int .i64 (a.Accts.length : Int)),
        Loop Try.prog (sub (codeOf Try.prog 6) [1, 1, 0, 1, 0, 0]) (st 47 [(3, V.ptr 0 0), (16, V.sl false 56 (List.map E56 a.Accts)), (17, V.sc (.int .i64 (a.Accts.length : Int))), (18, V.sc (.int .i64 0))] [Blk.box 29 [V.sl false 56 (List.map E56 b.Accts)]] []) (X.out 0) (st 47 [] [] [])]) (by kernel_rfl) (cj (len_nm _ _) (cj (len_nm _ _) (cj h1 (cj (len_nm _ _) (cj1 ((spec_Kept_l0_ok a b h10 a.Accts [] rfl r2 h11).at h12)))))))) (fun s2 h13 =>
       Pn.some (Fn.of [.wait 6, .nm 10 (V.sc (.int .i64 (a.Accts.length : Int))), .wait 3, .nm 13 (V.sc (.int .i64 (b.Accts.length : Int))), .bit false, .wait 2, .nm 17 (V.sc (.int .i64 (a.Accts.length : Int))), .wait 2, .mask [3, 16, 17, 18], .ren [1], .loop (X.ret) (st 47 [(4, V.sc (.bool false))] [] [])] (p := [V.sc (.int .i64 ((List.map E56 a.Accts).length : Int)) = V.sc (.int .i64 (a.Accts.length : Int)),
        V.sc (.int .i64 ((List.map E56 b.Accts).length : Int)) = V.sc (.int .i64 (b.Accts.length : Int)),
        ((a.Accts.length : Int) != (b.Accts.length : Int)) = false,
        V.sc (.int .i64 ((List.map E56 a.Accts).length : Int)) = V.sc (.int .i64 (a.Accts.length : Int)),
        Loop Try.prog (sub (codeOf Try.prog 6) [1, 1, 0, 1, 0, 0]) (st 47 [(3, V.ptr 0 0), (16, V.sl false 56 (List.map E56 a.Accts)), (17, V.sc (.int .i64 (a.Accts.length : Int))), (18, V.sc (.int .i64 0))] [Blk.box 29 [V.sl false 56 (List.map E56 b.Accts)]] []) (X.ret) (st 47 [(4, V.sc (.bool false))] [] [])]) (by kernel_rfl) (cj (len_nm _ _) (cj (len_nm _ _) (cj h1 (cj (len_nm _ _) (cj1 ((spec_Kept_l0_ok a b h10 a.Accts [] rfl r2 h11).at h13)))))))))) (fun h10 =>
     Pn.none))
def slices_Equal_byte_l0 (s1_ : List Int) (s2_ : List Int) : List Int → List Int → Option (Lo Unit Unit)
  | [], p1 =>
   some (.out ())
  | x1 :: t1, p1 =>
   (s2_[(p1.length : Int).toNat]?).bind fun x2 =>
   if (x1 != x2) = true then
    some (.ret ())
   else
    slices_Equal_byte_l0 s1_ s2_ t1 (p1 ++ [x1])
theorem slices_Equal_byte_l0_ok (s1_ : List Int) (s2_ : List Int) (h3 : capOk s1_.length = true) : ∀ (t1 p1 : List Int) (_ : s1_ = p1 ++ t1) , Pn (LpO Try.prog (sub (codeOf Try.prog 43) [1, 1, 0, 1, 0, 0]) (st 26 [(0, V.sl false 5 (List.map E5 s1_)), (1, V.sl false 5 (List.map E5 s2_)), (12, V.sc (.int .i64 (s1_.length : Int))), (13, V.sc (.int .i64 (p1.length : Int)))] [] []) (fun (y : Lo Unit Unit) => Lo.elim y (fun s => (X.out 0, st 26 [] [] [])) (fun s => (X.ret, st 26 [(4, V.sc (.bool false))] [] [])))) (slices_Equal_byte_l0 s1_ s2_ t1 p1)
  | [], p1, h2 => by
    unfold slices_Equal_byte_l0
    exact
     Pn.some (LpO.out [.bit false, .mask [], .ren []] (p := [(decide ((p1.length : Int) < (s1_.length : Int))) = false]) (by kernel_rfl) (show X.out 0 ≠ X.go from nofun) (cj1 (rng_end h2)))
  | x1 :: t1, p1, h2 => by
    unfold slices_Equal_byte_l0
    exact
     Pn.bind (fun x2 h4 =>
      Pn.ite (fun h5 =>
       Pn.some (LpO.out [.bit true, .draw [], .el (E5 x1), .el (E5 x2), .bit true, .wait 1, .mask [4], .ren []] (p := [(decide ((p1.length : Int) < (s1_.length : Int))) = true,
        (0 : Int) ≤ (p1.length : Int),
        (List.map E5 s1_)[(p1.length : Int).toNat]? = some (E5 x1),
        (0 : Int) ≤ (p1.length : Int),
        (List.map E5 s2_)[(p1.length : Int).toNat]? = some (E5 x2),
        (x1 != x2) = true]) (by kernel_rfl) (show X.ret ≠ X.go from nofun) (cj (rng_lt h2) (cj (by omega) (cj (rng_get _ h2) (cj (by omega) (cj (map_get h4) (cj1 h5)))))))) (fun h5 =>
       LpO.go [.bit true, .draw [], .el (E5 x1), .el (E5 x2), .bit false, .wait 2, .mask [0, 1, 12, 13], .ren [], .nm 13 (V.sc (.int .i64 ((p1 ++ [x1]).length : Int)))] (p := [(decide ((p1.length : Int) < (s1_.length : Int))) = true,
        (0 : Int) ≤ (p1.length : Int),
        (List.map E5 s1_)[(p1.length : Int).toNat]? = some (E5 x1),
        (0 : Int) ≤ (p1.length : Int),
        (List.map E5 s2_)[(p1.length : Int).toNat]? = some (E5 x2),
        (x1 != x2) = false,
        V.sc (.int .i64 (i64 ((p1.length : Int) + 1))) = V.sc (.int .i64 ((p1 ++ [x1]).length : Int))]) (by kernel_rfl) (cj (rng_lt h2) (cj (by omega) (cj (rng_get _ h2) (cj (by omega) (cj (map_get h4) (cj h5 (cj1 (rng_next h2 h3)))))))) (slices_Equal_byte_l0_ok s1_ s2_ h3 t1 (p1 ++ [x1]) (rng_step h2))))
def slices_Equal_byte (s1_ : List Int) (s2_ : List Int) : Option (Bool) :=
 if ((s1_.length : Int) != (s2_.length : Int)) = true then
  some false
 else
  if (capOk s1_.length) = true then
   (slices_Equal_byte_l0 s1_ s2_ s1_ []).bind fun r1 =>
   Lo.elim r1 (fun s1 =>
    some true) (fun s2 =>
    some false)
  else none
theorem slices_Equal_byte_ok (s1_ : List Int) (s2_ : List Int) : Pn (fun y => Fn Try.prog 43 [(false, E63 s1_), (false, E63 s2_)] (E4 y) []) (slices_Equal_byte s1_ s2_) := by
  unfold slices_Equal_byte
  exact
   Pn.ite (fun h1 =>
    Pn.some (Fn.of [.wait 3, .nm 7 (V.sc (.int .i64 (s1_.length : Int))), .wait 2, .nm 9 (V.sc (.int .i64 (s2_.length : Int))), .bit true] (p := [V.sc (.int .i64 ((List.map E5 s1_).length : Int)) = V.sc (.int .i64 (s1_.length : Int)),
     V.sc (.int .i64 ((List.map E5 s2_).length : Int)) = V.sc (.int .i64 (s2_.length : Int)),
     ((s1_.length : Int) != (s2_.length : Int)) = true]) (by kernel_rfl) (cj (len_nm _ _) (cj (len_nm _ _) (cj1 h1))))) (fun h1 =>
    Pn.ite (fun h6 =>
     Pn.bind (fun r1 h7 =>
      Pn.lo (fun s1 h8 =>
       Pn.some (Fn.of [.wait 3, .nm 7 (V.sc (.int .i64 (s1_.length : Int))), .wait 2, .nm 9 (V.sc (.int .i64 (s2_.length : Int))), .bit false, .wait 1, .nm 12 (V.sc (.int .i64 (s1_.length : Int))), .wait 2, .mask [0, 1, 12, 13], .ren [], .loop (X.out 0) (st 26 [] [] [])] (p := [V.sc (.int .i64 ((List.map E5 s1_).length : Int)) = V.sc (.int .i64 (s1_.length : Int)),
        V.sc (.int .i64 ((List.map E5 s2_).length : Int)) = V.sc (.int .i64 (s2_.length : Int)),
        ((s1_.length : Int) != (s2_.length : Int)) = false,
        V.sc (.int .i64 ((List.map E5 s1_).length : Int)) = V.sc (.int .i64 (s1_.length : Int)),
        Loop Try.prog (sub (codeOf Try.prog 43) [1, 1, 0, 1, 0, 0]) (st 26 [(0, V.sl false 5 (List.map E5 s1_)), (1, V.sl false 5 (List.map E5 s2_)), (12, V.sc (.int .i64 (s1_.length : Int))), (13, V.sc (.int .i64 0))] [] []) (X.out 0) (st 26 [] [] [])]) (by kernel_rfl) (cj (len_nm _ _) (cj (len_nm _ _) (cj h1 (cj (len_nm _ _) (cj1 ((slices_Equal_byte_l0_ok s1_ s2_ h6 s1_ [] rfl r1 h7).at h8)))))))) (fun s2 h9 =>
       Pn.some (Fn.of [.wait 3, .nm 7 (V.sc (.int .i64 (s1_.length : Int))), .wait 2, .nm 9 (V.sc (.int .i64 (s2_.length : Int))), .bit false, .wait 1, .nm 12 (V.sc (.int .i64 (s1_.length : Int))), .wait 2, .mask [0, 1, 12, 13], .ren [], .loop (X.ret) (st 26 [(4, V.sc (.bool false))] [] [])] (p := [V.sc (.int .i64 ((List.map E5 s1_).length : Int)) = V.sc (.int .i64 (s1_.length : Int)),
        V.sc (.int .i64 ((List.map E5 s2_).length : Int)) = V.sc (.int .i64 (s2_.length : Int)),
        ((s1_.length : Int) != (s2_.length : Int)) = false,
        V.sc (.int .i64 ((List.map E5 s1_).length : Int)) = V.sc (.int .i64 (s1_.length : Int)),
        Loop Try.prog (sub (codeOf Try.prog 43) [1, 1, 0, 1, 0, 0]) (st 26 [(0, V.sl false 5 (List.map E5 s1_)), (1, V.sl false 5 (List.map E5 s2_)), (12, V.sc (.int .i64 (s1_.length : Int))), (13, V.sc (.int .i64 0))] [] []) (X.ret) (st 26 [(4, V.sc (.bool false))] [] [])]) (by kernel_rfl) (cj (len_nm _ _) (cj (len_nm _ _) (cj h1 (cj (len_nm _ _) (cj1 ((slices_Equal_byte_l0_ok s1_ s2_ h6 s1_ [] rfl r1 h7).at h9)))))))))) (fun h6 =>
     Pn.none))
def impl_SlotsSame_1 (x_ : Slot) (y_ : Slot) : Option (Bool) :=
 if (x_.Trace == y_.Trace) = true then
  if (x_.Mti == y_.Mti) = true then
   (slices_Equal_byte x_.Reply y_.Reply).bind fun r1 =>
   some r1
  else
   some false
 else
  some false
theorem impl_SlotsSame_1_ok (x_ : Slot) (y_ : Slot) : Pn (fun y => Fn Try.prog 42 [(false, E85 x_), (false, E85 y_)] (E4 y) []) (impl_SlotsSame_1 x_ y_) := by
  unfold impl_SlotsSame_1
  exact
   Pn.ite (fun h1 =>
    Pn.ite (fun h2 =>
     Pn.bind (fun r1 h3 =>
      Pn.some (Fn.of [.bit true, .bit true, .bit true, .bit true, .bit true, .bit true, .bit true, .bit true, .bit true, .bit true, .bit true, .call [] (E4 r1) [], .bit true] (p := [(x_.Trace == y_.Trace) = true,
       (x_.Trace == y_.Trace) = true,
       (x_.Trace == y_.Trace) = true,
       (x_.Trace == y_.Trace) = true,
       (x_.Trace == y_.Trace) = true,
       (x_.Trace == y_.Trace) = true,
       (x_.Mti == y_.Mti) = true,
       (x_.Mti == y_.Mti) = true,
       (x_.Mti == y_.Mti) = true,
       (x_.Mti == y_.Mti) = true,
       (x_.Mti == y_.Mti) = true,
       Fn Try.prog 43 [(false, E63 x_.Reply), (false, E63 y_.Reply)] (E4 r1) [],
       (true || ((E4 r1).nv && nvL [])) = true,
       (x_.Mti == y_.Mti) = true]) (by kernel_rfl) (cj h1 (cj h1 (cj h1 (cj h1 (cj h1 (cj h1 (cj h2 (cj h2 (cj h2 (cj h2 (cj h2 (cj (slices_Equal_byte_ok x_.Reply y_.Reply r1 h3) (cj rfl (cj1 h2))))))))))))))))) (fun h2 =>
     Pn.some (Fn.of [.bit true, .bit true, .bit true, .bit true, .bit true, .bit true, .bit false, .bit false, .bit false, .bit false, .bit false, .bit false] (p := [(x_.Trace == y_.Trace) = true,
      (x_.Trace == y_.Trace) = true,
      (x_.Trace == y_.Trace) = true,
      (x_.Trace == y_.Trace) = true,
      (x_.Trace == y_.Trace) = true,
      (x_.Trace == y_.Trace) = true,
      (x_.Mti == y_.Mti) = false,
      (x_.Mti == y_.Mti) = false,
      (x_.Mti == y_.Mti) = false,
      (x_.Mti == y_.Mti) = false,
      (x_.Mti == y_.Mti) = false,
      (x_.Mti == y_.Mti) = false]) (by kernel_rfl) (cj h1 (cj h1 (cj h1 (cj h1 (cj h1 (cj h1 (cj h2 (cj h2 (cj h2 (cj h2 (cj h2 (cj1 h2))))))))))))))) (fun h1 =>
    Pn.some (Fn.of [.bit false, .bit false, .bit false, .bit false, .bit false, .bit false, .bit false, .bit false, .bit false, .bit false, .bit false, .bit false] (p := [(x_.Trace == y_.Trace) = false,
     (x_.Trace == y_.Trace) = false,
     (x_.Trace == y_.Trace) = false,
     (x_.Trace == y_.Trace) = false,
     (x_.Trace == y_.Trace) = false,
     (x_.Trace == y_.Trace) = false,
     false = false,
     false = false,
     false = false,
     false = false,
     false = false,
     false = false]) (by kernel_rfl) (cj h1 (cj h1 (cj h1 (cj h1 (cj h1 (cj h1 (cj rfl (cj rfl (cj rfl (cj rfl (cj rfl (cj1 rfl))))))))))))))
def slices_EqualFunc_impl_Slot_impl_SlotsSame_1_l0 (s1_ : List Slot) (s2_ : List Slot) : List Slot → List Slot → Option (Lo Unit Unit)
  | [], p1 =>
   some (.out ())
  | x1 :: t1, p1 =>
   (s2_[(p1.length : Int).toNat]?).bind fun x2 =>
   (impl_SlotsSame_1 x1 x2).bind fun r1 =>
   if r1 = true then
    slices_EqualFunc_impl_Slot_impl_SlotsSame_1_l0 s1_ s2_ t1 (p1 ++ [x1])
   else
    some (.ret ())
theorem slices_EqualFunc_impl_Slot_impl_SlotsSame_1_l0_ok (s1_ : List Slot) (s2_ : List Slot) (h3 : capOk s1_.length = true) : ∀ (t1 p1 : List Slot) (_ : s1_ = p1 ++ t1) , Pn (LpO Try.prog (sub (codeOf Try.prog 41) [1, 1, 0, 1, 0, 0]) (st 32 [(1, V.sl false 85 (List.map E85 s2_)), (2, V.fn 42 []), (15, V.sl false 85 (List.map E85 s1_)), (16, V.sc (.int .i64 (s1_.length : Int))), (17, V.sc (.int .i64 (p1.length : Int)))] [] []) (fun (y : Lo Unit Unit) => Lo.elim y (fun s => (X.out 0, st 32 [] [] [])) (fun s => (X.ret, st 32 [(6, V.sc (.bool false))] [] [])))) (slices_EqualFunc_impl_Slot_impl_SlotsSame_1_l0 s1_ s2_ t1 p1)
  | [], p1, h2 => by
    unfold slices_EqualFunc_impl_Slot_impl_SlotsSame_1_l0
    exact
     Pn.some (LpO.out [.bit false, .mask [], .ren []] (p := [(decide ((p1.length : Int) < (s1_.length : Int))) = false]) (by kernel_rfl) (show X.out 0 ≠ X.go from nofun) (cj1 (rng_end h2)))
  | x1 :: t1, p1, h2 => by
    unfold slices_EqualFunc_impl_Slot_impl_SlotsSame_1_l0
    exact
     Pn.bind (fun x2 h4 =>
      Pn.bind (fun r1 h5 =>
       Pn.ite (fun h6 =>
        LpO.go [.bit true, .el (E85 x1), .el (E85 x2), .call [] (E4 r1) [], .bit false, .wait 2, .mask [1, 2, 15, 16, 17], .ren [], .nm 17 (V.sc (.int .i64 ((p1 ++ [x1]).length : Int)))] (p := [(decide ((p1.length : Int) < (s1_.length : Int))) = true,
         (0 : Int) ≤ (p1.length : Int),
         (List.map E85 s1_)[(p1.length : Int).toNat]? = some (E85 x1),
         (0 : Int) ≤ (p1.length : Int),
         (List.map E85 s2_)[(p1.length : Int).toNat]? = some (E85 x2),
         Fn Try.prog 42 [(false, E85 x1), (false, E85 x2)] (E4 r1) [],
         (true || ((E4 r1).nv && nvL [])) = true,
         (!r1) = false,
         V.sc (.int .i64 (i64 ((p1.length : Int) + 1))) = V.sc (.int .i64 ((p1 ++ [x1]).length : Int))]) (by kernel_rfl) (cj (rng_lt h2) (cj (by omega) (cj (rng_get _ h2) (cj (by omega) (cj (map_get h4) (cj (impl_SlotsSame_1_ok x1 x2 r1 h5) (cj rfl (cj (nf h6) (cj1 (rng_next h2 h3)))))))))) (slices_EqualFunc_impl_Slot_impl_SlotsSame_1_l0_ok s1_ s2_ h3 t1 (p1 ++ [x1]) (rng_step h2))) (fun h6 =>
        Pn.some (LpO.out [.bit true, .el (E85 x1), .el (E85 x2), .call [] (E4 r1) [], .bit true, .wait 1, .mask [6], .ren []] (p := [(decide ((p1.length : Int) < (s1_.length : Int))) = true,
         (0 : Int) ≤ (p1.length : Int),
         (List.map E85 s1_)[(p1.length : Int).toNat]? = some (E85 x1),
         (0 : Int) ≤ (p1.length : Int),
         (List.map E85 s2_)[(p1.length : Int).toNat]? = some (E85 x2),
         Fn Try.prog 42 [(false, E85 x1), (false, E85 x2)] (E4 r1) [],
         (true || ((E4 r1).nv && nvL [])) = true,
         (!r1) = true]) (by kernel_rfl) (show X.ret ≠ X.go from nofun) (cj (rng_lt h2) (cj (by omega) (cj (rng_get _ h2) (cj (by omega) (cj (map_get h4) (cj (impl_SlotsSame_1_ok x1 x2 r1 h5) (cj rfl (cj1 (nt h6)))))))))))))
def slices_EqualFunc_impl_Slot_impl_SlotsSame_1 (s1_ : List Slot) (s2_ : List Slot) : Option (Bool) :=
 if ((s1_.length : Int) != (s2_.length : Int)) = true then
  some false
 else
  if (capOk s1_.length) = true then
   (slices_EqualFunc_impl_Slot_impl_SlotsSame_1_l0 s1_ s2_ s1_ []).bind fun r2 =>
   Lo.elim r2 (fun s1 =>
    some true) (fun s2 =>
    some false)
  else none
theorem slices_EqualFunc_impl_Slot_impl_SlotsSame_1_ok (s1_ : List Slot) (s2_ : List Slot) : Pn (fun y => Fn Try.prog 41 [(false, E54 s1_), (false, E54 s2_), (false, V.fn 42 [])] (E4 y) []) (slices_EqualFunc_impl_Slot_impl_SlotsSame_1 s1_ s2_) := by
  unfold slices_EqualFunc_impl_Slot_impl_SlotsSame_1
  exact
   Pn.ite (fun h1 =>
    Pn.some (Fn.of [.wait 3, .nm 11 (V.sc (.int .i64 (s1_.length : Int))), .wait 2, .nm 13 (V.sc (.int .i64 (s2_.length : Int))), .bit true] (p := [V.sc (.int .i64 ((List.map E85 s1_).length : Int)) = V.sc (.int .i64 (s1_.length : Int)),
     V.sc (.int .i64 ((List.map E85 s2_).length : Int)) = V.sc (.int .i64 (s2_.length : Int)),
     ((s1_.length : Int) != (s2_.length : Int)) = true]) (by kernel_rfl) (cj (len_nm _ _) (cj (len_nm _ _) (cj1 h1))))) (fun h1 =>
    Pn.ite (fun h7 =>
     Pn.bind (fun r2 h8 =>
      Pn.lo (fun s1 h9 =>
       Pn.some (Fn.of [.wait 3, .nm 11 (V.sc (.int .i64 (s1_.length : Int))), .wait 2, .nm 13 (V.sc (.int .i64 (s2_.length : Int))), .bit false, .wait 1, .nm 16 (V.sc (.int .i64 (s1_.length : Int))), .wait 2, .mask [1, 2, 15, 16, 17], .ren [], .loop (X.out 0) (st 32 [] [] [])] (p := [V.sc (.int .i64 ((List.map E85 s1_).length : Int)) = V.sc (.int .i64 (s1_.length : Int)),
        V.sc (.int .i64 ((List.map E85 s2_).length : Int)) = V.sc (.int .i64 (s2_.length : Int)),
        ((s1_.length : Int) != (s2_.length : Int)) = false,
        V.sc (.int .i64 ((List.map E85 s1_).length : Int)) = V.sc (.int .i64 (s1_.length : Int)),
        Loop Try.prog (sub (codeOf Try.prog 41) [1, 1, 0, 1, 0, 0]) (st 32 [(1, V.sl false 85 (List.map E85 s2_)), (2, V.fn 42 []), (15, V.sl false 85 (List.map E85 s1_)), (16, V.sc (.int .i64 (s1_.length : Int))), (17, V.sc (.int .i64 0))] [] []) (X.out 0) (st 32 [] [] [])]) (by kernel_rfl) (cj (len_nm _ _) (cj (len_nm _ _) (cj h1 (cj (len_nm _ _) (cj1 ((slices_EqualFunc_impl_Slot_impl_SlotsSame_1_l0_ok s1_ s2_ h7 s1_ [] rfl r2 h8).at h9)))))))) (fun s2 h10 =>
       Pn.some (Fn.of [.wait 3, .nm 11 (V.sc (.int .i64 (s1_.length : Int))), .wait 2, .nm 13 (V.sc (.int .i64 (s2_.length : Int))), .bit false, .wait 1, .nm 16 (V.sc (.int .i64 (s1_.length : Int))), .wait 2, .mask [1, 2, 15, 16, 17], .ren [], .loop (X.ret) (st 32 [(6, V.sc (.bool false))] [] [])] (p := [V.sc (.int .i64 ((List.map E85 s1_).length : Int)) = V.sc (.int .i64 (s1_.length : Int)),
        V.sc (.int .i64 ((List.map E85 s2_).length : Int)) = V.sc (.int .i64 (s2_.length : Int)),
        ((s1_.length : Int) != (s2_.length : Int)) = false,
        V.sc (.int .i64 ((List.map E85 s1_).length : Int)) = V.sc (.int .i64 (s1_.length : Int)),
        Loop Try.prog (sub (codeOf Try.prog 41) [1, 1, 0, 1, 0, 0]) (st 32 [(1, V.sl false 85 (List.map E85 s2_)), (2, V.fn 42 []), (15, V.sl false 85 (List.map E85 s1_)), (16, V.sc (.int .i64 (s1_.length : Int))), (17, V.sc (.int .i64 0))] [] []) (X.ret) (st 32 [(6, V.sc (.bool false))] [] [])]) (by kernel_rfl) (cj (len_nm _ _) (cj (len_nm _ _) (cj h1 (cj (len_nm _ _) (cj1 ((slices_EqualFunc_impl_Slot_impl_SlotsSame_1_l0_ok s1_ s2_ h7 s1_ [] rfl r2 h8).at h10)))))))))) (fun h7 =>
     Pn.none))
def impl_SlotsSame (a : List Slot) (b : List Slot) : Option (Bool) :=
 (slices_EqualFunc_impl_Slot_impl_SlotsSame_1 a b).bind fun r1 =>
 some r1
theorem impl_SlotsSame_ok (a : List Slot) (b : List Slot) : Pn (fun y => Fn Try.prog 22 [(false, E54 a), (false, E54 b)] (E4 y) []) (impl_SlotsSame a b) := by
  unfold impl_SlotsSame
  exact
   Pn.bind (fun r1 h1 =>
    Pn.some (Fn.of [.call [] (E4 r1) []] (p := [Fn Try.prog 41 [(false, E54 a), (false, E54 b), (false, V.fn 42 [])] (E4 r1) [],
     (true || ((E4 r1).nv && nvL [])) = true]) (by kernel_rfl) (cj (slices_EqualFunc_impl_Slot_impl_SlotsSame_1_ok a b r1 h1) (cj1 rfl))))
def impl_Kept_l0 (a : Book) (b : Book) : List Acct → List Acct → Option (Lo Unit Unit)
  | [], p1 =>
   some (.out ())
  | x1 :: t1, p1 =>
   (b.Accts[(p1.length : Int).toNat]?).bind fun x2 =>
   if (decide ((x2.Slots.length : Int) < (x1.Slots.length : Int))) = true then
    some (.ret ())
   else
    if (decide (0 ≤ (x1.Slots.length : Int))) = true then
     if (decide ((x1.Slots.length : Int) ≤ (x2.Slots.length : Int))) = true then
      (impl_SlotsSame x1.Slots ((x2.Slots.take ((x1.Slots.length : Int).toNat)).drop 0)).bind fun r1 =>
      if r1 = true then
       impl_Kept_l0 a b t1 (p1 ++ [x1])
      else
       some (.ret ())
     else none
    else none
theorem impl_Kept_l0_ok (a : Book) (b : Book) (h3 : capOk a.Accts.length = true) : ∀ (t1 p1 : List Acct) (_ : a.Accts = p1 ++ t1) , Pn (LpO Try.prog (sub (codeOf Try.prog 8) [1, 1, 0, 1, 0, 0]) (st 48 [(2, V.ptr 0 0), (3, V.ptr 1 0), (17, V.sc (.int .i64 (a.Accts.length : Int))), (18, V.sc (.int .i64 (p1.length : Int)))] [Blk.box 29 [V.sl false 56 (List.map E56 a.Accts)], Blk.box 29 [V.sl false 56 (List.map E56 b.Accts)]] []) (fun (y : Lo Unit Unit) => Lo.elim y (fun s => (X.out 0, st 48 [] [] [])) (fun s => (X.ret, st 48 [(4, V.sc (.bool false))] [] [])))) (impl_Kept_l0 a b t1 p1)
  | [], p1, h2 => by
    unfold impl_Kept_l0
    exact
     Pn.some (LpO.out [.bit false, .mask [], .ren []] (p := [(decide ((p1.length : Int) < (a.Accts.length : Int))) = false]) (by kernel_rfl) (show X.out 0 ≠ X.go from nofun) (cj1 (rng_end h2)))
  | x1 :: t1, p1, h2 => by
    unfold impl_Kept_l0
    exact
     Pn.bind (fun x2 h4 =>
      Pn.ite (fun h5 =>
       Pn.some (LpO.out [.bit true, .draw [], .el (E56 x1), .el (E56 x2), .wait 6, .nm 34 (V.sc (.int .i64 (x1.Slots.length : Int))), .wait 2, .nm 36 (V.sc (.int .i64 (x2.Slots.length : Int))), .bit true, .bit true, .bit true, .bit true, .bit true, .bit true, .bit true, .bit true, .bit true, .wait 1, .mask [4], .ren []] (p := [(decide ((p1.length : Int) < (a.Accts.length : Int))) = true,
        (0 : Int) ≤ (p1.length : Int),
        (List.map E56 a.Accts)[(p1.length : Int).toNat]? = some (E56 x1),
        (0 : Int) ≤ (p1.length : Int),
        (List.map E56 b.Accts)[(p1.length : Int).toNat]? = some (E56 x2),
        V.sc (.int .i64 ((List.map E85 x1.Slots).length : Int)) = V.sc (.int .i64 (x1.Slots.length : Int)),
        V.sc (.int .i64 ((List.map E85 x2.Slots).length : Int)) = V.sc (.int .i64 (x2.Slots.length : Int)),
        (decide ((x2.Slots.length : Int) < (x1.Slots.length : Int))) = true,
        (decide ((x2.Slots.length : Int) < (x1.Slots.length : Int))) = true,
        (decide ((x2.Slots.length : Int) < (x1.Slots.length : Int))) = true,
        (decide ((x2.Slots.length : Int) < (x1.Slots.length : Int))) = true,
        (decide ((x2.Slots.length : Int) < (x1.Slots.length : Int))) = true,
        (decide ((x2.Slots.length : Int) < (x1.Slots.length : Int))) = true,
        (decide ((x2.Slots.length : Int) < (x1.Slots.length : Int))) = true,
        (decide ((x2.Slots.length : Int) < (x1.Slots.length : Int))) = true,
        true = true]) (by kernel_rfl) (show X.ret ≠ X.go from nofun) (cj (rng_lt h2) (cj (by omega) (cj (rng_get _ h2) (cj (by omega) (cj (map_get h4) (cj (len_nm _ _) (cj (len_nm _ _) (cj h5 (cj h5 (cj h5 (cj h5 (cj h5 (cj h5 (cj h5 (cj h5 (cj1 rfl)))))))))))))))))) (fun h5 =>
       Pn.ite (fun h6 =>
        Pn.ite (fun h7 =>
         Pn.bind (fun r1 h8 =>
          Pn.ite (fun h9 =>
           LpO.go [.bit true, .draw [], .el (E56 x1), .el (E56 x2), .wait 6, .nm 34 (V.sc (.int .i64 (x1.Slots.length : Int))), .wait 2, .nm 36 (V.sc (.int .i64 (x2.Slots.length : Int))), .bit false, .bit false, .bit false, .bit false, .nm 42 (V.sc (.int .i64 (x1.Slots.length : Int))), .bit false, .nm 43 (V.sl false 85 (List.map E85 ((x2.Slots.take ((x1.Slots.length : Int).toNat)).drop 0))), .bit false, .call [] (E4 r1) [], .bit false, .bit false, .bit false, .wait 2, .mask [2, 3, 17, 18], .ren [0, 1], .nm 18 (V.sc (.int .i64 ((p1 ++ [x1]).length : Int)))] (p := [(decide ((p1.length : Int) < (a.Accts.length : Int))) = true,
            (0 : Int) ≤ (p1.length : Int),
            (List.map E56 a.Accts)[(p1.length : Int).toNat]? = some (E56 x1),
            (0 : Int) ≤ (p1.length : Int),
            (List.map E56 b.Accts)[(p1.length : Int).toNat]? = some (E56 x2),
            V.sc (.int .i64 ((List.map E85 x1.Slots).length : Int)) = V.sc (.int .i64 (x1.Slots.length : Int)),
            V.sc (.int .i64 ((List.map E85 x2.Slots).length : Int)) = V.sc (.int .i64 (x2.Slots.length : Int)),
            (decide ((x2.Slots.length : Int) < (x1.Slots.length : Int))) = false,
            (decide ((x2.Slots.length : Int) < (x1.Slots.length : Int))) = false,
            (decide ((x2.Slots.length : Int) < (x1.Slots.length : Int))) = false,
            (decide ((x2.Slots.length : Int) < (x1.Slots.length : Int))) = false,
            V.sc (.int .i64 ((List.map E85 x1.Slots).length : Int)) = V.sc (.int .i64 (x1.Slots.length : Int)),
            (decide ((x2.Slots.length : Int) < (x1.Slots.length : Int))) = false,
            (0 : Int) ≤ 0,
            (0 : Int) ≤ (x1.Slots.length : Int),
            ((x1.Slots.length : Int) : Int) ≤ ((List.map E85 x2.Slots).length : Int),
            V.sl false 85 (((List.map E85 x2.Slots).take ((x1.Slots.length : Int).toNat)).drop 0) = V.sl false 85 (List.map E85 ((x2.Slots.take ((x1.Slots.length : Int).toNat)).drop 0)),
            (decide ((x2.Slots.length : Int) < (x1.Slots.length : Int))) = false,
            Fn Try.prog 22 [(false, E54 x1.Slots), (false, E54 ((x2.Slots.take ((x1.Slots.length : Int).toNat)).drop 0))] (E4 r1) [],
            (true || ((E4 r1).nv && nvL [])) = true,
            (decide ((x2.Slots.length : Int) < (x1.Slots.length : Int))) = false,
            (decide ((x2.Slots.length : Int) < (x1.Slots.length : Int))) = false,
            (!r1) = false,
            V.sc (.int .i64 (i64 ((p1.length : Int) + 1))) = V.sc (.int .i64 ((p1 ++ [x1]).length : Int))]) (by kernel_rfl) (cj (rng_lt h2) (cj (by omega) (cj (rng_get _ h2) (cj (by omega) (cj (map_get h4) (cj (len_nm _ _) (cj (len_nm _ _) (cj h5 (cj h5 (cj h5 (cj h5 (cj (len_nm _ _) (cj h5 (cj (by decide) (cj (od h6) (cj (by rw [List.length_map]; exact (od h7)) (cj (nm_cut _ _ _ _ _) (cj h5 (cj (impl_SlotsSame_ok x1.Slots ((x2.Slots.take ((x1.Slots.length : Int).toNat)).drop 0) r1 h8) (cj rfl (cj h5 (cj h5 (cj (nf h9) (cj1 (rng_next h2 h3))))))))))))))))))))))))) (impl_Kept_l0_ok a b h3 t1 (p1 ++ [x1]) (rng_step h2))) (fun h9 =>
           Pn.some (LpO.out [.bit true, .draw [], .el (E56 x1), .el (E56 x2), .wait 6, .nm 34 (V.sc (.int .i64 (x1.Slots.length : Int))), .wait 2, .nm 36 (V.sc (.int .i64 (x2.Slots.length : Int))), .bit false, .bit false, .bit false, .bit false, .nm 42 (V.sc (.int .i64 (x1.Slots.length : Int))), .bit false, .nm 43 (V.sl false 85 (List.map E85 ((x2.Slots.take ((x1.Slots.length : Int).toNat)).drop 0))), .bit false, .call [] (E4 r1) [], .bit false, .bit false, .bit true, .wait 1, .mask [4], .ren []] (p := [(decide ((p1.length : Int) < (a.Accts.length : Int))) = true,
            (0 : Int) ≤ (p1.length : Int),
            (List.map E56 a.Accts)[(p1.length : Int).toNat]? = some (E56 x1),
            (0 : Int) ≤ (p1.length : Int),
            (List.map E56 b.Accts)[(p1.length : Int).toNat]? = some (E56 x2),
            V.sc (.int .i64 ((List.map E85 x1.Slots).length : Int)) = V.sc (.int .i64 (x1.Slots.length : Int)),
            V.sc (.int .i64 ((List.map E85 x2.Slots).length : Int)) = V.sc (.int .i64 (x2.Slots.length : Int)),
            (decide ((x2.Slots.length : Int) < (x1.Slots.length : Int))) = false,
            (decide ((x2.Slots.length : Int) < (x1.Slots.length : Int))) = false,
            (decide ((x2.Slots.length : Int) < (x1.Slots.length : Int))) = false,
            (decide ((x2.Slots.length : Int) < (x1.Slots.length : Int))) = false,
            V.sc (.int .i64 ((List.map E85 x1.Slots).length : Int)) = V.sc (.int .i64 (x1.Slots.length : Int)),
            (decide ((x2.Slots.length : Int) < (x1.Slots.length : Int))) = false,
            (0 : Int) ≤ 0,
            (0 : Int) ≤ (x1.Slots.length : Int),
            ((x1.Slots.length : Int) : Int) ≤ ((List.map E85 x2.Slots).length : Int),
            V.sl false 85 (((List.map E85 x2.Slots).take ((x1.Slots.length : Int).toNat)).drop 0) = V.sl false 85 (List.map E85 ((x2.Slots.take ((x1.Slots.length : Int).toNat)).drop 0)),
            (decide ((x2.Slots.length : Int) < (x1.Slots.length : Int))) = false,
            Fn Try.prog 22 [(false, E54 x1.Slots), (false, E54 ((x2.Slots.take ((x1.Slots.length : Int).toNat)).drop 0))] (E4 r1) [],
            (true || ((E4 r1).nv && nvL [])) = true,
            (decide ((x2.Slots.length : Int) < (x1.Slots.length : Int))) = false,
            (decide ((x2.Slots.length : Int) < (x1.Slots.length : Int))) = false,
            (!r1) = true]) (by kernel_rfl) (show X.ret ≠ X.go from nofun) (cj (rng_lt h2) (cj (by omega) (cj (rng_get _ h2) (cj (by omega) (cj (map_get h4) (cj (len_nm _ _) (cj (len_nm _ _) (cj h5 (cj h5 (cj h5 (cj h5 (cj (len_nm _ _) (cj h5 (cj (by decide) (cj (od h6) (cj (by rw [List.length_map]; exact (od h7)) (cj (nm_cut _ _ _ _ _) (cj h5 (cj (impl_SlotsSame_ok x1.Slots ((x2.Slots.take ((x1.Slots.length : Int).toNat)).drop 0) r1 h8) (cj rfl (cj h5 (cj h5 (cj1 (nt h9)))))))))))))))))))))))))))) (fun h7 =>
         Pn.none)) (fun h6 =>
        Pn.none)))
def impl_Kept (a : Book) (b : Book) : Option (Bool) :=
 if ((a.Accts.length : Int) != (b.Accts.length : Int)) = true then
  some false
 else
  if (capOk a.Accts.length) = true then
   (impl_Kept_l0 a b a.Accts []).bind fun r2 =>
   Lo.elim r2 (fun s1 =>
    some true) (fun s2 =>
    some false)
  else none
theorem impl_Kept_ok (a : Book) (b : Book) : Pn (fun y => Fn Try.prog 8 [(false, E29 a), (false, E29 b)] (E4 y) []) (impl_Kept a b) := by
  unfold impl_Kept
  exact
   Pn.ite (fun h1 =>
    Pn.some (Fn.of [.wait 6, .nm 10 (V.sc (.int .i64 (a.Accts.length : Int))), .wait 3, .nm 13 (V.sc (.int .i64 (b.Accts.length : Int))), .bit true] (p := [V.sc (.int .i64 ((List.map E56 a.Accts).length : Int)) = V.sc (.int .i64 (a.Accts.length : Int)),
     V.sc (.int .i64 ((List.map E56 b.Accts).length : Int)) = V.sc (.int .i64 (b.Accts.length : Int)),
     ((a.Accts.length : Int) != (b.Accts.length : Int)) = true]) (by kernel_rfl) (cj (len_nm _ _) (cj (len_nm _ _) (cj1 h1))))) (fun h1 =>
    Pn.ite (fun h10 =>
     Pn.bind (fun r2 h11 =>
      Pn.lo (fun s1 h12 =>
       Pn.some (Fn.of [.wait 6, .nm 10 (V.sc (.int .i64 (a.Accts.length : Int))), .wait 3, .nm 13 (V.sc (.int .i64 (b.Accts.length : Int))), .bit false, .wait 2, .nm 17 (V.sc (.int .i64 (a.Accts.length : Int))), .wait 2, .mask [2, 3, 17, 18], .ren [0, 1], .loop (X.out 0) (st 48 [] [] [])] (p := [V.sc (.int .i64 ((List.map E56 a.Accts).length : Int)) = V.sc (.int .i64 (a.Accts.length : Int)),
        V.sc (.int .i64 ((List.map E56 b.Accts).length : Int)) = V.sc (.int .i64 (b.Accts.length : Int)),
        ((a.Accts.length : Int) != (b.Accts.length : Int)) = false,
        V.sc (.int .i64 ((List.map E56 a.Accts).length : Int)) = V.sc (.int .i64 (a.Accts.length : Int)),
        Loop Try.prog (sub (codeOf Try.prog 8) [1, 1, 0, 1, 0, 0]) (st 48 [(2, V.ptr 0 0), (3, V.ptr 1 0), (17, V.sc (.int .i64 (a.Accts.length : Int))), (18, V.sc (.int .i64 0))] [Blk.box 29 [V.sl false 56 (List.map E56 a.Accts)], Blk.box 29 [V.sl false 56 (List.map E56 b.Accts)]] []) (X.out 0) (st 48 [] [] [])]) (by kernel_rfl) (cj (len_nm _ _) (cj (len_nm _ _) (cj h1 (cj (len_nm _ _) (cj1 ((impl_Kept_l0_ok a b h10 a.Accts [] rfl r2 h11).at h12)))))))) (fun s2 h13 =>
       Pn.some (Fn.of [.wait 6, .nm 10 (V.sc (.int .i64 (a.Accts.length : Int))), .wait 3, .nm 13 (V.sc (.int .i64 (b.Accts.length : Int))), .bit false, .wait 2, .nm 17 (V.sc (.int .i64 (a.Accts.length : Int))), .wait 2, .mask [2, 3, 17, 18], .ren [0, 1], .loop (X.ret) (st 48 [(4, V.sc (.bool false))] [] [])] (p := [V.sc (.int .i64 ((List.map E56 a.Accts).length : Int)) = V.sc (.int .i64 (a.Accts.length : Int)),
        V.sc (.int .i64 ((List.map E56 b.Accts).length : Int)) = V.sc (.int .i64 (b.Accts.length : Int)),
        ((a.Accts.length : Int) != (b.Accts.length : Int)) = false,
        V.sc (.int .i64 ((List.map E56 a.Accts).length : Int)) = V.sc (.int .i64 (a.Accts.length : Int)),
        Loop Try.prog (sub (codeOf Try.prog 8) [1, 1, 0, 1, 0, 0]) (st 48 [(2, V.ptr 0 0), (3, V.ptr 1 0), (17, V.sc (.int .i64 (a.Accts.length : Int))), (18, V.sc (.int .i64 0))] [Blk.box 29 [V.sl false 56 (List.map E56 a.Accts)], Blk.box 29 [V.sl false 56 (List.map E56 b.Accts)]] []) (X.ret) (st 48 [(4, V.sc (.bool false))] [] [])]) (by kernel_rfl) (cj (len_nm _ _) (cj (len_nm _ _) (cj h1 (cj (len_nm _ _) (cj1 ((impl_Kept_l0_ok a b h10 a.Accts [] rfl r2 h11).at h13)))))))))) (fun h10 =>
     Pn.none))
def laws_eqHold (a : Hold) (b : Hold) : Option (Bool) :=
 if (a.Id == b.Id) = true then
  if (a.Amount != b.Amount) = true then
   some false
  else
   if (a.Due != b.Due) = true then
    some false
   else
    some true
 else
  some false
theorem laws_eqHold_ok (a : Hold) (b : Hold) : Pn (fun y => Fn Try.prog 80 [(false, E126 a), (false, E126 b)] (E4 y) []) (laws_eqHold a b) := by
  unfold laws_eqHold
  exact
   Pn.ite (fun h1 =>
    Pn.ite (fun h2 =>
     Pn.some (Fn.of [.bit false, .bit true] (p := [(!(a.Id == b.Id)) = false,
      (a.Amount != b.Amount) = true]) (by kernel_rfl) (cj (nf h1) (cj1 h2)))) (fun h2 =>
     Pn.ite (fun h3 =>
      Pn.some (Fn.of [.bit false, .bit false, .bit true] (p := [(!(a.Id == b.Id)) = false,
       (a.Amount != b.Amount) = false,
       (a.Due != b.Due) = true]) (by kernel_rfl) (cj (nf h1) (cj h2 (cj1 h3))))) (fun h3 =>
      Pn.some (Fn.of [.bit false, .bit false, .bit false] (p := [(!(a.Id == b.Id)) = false,
       (a.Amount != b.Amount) = false,
       (a.Due != b.Due) = false]) (by kernel_rfl) (cj (nf h1) (cj h2 (cj1 h3))))))) (fun h1 =>
    Pn.some (Fn.of [.bit true] (p := [(!(a.Id == b.Id)) = true]) (by kernel_rfl) (cj1 (nt h1))))
def laws_eqHoldS_l0 (a : List Hold) (b : List Hold) : List Hold → List Hold → Option (Lo Unit Unit)
  | [], p1 =>
   some (.out ())
  | x1 :: t1, p1 =>
   (b[(p1.length : Int).toNat]?).bind fun x2 =>
   (laws_eqHold x1 x2).bind fun r1 =>
   if r1 = true then
    laws_eqHoldS_l0 a b t1 (p1 ++ [x1])
   else
    some (.ret ())
theorem laws_eqHoldS_l0_ok (a : List Hold) (b : List Hold) (h3 : capOk a.length = true) : ∀ (t1 p1 : List Hold) (_ : a = p1 ++ t1) , Pn (LpO Try.prog (sub (codeOf Try.prog 64) [1, 1, 0, 1, 0, 0]) (st 27 [(0, V.sl false 126 (List.map E126 a)), (1, V.sl false 126 (List.map E126 b)), (5, V.sc (.int .i64 (p1.length : Int)))] [] []) (fun (y : Lo Unit Unit) => Lo.elim y (fun s => (X.out 0, st 27 [] [] [])) (fun s => (X.ret, st 27 [(4, V.sc (.bool false))] [] [])))) (laws_eqHoldS_l0 a b t1 p1)
  | [], p1, h2 => by
    unfold laws_eqHoldS_l0
    exact
     Pn.some (LpO.out [.wait 3, .nm 13 (V.sc (.int .i64 (a.length : Int))), .bit false, .mask [], .ren []] (p := [V.sc (.int .i64 ((List.map E126 a).length : Int)) = V.sc (.int .i64 (a.length : Int)),
      (decide ((p1.length : Int) < (a.length : Int))) = false]) (by kernel_rfl) (show X.out 0 ≠ X.go from nofun) (cj (len_nm _ _) (cj1 (rng_end h2))))
  | x1 :: t1, p1, h2 => by
    unfold laws_eqHoldS_l0
    exact
     Pn.bind (fun x2 h4 =>
      Pn.bind (fun r1 h5 =>
       Pn.ite (fun h6 =>
        LpO.go [.wait 3, .nm 13 (V.sc (.int .i64 (a.length : Int))), .bit true, .draw [], .el (E126 x1), .el (E126 x2), .call [] (E4 r1) [], .bit false, .wait 3, .mask [0, 1, 5], .ren [], .nm 5 (V.sc (.int .i64 ((p1 ++ [x1]).length : Int)))] (p := [V.sc (.int .i64 ((List.map E126 a).length : Int)) = V.sc (.int .i64 (a.length : Int)),
         (decide ((p1.length : Int) < (a.length : Int))) = true,
         (0 : Int) ≤ (p1.length : Int),
         (List.map E126 a)[(p1.length : Int).toNat]? = some (E126 x1),
         (0 : Int) ≤ (p1.length : Int),
         (List.map E126 b)[(p1.length : Int).toNat]? = some (E126 x2),
         Fn Try.prog 80 [(false, E126 x1), (false, E126 x2)] (E4 r1) [],
         (true || ((E4 r1).nv && nvL [])) = true,
         (!r1) = false,
         V.sc (.int .i64 (i64 ((p1.length : Int) + 1))) = V.sc (.int .i64 ((p1 ++ [x1]).length : Int))]) (by kernel_rfl) (cj (len_nm _ _) (cj (rng_lt h2) (cj (by omega) (cj (rng_get _ h2) (cj (by omega) (cj (map_get h4) (cj (laws_eqHold_ok x1 x2 r1 h5) (cj rfl (cj (nf h6) (cj1 (rng_next h2 h3))))))))))) (laws_eqHoldS_l0_ok a b h3 t1 (p1 ++ [x1]) (rng_step h2))) (fun h6 =>
        Pn.some (LpO.out [.wait 3, .nm 13 (V.sc (.int .i64 (a.length : Int))), .bit true, .draw [], .el (E126 x1), .el (E126 x2), .call [] (E4 r1) [], .bit true, .wait 1, .mask [4], .ren []] (p := [V.sc (.int .i64 ((List.map E126 a).length : Int)) = V.sc (.int .i64 (a.length : Int)),
         (decide ((p1.length : Int) < (a.length : Int))) = true,
         (0 : Int) ≤ (p1.length : Int),
         (List.map E126 a)[(p1.length : Int).toNat]? = some (E126 x1),
         (0 : Int) ≤ (p1.length : Int),
         (List.map E126 b)[(p1.length : Int).toNat]? = some (E126 x2),
         Fn Try.prog 80 [(false, E126 x1), (false, E126 x2)] (E4 r1) [],
         (true || ((E4 r1).nv && nvL [])) = true,
         (!r1) = true]) (by kernel_rfl) (show X.ret ≠ X.go from nofun) (cj (len_nm _ _) (cj (rng_lt h2) (cj (by omega) (cj (rng_get _ h2) (cj (by omega) (cj (map_get h4) (cj (laws_eqHold_ok x1 x2 r1 h5) (cj rfl (cj1 (nt h6))))))))))))))
def laws_eqHoldS (a : List Hold) (b : List Hold) : Option (Bool) :=
 if ((a.length : Int) != (b.length : Int)) = true then
  some false
 else
  if (capOk a.length) = true then
   (laws_eqHoldS_l0 a b a []).bind fun r2 =>
   Lo.elim r2 (fun s1 =>
    some true) (fun s2 =>
    some false)
  else none
theorem laws_eqHoldS_ok (a : List Hold) (b : List Hold) : Pn (fun y => Fn Try.prog 64 [(false, E50 a), (false, E50 b)] (E4 y) []) (laws_eqHoldS a b) := by
  unfold laws_eqHoldS
  exact
   Pn.ite (fun h1 =>
    Pn.some (Fn.of [.wait 3, .nm 7 (V.sc (.int .i64 (a.length : Int))), .wait 2, .nm 9 (V.sc (.int .i64 (b.length : Int))), .bit true] (p := [V.sc (.int .i64 ((List.map E126 a).length : Int)) = V.sc (.int .i64 (a.length : Int)),
     V.sc (.int .i64 ((List.map E126 b).length : Int)) = V.sc (.int .i64 (b.length : Int)),
     ((a.length : Int) != (b.length : Int)) = true]) (by kernel_rfl) (cj (len_nm _ _) (cj (len_nm _ _) (cj1 h1))))) (fun h1 =>
    Pn.ite (fun h7 =>
     Pn.bind (fun r2 h8 =>
      Pn.lo (fun s1 h9 =>
       Pn.some (Fn.of [.wait 3, .nm 7 (V.sc (.int .i64 (a.length : Int))), .wait 2, .nm 9 (V.sc (.int .i64 (b.length : Int))), .bit false, .wait 1, .mask [0, 1, 5], .ren [], .loop (X.out 0) (st 27 [] [] [])] (p := [V.sc (.int .i64 ((List.map E126 a).length : Int)) = V.sc (.int .i64 (a.length : Int)),
        V.sc (.int .i64 ((List.map E126 b).length : Int)) = V.sc (.int .i64 (b.length : Int)),
        ((a.length : Int) != (b.length : Int)) = false,
        Loop Try.prog (sub (codeOf Try.prog 64) [1, 1, 0, 1, 0, 0]) (st 27 [(0, V.sl false 126 (List.map E126 a)), (1, V.sl false 126 (List.map E126 b)), (5, V.sc (.int .i64 0))] [] []) (X.out 0) (st 27 [] [] [])]) (by kernel_rfl) (cj (len_nm _ _) (cj (len_nm _ _) (cj h1 (cj1 ((laws_eqHoldS_l0_ok a b h7 a [] rfl r2 h8).at h9))))))) (fun s2 h10 =>
       Pn.some (Fn.of [.wait 3, .nm 7 (V.sc (.int .i64 (a.length : Int))), .wait 2, .nm 9 (V.sc (.int .i64 (b.length : Int))), .bit false, .wait 1, .mask [0, 1, 5], .ren [], .loop (X.ret) (st 27 [(4, V.sc (.bool false))] [] [])] (p := [V.sc (.int .i64 ((List.map E126 a).length : Int)) = V.sc (.int .i64 (a.length : Int)),
        V.sc (.int .i64 ((List.map E126 b).length : Int)) = V.sc (.int .i64 (b.length : Int)),
        ((a.length : Int) != (b.length : Int)) = false,
        Loop Try.prog (sub (codeOf Try.prog 64) [1, 1, 0, 1, 0, 0]) (st 27 [(0, V.sl false 126 (List.map E126 a)), (1, V.sl false 126 (List.map E126 b)), (5, V.sc (.int .i64 0))] [] []) (X.ret) (st 27 [(4, V.sc (.bool false))] [] [])]) (by kernel_rfl) (cj (len_nm _ _) (cj (len_nm _ _) (cj h1 (cj1 ((laws_eqHoldS_l0_ok a b h7 a [] rfl r2 h8).at h10))))))))) (fun h7 =>
     Pn.none))
def laws_eqIntS_l0 (a : List Int) (b : List Int) : List Int → List Int → Option (Lo Unit Unit)
  | [], p1 =>
   some (.out ())
  | x1 :: t1, p1 =>
   (b[(p1.length : Int).toNat]?).bind fun x2 =>
   if (x1 != x2) = true then
    some (.ret ())
   else
    laws_eqIntS_l0 a b t1 (p1 ++ [x1])
theorem laws_eqIntS_l0_ok (a : List Int) (b : List Int) (h3 : capOk a.length = true) : ∀ (t1 p1 : List Int) (_ : a = p1 ++ t1) , Pn (LpO Try.prog (sub (codeOf Try.prog 72) [1, 1, 0, 1, 0, 0]) (st 26 [(0, V.sl false 3 (List.map E3 a)), (1, V.sl false 3 (List.map E3 b)), (5, V.sc (.int .i64 (p1.length : Int)))] [] []) (fun (y : Lo Unit Unit) => Lo.elim y (fun s => (X.out 0, st 26 [] [] [])) (fun s => (X.ret, st 26 [(4, V.sc (.bool false))] [] [])))) (laws_eqIntS_l0 a b t1 p1)
  | [], p1, h2 => by
    unfold laws_eqIntS_l0
    exact
     Pn.some (LpO.out [.wait 3, .nm 13 (V.sc (.int .i64 (a.length : Int))), .bit false, .mask [], .ren []] (p := [V.sc (.int .i64 ((List.map E3 a).length : Int)) = V.sc (.int .i64 (a.length : Int)),
      (decide ((p1.length : Int) < (a.length : Int))) = false]) (by kernel_rfl) (show X.out 0 ≠ X.go from nofun) (cj (len_nm _ _) (cj1 (rng_end h2))))
  | x1 :: t1, p1, h2 => by
    unfold laws_eqIntS_l0
    exact
     Pn.bind (fun x2 h4 =>
      Pn.ite (fun h5 =>
       Pn.some (LpO.out [.wait 3, .nm 13 (V.sc (.int .i64 (a.length : Int))), .bit true, .draw [], .el (E3 x1), .el (E3 x2), .bit true, .wait 1, .mask [4], .ren []] (p := [V.sc (.int .i64 ((List.map E3 a).length : Int)) = V.sc (.int .i64 (a.length : Int)),
        (decide ((p1.length : Int) < (a.length : Int))) = true,
        (0 : Int) ≤ (p1.length : Int),
        (List.map E3 a)[(p1.length : Int).toNat]? = some (E3 x1),
        (0 : Int) ≤ (p1.length : Int),
        (List.map E3 b)[(p1.length : Int).toNat]? = some (E3 x2),
        (x1 != x2) = true]) (by kernel_rfl) (show X.ret ≠ X.go from nofun) (cj (len_nm _ _) (cj (rng_lt h2) (cj (by omega) (cj (rng_get _ h2) (cj (by omega) (cj (map_get h4) (cj1 h5))))))))) (fun h5 =>
       LpO.go [.wait 3, .nm 13 (V.sc (.int .i64 (a.length : Int))), .bit true, .draw [], .el (E3 x1), .el (E3 x2), .bit false, .wait 3, .mask [0, 1, 5], .ren [], .nm 5 (V.sc (.int .i64 ((p1 ++ [x1]).length : Int)))] (p := [V.sc (.int .i64 ((List.map E3 a).length : Int)) = V.sc (.int .i64 (a.length : Int)),
        (decide ((p1.length : Int) < (a.length : Int))) = true,
        (0 : Int) ≤ (p1.length : Int),
        (List.map E3 a)[(p1.length : Int).toNat]? = some (E3 x1),
        (0 : Int) ≤ (p1.length : Int),
        (List.map E3 b)[(p1.length : Int).toNat]? = some (E3 x2),
        (x1 != x2) = false,
        V.sc (.int .i64 (i64 ((p1.length : Int) + 1))) = V.sc (.int .i64 ((p1 ++ [x1]).length : Int))]) (by kernel_rfl) (cj (len_nm _ _) (cj (rng_lt h2) (cj (by omega) (cj (rng_get _ h2) (cj (by omega) (cj (map_get h4) (cj h5 (cj1 (rng_next h2 h3))))))))) (laws_eqIntS_l0_ok a b h3 t1 (p1 ++ [x1]) (rng_step h2))))
def laws_eqIntS (a : List Int) (b : List Int) : Option (Bool) :=
 if ((a.length : Int) != (b.length : Int)) = true then
  some false
 else
  if (capOk a.length) = true then
   (laws_eqIntS_l0 a b a []).bind fun r1 =>
   Lo.elim r1 (fun s1 =>
    some true) (fun s2 =>
    some false)
  else none
theorem laws_eqIntS_ok (a : List Int) (b : List Int) : Pn (fun y => Fn Try.prog 72 [(false, E51 a), (false, E51 b)] (E4 y) []) (laws_eqIntS a b) := by
  unfold laws_eqIntS
  exact
   Pn.ite (fun h1 =>
    Pn.some (Fn.of [.wait 3, .nm 7 (V.sc (.int .i64 (a.length : Int))), .wait 2, .nm 9 (V.sc (.int .i64 (b.length : Int))), .bit true] (p := [V.sc (.int .i64 ((List.map E3 a).length : Int)) = V.sc (.int .i64 (a.length : Int)),
     V.sc (.int .i64 ((List.map E3 b).length : Int)) = V.sc (.int .i64 (b.length : Int)),
     ((a.length : Int) != (b.length : Int)) = true]) (by kernel_rfl) (cj (len_nm _ _) (cj (len_nm _ _) (cj1 h1))))) (fun h1 =>
    Pn.ite (fun h6 =>
     Pn.bind (fun r1 h7 =>
      Pn.lo (fun s1 h8 =>
       Pn.some (Fn.of [.wait 3, .nm 7 (V.sc (.int .i64 (a.length : Int))), .wait 2, .nm 9 (V.sc (.int .i64 (b.length : Int))), .bit false, .wait 1, .mask [0, 1, 5], .ren [], .loop (X.out 0) (st 26 [] [] [])] (p := [V.sc (.int .i64 ((List.map E3 a).length : Int)) = V.sc (.int .i64 (a.length : Int)),
        V.sc (.int .i64 ((List.map E3 b).length : Int)) = V.sc (.int .i64 (b.length : Int)),
        ((a.length : Int) != (b.length : Int)) = false,
        Loop Try.prog (sub (codeOf Try.prog 72) [1, 1, 0, 1, 0, 0]) (st 26 [(0, V.sl false 3 (List.map E3 a)), (1, V.sl false 3 (List.map E3 b)), (5, V.sc (.int .i64 0))] [] []) (X.out 0) (st 26 [] [] [])]) (by kernel_rfl) (cj (len_nm _ _) (cj (len_nm _ _) (cj h1 (cj1 ((laws_eqIntS_l0_ok a b h6 a [] rfl r1 h7).at h8))))))) (fun s2 h9 =>
       Pn.some (Fn.of [.wait 3, .nm 7 (V.sc (.int .i64 (a.length : Int))), .wait 2, .nm 9 (V.sc (.int .i64 (b.length : Int))), .bit false, .wait 1, .mask [0, 1, 5], .ren [], .loop (X.ret) (st 26 [(4, V.sc (.bool false))] [] [])] (p := [V.sc (.int .i64 ((List.map E3 a).length : Int)) = V.sc (.int .i64 (a.length : Int)),
        V.sc (.int .i64 ((List.map E3 b).length : Int)) = V.sc (.int .i64 (b.length : Int)),
        ((a.length : Int) != (b.length : Int)) = false,
        Loop Try.prog (sub (codeOf Try.prog 72) [1, 1, 0, 1, 0, 0]) (st 26 [(0, V.sl false 3 (List.map E3 a)), (1, V.sl false 3 (List.map E3 b)), (5, V.sc (.int .i64 0))] [] []) (X.ret) (st 26 [(4, V.sc (.bool false))] [] [])]) (by kernel_rfl) (cj (len_nm _ _) (cj (len_nm _ _) (cj h1 (cj1 ((laws_eqIntS_l0_ok a b h6 a [] rfl r1 h7).at h9))))))))) (fun h6 =>
     Pn.none))
def laws_eqRing (a : Ring) (b : Ring) : Option (Bool) :=
 if (a.Span != b.Span) = true then
  some false
 else
  if (a.Head != b.Head) = true then
   some false
  else
   (laws_eqIntS a.Counts b.Counts).bind fun r1 =>
   if r1 = true then
    (laws_eqIntS a.Sums b.Sums).bind fun r2 =>
    if r2 = true then
     some true
    else
     some false
   else
    some false
theorem laws_eqRing_ok (a : Ring) (b : Ring) : Pn (fun y => Fn Try.prog 65 [(false, E53 a), (false, E53 b)] (E4 y) []) (laws_eqRing a b) := by
  unfold laws_eqRing
  exact
   Pn.ite (fun h1 =>
    Pn.some (Fn.of [.bit true] (p := [(a.Span != b.Span) = true]) (by kernel_rfl) (cj1 h1))) (fun h1 =>
    Pn.ite (fun h2 =>
     Pn.some (Fn.of [.bit false, .bit true] (p := [(a.Span != b.Span) = false,
      (a.Head != b.Head) = true]) (by kernel_rfl) (cj h1 (cj1 h2)))) (fun h2 =>
     Pn.bind (fun r1 h3 =>
      Pn.ite (fun h4 =>
       Pn.bind (fun r2 h5 =>
        Pn.ite (fun h6 =>
         Pn.some (Fn.of [.bit false, .bit false, .call [] (E4 r1) [], .bit false, .call [] (E4 r2) [], .bit false] (p := [(a.Span != b.Span) = false,
          (a.Head != b.Head) = false,
          Fn Try.prog 72 [(false, E51 a.Counts), (false, E51 b.Counts)] (E4 r1) [],
          (true || ((E4 r1).nv && nvL [])) = true,
          (!r1) = false,
          Fn Try.prog 72 [(false, E51 a.Sums), (false, E51 b.Sums)] (E4 r2) [],
          (true || ((E4 r2).nv && nvL [])) = true,
          (!r2) = false]) (by kernel_rfl) (cj h1 (cj h2 (cj (laws_eqIntS_ok a.Counts b.Counts r1 h3) (cj rfl (cj (nf h4) (cj (laws_eqIntS_ok a.Sums b.Sums r2 h5) (cj rfl (cj1 (nf h6))))))))))) (fun h6 =>
         Pn.some (Fn.of [.bit false, .bit false, .call [] (E4 r1) [], .bit false, .call [] (E4 r2) [], .bit true] (p := [(a.Span != b.Span) = false,
          (a.Head != b.Head) = false,
          Fn Try.prog 72 [(false, E51 a.Counts), (false, E51 b.Counts)] (E4 r1) [],
          (true || ((E4 r1).nv && nvL [])) = true,
          (!r1) = false,
          Fn Try.prog 72 [(false, E51 a.Sums), (false, E51 b.Sums)] (E4 r2) [],
          (true || ((E4 r2).nv && nvL [])) = true,
          (!r2) = true]) (by kernel_rfl) (cj h1 (cj h2 (cj (laws_eqIntS_ok a.Counts b.Counts r1 h3) (cj rfl (cj (nf h4) (cj (laws_eqIntS_ok a.Sums b.Sums r2 h5) (cj rfl (cj1 (nt h6))))))))))))) (fun h4 =>
       Pn.some (Fn.of [.bit false, .bit false, .call [] (E4 r1) [], .bit true] (p := [(a.Span != b.Span) = false,
        (a.Head != b.Head) = false,
        Fn Try.prog 72 [(false, E51 a.Counts), (false, E51 b.Counts)] (E4 r1) [],
        (true || ((E4 r1).nv && nvL [])) = true,
        (!r1) = true]) (by kernel_rfl) (cj h1 (cj h2 (cj (laws_eqIntS_ok a.Counts b.Counts r1 h3) (cj rfl (cj1 (nt h4)))))))))))
def laws_eqByteS_l0 (a : List Int) (b : List Int) : List Int → List Int → Option (Lo Unit Unit)
  | [], p1 =>
   some (.out ())
  | x1 :: t1, p1 =>
   (b[(p1.length : Int).toNat]?).bind fun x2 =>
   if (x1 != x2) = true then
    some (.ret ())
   else
    laws_eqByteS_l0 a b t1 (p1 ++ [x1])
theorem laws_eqByteS_l0_ok (a : List Int) (b : List Int) (h3 : capOk a.length = true) : ∀ (t1 p1 : List Int) (_ : a = p1 ++ t1) , Pn (LpO Try.prog (sub (codeOf Try.prog 53) [1, 1, 0, 1, 0, 0]) (st 26 [(0, V.sl false 5 (List.map E5 a)), (1, V.sl false 5 (List.map E5 b)), (5, V.sc (.int .i64 (p1.length : Int)))] [] []) (fun (y : Lo Unit Unit) => Lo.elim y (fun s => (X.out 0, st 26 [] [] [])) (fun s => (X.ret, st 26 [(4, V.sc (.bool false))] [] [])))) (laws_eqByteS_l0 a b t1 p1)
  | [], p1, h2 => by
    unfold laws_eqByteS_l0
    exact
     Pn.some (LpO.out [.wait 3, .nm 13 (V.sc (.int .i64 (a.length : Int))), .bit false, .mask [], .ren []] (p := [V.sc (.int .i64 ((List.map E5 a).length : Int)) = V.sc (.int .i64 (a.length : Int)),
      (decide ((p1.length : Int) < (a.length : Int))) = false]) (by kernel_rfl) (show X.out 0 ≠ X.go from nofun) (cj (len_nm _ _) (cj1 (rng_end h2))))
  | x1 :: t1, p1, h2 => by
    unfold laws_eqByteS_l0
    exact
     Pn.bind (fun x2 h4 =>
      Pn.ite (fun h5 =>
       Pn.some (LpO.out [.wait 3, .nm 13 (V.sc (.int .i64 (a.length : Int))), .bit true, .draw [], .el (E5 x1), .el (E5 x2), .bit true, .wait 1, .mask [4], .ren []] (p := [V.sc (.int .i64 ((List.map E5 a).length : Int)) = V.sc (.int .i64 (a.length : Int)),
        (decide ((p1.length : Int) < (a.length : Int))) = true,
        (0 : Int) ≤ (p1.length : Int),
        (List.map E5 a)[(p1.length : Int).toNat]? = some (E5 x1),
        (0 : Int) ≤ (p1.length : Int),
        (List.map E5 b)[(p1.length : Int).toNat]? = some (E5 x2),
        (x1 != x2) = true]) (by kernel_rfl) (show X.ret ≠ X.go from nofun) (cj (len_nm _ _) (cj (rng_lt h2) (cj (by omega) (cj (rng_get _ h2) (cj (by omega) (cj (map_get h4) (cj1 h5))))))))) (fun h5 =>
       LpO.go [.wait 3, .nm 13 (V.sc (.int .i64 (a.length : Int))), .bit true, .draw [], .el (E5 x1), .el (E5 x2), .bit false, .wait 3, .mask [0, 1, 5], .ren [], .nm 5 (V.sc (.int .i64 ((p1 ++ [x1]).length : Int)))] (p := [V.sc (.int .i64 ((List.map E5 a).length : Int)) = V.sc (.int .i64 (a.length : Int)),
        (decide ((p1.length : Int) < (a.length : Int))) = true,
        (0 : Int) ≤ (p1.length : Int),
        (List.map E5 a)[(p1.length : Int).toNat]? = some (E5 x1),
        (0 : Int) ≤ (p1.length : Int),
        (List.map E5 b)[(p1.length : Int).toNat]? = some (E5 x2),
        (x1 != x2) = false,
        V.sc (.int .i64 (i64 ((p1.length : Int) + 1))) = V.sc (.int .i64 ((p1 ++ [x1]).length : Int))]) (by kernel_rfl) (cj (len_nm _ _) (cj (rng_lt h2) (cj (by omega) (cj (rng_get _ h2) (cj (by omega) (cj (map_get h4) (cj h5 (cj1 (rng_next h2 h3))))))))) (laws_eqByteS_l0_ok a b h3 t1 (p1 ++ [x1]) (rng_step h2))))
def laws_eqByteS (a : List Int) (b : List Int) : Option (Bool) :=
 if ((a.length : Int) != (b.length : Int)) = true then
  some false
 else
  if (capOk a.length) = true then
   (laws_eqByteS_l0 a b a []).bind fun r1 =>
   Lo.elim r1 (fun s1 =>
    some true) (fun s2 =>
    some false)
  else none
theorem laws_eqByteS_ok (a : List Int) (b : List Int) : Pn (fun y => Fn Try.prog 53 [(false, E63 a), (false, E63 b)] (E4 y) []) (laws_eqByteS a b) := by
  unfold laws_eqByteS
  exact
   Pn.ite (fun h1 =>
    Pn.some (Fn.of [.wait 3, .nm 7 (V.sc (.int .i64 (a.length : Int))), .wait 2, .nm 9 (V.sc (.int .i64 (b.length : Int))), .bit true] (p := [V.sc (.int .i64 ((List.map E5 a).length : Int)) = V.sc (.int .i64 (a.length : Int)),
     V.sc (.int .i64 ((List.map E5 b).length : Int)) = V.sc (.int .i64 (b.length : Int)),
     ((a.length : Int) != (b.length : Int)) = true]) (by kernel_rfl) (cj (len_nm _ _) (cj (len_nm _ _) (cj1 h1))))) (fun h1 =>
    Pn.ite (fun h6 =>
     Pn.bind (fun r1 h7 =>
      Pn.lo (fun s1 h8 =>
       Pn.some (Fn.of [.wait 3, .nm 7 (V.sc (.int .i64 (a.length : Int))), .wait 2, .nm 9 (V.sc (.int .i64 (b.length : Int))), .bit false, .wait 1, .mask [0, 1, 5], .ren [], .loop (X.out 0) (st 26 [] [] [])] (p := [V.sc (.int .i64 ((List.map E5 a).length : Int)) = V.sc (.int .i64 (a.length : Int)),
        V.sc (.int .i64 ((List.map E5 b).length : Int)) = V.sc (.int .i64 (b.length : Int)),
        ((a.length : Int) != (b.length : Int)) = false,
        Loop Try.prog (sub (codeOf Try.prog 53) [1, 1, 0, 1, 0, 0]) (st 26 [(0, V.sl false 5 (List.map E5 a)), (1, V.sl false 5 (List.map E5 b)), (5, V.sc (.int .i64 0))] [] []) (X.out 0) (st 26 [] [] [])]) (by kernel_rfl) (cj (len_nm _ _) (cj (len_nm _ _) (cj h1 (cj1 ((laws_eqByteS_l0_ok a b h6 a [] rfl r1 h7).at h8))))))) (fun s2 h9 =>
       Pn.some (Fn.of [.wait 3, .nm 7 (V.sc (.int .i64 (a.length : Int))), .wait 2, .nm 9 (V.sc (.int .i64 (b.length : Int))), .bit false, .wait 1, .mask [0, 1, 5], .ren [], .loop (X.ret) (st 26 [(4, V.sc (.bool false))] [] [])] (p := [V.sc (.int .i64 ((List.map E5 a).length : Int)) = V.sc (.int .i64 (a.length : Int)),
        V.sc (.int .i64 ((List.map E5 b).length : Int)) = V.sc (.int .i64 (b.length : Int)),
        ((a.length : Int) != (b.length : Int)) = false,
        Loop Try.prog (sub (codeOf Try.prog 53) [1, 1, 0, 1, 0, 0]) (st 26 [(0, V.sl false 5 (List.map E5 a)), (1, V.sl false 5 (List.map E5 b)), (5, V.sc (.int .i64 0))] [] []) (X.ret) (st 26 [(4, V.sc (.bool false))] [] [])]) (by kernel_rfl) (cj (len_nm _ _) (cj (len_nm _ _) (cj h1 (cj1 ((laws_eqByteS_l0_ok a b h6 a [] rfl r1 h7).at h9))))))))) (fun h6 =>
     Pn.none))
def laws_eqSlot (a : Slot) (b : Slot) : Option (Bool) :=
 if (a.Trace == b.Trace) = true then
  if (a.Mti == b.Mti) = true then
   (laws_eqByteS a.Reply b.Reply).bind fun r1 =>
   if r1 = true then
    some true
   else
    some false
  else
   some false
 else
  some false
theorem laws_eqSlot_ok (a : Slot) (b : Slot) : Pn (fun y => Fn Try.prog 81 [(false, E85 a), (false, E85 b)] (E4 y) []) (laws_eqSlot a b) := by
  unfold laws_eqSlot
  exact
   Pn.ite (fun h1 =>
    Pn.ite (fun h2 =>
     Pn.bind (fun r1 h3 =>
      Pn.ite (fun h4 =>
       Pn.some (Fn.of [.bit false, .bit false, .call [] (E4 r1) [], .bit false] (p := [(!(a.Trace == b.Trace)) = false,
        (!(a.Mti == b.Mti)) = false,
        Fn Try.prog 53 [(false, E63 a.Reply), (false, E63 b.Reply)] (E4 r1) [],
        (true || ((E4 r1).nv && nvL [])) = true,
        (!r1) = false]) (by kernel_rfl) (cj (nf h1) (cj (nf h2) (cj (laws_eqByteS_ok a.Reply b.Reply r1 h3) (cj rfl (cj1 (nf h4)))))))) (fun h4 =>
       Pn.some (Fn.of [.bit false, .bit false, .call [] (E4 r1) [], .bit true] (p := [(!(a.Trace == b.Trace)) = false,
        (!(a.Mti == b.Mti)) = false,
        Fn Try.prog 53 [(false, E63 a.Reply), (false, E63 b.Reply)] (E4 r1) [],
        (true || ((E4 r1).nv && nvL [])) = true,
        (!r1) = true]) (by kernel_rfl) (cj (nf h1) (cj (nf h2) (cj (laws_eqByteS_ok a.Reply b.Reply r1 h3) (cj rfl (cj1 (nt h4)))))))))) (fun h2 =>
     Pn.some (Fn.of [.bit false, .bit true] (p := [(!(a.Trace == b.Trace)) = false,
      (!(a.Mti == b.Mti)) = true]) (by kernel_rfl) (cj (nf h1) (cj1 (nt h2)))))) (fun h1 =>
    Pn.some (Fn.of [.bit true] (p := [(!(a.Trace == b.Trace)) = true]) (by kernel_rfl) (cj1 (nt h1))))
def laws_eqSlotS_l0 (a : List Slot) (b : List Slot) : List Slot → List Slot → Option (Lo Unit Unit)
  | [], p1 =>
   some (.out ())
  | x1 :: t1, p1 =>
   (b[(p1.length : Int).toNat]?).bind fun x2 =>
   (laws_eqSlot x1 x2).bind fun r1 =>
   if r1 = true then
    laws_eqSlotS_l0 a b t1 (p1 ++ [x1])
   else
    some (.ret ())
theorem laws_eqSlotS_l0_ok (a : List Slot) (b : List Slot) (h3 : capOk a.length = true) : ∀ (t1 p1 : List Slot) (_ : a = p1 ++ t1) , Pn (LpO Try.prog (sub (codeOf Try.prog 66) [1, 1, 0, 1, 0, 0]) (st 27 [(0, V.sl false 85 (List.map E85 a)), (1, V.sl false 85 (List.map E85 b)), (5, V.sc (.int .i64 (p1.length : Int)))] [] []) (fun (y : Lo Unit Unit) => Lo.elim y (fun s => (X.out 0, st 27 [] [] [])) (fun s => (X.ret, st 27 [(4, V.sc (.bool false))] [] [])))) (laws_eqSlotS_l0 a b t1 p1)
  | [], p1, h2 => by
    unfold laws_eqSlotS_l0
    exact
     Pn.some (LpO.out [.wait 3, .nm 13 (V.sc (.int .i64 (a.length : Int))), .bit false, .mask [], .ren []] (p := [V.sc (.int .i64 ((List.map E85 a).length : Int)) = V.sc (.int .i64 (a.length : Int)),
      (decide ((p1.length : Int) < (a.length : Int))) = false]) (by kernel_rfl) (show X.out 0 ≠ X.go from nofun) (cj (len_nm _ _) (cj1 (rng_end h2))))
  | x1 :: t1, p1, h2 => by
    unfold laws_eqSlotS_l0
    exact
     Pn.bind (fun x2 h4 =>
      Pn.bind (fun r1 h5 =>
       Pn.ite (fun h6 =>
        LpO.go [.wait 3, .nm 13 (V.sc (.int .i64 (a.length : Int))), .bit true, .draw [], .el (E85 x1), .el (E85 x2), .call [] (E4 r1) [], .bit false, .wait 3, .mask [0, 1, 5], .ren [], .nm 5 (V.sc (.int .i64 ((p1 ++ [x1]).length : Int)))] (p := [V.sc (.int .i64 ((List.map E85 a).length : Int)) = V.sc (.int .i64 (a.length : Int)),
         (decide ((p1.length : Int) < (a.length : Int))) = true,
         (0 : Int) ≤ (p1.length : Int),
         (List.map E85 a)[(p1.length : Int).toNat]? = some (E85 x1),
         (0 : Int) ≤ (p1.length : Int),
         (List.map E85 b)[(p1.length : Int).toNat]? = some (E85 x2),
         Fn Try.prog 81 [(false, E85 x1), (false, E85 x2)] (E4 r1) [],
         (true || ((E4 r1).nv && nvL [])) = true,
         (!r1) = false,
         V.sc (.int .i64 (i64 ((p1.length : Int) + 1))) = V.sc (.int .i64 ((p1 ++ [x1]).length : Int))]) (by kernel_rfl) (cj (len_nm _ _) (cj (rng_lt h2) (cj (by omega) (cj (rng_get _ h2) (cj (by omega) (cj (map_get h4) (cj (laws_eqSlot_ok x1 x2 r1 h5) (cj rfl (cj (nf h6) (cj1 (rng_next h2 h3))))))))))) (laws_eqSlotS_l0_ok a b h3 t1 (p1 ++ [x1]) (rng_step h2))) (fun h6 =>
        Pn.some (LpO.out [.wait 3, .nm 13 (V.sc (.int .i64 (a.length : Int))), .bit true, .draw [], .el (E85 x1), .el (E85 x2), .call [] (E4 r1) [], .bit true, .wait 1, .mask [4], .ren []] (p := [V.sc (.int .i64 ((List.map E85 a).length : Int)) = V.sc (.int .i64 (a.length : Int)),
         (decide ((p1.length : Int) < (a.length : Int))) = true,
         (0 : Int) ≤ (p1.length : Int),
         (List.map E85 a)[(p1.length : Int).toNat]? = some (E85 x1),
         (0 : Int) ≤ (p1.length : Int),
         (List.map E85 b)[(p1.length : Int).toNat]? = some (E85 x2),
         Fn Try.prog 81 [(false, E85 x1), (false, E85 x2)] (E4 r1) [],
         (true || ((E4 r1).nv && nvL [])) = true,
         (!r1) = true]) (by kernel_rfl) (show X.ret ≠ X.go from nofun) (cj (len_nm _ _) (cj (rng_lt h2) (cj (by omega) (cj (rng_get _ h2) (cj (by omega) (cj (map_get h4) (cj (laws_eqSlot_ok x1 x2 r1 h5) (cj rfl (cj1 (nt h6))))))))))))))
def laws_eqSlotS (a : List Slot) (b : List Slot) : Option (Bool) :=
 if ((a.length : Int) != (b.length : Int)) = true then
  some false
 else
  if (capOk a.length) = true then
   (laws_eqSlotS_l0 a b a []).bind fun r2 =>
   Lo.elim r2 (fun s1 =>
    some true) (fun s2 =>
    some false)
  else none
theorem laws_eqSlotS_ok (a : List Slot) (b : List Slot) : Pn (fun y => Fn Try.prog 66 [(false, E54 a), (false, E54 b)] (E4 y) []) (laws_eqSlotS a b) := by
  unfold laws_eqSlotS
  exact
   Pn.ite (fun h1 =>
    Pn.some (Fn.of [.wait 3, .nm 7 (V.sc (.int .i64 (a.length : Int))), .wait 2, .nm 9 (V.sc (.int .i64 (b.length : Int))), .bit true] (p := [V.sc (.int .i64 ((List.map E85 a).length : Int)) = V.sc (.int .i64 (a.length : Int)),
     V.sc (.int .i64 ((List.map E85 b).length : Int)) = V.sc (.int .i64 (b.length : Int)),
     ((a.length : Int) != (b.length : Int)) = true]) (by kernel_rfl) (cj (len_nm _ _) (cj (len_nm _ _) (cj1 h1))))) (fun h1 =>
    Pn.ite (fun h7 =>
     Pn.bind (fun r2 h8 =>
      Pn.lo (fun s1 h9 =>
       Pn.some (Fn.of [.wait 3, .nm 7 (V.sc (.int .i64 (a.length : Int))), .wait 2, .nm 9 (V.sc (.int .i64 (b.length : Int))), .bit false, .wait 1, .mask [0, 1, 5], .ren [], .loop (X.out 0) (st 27 [] [] [])] (p := [V.sc (.int .i64 ((List.map E85 a).length : Int)) = V.sc (.int .i64 (a.length : Int)),
        V.sc (.int .i64 ((List.map E85 b).length : Int)) = V.sc (.int .i64 (b.length : Int)),
        ((a.length : Int) != (b.length : Int)) = false,
        Loop Try.prog (sub (codeOf Try.prog 66) [1, 1, 0, 1, 0, 0]) (st 27 [(0, V.sl false 85 (List.map E85 a)), (1, V.sl false 85 (List.map E85 b)), (5, V.sc (.int .i64 0))] [] []) (X.out 0) (st 27 [] [] [])]) (by kernel_rfl) (cj (len_nm _ _) (cj (len_nm _ _) (cj h1 (cj1 ((laws_eqSlotS_l0_ok a b h7 a [] rfl r2 h8).at h9))))))) (fun s2 h10 =>
       Pn.some (Fn.of [.wait 3, .nm 7 (V.sc (.int .i64 (a.length : Int))), .wait 2, .nm 9 (V.sc (.int .i64 (b.length : Int))), .bit false, .wait 1, .mask [0, 1, 5], .ren [], .loop (X.ret) (st 27 [(4, V.sc (.bool false))] [] [])] (p := [V.sc (.int .i64 ((List.map E85 a).length : Int)) = V.sc (.int .i64 (a.length : Int)),
        V.sc (.int .i64 ((List.map E85 b).length : Int)) = V.sc (.int .i64 (b.length : Int)),
        ((a.length : Int) != (b.length : Int)) = false,
        Loop Try.prog (sub (codeOf Try.prog 66) [1, 1, 0, 1, 0, 0]) (st 27 [(0, V.sl false 85 (List.map E85 a)), (1, V.sl false 85 (List.map E85 b)), (5, V.sc (.int .i64 0))] [] []) (X.ret) (st 27 [(4, V.sc (.bool false))] [] [])]) (by kernel_rfl) (cj (len_nm _ _) (cj (len_nm _ _) (cj h1 (cj1 ((laws_eqSlotS_l0_ok a b h7 a [] rfl r2 h8).at h10))))))))) (fun h7 =>
     Pn.none))
def laws_eqAcct (a : Acct) (b : Acct) : Option (Bool) :=
 if (a.Id == b.Id) = true then
  if (a.Limit != b.Limit) = true then
   some false
  else
   if (a.Posted != b.Posted) = true then
    some false
   else
    if (a.Most != b.Most) = true then
     some false
    else
     if (a.MostSum != b.MostSum) = true then
      some false
     else
      (laws_eqHoldS a.Holds b.Holds).bind fun r1 =>
      if r1 = true then
       (laws_eqRing a.Ring b.Ring).bind fun r2 =>
       if r2 = true then
        (laws_eqSlotS a.Slots b.Slots).bind fun r3 =>
        if r3 = true then
         some true
        else
         some false
       else
        some false
      else
       some false
 else
  some false
theorem laws_eqAcct_ok (a : Acct) (b : Acct) : Pn (fun y => Fn Try.prog 44 [(false, E56 a), (false, E56 b)] (E4 y) []) (laws_eqAcct a b) := by
  unfold laws_eqAcct
  exact
   Pn.ite (fun h1 =>
    Pn.ite (fun h2 =>
     Pn.some (Fn.of [.bit false, .bit true] (p := [(!(a.Id == b.Id)) = false,
      (a.Limit != b.Limit) = true]) (by kernel_rfl) (cj (nf h1) (cj1 h2)))) (fun h2 =>
     Pn.ite (fun h3 =>
      Pn.some (Fn.of [.bit false, .bit false, .bit true] (p := [(!(a.Id == b.Id)) = false,
       (a.Limit != b.Limit) = false,
       (a.Posted != b.Posted) = true]) (by kernel_rfl) (cj (nf h1) (cj h2 (cj1 h3))))) (fun h3 =>
      Pn.ite (fun h4 =>
       Pn.some (Fn.of [.bit false, .bit false, .bit false, .bit true] (p := [(!(a.Id == b.Id)) = false,
        (a.Limit != b.Limit) = false,
        (a.Posted != b.Posted) = false,
        (a.Most != b.Most) = true]) (by kernel_rfl) (cj (nf h1) (cj h2 (cj h3 (cj1 h4)))))) (fun h4 =>
       Pn.ite (fun h5 =>
        Pn.some (Fn.of [.bit false, .bit false, .bit false, .bit false, .bit true] (p := [(!(a.Id == b.Id)) = false,
         (a.Limit != b.Limit) = false,
         (a.Posted != b.Posted) = false,
         (a.Most != b.Most) = false,
         (a.MostSum != b.MostSum) = true]) (by kernel_rfl) (cj (nf h1) (cj h2 (cj h3 (cj h4 (cj1 h5))))))) (fun h5 =>
        Pn.bind (fun r1 h6 =>
         Pn.ite (fun h7 =>
          Pn.bind (fun r2 h8 =>
           Pn.ite (fun h9 =>
            Pn.bind (fun r3 h10 =>
             Pn.ite (fun h11 =>
              Pn.some (Fn.of [.bit false, .bit false, .bit false, .bit false, .bit false, .call [] (E4 r1) [], .bit false, .call [] (E4 r2) [], .bit false, .call [] (E4 r3) [], .bit false] (p := [(!(a.Id == b.Id)) = false,
               (a.Limit != b.Limit) = false,
               (a.Posted != b.Posted) = false,
               (a.Most != b.Most) = false,
               (a.MostSum != b.MostSum) = false,
               Fn Try.prog 64 [(false, E50 a.Holds), (false, E50 b.Holds)] (E4 r1) [],
               (true || ((E4 r1).nv && nvL [])) = true,
               (!r1) = false,
               Fn Try.prog 65 [(false, E53 a.Ring), (false, E53 b.Ring)] (E4 r2) [],
               (true || ((E4 r2).nv && nvL [])) = true,
               (!r2) = false,
               Fn Try.prog 66 [(false, E54 a.Slots), (false, E54 b.Slots)] (E4 r3) [],
               (true || ((E4 r3).nv && nvL [])) = true,
               (!r3) = false]) (by kernel_rfl) (cj (nf h1) (cj h2 (cj h3 (cj h4 (cj h5 (cj (laws_eqHoldS_ok a.Holds b.Holds r1 h6) (cj rfl (cj (nf h7) (cj (laws_eqRing_ok a.Ring b.Ring r2 h8) (cj rfl (cj (nf h9) (cj (laws_eqSlotS_ok a.Slots b.Slots r3 h10) (cj rfl (cj1 (nf h11))))))))))))))))) (fun h11 =>
              Pn.some (Fn.of [.bit false, .bit false, .bit false, .bit false, .bit false, .call [] (E4 r1) [], .bit false, .call [] (E4 r2) [], .bit false, .call [] (E4 r3) [], .bit true] (p := [(!(a.Id == b.Id)) = false,
               (a.Limit != b.Limit) = false,
               (a.Posted != b.Posted) = false,
               (a.Most != b.Most) = false,
               (a.MostSum != b.MostSum) = false,
               Fn Try.prog 64 [(false, E50 a.Holds), (false, E50 b.Holds)] (E4 r1) [],
               (true || ((E4 r1).nv && nvL [])) = true,
               (!r1) = false,
               Fn Try.prog 65 [(false, E53 a.Ring), (false, E53 b.Ring)] (E4 r2) [],
               (true || ((E4 r2).nv && nvL [])) = true,
               (!r2) = false,
               Fn Try.prog 66 [(false, E54 a.Slots), (false, E54 b.Slots)] (E4 r3) [],
               (true || ((E4 r3).nv && nvL [])) = true,
               (!r3) = true]) (by kernel_rfl) (cj (nf h1) (cj h2 (cj h3 (cj h4 (cj h5 (cj (laws_eqHoldS_ok a.Holds b.Holds r1 h6) (cj rfl (cj (nf h7) (cj (laws_eqRing_ok a.Ring b.Ring r2 h8) (cj rfl (cj (nf h9) (cj (laws_eqSlotS_ok a.Slots b.Slots r3 h10) (cj rfl (cj1 (nt h11))))))))))))))))))) (fun h9 =>
            Pn.some (Fn.of [.bit false, .bit false, .bit false, .bit false, .bit false, .call [] (E4 r1) [], .bit false, .call [] (E4 r2) [], .bit true] (p := [(!(a.Id == b.Id)) = false,
             (a.Limit != b.Limit) = false,
             (a.Posted != b.Posted) = false,
             (a.Most != b.Most) = false,
             (a.MostSum != b.MostSum) = false,
             Fn Try.prog 64 [(false, E50 a.Holds), (false, E50 b.Holds)] (E4 r1) [],
             (true || ((E4 r1).nv && nvL [])) = true,
             (!r1) = false,
             Fn Try.prog 65 [(false, E53 a.Ring), (false, E53 b.Ring)] (E4 r2) [],
             (true || ((E4 r2).nv && nvL [])) = true,
             (!r2) = true]) (by kernel_rfl) (cj (nf h1) (cj h2 (cj h3 (cj h4 (cj h5 (cj (laws_eqHoldS_ok a.Holds b.Holds r1 h6) (cj rfl (cj (nf h7) (cj (laws_eqRing_ok a.Ring b.Ring r2 h8) (cj rfl (cj1 (nt h9)))))))))))))))) (fun h7 =>
          Pn.some (Fn.of [.bit false, .bit false, .bit false, .bit false, .bit false, .call [] (E4 r1) [], .bit true] (p := [(!(a.Id == b.Id)) = false,
           (a.Limit != b.Limit) = false,
           (a.Posted != b.Posted) = false,
           (a.Most != b.Most) = false,
           (a.MostSum != b.MostSum) = false,
           Fn Try.prog 64 [(false, E50 a.Holds), (false, E50 b.Holds)] (E4 r1) [],
           (true || ((E4 r1).nv && nvL [])) = true,
           (!r1) = true]) (by kernel_rfl) (cj (nf h1) (cj h2 (cj h3 (cj h4 (cj h5 (cj (laws_eqHoldS_ok a.Holds b.Holds r1 h6) (cj rfl (cj1 (nt h7))))))))))))))))) (fun h1 =>
    Pn.some (Fn.of [.bit true] (p := [(!(a.Id == b.Id)) = true]) (by kernel_rfl) (cj1 (nt h1))))
def laws_eqAcctS_l0 (a : List Acct) (b : List Acct) : List Acct → List Acct → Option (Lo Unit Unit)
  | [], p1 =>
   some (.out ())
  | x1 :: t1, p1 =>
   (b[(p1.length : Int).toNat]?).bind fun x2 =>
   (laws_eqAcct x1 x2).bind fun r1 =>
   if r1 = true then
    laws_eqAcctS_l0 a b t1 (p1 ++ [x1])
   else
    some (.ret ())
theorem laws_eqAcctS_l0_ok (a : List Acct) (b : List Acct) (h3 : capOk a.length = true) : ∀ (t1 p1 : List Acct) (_ : a = p1 ++ t1) , Pn (LpO Try.prog (sub (codeOf Try.prog 23) [1, 1, 0, 1, 0, 0]) (st 27 [(0, V.sl false 56 (List.map E56 a)), (1, V.sl false 56 (List.map E56 b)), (5, V.sc (.int .i64 (p1.length : Int)))] [] []) (fun (y : Lo Unit Unit) => Lo.elim y (fun s => (X.out 0, st 27 [] [] [])) (fun s => (X.ret, st 27 [(4, V.sc (.bool false))] [] [])))) (laws_eqAcctS_l0 a b t1 p1)
  | [], p1, h2 => by
    unfold laws_eqAcctS_l0
    exact
     Pn.some (LpO.out [.wait 3, .nm 13 (V.sc (.int .i64 (a.length : Int))), .bit false, .mask [], .ren []] (p := [V.sc (.int .i64 ((List.map E56 a).length : Int)) = V.sc (.int .i64 (a.length : Int)),
      (decide ((p1.length : Int) < (a.length : Int))) = false]) (by kernel_rfl) (show X.out 0 ≠ X.go from nofun) (cj (len_nm _ _) (cj1 (rng_end h2))))
  | x1 :: t1, p1, h2 => by
    unfold laws_eqAcctS_l0
    exact
     Pn.bind (fun x2 h4 =>
      Pn.bind (fun r1 h5 =>
       Pn.ite (fun h6 =>
        LpO.go [.wait 3, .nm 13 (V.sc (.int .i64 (a.length : Int))), .bit true, .draw [], .el (E56 x1), .el (E56 x2), .call [] (E4 r1) [], .bit false, .wait 3, .mask [0, 1, 5], .ren [], .nm 5 (V.sc (.int .i64 ((p1 ++ [x1]).length : Int)))] (p := [V.sc (.int .i64 ((List.map E56 a).length : Int)) = V.sc (.int .i64 (a.length : Int)),
         (decide ((p1.length : Int) < (a.length : Int))) = true,
         (0 : Int) ≤ (p1.length : Int),
         (List.map E56 a)[(p1.length : Int).toNat]? = some (E56 x1),
         (0 : Int) ≤ (p1.length : Int),
         (List.map E56 b)[(p1.length : Int).toNat]? = some (E56 x2),
         Fn Try.prog 44 [(false, E56 x1), (false, E56 x2)] (E4 r1) [],
         (true || ((E4 r1).nv && nvL [])) = true,
         (!r1) = false,
         V.sc (.int .i64 (i64 ((p1.length : Int) + 1))) = V.sc (.int .i64 ((p1 ++ [x1]).length : Int))]) (by kernel_rfl) (cj (len_nm _ _) (cj (rng_lt h2) (cj (by omega) (cj (rng_get _ h2) (cj (by omega) (cj (map_get h4) (cj (laws_eqAcct_ok x1 x2 r1 h5) (cj rfl (cj (nf h6) (cj1 (rng_next h2 h3))))))))))) (laws_eqAcctS_l0_ok a b h3 t1 (p1 ++ [x1]) (rng_step h2))) (fun h6 =>
        Pn.some (LpO.out [.wait 3, .nm 13 (V.sc (.int .i64 (a.length : Int))), .bit true, .draw [], .el (E56 x1), .el (E56 x2), .call [] (E4 r1) [], .bit true, .wait 1, .mask [4], .ren []] (p := [V.sc (.int .i64 ((List.map E56 a).length : Int)) = V.sc (.int .i64 (a.length : Int)),
         (decide ((p1.length : Int) < (a.length : Int))) = true,
         (0 : Int) ≤ (p1.length : Int),
         (List.map E56 a)[(p1.length : Int).toNat]? = some (E56 x1),
         (0 : Int) ≤ (p1.length : Int),
         (List.map E56 b)[(p1.length : Int).toNat]? = some (E56 x2),
         Fn Try.prog 44 [(false, E56 x1), (false, E56 x2)] (E4 r1) [],
         (true || ((E4 r1).nv && nvL [])) = true,
         (!r1) = true]) (by kernel_rfl) (show X.ret ≠ X.go from nofun) (cj (len_nm _ _) (cj (rng_lt h2) (cj (by omega) (cj (rng_get _ h2) (cj (by omega) (cj (map_get h4) (cj (laws_eqAcct_ok x1 x2 r1 h5) (cj rfl (cj1 (nt h6))))))))))))))
def laws_eqAcctS (a : List Acct) (b : List Acct) : Option (Bool) :=
 if ((a.length : Int) != (b.length : Int)) = true then
  some false
 else
  if (capOk a.length) = true then
   (laws_eqAcctS_l0 a b a []).bind fun r2 =>
   Lo.elim r2 (fun s1 =>
    some true) (fun s2 =>
    some false)
  else none
theorem laws_eqAcctS_ok (a : List Acct) (b : List Acct) : Pn (fun y => Fn Try.prog 23 [(false, E27 a), (false, E27 b)] (E4 y) []) (laws_eqAcctS a b) := by
  unfold laws_eqAcctS
  exact
   Pn.ite (fun h1 =>
    Pn.some (Fn.of [.wait 3, .nm 7 (V.sc (.int .i64 (a.length : Int))), .wait 2, .nm 9 (V.sc (.int .i64 (b.length : Int))), .bit true] (p := [V.sc (.int .i64 ((List.map E56 a).length : Int)) = V.sc (.int .i64 (a.length : Int)),
     V.sc (.int .i64 ((List.map E56 b).length : Int)) = V.sc (.int .i64 (b.length : Int)),
     ((a.length : Int) != (b.length : Int)) = true]) (by kernel_rfl) (cj (len_nm _ _) (cj (len_nm _ _) (cj1 h1))))) (fun h1 =>
    Pn.ite (fun h7 =>
     Pn.bind (fun r2 h8 =>
      Pn.lo (fun s1 h9 =>
       Pn.some (Fn.of [.wait 3, .nm 7 (V.sc (.int .i64 (a.length : Int))), .wait 2, .nm 9 (V.sc (.int .i64 (b.length : Int))), .bit false, .wait 1, .mask [0, 1, 5], .ren [], .loop (X.out 0) (st 27 [] [] [])] (p := [V.sc (.int .i64 ((List.map E56 a).length : Int)) = V.sc (.int .i64 (a.length : Int)),
        V.sc (.int .i64 ((List.map E56 b).length : Int)) = V.sc (.int .i64 (b.length : Int)),
        ((a.length : Int) != (b.length : Int)) = false,
        Loop Try.prog (sub (codeOf Try.prog 23) [1, 1, 0, 1, 0, 0]) (st 27 [(0, V.sl false 56 (List.map E56 a)), (1, V.sl false 56 (List.map E56 b)), (5, V.sc (.int .i64 0))] [] []) (X.out 0) (st 27 [] [] [])]) (by kernel_rfl) (cj (len_nm _ _) (cj (len_nm _ _) (cj h1 (cj1 ((laws_eqAcctS_l0_ok a b h7 a [] rfl r2 h8).at h9))))))) (fun s2 h10 =>
       Pn.some (Fn.of [.wait 3, .nm 7 (V.sc (.int .i64 (a.length : Int))), .wait 2, .nm 9 (V.sc (.int .i64 (b.length : Int))), .bit false, .wait 1, .mask [0, 1, 5], .ren [], .loop (X.ret) (st 27 [(4, V.sc (.bool false))] [] [])] (p := [V.sc (.int .i64 ((List.map E56 a).length : Int)) = V.sc (.int .i64 (a.length : Int)),
        V.sc (.int .i64 ((List.map E56 b).length : Int)) = V.sc (.int .i64 (b.length : Int)),
        ((a.length : Int) != (b.length : Int)) = false,
        Loop Try.prog (sub (codeOf Try.prog 23) [1, 1, 0, 1, 0, 0]) (st 27 [(0, V.sl false 56 (List.map E56 a)), (1, V.sl false 56 (List.map E56 b)), (5, V.sc (.int .i64 0))] [] []) (X.ret) (st 27 [(4, V.sc (.bool false))] [] [])]) (by kernel_rfl) (cj (len_nm _ _) (cj (len_nm _ _) (cj h1 (cj1 ((laws_eqAcctS_l0_ok a b h7 a [] rfl r2 h8).at h10))))))))) (fun h7 =>
     Pn.none))
def laws_eqBook (a : Book) (b : Book) : Option (Bool) :=
 (laws_eqAcctS a.Accts b.Accts).bind fun r1 =>
 if r1 = true then
  some true
 else
  some false
theorem laws_eqBook_ok (a : Book) (b : Book) : Pn (fun y => Fn Try.prog 9 [(false, E29 a), (false, E29 b)] (E4 y) []) (laws_eqBook a b) := by
  unfold laws_eqBook
  exact
   Pn.bind (fun r1 h1 =>
    Pn.ite (fun h2 =>
     Pn.some (Fn.of [.call [] (E4 r1) [], .bit false] (p := [Fn Try.prog 23 [(false, E27 a.Accts), (false, E27 b.Accts)] (E4 r1) [],
      (true || ((E4 r1).nv && nvL [])) = true,
      (!r1) = false]) (by kernel_rfl) (cj (laws_eqAcctS_ok a.Accts b.Accts r1 h1) (cj rfl (cj1 (nf h2)))))) (fun h2 =>
     Pn.some (Fn.of [.call [] (E4 r1) [], .bit true] (p := [Fn Try.prog 23 [(false, E27 a.Accts), (false, E27 b.Accts)] (E4 r1) [],
      (true || ((E4 r1).nv && nvL [])) = true,
      (!r1) = true]) (by kernel_rfl) (cj (laws_eqAcctS_ok a.Accts b.Accts r1 h1) (cj rfl (cj1 (nt h2)))))))
def laws_FnExactKept (aA : Book) (aB : Book) : Option (Bool) :=
 (laws_szBook aA 1048576).bind fun r1 =>
 if (decide (r1 < 0)) = true then
  some true
 else
  (laws_szBook aB r1).bind fun r2 =>
  if (decide (r2 < 0)) = true then
   some true
  else
   (laws_toBook aA).bind fun r3 =>
   (laws_toBook aB).bind fun r4 =>
   (spec_Kept r3 r4).bind fun r5 =>
   (laws_toBook aA).bind fun r6 =>
   (laws_toBook aB).bind fun r7 =>
   (impl_Kept r6 r7).bind fun r8 =>
   if (r8 == r5) = true then
    (laws_toBook aA).bind fun r9 =>
    (laws_eqBook r6 r9).bind fun r10 =>
    if r10 = true then
     (laws_toBook aB).bind fun r11 =>
     (laws_eqBook r7 r11).bind fun r12 =>
     if r12 = true then
      some true
     else
      some false
    else
     some false
   else
    some false
theorem laws_FnExactKept_ok (aA : Book) (aB : Book) : Pn (fun y => Fn Try.prog 3 [(false, E24 aA), (false, E24 aB)] (E4 y) []) (laws_FnExactKept aA aB) := by
  unfold laws_FnExactKept
  exact
   Pn.bind (fun r1 h1 =>
    Pn.ite (fun h2 =>
     Pn.some (Fn.of [.call [] (E3 r1) [], .bit true] (p := [Fn Try.prog 5 [(false, E24 aA), (false, E3 1048576)] (E3 r1) [],
      (true || ((E3 r1).nv && nvL [])) = true,
      (decide (r1 < 0)) = true]) (by kernel_rfl) (cj (laws_szBook_ok aA 1048576 r1 h1) (cj rfl (cj1 h2))))) (fun h2 =>
     Pn.bind (fun r2 h3 =>
      Pn.ite (fun h4 =>
       Pn.some (Fn.of [.call [] (E3 r1) [], .bit false, .call [] (E3 r2) [], .bit true] (p := [Fn Try.prog 5 [(false, E24 aA), (false, E3 1048576)] (E3 r1) [],
        (true || ((E3 r1).nv && nvL [])) = true,
        (decide (r1 < 0)) = false,
        Fn Try.prog 5 [(false, E24 aB), (false, E3 r1)] (E3 r2) [],
        (true || ((E3 r2).nv && nvL [])) = true,
        (decide (r2 < 0)) = true]) (by kernel_rfl) (cj (laws_szBook_ok aA 1048576 r1 h1) (cj rfl (cj h2 (cj (laws_szBook_ok aB r1 r2 h3) (cj rfl (cj1 h4)))))))) (fun h4 =>
       Pn.bind (fun r3 h5 =>
        Pn.bind (fun r4 h6 =>
         Pn.bind (fun r5 h7 =>
          Pn.bind (fun r6 h8 =>
           Pn.bind (fun r7 h9 =>
            Pn.bind (fun r8 h10 =>
             Pn.ite (fun h11 =>
              Pn.bind (fun r9 h12 =>
               Pn.bind (fun r10 h13 =>
                Pn.ite (fun h14 =>
                 Pn.bind (fun r11 h15 =>
                  Pn.bind (fun r12 h16 =>
                   Pn.ite (fun h17 =>
                    Pn.some (Fn.of [.call [] (E3 r1) [], .bit false, .call [] (E3 r2) [], .bit false, .draw [], .call [] (E29 r3) [], .call [] (E29 r4) [], .call [] (E4 r5) [], .call [] (E29 r6) [], .call [] (E29 r7) [], .call [] (E4 r8) [], .bit false, .draw [], .call [] (E29 r9) [], .call [] (E4 r10) [], .bit false, .draw [], .call [] (E29 r11) [], .call [] (E4 r12) [], .bit false] (p := [Fn Try.prog 5 [(false, E24 aA), (false, E3 1048576)] (E3 r1) [],
                     (true || ((E3 r1).nv && nvL [])) = true,
                     (decide (r1 < 0)) = false,
                     Fn Try.prog 5 [(false, E24 aB), (false, E3 r1)] (E3 r2) [],
                     (true || ((E3 r2).nv && nvL [])) = true,
                     (decide (r2 < 0)) = false,
                     Fn Try.prog 7 [(false, E24 aA)] (E29 r3) [],
                     (true || ((E29 r3).nv && nvL [])) = true,
                     Fn Try.prog 7 [(false, E24 aB)] (E29 r4) [],
                     (true || ((E29 r4).nv && nvL [])) = true,
                     Fn Try.prog 6 [(false, E29 r3), (false, E29 r4)] (E4 r5) [],
                     (false || ((E4 r5).nv && nvL [])) = true,
                     Fn Try.prog 7 [(false, E24 aA)] (E29 r6) [],
                     (true || ((E29 r6).nv && nvL [])) = true,
                     Fn Try.prog 7 [(false, E24 aB)] (E29 r7) [],
                     (true || ((E29 r7).nv && nvL [])) = true,
                     Fn Try.prog 8 [(false, E29 r6), (false, E29 r7)] (E4 r8) [],
                     (false || ((E4 r8).nv && nvL [])) = true,
                     (!(r8 == r5)) = false,
                     Fn Try.prog 7 [(false, E24 aA)] (E29 r9) [],
                     (true || ((E29 r9).nv && nvL [])) = true,
                     Fn Try.prog 9 [(false, E29 r6), (false, E29 r9)] (E4 r10) [],
                     (false || ((E4 r10).nv && nvL [])) = true,
                     (!r10) = false,
                     Fn Try.prog 7 [(false, E24 aB)] (E29 r11) [],
                     (true || ((E29 r11).nv && nvL [])) = true,
                     Fn Try.prog 9 [(false, E29 r7), (false, E29 r11)] (E4 r12) [],
                     (false || ((E4 r12).nv && nvL [])) = true,
                     (!r12) = false]) (by kernel_rfl) (cj (laws_szBook_ok aA 1048576 r1 h1) (cj rfl (cj h2 (cj (laws_szBook_ok aB r1 r2 h3) (cj rfl (cj h4 (cj (laws_toBook_ok aA r3 h5) (cj rfl (cj (laws_toBook_ok aB r4 h6) (cj rfl (cj (spec_Kept_ok r3 r4 r5 h7) (cj (by simp [V.nv, nvL, nvL_all, nv_E4]) (cj (laws_toBook_ok aA r6 h8) (cj rfl (cj (laws_toBook_ok aB r7 h9) (cj rfl (cj (impl_Kept_ok r6 r7 r8 h10) (cj (by simp [V.nv, nvL, nvL_all, nv_E4]) (cj (nf h11) (cj (laws_toBook_ok aA r9 h12) (cj rfl (cj (laws_eqBook_ok r6 r9 r10 h13) (cj (by simp [V.nv, nvL, nvL_all, nv_E4]) (cj (nf h14) (cj (laws_toBook_ok aB r11 h15) (cj rfl (cj (laws_eqBook_ok r7 r11 r12 h16) (cj (by simp [V.nv, nvL, nvL_all, nv_E4]) (cj1 (nf h17)))))))))))))))))))))))))))))))) (fun h17 =>
                    Pn.some (Fn.of [.call [] (E3 r1) [], .bit false, .call [] (E3 r2) [], .bit false, .draw [], .call [] (E29 r3) [], .call [] (E29 r4) [], .call [] (E4 r5) [], .call [] (E29 r6) [], .call [] (E29 r7) [], .call [] (E4 r8) [], .bit false, .draw [], .call [] (E29 r9) [], .call [] (E4 r10) [], .bit false, .draw [], .call [] (E29 r11) [], .call [] (E4 r12) [], .bit true] (p := [Fn Try.prog 5 [(false, E24 aA), (false, E3 1048576)] (E3 r1) [],
                     (true || ((E3 r1).nv && nvL [])) = true,
                     (decide (r1 < 0)) = false,
                     Fn Try.prog 5 [(false, E24 aB), (false, E3 r1)] (E3 r2) [],
                     (true || ((E3 r2).nv && nvL [])) = true,
                     (decide (r2 < 0)) = false,
                     Fn Try.prog 7 [(false, E24 aA)] (E29 r3) [],
                     (true || ((E29 r3).nv && nvL [])) = true,
                     Fn Try.prog 7 [(false, E24 aB)] (E29 r4) [],
                     (true || ((E29 r4).nv && nvL [])) = true,
                     Fn Try.prog 6 [(false, E29 r3), (false, E29 r4)] (E4 r5) [],
                     (false || ((E4 r5).nv && nvL [])) = true,
                     Fn Try.prog 7 [(false, E24 aA)] (E29 r6) [],
                     (true || ((E29 r6).nv && nvL [])) = true,
                     Fn Try.prog 7 [(false, E24 aB)] (E29 r7) [],
                     (true || ((E29 r7).nv && nvL [])) = true,
                     Fn Try.prog 8 [(false, E29 r6), (false, E29 r7)] (E4 r8) [],
                     (false || ((E4 r8).nv && nvL [])) = true,
                     (!(r8 == r5)) = false,
                     Fn Try.prog 7 [(false, E24 aA)] (E29 r9) [],
                     (true || ((E29 r9).nv && nvL [])) = true,
                     Fn Try.prog 9 [(false, E29 r6), (false, E29 r9)] (E4 r10) [],
                     (false || ((E4 r10).nv && nvL [])) = true,
                     (!r10) = false,
                     Fn Try.prog 7 [(false, E24 aB)] (E29 r11) [],
                     (true || ((E29 r11).nv && nvL [])) = true,
                     Fn Try.prog 9 [(false, E29 r7), (false, E29 r11)] (E4 r12) [],
                     (false || ((E4 r12).nv && nvL [])) = true,
                     (!r12) = true]) (by kernel_rfl) (cj (laws_szBook_ok aA 1048576 r1 h1) (cj rfl (cj h2 (cj (laws_szBook_ok aB r1 r2 h3) (cj rfl (cj h4 (cj (laws_toBook_ok aA r3 h5) (cj rfl (cj (laws_toBook_ok aB r4 h6) (cj rfl (cj (spec_Kept_ok r3 r4 r5 h7) (cj (by simp [V.nv, nvL, nvL_all, nv_E4]) (cj (laws_toBook_ok aA r6 h8) (cj rfl (cj (laws_toBook_ok aB r7 h9) (cj rfl (cj (impl_Kept_ok r6 r7 r8 h10) (cj (by simp [V.nv, nvL, nvL_all, nv_E4]) (cj (nf h11) (cj (laws_toBook_ok aA r9 h12) (cj rfl (cj (laws_eqBook_ok r6 r9 r10 h13) (cj (by simp [V.nv, nvL, nvL_all, nv_E4]) (cj (nf h14) (cj (laws_toBook_ok aB r11 h15) (cj rfl (cj (laws_eqBook_ok r7 r11 r12 h16) (cj (by simp [V.nv, nvL, nvL_all, nv_E4]) (cj1 (nt h17))))))))))))))))))))))))))))))))))) (fun h14 =>
                 Pn.some (Fn.of [.call [] (E3 r1) [], .bit false, .call [] (E3 r2) [], .bit false, .draw [], .call [] (E29 r3) [], .call [] (E29 r4) [], .call [] (E4 r5) [], .call [] (E29 r6) [], .call [] (E29 r7) [], .call [] (E4 r8) [], .bit false, .draw [], .call [] (E29 r9) [], .call [] (E4 r10) [], .bit true] (p := [Fn Try.prog 5 [(false, E24 aA), (false, E3 1048576)] (E3 r1) [],
                  (true || ((E3 r1).nv && nvL [])) = true,
                  (decide (r1 < 0)) = false,
                  Fn Try.prog 5 [(false, E24 aB), (false, E3 r1)] (E3 r2) [],
                  (true || ((E3 r2).nv && nvL [])) = true,
                  (decide (r2 < 0)) = false,
                  Fn Try.prog 7 [(false, E24 aA)] (E29 r3) [],
                  (true || ((E29 r3).nv && nvL [])) = true,
                  Fn Try.prog 7 [(false, E24 aB)] (E29 r4) [],
                  (true || ((E29 r4).nv && nvL [])) = true,
                  Fn Try.prog 6 [(false, E29 r3), (false, E29 r4)] (E4 r5) [],
                  (false || ((E4 r5).nv && nvL [])) = true,
                  Fn Try.prog 7 [(false, E24 aA)] (E29 r6) [],
                  (true || ((E29 r6).nv && nvL [])) = true,
                  Fn Try.prog 7 [(false, E24 aB)] (E29 r7) [],
                  (true || ((E29 r7).nv && nvL [])) = true,
                  Fn Try.prog 8 [(false, E29 r6), (false, E29 r7)] (E4 r8) [],
                  (false || ((E4 r8).nv && nvL [])) = true,
                  (!(r8 == r5)) = false,
                  Fn Try.prog 7 [(false, E24 aA)] (E29 r9) [],
                  (true || ((E29 r9).nv && nvL [])) = true,
                  Fn Try.prog 9 [(false, E29 r6), (false, E29 r9)] (E4 r10) [],
                  (false || ((E4 r10).nv && nvL [])) = true,
                  (!r10) = true]) (by kernel_rfl) (cj (laws_szBook_ok aA 1048576 r1 h1) (cj rfl (cj h2 (cj (laws_szBook_ok aB r1 r2 h3) (cj rfl (cj h4 (cj (laws_toBook_ok aA r3 h5) (cj rfl (cj (laws_toBook_ok aB r4 h6) (cj rfl (cj (spec_Kept_ok r3 r4 r5 h7) (cj (by simp [V.nv, nvL, nvL_all, nv_E4]) (cj (laws_toBook_ok aA r6 h8) (cj rfl (cj (laws_toBook_ok aB r7 h9) (cj rfl (cj (impl_Kept_ok r6 r7 r8 h10) (cj (by simp [V.nv, nvL, nvL_all, nv_E4]) (cj (nf h11) (cj (laws_toBook_ok aA r9 h12) (cj rfl (cj (laws_eqBook_ok r6 r9 r10 h13) (cj (by simp [V.nv, nvL, nvL_all, nv_E4]) (cj1 (nt h14)))))))))))))))))))))))))))))) (fun h11 =>
              Pn.some (Fn.of [.call [] (E3 r1) [], .bit false, .call [] (E3 r2) [], .bit false, .draw [], .call [] (E29 r3) [], .call [] (E29 r4) [], .call [] (E4 r5) [], .call [] (E29 r6) [], .call [] (E29 r7) [], .call [] (E4 r8) [], .bit true] (p := [Fn Try.prog 5 [(false, E24 aA), (false, E3 1048576)] (E3 r1) [],
               (true || ((E3 r1).nv && nvL [])) = true,
               (decide (r1 < 0)) = false,
               Fn Try.prog 5 [(false, E24 aB), (false, E3 r1)] (E3 r2) [],
               (true || ((E3 r2).nv && nvL [])) = true,
               (decide (r2 < 0)) = false,
               Fn Try.prog 7 [(false, E24 aA)] (E29 r3) [],
               (true || ((E29 r3).nv && nvL [])) = true,
               Fn Try.prog 7 [(false, E24 aB)] (E29 r4) [],
               (true || ((E29 r4).nv && nvL [])) = true,
               Fn Try.prog 6 [(false, E29 r3), (false, E29 r4)] (E4 r5) [],
               (false || ((E4 r5).nv && nvL [])) = true,
               Fn Try.prog 7 [(false, E24 aA)] (E29 r6) [],
               (true || ((E29 r6).nv && nvL [])) = true,
               Fn Try.prog 7 [(false, E24 aB)] (E29 r7) [],
               (true || ((E29 r7).nv && nvL [])) = true,
               Fn Try.prog 8 [(false, E29 r6), (false, E29 r7)] (E4 r8) [],
               (false || ((E4 r8).nv && nvL [])) = true,
               (!(r8 == r5)) = true]) (by kernel_rfl) (cj (laws_szBook_ok aA 1048576 r1 h1) (cj rfl (cj h2 (cj (laws_szBook_ok aB r1 r2 h3) (cj rfl (cj h4 (cj (laws_toBook_ok aA r3 h5) (cj rfl (cj (laws_toBook_ok aB r4 h6) (cj rfl (cj (spec_Kept_ok r3 r4 r5 h7) (cj (by simp [V.nv, nvL, nvL_all, nv_E4]) (cj (laws_toBook_ok aA r6 h8) (cj rfl (cj (laws_toBook_ok aB r7 h9) (cj rfl (cj (impl_Kept_ok r6 r7 r8 h10) (cj (by simp [V.nv, nvL, nvL_all, nv_E4]) (cj1 (nt h11))))))))))))))))))))))))))))))))
end Go.Proofs.YtephmimhaokhlaaM
