/- Printed by gen.py: functions on plain data, and that the program computes them. No condition. -/
import Derived.Test.YtdahdpnkppknfaaGreatDoorX2
import Derived.Test.YtdahdpnkppknfaaGreatDoorProg
namespace Go.Proofs.YtdahdpnkppknfaaGreatDoorM
set_option linter.unusedVariables false
set_option linter.unusedSimpArgs false
open Go.RowKit
set_option maxRecDepth 100000

structure Event where
  Kind : Int
  K : Int
  Data : List Int
structure l01Cur where
  b : List Int
  i : Int
  h : Int
structure Hold where
  Id : ByteArray
  Amount : Int
  Due : Int
structure Ring where
  Span : Int
  Head : Int
  Counts : List Int
  Sums : List Int
structure Slot where
  Trace : ByteArray
  Mti : ByteArray
  Reply : List Int
structure Acct where
  Id : ByteArray
  Limit : Int
  Posted : Int
  Most : Int
  MostSum : Int
  Holds : List Hold
  Ring : Ring
  Slots : List Slot
structure Book where
  Accts : List Acct
structure Field where
  No : Int
  Text : ByteArray
structure Msg where
  Mti : ByteArray
  List : List Field
structure Req where
  Op : Int
  Acct : ByteArray
  Other : ByteArray
  Hold : ByteArray
  Trace : ByteArray
  Mti : ByteArray
  Amount : Int
  Ttl : Int
abbrev vI (x : Int) : V := V.sc (.int .i64 x)
theorem tt : true = true := rfl
theorem ff : false = false := rfl
def E5 (x : Int) : V := V.sc (.int .u8 x)
def E22 (x : List Int) : V := V.sl true 5 (List.map E5 x)
def E4 (x : Bool) : V := V.sc (.bool x)
def E3 (x : Int) : V := vI x
def E29 (x : Event) : V := V.agg [vI x.Kind, vI x.K, V.sl true 5 (List.map E5 x.Data)]
def E23 (x : List Event) : V := V.sl true 29 (List.map E29 x)
def E47 (x : l01Cur) : V := V.agg [V.sl true 5 (List.map E5 x.b), vI x.i, vI x.h]
def E9 (x : ByteArray) : V := V.sc (.string x)
def E104 (x : Hold) : V := V.agg [V.sc (.string x.Id), vI x.Amount, vI x.Due]
def E49 (x : List Hold) : V := V.sl true 104 (List.map E104 x)
def E50 (x : List Int) : V := V.sl true 3 (List.map E3 x)
def E52 (x : Ring) : V := V.agg [vI x.Span, vI x.Head, V.sl true 3 (List.map E3 x.Counts), V.sl true 3 (List.map E3 x.Sums)]
def E111 (x : Slot) : V := V.agg [V.sc (.string x.Trace), V.sc (.string x.Mti), V.sl true 5 (List.map E5 x.Reply)]
def E53 (x : List Slot) : V := V.sl true 111 (List.map E111 x)
def E55 (x : Acct) : V := V.agg [V.sc (.string x.Id), vI x.Limit, vI x.Posted, vI x.Most, vI x.MostSum, V.sl true 104 (List.map E104 x.Holds), vI x.Ring.Span, vI x.Ring.Head, V.sl true 3 (List.map E3 x.Ring.Counts), V.sl true 3 (List.map E3 x.Ring.Sums), V.sl true 111 (List.map E111 x.Slots)]
def E34 (x : List Acct) : V := V.sl true 55 (List.map E55 x)
def E36 (x : Book) : V := V.agg [V.sl true 55 (List.map E55 x.Accts)]
def E39 (x : List ByteArray) : V := V.sl true 9 (List.map E9 x)
def E115 (x : Field) : V := V.agg [vI x.No, V.sc (.string x.Text)]
def E81 (x : List Field) : V := V.sl true 115 (List.map E115 x)
def E83 (x : Msg) : V := V.agg [V.sc (.string x.Mti), V.sl true 115 (List.map E115 x.List)]
def E88 (x : Req) : V := V.agg [vI x.Op, V.sc (.string x.Acct), V.sc (.string x.Other), V.sc (.string x.Hold), V.sc (.string x.Trace), V.sc (.string x.Mti), vI x.Amount, vI x.Ttl]
abbrev vS (x : ByteArray) : V := V.sc (.string x)
abbrev vB (x : Bool) : V := V.sc (.bool x)
abbrev vE : V := V.sc (.string ByteArray.empty)
abbrev bT : It := .bit true
abbrev bF : It := .bit false
abbrev lF104 (x : List Hold) : V := V.sl false 104 (List.map E104 x)
abbrev lF111 (x : List Slot) : V := V.sl false 111 (List.map E111 x)
abbrev lF115 (x : List Field) : V := V.sl false 115 (List.map E115 x)
abbrev lF29 (x : List Event) : V := V.sl false 29 (List.map E29 x)
abbrev lF3 (x : List Int) : V := V.sl false 3 (List.map E3 x)
abbrev lF5 (x : List Int) : V := V.sl false 5 (List.map E5 x)
abbrev lF55 (x : List Acct) : V := V.sl false 55 (List.map E55 x)
abbrev lT104 (x : List Hold) : V := V.sl true 104 (List.map E104 x)
abbrev lT111 (x : List Slot) : V := V.sl true 111 (List.map E111 x)
abbrev lT3 (x : List Int) : V := V.sl true 3 (List.map E3 x)
abbrev lT5 (x : List Int) : V := V.sl true 5 (List.map E5 x)
abbrev lT9 (x : List ByteArray) : V := V.sl true 9 (List.map E9 x)
theorem nv_E5 (x : Int) : (E5 x).nv = true := by
  simp [E5, V.nv, nvL, nvL_all]
theorem nv_E22 (x : List Int) : (E22 x).nv = true := by
  simp [E22, V.nv, nvL, nvL_all, nv_E5]
theorem nv_E4 (x : Bool) : (E4 x).nv = true := by
  simp [E4, V.nv, nvL, nvL_all]
theorem nv_E3 (x : Int) : (E3 x).nv = true := by
  simp [E3, V.nv, nvL, nvL_all]
theorem nv_E29 (x : Event) : (E29 x).nv = true := by
  simp [E29, V.nv, nvL, nvL_all, nv_E5]
theorem nv_E23 (x : List Event) : (E23 x).nv = true := by
  simp [E23, V.nv, nvL, nvL_all, nv_E29]
theorem nv_E47 (x : l01Cur) : (E47 x).nv = true := by
  simp [E47, V.nv, nvL, nvL_all, nv_E5]
theorem nv_E9 (x : ByteArray) : (E9 x).nv = true := by
  simp [E9, V.nv, nvL, nvL_all]
theorem nv_E104 (x : Hold) : (E104 x).nv = true := by
  simp [E104, V.nv, nvL, nvL_all]
theorem nv_E49 (x : List Hold) : (E49 x).nv = true := by
  simp [E49, V.nv, nvL, nvL_all, nv_E104]
theorem nv_E50 (x : List Int) : (E50 x).nv = true := by
  simp [E50, V.nv, nvL, nvL_all, nv_E3]
theorem nv_E52 (x : Ring) : (E52 x).nv = true := by
  simp [E52, V.nv, nvL, nvL_all, nv_E3, nv_E3]
theorem nv_E111 (x : Slot) : (E111 x).nv = true := by
  simp [E111, V.nv, nvL, nvL_all, nv_E5]
theorem nv_E53 (x : List Slot) : (E53 x).nv = true := by
  simp [E53, V.nv, nvL, nvL_all, nv_E111]
theorem nv_E55 (x : Acct) : (E55 x).nv = true := by
  simp [E55, V.nv, nvL, nvL_all, nv_E104, nv_E3, nv_E3, nv_E111]
theorem nv_E34 (x : List Acct) : (E34 x).nv = true := by
  simp [E34, V.nv, nvL, nvL_all, nv_E55]
theorem nv_E36 (x : Book) : (E36 x).nv = true := by
  simp [E36, V.nv, nvL, nvL_all, nv_E55]
theorem nv_E39 (x : List ByteArray) : (E39 x).nv = true := by
  simp [E39, V.nv, nvL, nvL_all, nv_E9]
theorem nv_E115 (x : Field) : (E115 x).nv = true := by
  simp [E115, V.nv, nvL, nvL_all]
theorem nv_E81 (x : List Field) : (E81 x).nv = true := by
  simp [E81, V.nv, nvL, nvL_all, nv_E115]
theorem nv_E83 (x : Msg) : (E83 x).nv = true := by
  simp [E83, V.nv, nvL, nvL_all, nv_E115]
theorem nv_E88 (x : Req) : (E88 x).nv = true := by
  simp [E88, V.nv, nvL, nvL_all]
def spec_l01New_l0 (code : List Int) : List Int → List Int → Int → Option (Int)
  | [], p1, v1 =>
   some v1
  | x1 :: t1, p1, v1 =>
   if (decide ((p1.length : Int) < 4000)) = true then
   spec_l01New_l0 code t1 (p1 ++ [x1]) (band .i64 (i64 ((i64 ((i64 (v1 * 31)) + (i64 x1))) + 7)) 1073741823)
   else
   some v1
theorem spec_l01New_l0_ok (code : List Int) (h2 : capOk code.length = true) : ∀ (t1 p1 : List Int) (_ : code = p1 ++ t1) (v1 : Int), Pn (LpO Tryz.prog (sub (codeOf Tryz.prog 8) [1, 1, 0, 1, 0, 0]) (st 32 [(0, lF5 code), (3, vI v1), (4, vI (p1.length : Int))] [] []) (fun (y : Int) => (X.out 0, st 32 [(0, lF5 code), (3, vI y)] [] []))) (spec_l01New_l0 code t1 p1 v1)
  | [], p1, h1, v1 => by
    unfold spec_l01New_l0
    exact
     Pn.some (LpO.out [.wait 3, .nm 10 (vI (code.length : Int)), bF, bF, bF, bF, .mask [0, 3], .ren []] (by kernel_rfl) (show X.out 0 ≠ X.go from nofun) (cj (len_nm E5 code) (cj (rng_end h1 : (decide ((p1.length : Int) < (code.length : Int))) = false) (cj (rng_end h1 : (decide ((p1.length : Int) < (code.length : Int))) = false) (cj (rng_end h1 : (decide ((p1.length : Int) < (code.length : Int))) = false) (cj1 ff))))))
  | x1 :: t1, p1, h1, v1 => by
    unfold spec_l01New_l0
    exact
     Pn.ite (fun h3 =>
     LpO.go [.wait 3, .nm 10 (vI (code.length : Int)), bT, bT, bT, bT, .el (E5 x1), .wait 10, .mask [0, 3, 4], .ren [], .nm 4 (vI ((p1 ++ [x1]).length : Int))] (by kernel_rfl) (cj (len_nm E5 code) (cj (rng_lt h1 : (decide ((p1.length : Int) < (code.length : Int))) = true) (cj (rng_lt h1 : (decide ((p1.length : Int) < (code.length : Int))) = true) (cj (rng_lt h1 : (decide ((p1.length : Int) < (code.length : Int))) = true) (cj h3 (cj (by omega : (0 : Int) ≤ (p1.length : Int)) (cj (rng_get _ h1 : (List.map E5 code)[(p1.length : Int).toNat]? = some (E5 x1)) (cj1 (rng_next h1 h2 : vI (i64 ((p1.length : Int) + 1)) = vI ((p1 ++ [x1]).length : Int)))))))))) (spec_l01New_l0_ok code h2 t1 (p1 ++ [x1]) (rng_step h1) (band .i64 (i64 ((i64 ((i64 (v1 * 31)) + (i64 x1))) + 7)) 1073741823))) (fun h3 =>
     Pn.some (LpO.out [.wait 3, .nm 10 (vI (code.length : Int)), bT, bT, bT, bF, .mask [0, 3], .ren []] (by kernel_rfl) (show X.out 0 ≠ X.go from nofun) (cj (len_nm E5 code) (cj (rng_lt h1 : (decide ((p1.length : Int) < (code.length : Int))) = true) (cj (rng_lt h1 : (decide ((p1.length : Int) < (code.length : Int))) = true) (cj (rng_lt h1 : (decide ((p1.length : Int) < (code.length : Int))) = true) (cj1 h3)))))))
def spec_l01New (code : List Int) : Option (l01Cur) :=
 if (capOk code.length) = true then
 (spec_l01New_l0 code code [] (i64 (1539 + (code.length : Int)))).bind fun r1 =>
 some (l01Cur.mk code 0 r1)
 else none
theorem spec_l01New_ok (code : List Int) : Pn (fun y => Fn Tryz.prog 8 [(false, E22 code)] (V.bx 47 [lF5 y.b, vI y.i, vI y.h]) []) (spec_l01New code) := by
  unfold spec_l01New
  exact
   Pn.ite (fun h4 =>
   Pn.bind (fun r1 h5 =>
   Pn.some (Fn.of [.wait 3, .nm 6 (vI (code.length : Int)), .wait 4, .mask [0, 3, 4], .ren [], .loop (X.out 0) (st 32 [(0, lF5 code), (3, vI r1)] [] [])] (by kernel_rfl) (cj (len_nm E5 code) (cj1 (spec_l01New_l0_ok code h4 code [] rfl (i64 (1539 + (code.length : Int))) r1 h5 : Loop Tryz.prog (sub (codeOf Tryz.prog 8) [1, 1, 0, 1, 0, 0]) (st 32 [(0, lF5 code), (3, vI (i64 (1539 + (code.length : Int)))), (4, vI 0)] [] []) (X.out 0) (st 32 [(0, lF5 code), (3, vI r1)] [] []))))))) (fun h4 =>
   Pn.none)
def spec_l01Byte (c : l01Cur) : Option (Int × l01Cur) :=
 if (decide (c.i < (c.b.length : Int))) = true then
 if (decide (0 ≤ c.i)) = true then
 (c.b[c.i.toNat]?).bind fun x1 =>
 some (band .i64 (i64 ((band .i64 (bxor .i64 (bshr .i64 (i64 ((i64 (c.h * 6364136223846793005)) + 1442695040888963407)) 33) (bshr .i64 (i64 ((i64 (c.h * 6364136223846793005)) + 1442695040888963407)) 45)) 255) + (i64 x1))) 255, (l01Cur.mk c.b (i64 (c.i + 1)) (i64 ((i64 (c.h * 6364136223846793005)) + 1442695040888963407))))
 else none
 else
 some (band .i64 (bxor .i64 (bshr .i64 (i64 ((i64 (c.h * 6364136223846793005)) + 1442695040888963407)) 33) (bshr .i64 (i64 ((i64 (c.h * 6364136223846793005)) + 1442695040888963407)) 45)) 255, (l01Cur.mk c.b c.i (i64 ((i64 (c.h * 6364136223846793005)) + 1442695040888963407))))
theorem spec_l01Byte_ok (c : l01Cur) : Pn (fun y => Fn Tryz.prog 35 [(true, V.bx 47 [lF5 c.b, vI c.i, vI c.h])] (E3 y.1) [V.bx 47 [lF5 y.2.b, vI y.2.i, vI y.2.h]]) (spec_l01Byte c) := by
  unfold spec_l01Byte
  exact
   Pn.ite (fun h1 =>
   Pn.ite (fun h2 =>
   Pn.bind (fun x1 h3 =>
   Pn.some (Fn.of [.draw [], .draw [], .wait 8, .nm 33 (vI (c.b.length : Int)), bT, .draw [], .el (E5 x1)] (by kernel_rfl) (cj (by decide : ¬ (33 : Int) < 0) (cj (by decide : ¬ (45 : Int) < 0) (cj (len_nm E5 c.b) (cj h1 (cj (od h2) (cj1 (map_get h3 : (List.map E5 c.b)[c.i.toNat]? = some (E5 x1))))))))))) (fun h2 =>
   Pn.none)) (fun h1 =>
   Pn.some (Fn.of [.draw [], .draw [], .wait 8, .nm 33 (vI (c.b.length : Int)), bF] (by kernel_rfl) (cj (by decide : ¬ (33 : Int) < 0) (cj (by decide : ¬ (45 : Int) < 0) (cj (len_nm E5 c.b) (cj1 h1))))))
def spec_l01Below (c : l01Cur) (n : Int) : Option (Int × l01Cur) :=
 if (decide (n ≤ 0)) = true then
 some (0, c)
 else
 if (decide (n ≤ 256)) = true then
 (spec_l01Byte c).bind fun r1 =>
 if (decide (n ≠ 0)) = true then
 some (Int.tmod r1.1 n, r1.2)
 else none
 else
 (spec_l01Byte c).bind fun r2 =>
 (spec_l01Byte r2.2).bind fun r3 =>
 (spec_l01Byte r3.2).bind fun r4 =>
 (spec_l01Byte r4.2).bind fun r5 =>
 if (decide (n ≠ 0)) = true then
 some (Int.tmod (i64 ((i64 ((i64 ((i64 (r2.1 * 16777216)) + (i64 (r3.1 * 65536)))) + (i64 (r4.1 * 256)))) + r5.1)) n, r5.2)
 else none
theorem spec_l01Below_ok (c : l01Cur) (n : Int) : Pn (fun y => Fn Tryz.prog 18 [(true, V.bx 47 [lF5 c.b, vI c.i, vI c.h]), (false, E3 n)] (E3 y.1) [V.bx 47 [lF5 y.2.b, vI y.2.i, vI y.2.h]]) (spec_l01Below c n) := by
  unfold spec_l01Below
  exact
   Pn.ite (fun h1 =>
   Pn.some (Fn.of [bT] (by kernel_rfl) (cj1 h1))) (fun h1 =>
   Pn.ite (fun h2 =>
   Pn.bind (fun r1 h3 =>
   Pn.ite (fun h4 =>
   Pn.some (Fn.of [bF, bT, .call [true] (E3 r1.1) [V.bx 47 [lF5 r1.2.b, vI r1.2.i, vI r1.2.h]]] (by kernel_rfl) (cj h1 (cj h2 (cj (spec_l01Byte_ok c r1 h3) (cj tt (cj1 (od h4)))))))) (fun h4 =>
   Pn.none))) (fun h2 =>
   Pn.bind (fun r2 h5 =>
   Pn.bind (fun r3 h6 =>
   Pn.bind (fun r4 h7 =>
   Pn.bind (fun r5 h8 =>
   Pn.ite (fun h9 =>
   Pn.some (Fn.of [bF, bF, .call [true] (E3 r2.1) [V.bx 47 [lF5 r2.2.b, vI r2.2.i, vI r2.2.h]], .call [true] (E3 r3.1) [V.bx 47 [lF5 r3.2.b, vI r3.2.i, vI r3.2.h]], .call [true] (E3 r4.1) [V.bx 47 [lF5 r4.2.b, vI r4.2.i, vI r4.2.h]], .call [true] (E3 r5.1) [V.bx 47 [lF5 r5.2.b, vI r5.2.i, vI r5.2.h]]] (by kernel_rfl) (cj h1 (cj h2 (cj (spec_l01Byte_ok c r2 h5) (cj tt (cj (spec_l01Byte_ok r2.2 r3 h6) (cj tt (cj (spec_l01Byte_ok r3.2 r4 h7) (cj tt (cj (spec_l01Byte_ok r4.2 r5 h8) (cj tt (cj1 (od h9)))))))))))))) (fun h9 =>
   Pn.none)))))))
def spec_l01Once (c : l01Cur) (n : Int) : Option (Bool × l01Cur) :=
 (spec_l01Below c n).bind fun r1 =>
 some ((r1.1 == 0), r1.2)
theorem spec_l01Once_ok (c : l01Cur) (n : Int) : Pn (fun y => Fn Tryz.prog 16 [(true, V.bx 47 [lF5 c.b, vI c.i, vI c.h]), (false, E3 n)] (E4 y.1) [V.bx 47 [lF5 y.2.b, vI y.2.i, vI y.2.h]]) (spec_l01Once c n) := by
  unfold spec_l01Once
  exact
   Pn.bind (fun r1 h1 =>
   Pn.some (Fn.of [.call [true, false] (E3 r1.1) [V.bx 47 [lF5 r1.2.b, vI r1.2.i, vI r1.2.h]]] (by kernel_rfl) (cj (spec_l01Below_ok c n r1 h1) (cj1 tt))))
def spec_l01Pick (c : l01Cur) (l : List Int) : Option (Int × l01Cur × (List Int)) :=
 (spec_l01Below c (l.length : Int)).bind fun r1 =>
 if (decide (0 ≤ r1.1)) = true then
 (l[r1.1.toNat]?).bind fun x1 =>
 some (x1, r1.2, l)
 else none
theorem spec_l01Pick_ok (c : l01Cur) (l : List Int) : Pn (fun y => Fn Tryz.prog 29 [(true, V.bx 47 [lF5 c.b, vI c.i, vI c.h]), (true, E50 l)] (E3 y.1) [V.bx 47 [lF5 y.2.1.b, vI y.2.1.i, vI y.2.1.h], lT3 y.2.2]) (spec_l01Pick c l) := by
  unfold spec_l01Pick
  exact
   Pn.bind (fun r1 h1 =>
   Pn.ite (fun h2 =>
   Pn.bind (fun x1 h3 =>
   Pn.some (Fn.of [.wait 5, .nm 8 (vI (l.length : Int)), .call [true, false] (E3 r1.1) [V.bx 47 [lF5 r1.2.b, vI r1.2.i, vI r1.2.h]], .el (E3 x1)] (by kernel_rfl) (cj (len_nm E3 l) (cj (spec_l01Below_ok c (l.length : Int) r1 h1 : Fn Tryz.prog 18 [(true, V.bx 47 [lF5 c.b, vI c.i, vI c.h]), (false, E3 (l.length : Int))] (E3 r1.1) [V.bx 47 [lF5 r1.2.b, vI r1.2.i, vI r1.2.h]]) (cj tt (cj (od h2) (cj (map_ltN (od h2) h3 : (r1.1 : Int) < ((List.map E3 l).length : Int)) (cj (rfl : look [] r1.1.toNat = none) (cj1 (map_get h3 : (List.map E3 l)[r1.1.toNat]? = some (E3 x1)))))))))))) (fun h2 =>
   Pn.none))
def spec_l01In (n : Int) (lo : Int) (hi : Int) : Option (Bool) :=
 if (decide (lo ≤ n)) = true then
 some (decide (n ≤ hi))
 else
 some false
theorem spec_l01In_ok (n : Int) (lo : Int) (hi : Int) : Pn (fun y => Fn Tryz.prog 81 [(false, E3 n), (false, E3 lo), (false, E3 hi)] (E4 y) []) (spec_l01In n lo hi) := by
  unfold spec_l01In
  exact
   Pn.ite (fun h1 =>
   Pn.some (Fn.of [bT, bT, bT, bT] (by kernel_rfl) (cj h1 (cj h1 (cj h1 (cj1 h1)))))) (fun h1 =>
   Pn.some (Fn.of [bF, bF, bF, bF] (by kernel_rfl) (cj h1 (cj h1 (cj h1 (cj1 h1))))))
def spec_RingNew_s1 (buckets : Int) (span : Int) (r1 : Bool) (r2 : Bool) : St := st 21 [(0, vI buckets), (1, vI span), (4, V.ptr 0 0), (5, vB true), (6, vI buckets), (7, vB r1), (8, vB (!r1)), (9, vB (!r1)), (10, vI span), (11, vB r2), (12, vB (!r2)), (13, vB (!r2)), (15, vI span), (16, vI buckets), (17, V.ow 1), (18, vI buckets), (19, V.ow 2), (20, V.agg [vI span, vI 0, V.ow 1, V.ow 2])] [Blk.box 52 [vI span, vI 0, V.ow 1, V.ow 2], Blk.row 3 (List.map E3 (List.replicate buckets.toNat 0)) [], Blk.row 3 (List.map E3 (List.replicate buckets.toNat 0)) []] []
def spec_RingNew (buckets : Int) (span : Int) : Option (Ring × Bool) :=
 (spec_l01In buckets 1 8).bind fun r1 =>
 if r1 = true then
 (spec_l01In span 1 1000).bind fun r2 =>
 if r2 = true then
 if (decide (0 ≤ buckets)) = true then
 if (capOk buckets.toNat) = true then
 some ((Ring.mk span 0 (List.replicate buckets.toNat 0) (List.replicate buckets.toNat 0)), true)
 else none
 else none
 else
 some ((Ring.mk 0 0 [] []), false)
 else
 some ((Ring.mk 0 0 [] []), false)
theorem spec_RingNew_ok (buckets : Int) (span : Int) : Pn (fun y => Fn Tryz.prog 47 [(false, E3 buckets), (false, E3 span)] (V.tup [E52 y.1, E4 y.2]) []) (spec_RingNew buckets span) := by
  unfold spec_RingNew
  exact
   Pn.bind (fun r1 h1 =>
   Pn.ite (fun h2 =>
   Pn.bind (fun r2 h3 =>
   Pn.ite (fun h4 =>
   Pn.ite (fun h5 =>
   Pn.ite (fun h6 =>
   Pn.some (Fn.of [.call [] (E4 r1) [], bF, bF, .call [] (E4 r2) [], bF, bF, bF, .draw [6], .loop .go ((spec_RingNew_s1 buckets span r1 r2)), .nb 1 (.row 3 (List.map E3 (List.replicate buckets.toNat 0)) []), .wait 1, .nb 2 (.row 3 (List.map E3 (List.replicate buckets.toNat 0)) []), .wait 3, .ren [0, 1, 2], .wait 1, .nb 1 (.row 3 (List.map E3 (List.replicate buckets.toNat 0)) []), .wait 1, .nb 2 (.row 3 (List.map E3 (List.replicate buckets.toNat 0)) []), .wait 3, .ren [0, 2, 1]] (by kernel_rfl) (cj (spec_l01In_ok buckets 1 8 r1 h1) (cj tt (cj (nf h2) (cj (nf h2) (cj (spec_l01In_ok span 1 1000 r2 h3) (cj tt (cj (nf h2) (cj (nf h2) (cj (nf h4) (cj (rfl : (buckets : Int) = buckets) (cj (od h5) (cj (cap3 h5 h6 : (buckets : Int) ≤ 9223372036854775807) (cj (cap4 h6 (by decide) : 8 * buckets.toNat ≤ 281474976710656) (cj (nb_rep E3 _ 0 : Blk.row 3 (List.replicate buckets.toNat (vI 0)) [] = Blk.row 3 (List.map E3 (List.replicate buckets.toNat 0)) []) (cj (rfl : (buckets : Int) = buckets) (cj (od h5) (cj (cap3 h5 h6 : (buckets : Int) ≤ 9223372036854775807) (cj (cap4 h6 (by decide) : 8 * buckets.toNat ≤ 281474976710656) (cj (nb_rep E3 _ 0 : Blk.row 3 (List.replicate buckets.toNat (vI 0)) [] = Blk.row 3 (List.map E3 (List.replicate buckets.toNat 0)) []) (cj (rfl : (spec_RingNew_s1 buckets span r1 r2) = (spec_RingNew_s1 buckets span r1 r2)) (cj (rfl : (buckets : Int) = buckets) (cj (od h5) (cj (cap3 h5 h6 : (buckets : Int) ≤ 9223372036854775807) (cj (cap4 h6 (by decide) : 8 * buckets.toNat ≤ 281474976710656) (cj (nb_rep E3 _ 0 : Blk.row 3 (List.replicate buckets.toNat (vI 0)) [] = Blk.row 3 (List.map E3 (List.replicate buckets.toNat 0)) []) (cj (rfl : (buckets : Int) = buckets) (cj (od h5) (cj (cap3 h5 h6 : (buckets : Int) ≤ 9223372036854775807) (cj (cap4 h6 (by decide) : 8 * buckets.toNat ≤ 281474976710656) (cj (nb_rep E3 _ 0 : Blk.row 3 (List.replicate buckets.toNat (vI 0)) [] = Blk.row 3 (List.map E3 (List.replicate buckets.toNat 0)) []) (cj1 (rfl : (spec_RingNew_s1 buckets span r1 r2) = (spec_RingNew_s1 buckets span r1 r2))))))))))))))))))))))))))))))))))) (fun h6 =>
   Pn.none)) (fun h5 =>
   Pn.none)) (fun h4 =>
   Pn.some (Fn.of [.call [] (E4 r1) [], bF, bF, .call [] (E4 r2) [], bF, bF, bT] (by kernel_rfl) (cj (spec_l01In_ok buckets 1 8 r1 h1) (cj tt (cj (nf h2) (cj (nf h2) (cj (spec_l01In_ok span 1 1000 r2 h3) (cj tt (cj (nf h2) (cj (nf h2) (cj1 (nt h4)))))))))))))) (fun h2 =>
   Pn.some (Fn.of [.call [] (E4 r1) [], bT, bT, bT, bT, bT] (by kernel_rfl) (cj (spec_l01In_ok buckets 1 8 r1 h1) (cj tt (cj (nt h2) (cj (nt h2) (cj (nt h2) (cj (nt h2) (cj1 (rfl : true = true)))))))))))
def spec_Digits_l0 (s_ : ByteArray) : Nat → Int → Option (Lo Unit Unit)
  | 0, _ => none
  | fuel + 1, v1 =>
   if (decide (v1 < (s_.size : Int))) = true then
   if (decide (0 ≤ v1)) = true then
   if (decide ((v1 : Int) < (s_.size : Int))) = true then
   if (decide ((sAt s_ v1) < 48)) = true then
   some (.ret ())
   else
   if (decide (57 < (sAt s_ v1))) = true then
   some (.ret ())
   else
   spec_Digits_l0 s_ fuel (i64 (v1 + 1))
   else none
   else none
   else
   some (.out ())
theorem spec_Digits_l0_ok (s_ : ByteArray) : ∀ (fuel : Nat) (v1 : Int), Pn (LpO Tryz.prog (sub (codeOf Tryz.prog 94) [1, 0, 1, 0, 0]) (st 23 [(0, vS s_), (3, vI v1)] [] []) (fun (y : Lo Unit Unit) => Lo.elim y (fun s => (X.out 0, st 23 [(0, vS s_)] [] [])) (fun s => (X.ret, st 23 [(2, vB false)] [] [])))) (spec_Digits_l0 s_ fuel v1)
  | 0, _ => Pn.none
  | fuel + 1, v1 => by
    unfold spec_Digits_l0
    exact
     Pn.ite (fun h1 =>
     Pn.ite (fun h2 =>
     Pn.ite (fun h3 =>
     Pn.ite (fun h4 =>
     Pn.some (LpO.out [bT, bT, bT, bT, bT, bT, bT, .wait 1, .mask [2], .ren []] (by kernel_rfl) (show X.ret ≠ X.go from nofun) (cj h1 (cj (od h2) (cj (od h3) (cj h4 (cj h4 (cj h4 (cj h4 (cj h4 (cj1 (rfl : true = true)))))))))))) (fun h4 =>
     Pn.ite (fun h5 =>
     Pn.some (LpO.out [bT, bF, bF, bF, bF, bF, bT, .wait 1, .mask [2], .ren []] (by kernel_rfl) (show X.ret ≠ X.go from nofun) (cj h1 (cj (od h2) (cj (od h3) (cj h4 (cj h4 (cj h4 (cj (od h2) (cj (od h3) (cj h4 (cj h4 (cj1 h5))))))))))))) (fun h5 =>
     LpO.go [bT, bF, bF, bF, bF, bF, bF, .wait 3, .mask [0, 3], .ren []] (by kernel_rfl) (cj h1 (cj (od h2) (cj (od h3) (cj h4 (cj h4 (cj h4 (cj (od h2) (cj (od h3) (cj h4 (cj h4 (cj1 h5))))))))))) (spec_Digits_l0_ok s_ fuel (i64 (v1 + 1)))))) (fun h3 =>
     Pn.none)) (fun h2 =>
     Pn.none)) (fun h1 =>
     Pn.some (LpO.out [bF, .mask [0], .ren []] (by kernel_rfl) (show X.out 0 ≠ X.go from nofun) (cj1 h1)))
def spec_Digits (s_ : ByteArray) : Option (Bool) :=
 (spec_Digits_l0 s_ FUEL 0).bind fun r1 =>
 Lo.elim r1 (fun s1 =>
 some (decide (0 < (s_.size : Int)))) (fun s2 =>
 some false)
theorem spec_Digits_ok (s_ : ByteArray) : Pn (fun y => Fn Tryz.prog 94 [(false, E9 s_)] (E4 y) []) (spec_Digits s_) := by
  unfold spec_Digits
  exact
   Pn.bind (fun r1 h6 =>
   Pn.lo (fun s1 h7 =>
   Pn.some (Fn.of [.wait 3, .mask [0, 3], .ren [], .loop (X.out 0) (st 23 [(0, vS s_)] [] [])] (by kernel_rfl) (cj1 ((spec_Digits_l0_ok s_ FUEL 0 r1 h6).at h7 :)))) (fun s2 h8 =>
   Pn.some (Fn.of [.wait 3, .mask [0, 3], .ren [], .loop (X.ret) (st 23 [(2, vB false)] [] [])] (by kernel_rfl) (cj1 ((spec_Digits_l0_ok s_ FUEL 0 r1 h6).at h8 :)))))
def spec_Luhn_l0 (s_ : ByteArray) : Nat → Int → Bool → Int → Option (Int)
  | 0, _, _, _ => none
  | fuel + 1, v1, v2, v3 =>
   if (decide (0 ≤ v3)) = true then
   if (decide ((v3 : Int) < (s_.size : Int))) = true then
   if v2 = true then
   if (decide (9 < (i64 (2 * (i64 ((i64 (sAt s_ v3)) - 48)))))) = true then
   spec_Luhn_l0 s_ fuel (Int.tmod (i64 (v1 + (i64 ((i64 (2 * (i64 ((i64 (sAt s_ v3)) - 48)))) - 9)))) 10) (!v2) (i64 (v3 - 1))
   else
   spec_Luhn_l0 s_ fuel (Int.tmod (i64 (v1 + (i64 (2 * (i64 ((i64 (sAt s_ v3)) - 48)))))) 10) (!v2) (i64 (v3 - 1))
   else
   spec_Luhn_l0 s_ fuel (Int.tmod (i64 (v1 + (i64 ((i64 (sAt s_ v3)) - 48)))) 10) (!v2) (i64 (v3 - 1))
   else none
   else
   some v1
theorem spec_Luhn_l0_ok (s_ : ByteArray) : ∀ (fuel : Nat) (v1 : Int) (v2 : Bool) (v3 : Int), Pn (LpO Tryz.prog (sub (codeOf Tryz.prog 139) [1, 1, 1, 1, 0, 1, 0, 0]) (st 38 [(0, vS s_), (3, vI v1), (4, vB v2), (5, vI v3)] [] []) (fun (y : Int) => (X.out 0, st 38 [(3, vI y)] [] []))) (spec_Luhn_l0 s_ fuel v1 v2 v3)
  | 0, _, _, _ => Pn.none
  | fuel + 1, v1, v2, v3 => by
    unfold spec_Luhn_l0
    exact
     Pn.ite (fun h3 =>
     Pn.ite (fun h4 =>
     Pn.ite (fun h5 =>
     Pn.ite (fun h6 =>
     LpO.go [bT, bT, bT, .wait 14, .mask [0, 3, 4, 5], .ren []] (by kernel_rfl) (cj h3 (cj (od h3) (cj (od h4) (cj h5 (cj h6 (cj1 (by decide : (10 : Int) ≠ 0))))))) (spec_Luhn_l0_ok s_ fuel (Int.tmod (i64 (v1 + (i64 ((i64 (2 * (i64 ((i64 (sAt s_ v3)) - 48)))) - 9)))) 10) (!v2) (i64 (v3 - 1)))) (fun h6 =>
     LpO.go [bT, bT, bF, .wait 11, .mask [0, 3, 4, 5], .ren []] (by kernel_rfl) (cj h3 (cj (od h3) (cj (od h4) (cj h5 (cj h6 (cj1 (by decide : (10 : Int) ≠ 0))))))) (spec_Luhn_l0_ok s_ fuel (Int.tmod (i64 (v1 + (i64 (2 * (i64 ((i64 (sAt s_ v3)) - 48)))))) 10) (!v2) (i64 (v3 - 1))))) (fun h5 =>
     LpO.go [bT, bF, .wait 11, .mask [0, 3, 4, 5], .ren []] (by kernel_rfl) (cj h3 (cj (od h3) (cj (od h4) (cj h5 (cj1 (by decide : (10 : Int) ≠ 0)))))) (spec_Luhn_l0_ok s_ fuel (Int.tmod (i64 (v1 + (i64 ((i64 (sAt s_ v3)) - 48)))) 10) (!v2) (i64 (v3 - 1))))) (fun h4 =>
     Pn.none)) (fun h3 =>
     Pn.some (LpO.out [bF, .mask [3], .ren []] (by kernel_rfl) (show X.out 0 ≠ X.go from nofun) (cj1 h3)))
def spec_Luhn (s_ : ByteArray) : Option (Int) :=
 (spec_Digits s_).bind fun r1 =>
 if r1 = true then
 (spec_Luhn_l0 s_ FUEL 0 true (i64 ((s_.size : Int) - 1))).bind fun r2 =>
 some (Int.tmod (i64 (10 - r2)) 10)
 else
 some (-1)
theorem spec_Luhn_ok (s_ : ByteArray) : Pn (fun y => Fn Tryz.prog 139 [(false, E9 s_)] (E3 y) []) (spec_Luhn s_) := by
  unfold spec_Luhn
  exact
   Pn.bind (fun r1 h1 =>
   Pn.ite (fun h2 =>
   Pn.bind (fun r2 h7 =>
   Pn.some (Fn.of [.call [] (E4 r1) [], bF, .wait 6, .mask [0, 3, 4, 5], .ren [], .loop (X.out 0) (st 38 [(3, vI r2)] [] [])] (by kernel_rfl) (cj (spec_Digits_ok s_ r1 h1) (cj tt (cj (nf h2) (cj (spec_Luhn_l0_ok s_ FUEL 0 true (i64 ((s_.size : Int) - 1)) r2 h7 : Loop Tryz.prog (sub (codeOf Tryz.prog 139) [1, 1, 1, 1, 0, 1, 0, 0]) (st 38 [(0, vS s_), (3, vI 0), (4, vB true), (5, vI (i64 ((s_.size : Int) - 1)))] [] []) (X.out 0) (st 38 [(3, vI r2)] [] [])) (cj1 (by decide : (10 : Int) ≠ 0))))))))) (fun h2 =>
   Pn.some (Fn.of [.call [] (E4 r1) [], bT] (by kernel_rfl) (cj (spec_Digits_ok s_ r1 h1) (cj tt (cj1 (nt h2)))))))
def spec_LuhnOk (s_ : ByteArray) : Option (Bool) :=
 (spec_Digits s_).bind fun r1 =>
 if r1 = true then
 if (decide ((s_.size : Int) < 2)) = true then
 some false
 else
 if (decide (0 ≤ (i64 ((s_.size : Int) - 1)))) = true then
 if (decide ((i64 ((s_.size : Int) - 1)) ≤ (s_.size : Int))) = true then
 if (decide (0 ≤ i64 ((s_.size : Int) - 1))) = true then
 if (decide ((i64 ((s_.size : Int) - 1) : Int) < (s_.size : Int))) = true then
 (spec_Luhn (s_.extract 0 (i64 ((s_.size : Int) - 1)).toNat)).bind fun r2 =>
 some (r2 == (i64 ((i64 (sAt s_ (i64 ((s_.size : Int) - 1)))) - 48)))
 else none
 else none
 else none
 else none
 else
 some false
theorem spec_LuhnOk_ok (s_ : ByteArray) : Pn (fun y => Fn Tryz.prog 124 [(false, E9 s_)] (E4 y) []) (spec_LuhnOk s_) := by
  unfold spec_LuhnOk
  exact
   Pn.bind (fun r1 h1 =>
   Pn.ite (fun h2 =>
   Pn.ite (fun h3 =>
   Pn.some (Fn.of [.call [] (E4 r1) [], bF, bF, bF, bF, bT] (by kernel_rfl) (cj (spec_Digits_ok s_ r1 h1) (cj tt (cj (nf h2) (cj (nf h2) (cj (nf h2) (cj (nf h2) (cj1 h3))))))))) (fun h3 =>
   Pn.ite (fun h4 =>
   Pn.ite (fun h5 =>
   Pn.ite (fun h6 =>
   Pn.ite (fun h7 =>
   Pn.bind (fun r2 h8 =>
   Pn.some (Fn.of [.call [] (E4 r1) [], bF, bF, bF, bF, bF, .draw [], .call [] (E3 r2) []] (by kernel_rfl) (cj (spec_Digits_ok s_ r1 h1) (cj tt (cj (nf h2) (cj (nf h2) (cj (nf h2) (cj (nf h2) (cj h3 (cj (by decide : (0 : Int) ≤ 0) (cj (od h4) (cj (od h5) (cj (od h6) (cj (od h7) (cj (spec_Luhn_ok (s_.extract 0 (i64 ((s_.size : Int) - 1)).toNat) r2 h8 : Fn Tryz.prog 139 [(false, E9 (s_.extract 0 (i64 ((s_.size : Int) - 1)).toNat))] (E3 r2) []) (cj1 tt))))))))))))))))) (fun h7 =>
   Pn.none)) (fun h6 =>
   Pn.none)) (fun h5 =>
   Pn.none)) (fun h4 =>
   Pn.none))) (fun h2 =>
   Pn.some (Fn.of [.call [] (E4 r1) [], bT, bT, bT, bT, bT] (by kernel_rfl) (cj (spec_Digits_ok s_ r1 h1) (cj tt (cj (nt h2) (cj (nt h2) (cj (nt h2) (cj (nt h2) (cj1 (rfl : true = true)))))))))))
def spec_AcctIdOk (s_ : ByteArray) : Option (Bool) :=
 if (decide ((s_.size : Int) ≤ 19)) = true then
 (spec_LuhnOk s_).bind fun r1 =>
 some r1
 else
 some false
theorem spec_AcctIdOk_ok (s_ : ByteArray) : Pn (fun y => Fn Tryz.prog 82 [(false, E9 s_)] (E4 y) []) (spec_AcctIdOk s_) := by
  unfold spec_AcctIdOk
  exact
   Pn.ite (fun h1 =>
   Pn.bind (fun r1 h2 =>
   Pn.some (Fn.of [bT, bT, .call [] (E4 r1) [], bT] (by kernel_rfl) (cj h1 (cj h1 (cj (spec_LuhnOk_ok s_ r1 h2) (cj tt (cj1 h1)))))))) (fun h1 =>
   Pn.some (Fn.of [bF, bF, bF] (by kernel_rfl) (cj h1 (cj h1 (cj1 h1)))))
def spec_l01Money (n : Int) : Option (Bool) :=
 if (decide (0 ≤ n)) = true then
 some (decide (n ≤ 4611686018427387904))
 else
 some false
theorem spec_l01Money_ok (n : Int) : Pn (fun y => Fn Tryz.prog 83 [(false, E3 n)] (E4 y) []) (spec_l01Money n) := by
  unfold spec_l01Money
  exact
   Pn.ite (fun h1 =>
   Pn.some (Fn.of [bT, bT, bT] (by kernel_rfl) (cj h1 (cj h1 (cj1 h1))))) (fun h1 =>
   Pn.some (Fn.of [bF, bF, bF] (by kernel_rfl) (cj h1 (cj h1 (cj1 h1)))))
def spec_HoldIdOk_l0 (s_ : ByteArray) : Nat → Int → Option (Lo Unit Unit)
  | 0, _ => none
  | fuel + 1, v1 =>
   if (decide (v1 < (s_.size : Int))) = true then
   if (decide (0 ≤ v1)) = true then
   if (decide ((v1 : Int) < (s_.size : Int))) = true then
   if (decide ((sAt s_ v1) < 48)) = true then
   if (decide ((sAt s_ v1) < 97)) = true then
   some (.ret ())
   else
   if (decide (122 < (sAt s_ v1))) = true then
   some (.ret ())
   else
   spec_HoldIdOk_l0 s_ fuel (i64 (v1 + 1))
   else
   if (decide (57 < (sAt s_ v1))) = true then
   if (decide ((sAt s_ v1) < 97)) = true then
   some (.ret ())
   else
   if (decide (122 < (sAt s_ v1))) = true then
   some (.ret ())
   else
   spec_HoldIdOk_l0 s_ fuel (i64 (v1 + 1))
   else
   spec_HoldIdOk_l0 s_ fuel (i64 (v1 + 1))
   else none
   else none
   else
   some (.out ())
theorem spec_HoldIdOk_l0_ok (s_ : ByteArray) : ∀ (fuel : Nat) (v1 : Int), Pn (LpO Tryz.prog (sub (codeOf Tryz.prog 104) [1, 0, 1, 0, 0]) (st 35 [(0, vS s_), (3, vI v1)] [] []) (fun (y : Lo Unit Unit) => Lo.elim y (fun s => (X.out 0, st 35 [(0, vS s_)] [] [])) (fun s => (X.ret, st 35 [(2, vB false)] [] [])))) (spec_HoldIdOk_l0 s_ fuel v1)
  | 0, _ => Pn.none
  | fuel + 1, v1 => by
    unfold spec_HoldIdOk_l0
    exact
     Pn.ite (fun h1 =>
     Pn.ite (fun h2 =>
     Pn.ite (fun h3 =>
     Pn.ite (fun h4 =>
     Pn.ite (fun h5 =>
     Pn.some (LpO.out [bT, bT, bT, bT, bT, bT, bT, bT, bT, bT, bT, bT, bT, bT, bT, bT, bT, bT, bT, .wait 1, .mask [2], .ren []] (by kernel_rfl) (show X.ret ≠ X.go from nofun) (cj h1 (cj (od h2) (cj (od h3) (cj h4 (cj h4 (cj h4 (cj h4 (cj h4 (cj (rfl : true = true) (cj (rfl : true = true) (cj (rfl : true = true) (cj (od h2) (cj (od h3) (cj (rfl : true = true) (cj (rfl : true = true) (cj h5 (cj h5 (cj h5 (cj h5 (cj (rfl : true = true) (cj h5 (cj (rfl : true = true) (cj1 (rfl : true = true)))))))))))))))))))))))))) (fun h5 =>
     Pn.ite (fun h6 =>
     Pn.some (LpO.out [bT, bT, bT, bT, bT, bT, bT, bT, bT, bT, bT, bF, bF, bF, bF, bT, bF, bT, bT, .wait 1, .mask [2], .ren []] (by kernel_rfl) (show X.ret ≠ X.go from nofun) (cj h1 (cj (od h2) (cj (od h3) (cj h4 (cj h4 (cj h4 (cj h4 (cj h4 (cj (rfl : true = true) (cj (rfl : true = true) (cj (rfl : true = true) (cj (od h2) (cj (od h3) (cj (rfl : true = true) (cj (rfl : true = true) (cj h5 (cj h5 (cj h5 (cj (od h2) (cj (od h3) (cj h5 (cj (rfl : true = true) (cj h5 (cj (rfl : true = true) (cj1 h6))))))))))))))))))))))))))) (fun h6 =>
     LpO.go [bT, bT, bT, bT, bT, bT, bT, bT, bT, bT, bT, bF, bF, bF, bF, bT, bF, bT, bF, .wait 3, .mask [0, 3], .ren []] (by kernel_rfl) (cj h1 (cj (od h2) (cj (od h3) (cj h4 (cj h4 (cj h4 (cj h4 (cj h4 (cj (rfl : true = true) (cj (rfl : true = true) (cj (rfl : true = true) (cj (od h2) (cj (od h3) (cj (rfl : true = true) (cj (rfl : true = true) (cj h5 (cj h5 (cj h5 (cj (od h2) (cj (od h3) (cj h5 (cj (rfl : true = true) (cj h5 (cj (rfl : true = true) (cj1 h6))))))))))))))))))))))))) (spec_HoldIdOk_l0_ok s_ fuel (i64 (v1 + 1)))))) (fun h4 =>
     Pn.ite (fun h7 =>
     Pn.ite (fun h8 =>
     Pn.some (LpO.out [bT, bF, bF, bF, bF, bF, bT, bT, bT, bT, bT, bT, bT, bT, bT, bT, bT, bT, bT, .wait 1, .mask [2], .ren []] (by kernel_rfl) (show X.ret ≠ X.go from nofun) (cj h1 (cj (od h2) (cj (od h3) (cj h4 (cj h4 (cj h4 (cj (od h2) (cj (od h3) (cj h4 (cj h4 (cj h7 (cj h7 (cj h7 (cj (od h2) (cj (od h3) (cj h7 (cj h7 (cj h8 (cj h8 (cj h8 (cj h8 (cj h7 (cj h8 (cj h7 (cj1 (rfl : true = true)))))))))))))))))))))))))))) (fun h8 =>
     Pn.ite (fun h9 =>
     Pn.some (LpO.out [bT, bF, bF, bF, bF, bF, bT, bT, bT, bT, bT, bF, bF, bF, bF, bT, bF, bT, bT, .wait 1, .mask [2], .ren []] (by kernel_rfl) (show X.ret ≠ X.go from nofun) (cj h1 (cj (od h2) (cj (od h3) (cj h4 (cj h4 (cj h4 (cj (od h2) (cj (od h3) (cj h4 (cj h4 (cj h7 (cj h7 (cj h7 (cj (od h2) (cj (od h3) (cj h7 (cj h7 (cj h8 (cj h8 (cj h8 (cj (od h2) (cj (od h3) (cj h8 (cj h7 (cj h8 (cj h7 (cj1 h9))))))))))))))))))))))))))))) (fun h9 =>
     LpO.go [bT, bF, bF, bF, bF, bF, bT, bT, bT, bT, bT, bF, bF, bF, bF, bT, bF, bT, bF, .wait 3, .mask [0, 3], .ren []] (by kernel_rfl) (cj h1 (cj (od h2) (cj (od h3) (cj h4 (cj h4 (cj h4 (cj (od h2) (cj (od h3) (cj h4 (cj h4 (cj h7 (cj h7 (cj h7 (cj (od h2) (cj (od h3) (cj h7 (cj h7 (cj h8 (cj h8 (cj h8 (cj (od h2) (cj (od h3) (cj h8 (cj h7 (cj h8 (cj h7 (cj1 h9))))))))))))))))))))))))))) (spec_HoldIdOk_l0_ok s_ fuel (i64 (v1 + 1)))))) (fun h7 =>
     LpO.go [bT, bF, bF, bF, bF, bF, bF, bF, bF, bF, bF, bF, bF, bF, .wait 3, .mask [0, 3], .ren []] (by kernel_rfl) (cj h1 (cj (od h2) (cj (od h3) (cj h4 (cj h4 (cj h4 (cj (od h2) (cj (od h3) (cj h4 (cj h4 (cj h7 (cj h7 (cj h7 (cj h7 (cj h7 (cj h7 (cj h7 (cj1 ff)))))))))))))))))) (spec_HoldIdOk_l0_ok s_ fuel (i64 (v1 + 1)))))) (fun h3 =>
     Pn.none)) (fun h2 =>
     Pn.none)) (fun h1 =>
     Pn.some (LpO.out [bF, .mask [0], .ren []] (by kernel_rfl) (show X.out 0 ≠ X.go from nofun) (cj1 h1)))
def spec_HoldIdOk (s_ : ByteArray) : Option (Bool) :=
 (spec_HoldIdOk_l0 s_ FUEL 0).bind fun r1 =>
 Lo.elim r1 (fun s1 =>
 (spec_l01In (s_.size : Int) 1 6).bind fun r2 =>
 some r2) (fun s2 =>
 some false)
theorem spec_HoldIdOk_ok (s_ : ByteArray) : Pn (fun y => Fn Tryz.prog 104 [(false, E9 s_)] (E4 y) []) (spec_HoldIdOk s_) := by
  unfold spec_HoldIdOk
  exact
   Pn.bind (fun r1 h10 =>
   Pn.lo (fun s1 h11 =>
   Pn.bind (fun r2 h13 =>
   Pn.some (Fn.of [.wait 3, .mask [0, 3], .ren [], .loop (X.out 0) (st 35 [(0, vS s_)] [] []), .call [] (E4 r2) []] (by kernel_rfl) (cj ((spec_HoldIdOk_l0_ok s_ FUEL 0 r1 h10).at h11 :) (cj (spec_l01In_ok (s_.size : Int) 1 6 r2 h13 : Fn Tryz.prog 81 [(false, E3 (s_.size : Int)), (false, E3 1), (false, E3 6)] (E4 r2) []) (cj1 tt)))))) (fun s2 h12 =>
   Pn.some (Fn.of [.wait 3, .mask [0, 3], .ren [], .loop (X.ret) (st 35 [(2, vB false)] [] [])] (by kernel_rfl) (cj1 ((spec_HoldIdOk_l0_ok s_ FUEL 0 r1 h10).at h12 :)))))
def spec_l06Time (n : Int) : Option (Bool) :=
 (spec_l01In n 0 1000000000).bind fun r1 =>
 some r1
theorem spec_l06Time_ok (n : Int) : Pn (fun y => Fn Tryz.prog 87 [(false, E3 n)] (E4 y) []) (spec_l06Time n) := by
  unfold spec_l06Time
  exact
   Pn.bind (fun r1 h1 =>
   Pn.some (Fn.of [.call [] (E4 r1) []] (by kernel_rfl) (cj (spec_l01In_ok n 0 1000000000 r1 h1) (cj1 tt))))
def spec_HoldOk (h_ : Hold) : Option (Bool) :=
 (spec_HoldIdOk h_.Id).bind fun r1 =>
 if r1 = true then
 (spec_l01In h_.Amount 1 9007199254740992).bind fun r2 =>
 if r2 = true then
 (spec_l06Time h_.Due).bind fun r3 =>
 some r3
 else
 some false
 else
 some false
theorem spec_HoldOk_ok (h_ : Hold) : Pn (fun y => Fn Tryz.prog 125 [(false, E104 h_)] (E4 y) []) (spec_HoldOk h_) := by
  unfold spec_HoldOk
  exact
   Pn.bind (fun r1 h1 =>
   Pn.ite (fun h2 =>
   Pn.bind (fun r2 h3 =>
   Pn.ite (fun h4 =>
   Pn.bind (fun r3 h5 =>
   Pn.some (Fn.of [.call [] (E4 r1) [], bT, bT, bT, .call [] (E4 r2) [], bT, bT, bT, bT, .call [] (E4 r3) [], bT] (by kernel_rfl) (cj (spec_HoldIdOk_ok h_.Id r1 h1) (cj tt (cj h2 (cj h2 (cj h2 (cj (spec_l01In_ok h_.Amount 1 9007199254740992 r2 h3) (cj tt (cj h2 (cj h4 (cj h4 (cj h4 (cj (spec_l06Time_ok h_.Due r3 h5) (cj tt (cj1 h4))))))))))))))))) (fun h4 =>
   Pn.some (Fn.of [.call [] (E4 r1) [], bT, bT, bT, .call [] (E4 r2) [], bT, bF, bF, bF, bF] (by kernel_rfl) (cj (spec_HoldIdOk_ok h_.Id r1 h1) (cj tt (cj h2 (cj h2 (cj h2 (cj (spec_l01In_ok h_.Amount 1 9007199254740992 r2 h3) (cj tt (cj h2 (cj h4 (cj h4 (cj h4 (cj1 h4)))))))))))))))) (fun h2 =>
   Pn.some (Fn.of [.call [] (E4 r1) [], bF, bF, bF, bF, bF, bF, bF, bF] (by kernel_rfl) (cj (spec_HoldIdOk_ok h_.Id r1 h1) (cj tt (cj h2 (cj h2 (cj h2 (cj h2 (cj ff (cj ff (cj ff (cj1 ff)))))))))))))
def spec_HoldsOk_l0 (l : List Hold) : List Hold → List Hold → Option (Lo Unit Unit)
  | [], p1 =>
   some (.out ())
  | x1 :: t1, p1 =>
   (spec_HoldOk x1).bind fun r1 =>
   if r1 = true then
   if (decide (0 < (p1.length : Int))) = true then
   if (decide (0 ≤ (i64 ((p1.length : Int) - 1)))) = true then
   (l[(i64 ((p1.length : Int) - 1)).toNat]?).bind fun x2 =>
   if (Op.bytesLess x2.Id.toList x1.Id.toList) = true then
   spec_HoldsOk_l0 l t1 (p1 ++ [x1])
   else
   some (.ret ())
   else none
   else
   spec_HoldsOk_l0 l t1 (p1 ++ [x1])
   else
   some (.ret ())
theorem spec_HoldsOk_l0_ok (l : List Hold) (h2 : capOk l.length = true) : ∀ (t1 p1 : List Hold) (_ : l = p1 ++ t1) , Pn (LpO Tryz.prog (sub (codeOf Tryz.prog 84) [1, 0, 1, 0, 0]) (st 34 [(0, lF104 l), (5, lF104 l), (6, vI (l.length : Int)), (7, vI (p1.length : Int))] [] []) (fun (y : Lo Unit Unit) => Lo.elim y (fun s => (X.out 0, st 34 [(0, lF104 l)] [] [])) (fun s => (X.ret, st 34 [(2, vB false)] [] [])))) (spec_HoldsOk_l0 l t1 p1)
  | [], p1, h1 => by
    unfold spec_HoldsOk_l0
    exact
     Pn.some (LpO.out [bF, .mask [0], .ren []] (by kernel_rfl) (show X.out 0 ≠ X.go from nofun) (cj1 (rng_end h1 : (decide ((p1.length : Int) < (l.length : Int))) = false)))
  | x1 :: t1, p1, h1 => by
    unfold spec_HoldsOk_l0
    exact
     Pn.bind (fun r1 h3 =>
     Pn.ite (fun h4 =>
     Pn.ite (fun h5 =>
     Pn.ite (fun h6 =>
     Pn.bind (fun x2 h7 =>
     Pn.ite (fun h8 =>
     LpO.go [bT, .el (E104 x1), .draw [], .call [] (E4 r1) [], bF, bF, bF, bT, bT, bT, bT, .el (E104 x2), bT, bT, bT, bT, bT, bF, bT, bF, bF, .wait 2, .mask [0, 5, 6, 7], .ren [], .nm 7 (vI ((p1 ++ [x1]).length : Int))] (by kernel_rfl) (cj (rng_lt h1 : (decide ((p1.length : Int) < (l.length : Int))) = true) (cj (by omega : (0 : Int) ≤ (p1.length : Int)) (cj (rng_get _ h1 : (List.map E104 l)[(p1.length : Int).toNat]? = some (E104 x1)) (cj (spec_HoldOk_ok x1 r1 h3) (cj tt (cj (nf h4) (cj (nf h4) (cj (nf h4) (cj h5 (cj h5 (cj h5 (cj h5 (cj (od h6) (cj (map_get h7 : (List.map E104 l)[(i64 ((p1.length : Int) - 1)).toNat]? = some (E104 x2)) (cj h5 (cj h5 (cj h5 (cj h5 (cj h5 (cj (nf h4) (cj h5 (cj (nf h4) (cj (nf h8) (cj1 (rng_next h1 h2 : vI (i64 ((p1.length : Int) + 1)) = vI ((p1 ++ [x1]).length : Int)))))))))))))))))))))))))) (spec_HoldsOk_l0_ok l h2 t1 (p1 ++ [x1]) (rng_step h1))) (fun h8 =>
     Pn.some (LpO.out [bT, .el (E104 x1), .draw [], .call [] (E4 r1) [], bF, bF, bF, bT, bT, bT, bT, .el (E104 x2), bT, bT, bT, bT, bT, bF, bT, bF, bT, .wait 1, .mask [2], .ren []] (by kernel_rfl) (show X.ret ≠ X.go from nofun) (cj (rng_lt h1 : (decide ((p1.length : Int) < (l.length : Int))) = true) (cj (by omega : (0 : Int) ≤ (p1.length : Int)) (cj (rng_get _ h1 : (List.map E104 l)[(p1.length : Int).toNat]? = some (E104 x1)) (cj (spec_HoldOk_ok x1 r1 h3) (cj tt (cj (nf h4) (cj (nf h4) (cj (nf h4) (cj h5 (cj h5 (cj h5 (cj h5 (cj (od h6) (cj (map_get h7 : (List.map E104 l)[(i64 ((p1.length : Int) - 1)).toNat]? = some (E104 x2)) (cj h5 (cj h5 (cj h5 (cj h5 (cj h5 (cj (nf h4) (cj h5 (cj (nf h4) (cj1 (nt h8)))))))))))))))))))))))))))) (fun h6 =>
     Pn.none)) (fun h5 =>
     LpO.go [bT, .el (E104 x1), .draw [], .call [] (E4 r1) [], bF, bF, bF, bF, bF, bF, bF, bF, bF, bF, bF, bF, bF, bF, bF, bF, .wait 2, .mask [0, 5, 6, 7], .ren [], .nm 7 (vI ((p1 ++ [x1]).length : Int))] (by kernel_rfl) (cj (rng_lt h1 : (decide ((p1.length : Int) < (l.length : Int))) = true) (cj (by omega : (0 : Int) ≤ (p1.length : Int)) (cj (rng_get _ h1 : (List.map E104 l)[(p1.length : Int).toNat]? = some (E104 x1)) (cj (spec_HoldOk_ok x1 r1 h3) (cj tt (cj (nf h4) (cj (nf h4) (cj (nf h4) (cj h5 (cj h5 (cj h5 (cj h5 (cj h5 (cj h5 (cj h5 (cj h5 (cj h5 (cj (nf h4) (cj h5 (cj (nf h4) (cj ff (cj1 (rng_next h1 h2 : vI (i64 ((p1.length : Int) + 1)) = vI ((p1 ++ [x1]).length : Int)))))))))))))))))))))))) (spec_HoldsOk_l0_ok l h2 t1 (p1 ++ [x1]) (rng_step h1)))) (fun h4 =>
     Pn.some (LpO.out [bT, .el (E104 x1), .draw [], .call [] (E4 r1) [], bT, bT, bT, bT, bT, bT, .wait 1, .mask [2], .ren []] (by kernel_rfl) (show X.ret ≠ X.go from nofun) (cj (rng_lt h1 : (decide ((p1.length : Int) < (l.length : Int))) = true) (cj (by omega : (0 : Int) ≤ (p1.length : Int)) (cj (rng_get _ h1 : (List.map E104 l)[(p1.length : Int).toNat]? = some (E104 x1)) (cj (spec_HoldOk_ok x1 r1 h3) (cj tt (cj (nt h4) (cj (nt h4) (cj (nt h4) (cj (nt h4) (cj (nt h4) (cj1 (rfl : true = true)))))))))))))))
def spec_HoldsOk (l : List Hold) : Option (Bool) :=
 if (capOk l.length) = true then
 (spec_HoldsOk_l0 l l []).bind fun r2 =>
 Lo.elim r2 (fun s1 =>
 some (decide ((l.length : Int) ≤ 4))) (fun s2 =>
 some false)
 else none
theorem spec_HoldsOk_ok (l : List Hold) : Pn (fun y => Fn Tryz.prog 84 [(false, E49 l)] (E4 y) []) (spec_HoldsOk l) := by
  unfold spec_HoldsOk
  exact
   Pn.ite (fun h9 =>
   Pn.bind (fun r2 h10 =>
   Pn.lo (fun s1 h11 =>
   Pn.some (Fn.of [.wait 3, .nm 6 (vI (l.length : Int)), .wait 2, .mask [0, 5, 6, 7], .ren [], .loop (X.out 0) (st 34 [(0, lF104 l)] [] []), .wait 2, .nm 32 (vI (l.length : Int))] (by kernel_rfl) (cj (len_nm E104 l) (cj ((spec_HoldsOk_l0_ok l h9 l [] rfl r2 h10).at h11 :) (cj1 (len_nm E104 l)))))) (fun s2 h12 =>
   Pn.some (Fn.of [.wait 3, .nm 6 (vI (l.length : Int)), .wait 2, .mask [0, 5, 6, 7], .ren [], .loop (X.ret) (st 34 [(2, vB false)] [] [])] (by kernel_rfl) (cj (len_nm E104 l) (cj1 ((spec_HoldsOk_l0_ok l h9 l [] rfl r2 h10).at h12 :))))))) (fun h9 =>
   Pn.none)
def spec_RingOk_l0 (r_ : Ring) : List Int → List Int → Option (Lo Unit Unit)
  | [], p1 =>
   some (.out ())
  | x1 :: t1, p1 =>
   (spec_l01Money x1).bind fun r4 =>
   if r4 = true then
   (r_.Sums[(p1.length : Int).toNat]?).bind fun x2 =>
   (spec_l01Money x2).bind fun r5 =>
   if r5 = true then
   spec_RingOk_l0 r_ t1 (p1 ++ [x1])
   else
   some (.ret ())
   else
   some (.ret ())
theorem spec_RingOk_l0_ok (r_ : Ring) (h9 : capOk r_.Counts.length = true) : ∀ (t1 p1 : List Int) (_ : r_.Counts = p1 ++ t1) , Pn (LpO Tryz.prog (sub (codeOf Tryz.prog 85) [1, 1, 0, 1, 0, 0]) (st 53 [(1, V.ptr 0 0), (32, vI (r_.Counts.length : Int)), (33, vI (p1.length : Int))] [Blk.box 52 [vI r_.Span, vI r_.Head, lF3 r_.Counts, lF3 r_.Sums]] []) (fun (y : Lo Unit Unit) => Lo.elim y (fun s => (X.out 0, st 53 [] [] [])) (fun s => (X.ret, st 53 [(2, vB false)] [] [])))) (spec_RingOk_l0 r_ t1 p1)
  | [], p1, h8 => by
    unfold spec_RingOk_l0
    exact
     Pn.some (LpO.out [bF, .mask [], .ren []] (by kernel_rfl) (show X.out 0 ≠ X.go from nofun) (cj1 (rng_end h8 : (decide ((p1.length : Int) < (r_.Counts.length : Int))) = false)))
  | x1 :: t1, p1, h8 => by
    unfold spec_RingOk_l0
    exact
     Pn.bind (fun r4 h10 =>
     Pn.ite (fun h11 =>
     Pn.bind (fun x2 h12 =>
     Pn.bind (fun r5 h13 =>
     Pn.ite (fun h14 =>
     LpO.go [bT, .el (E3 x1), .call [] (E4 r4) [], bF, bF, bF, bF, .el (E3 x2), bF, bF, .call [] (E4 r5) [], bF, bF, bF, .wait 2, .mask [1, 32, 33], .ren [0], .nm 33 (vI ((p1 ++ [x1]).length : Int))] (by kernel_rfl) (cj (rng_lt h8 : (decide ((p1.length : Int) < (r_.Counts.length : Int))) = true) (cj (by omega : (0 : Int) ≤ (p1.length : Int)) (cj (rng_get _ h8 : (List.map E3 r_.Counts)[(p1.length : Int).toNat]? = some (E3 x1)) (cj (spec_l01Money_ok x1 r4 h10) (cj tt (cj (nf h11) (cj (nf h11) (cj (nf h11) (cj (nf h11) (cj (by omega : (0 : Int) ≤ (p1.length : Int)) (cj (map_get h12 : (List.map E3 r_.Sums)[(p1.length : Int).toNat]? = some (E3 x2)) (cj (nf h11) (cj (nf h11) (cj (spec_l01Money_ok x2 r5 h13) (cj tt (cj (nf h11) (cj (nf h11) (cj (nf h14) (cj1 (rng_next h8 h9 : vI (i64 ((p1.length : Int) + 1)) = vI ((p1 ++ [x1]).length : Int))))))))))))))))))))) (spec_RingOk_l0_ok r_ h9 t1 (p1 ++ [x1]) (rng_step h8))) (fun h14 =>
     Pn.some (LpO.out [bT, .el (E3 x1), .call [] (E4 r4) [], bF, bF, bF, bF, .el (E3 x2), bF, bF, .call [] (E4 r5) [], bF, bF, bT, .wait 1, .mask [2], .ren []] (by kernel_rfl) (show X.ret ≠ X.go from nofun) (cj (rng_lt h8 : (decide ((p1.length : Int) < (r_.Counts.length : Int))) = true) (cj (by omega : (0 : Int) ≤ (p1.length : Int)) (cj (rng_get _ h8 : (List.map E3 r_.Counts)[(p1.length : Int).toNat]? = some (E3 x1)) (cj (spec_l01Money_ok x1 r4 h10) (cj tt (cj (nf h11) (cj (nf h11) (cj (nf h11) (cj (nf h11) (cj (by omega : (0 : Int) ≤ (p1.length : Int)) (cj (map_get h12 : (List.map E3 r_.Sums)[(p1.length : Int).toNat]? = some (E3 x2)) (cj (nf h11) (cj (nf h11) (cj (spec_l01Money_ok x2 r5 h13) (cj tt (cj (nf h11) (cj (nf h11) (cj1 (nt h14)))))))))))))))))))))))) (fun h11 =>
     Pn.some (LpO.out [bT, .el (E3 x1), .call [] (E4 r4) [], bT, bT, bT, bT, bT, bT, bT, bT, bT, .wait 1, .mask [2], .ren []] (by kernel_rfl) (show X.ret ≠ X.go from nofun) (cj (rng_lt h8 : (decide ((p1.length : Int) < (r_.Counts.length : Int))) = true) (cj (by omega : (0 : Int) ≤ (p1.length : Int)) (cj (rng_get _ h8 : (List.map E3 r_.Counts)[(p1.length : Int).toNat]? = some (E3 x1)) (cj (spec_l01Money_ok x1 r4 h10) (cj tt (cj (nt h11) (cj (nt h11) (cj (nt h11) (cj (nt h11) (cj (nt h11) (cj (nt h11) (cj (nt h11) (cj (nt h11) (cj1 (rfl : true = true))))))))))))))))))
def spec_RingOk (r_ : Ring) : Option (Bool) :=
 (spec_l01In r_.Span 1 1000).bind fun r1 =>
 if r1 = true then
 (spec_l01In (r_.Counts.length : Int) 1 8).bind fun r2 =>
 if r2 = true then
 if ((r_.Sums.length : Int) != (r_.Counts.length : Int)) = true then
 some false
 else
 (spec_l06Time r_.Head).bind fun r3 =>
 if r3 = true then
 if (capOk r_.Counts.length) = true then
 (spec_RingOk_l0 r_ r_.Counts []).bind fun r6 =>
 Lo.elim r6 (fun s1 =>
 some true) (fun s2 =>
 some false)
 else none
 else
 some false
 else
 some false
 else
 some false
theorem spec_RingOk_ok (r_ : Ring) : Pn (fun y => Fn Tryz.prog 85 [(false, E52 r_)] (E4 y) []) (spec_RingOk r_) := by
  unfold spec_RingOk
  exact
   Pn.bind (fun r1 h1 =>
   Pn.ite (fun h2 =>
   Pn.bind (fun r2 h3 =>
   Pn.ite (fun h4 =>
   Pn.ite (fun h5 =>
   Pn.some (Fn.of [.call [] (E4 r1) [], bF, bF, bF, .nm 11 (vI (r_.Counts.length : Int)), bF, .call [] (E4 r2) [], bF, bF, bF, bF, bF, .nm 18 (vI (r_.Sums.length : Int)), bF, bF, bF, .nm 21 (vI (r_.Counts.length : Int)), bF, bF, bT, bT, bT, bT, bT, bT] (by kernel_rfl) (cj (spec_l01In_ok r_.Span 1 1000 r1 h1) (cj tt (cj (nf h2) (cj (nf h2) (cj (nf h2) (cj (len_nm E3 r_.Counts) (cj (nf h2) (cj (spec_l01In_ok (r_.Counts.length : Int) 1 8 r2 h3 : Fn Tryz.prog 81 [(false, E3 (r_.Counts.length : Int)), (false, E3 1), (false, E3 8)] (E4 r2) []) (cj tt (cj (nf h2) (cj (nf h2) (cj (nf h4) (cj (nf h4) (cj (nf h4) (cj (len_nm E3 r_.Sums) (cj (nf h4) (cj (nf h4) (cj (nf h4) (cj (len_nm E3 r_.Counts) (cj (nf h4) (cj (nf h4) (cj h5 (cj h5 (cj h5 (cj h5 (cj h5 (cj1 (rfl : true = true)))))))))))))))))))))))))))))) (fun h5 =>
   Pn.bind (fun r3 h6 =>
   Pn.ite (fun h7 =>
   Pn.ite (fun h15 =>
   Pn.bind (fun r6 h16 =>
   Pn.lo (fun s1 h17 =>
   Pn.some (Fn.of [.call [] (E4 r1) [], bF, bF, bF, .nm 11 (vI (r_.Counts.length : Int)), bF, .call [] (E4 r2) [], bF, bF, bF, bF, bF, .nm 18 (vI (r_.Sums.length : Int)), bF, bF, bF, .nm 21 (vI (r_.Counts.length : Int)), bF, bF, bF, bF, bF, .call [] (E4 r3) [], bF, bF, bF, .wait 2, .nm 32 (vI (r_.Counts.length : Int)), .wait 2, .mask [1, 32, 33], .ren [0], .loop (X.out 0) (st 53 [] [] [])] (by kernel_rfl) (cj (spec_l01In_ok r_.Span 1 1000 r1 h1) (cj tt (cj (nf h2) (cj (nf h2) (cj (nf h2) (cj (len_nm E3 r_.Counts) (cj (nf h2) (cj (spec_l01In_ok (r_.Counts.length : Int) 1 8 r2 h3 : Fn Tryz.prog 81 [(false, E3 (r_.Counts.length : Int)), (false, E3 1), (false, E3 8)] (E4 r2) []) (cj tt (cj (nf h2) (cj (nf h2) (cj (nf h4) (cj (nf h4) (cj (nf h4) (cj (len_nm E3 r_.Sums) (cj (nf h4) (cj (nf h4) (cj (nf h4) (cj (len_nm E3 r_.Counts) (cj (nf h4) (cj (nf h4) (cj h5 (cj h5 (cj h5 (cj (spec_l06Time_ok r_.Head r3 h6) (cj tt (cj h5 (cj h5 (cj (nf h7) (cj (len_nm E3 r_.Counts) (cj1 ((spec_RingOk_l0_ok r_ h15 r_.Counts [] rfl r6 h16).at h17 :)))))))))))))))))))))))))))))))))) (fun s2 h18 =>
   Pn.some (Fn.of [.call [] (E4 r1) [], bF, bF, bF, .nm 11 (vI (r_.Counts.length : Int)), bF, .call [] (E4 r2) [], bF, bF, bF, bF, bF, .nm 18 (vI (r_.Sums.length : Int)), bF, bF, bF, .nm 21 (vI (r_.Counts.length : Int)), bF, bF, bF, bF, bF, .call [] (E4 r3) [], bF, bF, bF, .wait 2, .nm 32 (vI (r_.Counts.length : Int)), .wait 2, .mask [1, 32, 33], .ren [0], .loop (X.ret) (st 53 [(2, vB false)] [] [])] (by kernel_rfl) (cj (spec_l01In_ok r_.Span 1 1000 r1 h1) (cj tt (cj (nf h2) (cj (nf h2) (cj (nf h2) (cj (len_nm E3 r_.Counts) (cj (nf h2) (cj (spec_l01In_ok (r_.Counts.length : Int) 1 8 r2 h3 : Fn Tryz.prog 81 [(false, E3 (r_.Counts.length : Int)), (false, E3 1), (false, E3 8)] (E4 r2) []) (cj tt (cj (nf h2) (cj (nf h2) (cj (nf h4) (cj (nf h4) (cj (nf h4) (cj (len_nm E3 r_.Sums) (cj (nf h4) (cj (nf h4) (cj (nf h4) (cj (len_nm E3 r_.Counts) (cj (nf h4) (cj (nf h4) (cj h5 (cj h5 (cj h5 (cj (spec_l06Time_ok r_.Head r3 h6) (cj tt (cj h5 (cj h5 (cj (nf h7) (cj (len_nm E3 r_.Counts) (cj1 ((spec_RingOk_l0_ok r_ h15 r_.Counts [] rfl r6 h16).at h18 :)))))))))))))))))))))))))))))))))))) (fun h15 =>
   Pn.none)) (fun h7 =>
   Pn.some (Fn.of [.call [] (E4 r1) [], bF, bF, bF, .nm 11 (vI (r_.Counts.length : Int)), bF, .call [] (E4 r2) [], bF, bF, bF, bF, bF, .nm 18 (vI (r_.Sums.length : Int)), bF, bF, bF, .nm 21 (vI (r_.Counts.length : Int)), bF, bF, bF, bF, bF, .call [] (E4 r3) [], bF, bF, bT] (by kernel_rfl) (cj (spec_l01In_ok r_.Span 1 1000 r1 h1) (cj tt (cj (nf h2) (cj (nf h2) (cj (nf h2) (cj (len_nm E3 r_.Counts) (cj (nf h2) (cj (spec_l01In_ok (r_.Counts.length : Int) 1 8 r2 h3 : Fn Tryz.prog 81 [(false, E3 (r_.Counts.length : Int)), (false, E3 1), (false, E3 8)] (E4 r2) []) (cj tt (cj (nf h2) (cj (nf h2) (cj (nf h4) (cj (nf h4) (cj (nf h4) (cj (len_nm E3 r_.Sums) (cj (nf h4) (cj (nf h4) (cj (nf h4) (cj (len_nm E3 r_.Counts) (cj (nf h4) (cj (nf h4) (cj h5 (cj h5 (cj h5 (cj (spec_l06Time_ok r_.Head r3 h6) (cj tt (cj h5 (cj h5 (cj1 (nt h7))))))))))))))))))))))))))))))))))) (fun h4 =>
   Pn.some (Fn.of [.call [] (E4 r1) [], bF, bF, bF, .nm 11 (vI (r_.Counts.length : Int)), bF, .call [] (E4 r2) [], bF, bF, bT, bT, bT, bT, bT, bT, bT, bT, bT, bT, bT, bT, bT, bT] (by kernel_rfl) (cj (spec_l01In_ok r_.Span 1 1000 r1 h1) (cj tt (cj (nf h2) (cj (nf h2) (cj (nf h2) (cj (len_nm E3 r_.Counts) (cj (nf h2) (cj (spec_l01In_ok (r_.Counts.length : Int) 1 8 r2 h3 : Fn Tryz.prog 81 [(false, E3 (r_.Counts.length : Int)), (false, E3 1), (false, E3 8)] (E4 r2) []) (cj tt (cj (nf h2) (cj (nf h2) (cj (nt h4) (cj (nt h4) (cj (nt h4) (cj (nt h4) (cj (nt h4) (cj (nt h4) (cj (nt h4) (cj (nt h4) (cj (rfl : true = true) (cj (rfl : true = true) (cj (rfl : true = true) (cj (rfl : true = true) (cj (rfl : true = true) (cj1 (rfl : true = true)))))))))))))))))))))))))))))) (fun h2 =>
   Pn.some (Fn.of [.call [] (E4 r1) [], bT, bT, bT, bT, bT, bT, bT, bT, bT, bT, bT, bT, bT, bT, bT, bT, bT, bT, bT, bT] (by kernel_rfl) (cj (spec_l01In_ok r_.Span 1 1000 r1 h1) (cj tt (cj (nt h2) (cj (nt h2) (cj (nt h2) (cj (nt h2) (cj (nt h2) (cj (nt h2) (cj (rfl : true = true) (cj (rfl : true = true) (cj (rfl : true = true) (cj (rfl : true = true) (cj (rfl : true = true) (cj (rfl : true = true) (cj (rfl : true = true) (cj (rfl : true = true) (cj (rfl : true = true) (cj (rfl : true = true) (cj (rfl : true = true) (cj (rfl : true = true) (cj (rfl : true = true) (cj1 (rfl : true = true))))))))))))))))))))))))))
def spec_SlotOk (s_ : Slot) : Option (Bool) :=
 (spec_Digits s_.Trace).bind fun r1 =>
 if r1 = true then
 if ((s_.Trace.size : Int) == 6) = true then
 (spec_Digits s_.Mti).bind fun r2 =>
 if r2 = true then
 if ((s_.Mti.size : Int) == 4) = true then
 (spec_l01In (s_.Reply.length : Int) 1 200).bind fun r3 =>
 some r3
 else
 some false
 else
 some false
 else
 some false
 else
 some false
theorem spec_SlotOk_ok (s_ : Slot) : Pn (fun y => Fn Tryz.prog 126 [(false, E111 s_)] (E4 y) []) (spec_SlotOk s_) := by
  unfold spec_SlotOk
  exact
   Pn.bind (fun r1 h1 =>
   Pn.ite (fun h2 =>
   Pn.ite (fun h3 =>
   Pn.bind (fun r2 h4 =>
   Pn.ite (fun h5 =>
   Pn.ite (fun h6 =>
   Pn.bind (fun r3 h7 =>
   Pn.some (Fn.of [.call [] (E4 r1) [], bT, bT, bT, bT, bT, bT, bT, bT, .call [] (E4 r2) [], bT, bT, bT, bT, bT, bT, bT, bT, bT, .nm 26 (vI (s_.Reply.length : Int)), bT, .call [] (E4 r3) [], bT] (by kernel_rfl) (cj (spec_Digits_ok s_.Trace r1 h1) (cj tt (cj h2 (cj h2 (cj h2 (cj h2 (cj h2 (cj h3 (cj h3 (cj h3 (cj (spec_Digits_ok s_.Mti r2 h4) (cj tt (cj h3 (cj h5 (cj h5 (cj h5 (cj h5 (cj h5 (cj h6 (cj h6 (cj h6 (cj (len_nm E5 s_.Reply) (cj h6 (cj (spec_l01In_ok (s_.Reply.length : Int) 1 200 r3 h7 : Fn Tryz.prog 81 [(false, E3 (s_.Reply.length : Int)), (false, E3 1), (false, E3 200)] (E4 r3) []) (cj tt (cj1 h6))))))))))))))))))))))))))))) (fun h6 =>
   Pn.some (Fn.of [.call [] (E4 r1) [], bT, bT, bT, bT, bT, bT, bT, bT, .call [] (E4 r2) [], bT, bT, bT, bT, bT, bT, bF, bF, bF, bF, bF] (by kernel_rfl) (cj (spec_Digits_ok s_.Trace r1 h1) (cj tt (cj h2 (cj h2 (cj h2 (cj h2 (cj h2 (cj h3 (cj h3 (cj h3 (cj (spec_Digits_ok s_.Mti r2 h4) (cj tt (cj h3 (cj h5 (cj h5 (cj h5 (cj h5 (cj h5 (cj h6 (cj h6 (cj h6 (cj h6 (cj1 h6)))))))))))))))))))))))))) (fun h5 =>
   Pn.some (Fn.of [.call [] (E4 r1) [], bT, bT, bT, bT, bT, bT, bT, bT, .call [] (E4 r2) [], bT, bF, bF, bF, bF, bF, bF, bF, bF, bF, bF] (by kernel_rfl) (cj (spec_Digits_ok s_.Trace r1 h1) (cj tt (cj h2 (cj h2 (cj h2 (cj h2 (cj h2 (cj h3 (cj h3 (cj h3 (cj (spec_Digits_ok s_.Mti r2 h4) (cj tt (cj h3 (cj h5 (cj h5 (cj h5 (cj h5 (cj h5 (cj ff (cj ff (cj ff (cj ff (cj1 ff))))))))))))))))))))))))))) (fun h3 =>
   Pn.some (Fn.of [.call [] (E4 r1) [], bT, bT, bT, bT, bT, bF, bF, bF, bF, bF, bF, bF, bF, bF, bF, bF, bF, bF, bF] (by kernel_rfl) (cj (spec_Digits_ok s_.Trace r1 h1) (cj tt (cj h2 (cj h2 (cj h2 (cj h2 (cj h2 (cj h3 (cj h3 (cj h3 (cj h3 (cj ff (cj ff (cj ff (cj ff (cj ff (cj ff (cj ff (cj ff (cj ff (cj1 ff)))))))))))))))))))))))) (fun h2 =>
   Pn.some (Fn.of [.call [] (E4 r1) [], bF, bF, bF, bF, bF, bF, bF, bF, bF, bF, bF, bF, bF, bF, bF, bF, bF, bF, bF] (by kernel_rfl) (cj (spec_Digits_ok s_.Trace r1 h1) (cj tt (cj h2 (cj h2 (cj h2 (cj h2 (cj h2 (cj ff (cj ff (cj ff (cj ff (cj ff (cj ff (cj ff (cj ff (cj ff (cj ff (cj ff (cj ff (cj ff (cj1 ff))))))))))))))))))))))))
def spec_SlotsOk_l1 (l : List Slot) (p1 : List Slot) (x1 : Slot) : List Slot → Option (Lo Unit Unit)
  | [] =>
   some (.out ())
  | x2 :: t2 =>
   if (x2.Trace == x1.Trace) = true then
   if (x2.Mti == x1.Mti) = true then
   some (.ret ())
   else
   spec_SlotsOk_l1 l p1 x1 t2
   else
   spec_SlotsOk_l1 l p1 x1 t2
theorem spec_SlotsOk_l1_ok (l : List Slot) (p1 : List Slot) (x1 : Slot) (h8 : capOk ((l.take ((p1.length : Int).toNat)).drop 0).length = true) : ∀ (t2 p2 : List Slot) (_ : ((l.take ((p1.length : Int).toNat)).drop 0) = p2 ++ t2) , Pn (LpO Tryz.prog (sub (codeOf Tryz.prog 86) [1, 0, 1, 0, 0, 1, 1, 0, 0, 1, 1, 1, 0, 0]) (st 42 [(0, lF111 l), (4, V.ptr 0 0), (7, lF111 l), (8, vI (l.length : Int)), (9, vI (p1.length : Int)), (19, lF111 ((l.take ((p1.length : Int).toNat)).drop 0)), (20, vI (((l.take ((p1.length : Int).toNat)).drop 0).length : Int)), (21, vI (p2.length : Int))] [Blk.box 111 [vS x1.Trace, vS x1.Mti, lF5 x1.Reply]] []) (fun (y : Lo Unit Unit) => Lo.elim y (fun s => (X.out 2, st 42 [(0, lF111 l), (7, lF111 l), (8, vI (l.length : Int)), (9, vI (p1.length : Int))] [] [])) (fun s => (X.ret, st 42 [(2, vB false)] [] [])))) (spec_SlotsOk_l1 l p1 x1 t2)
  | [], p2, h7 => by
    unfold spec_SlotsOk_l1
    exact
     Pn.some (LpO.out [bF, .mask [0, 7, 8, 9], .ren []] (by kernel_rfl) (show X.out 2 ≠ X.go from nofun) (cj1 (rng_end h7 : (decide ((p2.length : Int) < (((l.take ((p1.length : Int).toNat)).drop 0).length : Int))) = false)))
  | x2 :: t2, p2, h7 => by
    unfold spec_SlotsOk_l1
    exact
     Pn.ite (fun h9 =>
     Pn.ite (fun h10 =>
     Pn.some (LpO.out [bT, .el (E111 x2), bT, bT, bT, bT, bT, bT, bT, .wait 1, .mask [2], .ren []] (by kernel_rfl) (show X.ret ≠ X.go from nofun) (cj (rng_lt h7 : (decide ((p2.length : Int) < (((l.take ((p1.length : Int).toNat)).drop 0).length : Int))) = true) (cj (by omega : (0 : Int) ≤ (p2.length : Int)) (cj (rng_get _ h7 : (List.map E111 ((l.take ((p1.length : Int).toNat)).drop 0))[(p2.length : Int).toNat]? = some (E111 x2)) (cj h9 (cj h9 (cj h9 (cj h9 (cj h9 (cj h9 (cj1 h10)))))))))))) (fun h10 =>
     LpO.go [bT, .el (E111 x2), bT, bT, bT, bT, bT, bT, bF, .wait 2, .mask [0, 4, 7, 8, 9, 19, 20, 21], .ren [0], .nm 21 (vI ((p2 ++ [x2]).length : Int))] (by kernel_rfl) (cj (rng_lt h7 : (decide ((p2.length : Int) < (((l.take ((p1.length : Int).toNat)).drop 0).length : Int))) = true) (cj (by omega : (0 : Int) ≤ (p2.length : Int)) (cj (rng_get _ h7 : (List.map E111 ((l.take ((p1.length : Int).toNat)).drop 0))[(p2.length : Int).toNat]? = some (E111 x2)) (cj h9 (cj h9 (cj h9 (cj h9 (cj h9 (cj h9 (cj h10 (cj1 (rng_next h7 h8 : vI (i64 ((p2.length : Int) + 1)) = vI ((p2 ++ [x2]).length : Int))))))))))))) (spec_SlotsOk_l1_ok l p1 x1 h8 t2 (p2 ++ [x2]) (rng_step h7)))) (fun h9 =>
     LpO.go [bT, .el (E111 x2), bF, bF, bF, bF, bF, bF, bF, .wait 2, .mask [0, 4, 7, 8, 9, 19, 20, 21], .ren [0], .nm 21 (vI ((p2 ++ [x2]).length : Int))] (by kernel_rfl) (cj (rng_lt h7 : (decide ((p2.length : Int) < (((l.take ((p1.length : Int).toNat)).drop 0).length : Int))) = true) (cj (by omega : (0 : Int) ≤ (p2.length : Int)) (cj (rng_get _ h7 : (List.map E111 ((l.take ((p1.length : Int).toNat)).drop 0))[(p2.length : Int).toNat]? = some (E111 x2)) (cj h9 (cj h9 (cj h9 (cj h9 (cj h9 (cj h9 (cj ff (cj1 (rng_next h7 h8 : vI (i64 ((p2.length : Int) + 1)) = vI ((p2 ++ [x2]).length : Int))))))))))))) (spec_SlotsOk_l1_ok l p1 x1 h8 t2 (p2 ++ [x2]) (rng_step h7)))
def spec_SlotsOk_l0 (l : List Slot) : List Slot → List Slot → Option (Lo Unit Unit)
  | [], p1 =>
   some (.out ())
  | x1 :: t1, p1 =>
   (spec_SlotOk x1).bind fun r1 =>
   if r1 = true then
   if (decide (0 ≤ (p1.length : Int))) = true then
   if (decide ((p1.length : Int) ≤ (l.length : Int))) = true then
   if (capOk ((l.take ((p1.length : Int).toNat)).drop 0).length) = true then
   (spec_SlotsOk_l1 l p1 x1 ((l.take ((p1.length : Int).toNat)).drop 0)).bind fun r2 =>
   Lo.elim r2 (fun s1 =>
   spec_SlotsOk_l0 l t1 (p1 ++ [x1])) (fun s2 =>
   some (.ret ()))
   else none
   else none
   else none
   else
   some (.ret ())
theorem spec_SlotsOk_l0_ok (l : List Slot) (h2 : capOk l.length = true) : ∀ (t1 p1 : List Slot) (_ : l = p1 ++ t1) , Pn (LpO Tryz.prog (sub (codeOf Tryz.prog 86) [1, 0, 1, 0, 0]) (st 42 [(0, lF111 l), (7, lF111 l), (8, vI (l.length : Int)), (9, vI (p1.length : Int))] [] []) (fun (y : Lo Unit Unit) => Lo.elim y (fun s => (X.out 0, st 42 [(0, lF111 l)] [] [])) (fun s => (X.ret, st 42 [(2, vB false)] [] [])))) (spec_SlotsOk_l0 l t1 p1)
  | [], p1, h1 => by
    unfold spec_SlotsOk_l0
    exact
     Pn.some (LpO.out [bF, .mask [0], .ren []] (by kernel_rfl) (show X.out 0 ≠ X.go from nofun) (cj1 (rng_end h1 : (decide ((p1.length : Int) < (l.length : Int))) = false)))
  | x1 :: t1, p1, h1 => by
    unfold spec_SlotsOk_l0
    exact
     Pn.bind (fun r1 h3 =>
     Pn.ite (fun h4 =>
     Pn.ite (fun h5 =>
     Pn.ite (fun h6 =>
     Pn.ite (fun h11 =>
     Pn.bind (fun r2 h12 =>
     Pn.lo (fun s1 h13 =>
     LpO.go [bT, .el (E111 x1), .call [] (E4 r1) [], bF, .wait 2, .nm 19 (lF111 ((l.take ((p1.length : Int).toNat)).drop 0)), .wait 1, .nm 20 (vI (((l.take ((p1.length : Int).toNat)).drop 0).length : Int)), .wait 2, .mask [0, 4, 7, 8, 9, 19, 20, 21], .ren [0], .loop (X.out 2) (st 42 [(0, lF111 l), (7, lF111 l), (8, vI (l.length : Int)), (9, vI (p1.length : Int))] [] []), .wait 3, .mask [0, 7, 8, 9], .ren [], .nm 9 (vI ((p1 ++ [x1]).length : Int))] (by kernel_rfl) (cj (rng_lt h1 : (decide ((p1.length : Int) < (l.length : Int))) = true) (cj (by omega : (0 : Int) ≤ (p1.length : Int)) (cj (rng_get _ h1 : (List.map E111 l)[(p1.length : Int).toNat]? = some (E111 x1)) (cj (spec_SlotOk_ok x1 r1 h3) (cj tt (cj (nf h4) (cj (by decide : (0 : Int) ≤ 0) (cj (od h5) (cj (by rw [List.length_map]; exact (od h6) : ((p1.length : Int) : Int) ≤ ((List.map E111 l).length : Int)) (cj (nm_cut _ _ _ _ _ : V.sl false 111 (((List.map E111 l).take ((p1.length : Int).toNat)).drop 0) = lF111 ((l.take ((p1.length : Int).toNat)).drop 0)) (cj (len_nm E111 ((l.take ((p1.length : Int).toNat)).drop 0)) (cj ((spec_SlotsOk_l1_ok l p1 x1 h11 ((l.take ((p1.length : Int).toNat)).drop 0) [] rfl r2 h12).at h13 :) (cj1 (rng_next h1 h2 : vI (i64 ((p1.length : Int) + 1)) = vI ((p1 ++ [x1]).length : Int))))))))))))))) (spec_SlotsOk_l0_ok l h2 t1 (p1 ++ [x1]) (rng_step h1))) (fun s2 h14 =>
     Pn.some (LpO.out [bT, .el (E111 x1), .call [] (E4 r1) [], bF, .wait 2, .nm 19 (lF111 ((l.take ((p1.length : Int).toNat)).drop 0)), .wait 1, .nm 20 (vI (((l.take ((p1.length : Int).toNat)).drop 0).length : Int)), .wait 2, .mask [0, 4, 7, 8, 9, 19, 20, 21], .ren [0], .loop (X.ret) (st 42 [(2, vB false)] [] []), .wait 1, .mask [2], .ren []] (by kernel_rfl) (show X.ret ≠ X.go from nofun) (cj (rng_lt h1 : (decide ((p1.length : Int) < (l.length : Int))) = true) (cj (by omega : (0 : Int) ≤ (p1.length : Int)) (cj (rng_get _ h1 : (List.map E111 l)[(p1.length : Int).toNat]? = some (E111 x1)) (cj (spec_SlotOk_ok x1 r1 h3) (cj tt (cj (nf h4) (cj (by decide : (0 : Int) ≤ 0) (cj (od h5) (cj (by rw [List.length_map]; exact (od h6) : ((p1.length : Int) : Int) ≤ ((List.map E111 l).length : Int)) (cj (nm_cut _ _ _ _ _ : V.sl false 111 (((List.map E111 l).take ((p1.length : Int).toNat)).drop 0) = lF111 ((l.take ((p1.length : Int).toNat)).drop 0)) (cj (len_nm E111 ((l.take ((p1.length : Int).toNat)).drop 0)) (cj1 ((spec_SlotsOk_l1_ok l p1 x1 h11 ((l.take ((p1.length : Int).toNat)).drop 0) [] rfl r2 h12).at h14 :))))))))))))))))) (fun h11 =>
     Pn.none)) (fun h6 =>
     Pn.none)) (fun h5 =>
     Pn.none)) (fun h4 =>
     Pn.some (LpO.out [bT, .el (E111 x1), .call [] (E4 r1) [], bT, .wait 1, .mask [2], .ren []] (by kernel_rfl) (show X.ret ≠ X.go from nofun) (cj (rng_lt h1 : (decide ((p1.length : Int) < (l.length : Int))) = true) (cj (by omega : (0 : Int) ≤ (p1.length : Int)) (cj (rng_get _ h1 : (List.map E111 l)[(p1.length : Int).toNat]? = some (E111 x1)) (cj (spec_SlotOk_ok x1 r1 h3) (cj tt (cj1 (nt h4))))))))))
def spec_SlotsOk (l : List Slot) : Option (Bool) :=
 if (capOk l.length) = true then
 (spec_SlotsOk_l0 l l []).bind fun r3 =>
 Lo.elim r3 (fun s3 =>
 some (decide ((l.length : Int) ≤ 6))) (fun s4 =>
 some false)
 else none
theorem spec_SlotsOk_ok (l : List Slot) : Pn (fun y => Fn Tryz.prog 86 [(false, E53 l)] (E4 y) []) (spec_SlotsOk l) := by
  unfold spec_SlotsOk
  exact
   Pn.ite (fun h15 =>
   Pn.bind (fun r3 h16 =>
   Pn.lo (fun s3 h17 =>
   Pn.some (Fn.of [.wait 3, .nm 8 (vI (l.length : Int)), .wait 2, .mask [0, 7, 8, 9], .ren [], .loop (X.out 0) (st 42 [(0, lF111 l)] [] []), .wait 2, .nm 40 (vI (l.length : Int))] (by kernel_rfl) (cj (len_nm E111 l) (cj ((spec_SlotsOk_l0_ok l h15 l [] rfl r3 h16).at h17 :) (cj1 (len_nm E111 l)))))) (fun s4 h18 =>
   Pn.some (Fn.of [.wait 3, .nm 8 (vI (l.length : Int)), .wait 2, .mask [0, 7, 8, 9], .ren [], .loop (X.ret) (st 42 [(2, vB false)] [] [])] (by kernel_rfl) (cj (len_nm E111 l) (cj1 ((spec_SlotsOk_l0_ok l h15 l [] rfl r3 h16).at h18 :))))))) (fun h15 =>
   Pn.none)
def spec_l01Clamp (n : Int) (lo : Int) (hi : Int) : Option (Int) :=
 if (decide (n < lo)) = true then
 some lo
 else
 if (decide (hi < n)) = true then
 some hi
 else
 some n
theorem spec_l01Clamp_ok (n : Int) (lo : Int) (hi : Int) : Pn (fun y => Fn Tryz.prog 53 [(false, E3 n), (false, E3 lo), (false, E3 hi)] (E3 y) []) (spec_l01Clamp n lo hi) := by
  unfold spec_l01Clamp
  exact
   Pn.ite (fun h1 =>
   Pn.some (Fn.of [bT] (by kernel_rfl) (cj1 h1))) (fun h1 =>
   Pn.ite (fun h2 =>
   Pn.some (Fn.of [bF, bT] (by kernel_rfl) (cj h1 (cj1 h2)))) (fun h2 =>
   Pn.some (Fn.of [bF, bF] (by kernel_rfl) (cj h1 (cj1 h2)))))
def spec_AddMoney (a : Int) (b : Int) : Option (Int × Bool) :=
 (spec_l01Money a).bind fun r1 =>
 if r1 = true then
 (spec_l01Money b).bind fun r2 =>
 if r2 = true then
 if (decide ((i64 (4611686018427387904 - b)) < a)) = true then
 some (0, false)
 else
 some (i64 (a + b), true)
 else
 some (0, false)
 else
 some (0, false)
theorem spec_AddMoney_ok (a : Int) (b : Int) : Pn (fun y => Fn Tryz.prog 52 [(false, E3 a), (false, E3 b)] (V.tup [E3 y.1, E4 y.2]) []) (spec_AddMoney a b) := by
  unfold spec_AddMoney
  exact
   Pn.bind (fun r1 h1 =>
   Pn.ite (fun h2 =>
   Pn.bind (fun r2 h3 =>
   Pn.ite (fun h4 =>
   Pn.ite (fun h5 =>
   Pn.some (Fn.of [.call [] (E4 r1) [], bF, bF, .call [] (E4 r2) [], bF, bF, bF, bF, bF, bF, bF, bT] (by kernel_rfl) (cj (spec_l01Money_ok a r1 h1) (cj tt (cj (nf h2) (cj (nf h2) (cj (spec_l01Money_ok b r2 h3) (cj tt (cj (nf h2) (cj (nf h2) (cj (nf h4) (cj (nf h4) (cj (nf h4) (cj (nf h4) (cj (nf h4) (cj1 h5)))))))))))))))) (fun h5 =>
   Pn.some (Fn.of [.call [] (E4 r1) [], bF, bF, .call [] (E4 r2) [], bF, bF, bF, bF, bF, bF, bF, bF] (by kernel_rfl) (cj (spec_l01Money_ok a r1 h1) (cj tt (cj (nf h2) (cj (nf h2) (cj (spec_l01Money_ok b r2 h3) (cj tt (cj (nf h2) (cj (nf h2) (cj (nf h4) (cj (nf h4) (cj (nf h4) (cj (nf h4) (cj (nf h4) (cj1 h5))))))))))))))))) (fun h4 =>
   Pn.some (Fn.of [.call [] (E4 r1) [], bF, bF, .call [] (E4 r2) [], bF, bF, bT, bT, bT, bT, bT, bT] (by kernel_rfl) (cj (spec_l01Money_ok a r1 h1) (cj tt (cj (nf h2) (cj (nf h2) (cj (spec_l01Money_ok b r2 h3) (cj tt (cj (nf h2) (cj (nf h2) (cj (nt h4) (cj (nt h4) (cj (nt h4) (cj (nt h4) (cj (nt h4) (cj1 (rfl : true = true))))))))))))))))))) (fun h2 =>
   Pn.some (Fn.of [.call [] (E4 r1) [], bT, bT, bT, bT, bT, bT, bT, bT, bT, bT] (by kernel_rfl) (cj (spec_l01Money_ok a r1 h1) (cj tt (cj (nt h2) (cj (nt h2) (cj (nt h2) (cj (nt h2) (cj (rfl : true = true) (cj (rfl : true = true) (cj (rfl : true = true) (cj (rfl : true = true) (cj (rfl : true = true) (cj1 (rfl : true = true))))))))))))))))
def spec_AddSat (a : Int) (b : Int) : Option (Int) :=
 (spec_l01Clamp a 0 4611686018427387904).bind fun r1 =>
 (spec_l01Clamp b 0 4611686018427387904).bind fun r2 =>
 (spec_AddMoney r1 r2).bind fun r3 =>
 if r3.2 = true then
 some r3.1
 else
 some 4611686018427387904
theorem spec_AddSat_ok (a : Int) (b : Int) : Pn (fun y => Fn Tryz.prog 32 [(false, E3 a), (false, E3 b)] (E3 y) []) (spec_AddSat a b) := by
  unfold spec_AddSat
  exact
   Pn.bind (fun r1 h1 =>
   Pn.bind (fun r2 h2 =>
   Pn.bind (fun r3 h3 =>
   Pn.ite (fun h4 =>
   Pn.some (Fn.of [.call [] (E3 r1) [], .call [] (E3 r2) [], .call [] (V.tup [E3 r3.1, E4 r3.2]) [], bF] (by kernel_rfl) (cj (spec_l01Clamp_ok a 0 4611686018427387904 r1 h1) (cj tt (cj (spec_l01Clamp_ok b 0 4611686018427387904 r2 h2) (cj tt (cj (spec_AddMoney_ok r1 r2 r3 h3) (cj tt (cj1 (nf h4)))))))))) (fun h4 =>
   Pn.some (Fn.of [.call [] (E3 r1) [], .call [] (E3 r2) [], .call [] (V.tup [E3 r3.1, E4 r3.2]) [], bT] (by kernel_rfl) (cj (spec_l01Clamp_ok a 0 4611686018427387904 r1 h1) (cj tt (cj (spec_l01Clamp_ok b 0 4611686018427387904 r2 h2) (cj tt (cj (spec_AddMoney_ok r1 r2 r3 h3) (cj tt (cj1 (nt h4)))))))))))))
def spec_Stored_l0 (l : List Hold) : List Hold → Int → Option (Int)
  | [], v1 =>
   some v1
  | x1 :: t1, v1 =>
   (spec_AddSat v1 x1.Amount).bind fun r1 =>
   spec_Stored_l0 l t1 r1
theorem spec_Stored_l0_ok (l : List Hold) (h2 : capOk l.length = true) : ∀ (t1 p1 : List Hold) (_ : l = p1 ++ t1) (v1 : Int), Pn (LpO Tryz.prog (sub (codeOf Tryz.prog 33) [1, 1, 0, 1, 0, 0]) (st 18 [(3, vI v1), (6, lF104 l), (7, vI (l.length : Int)), (8, vI (p1.length : Int))] [] []) (fun (y : Int) => (X.out 0, st 18 [(3, vI y)] [] []))) (spec_Stored_l0 l t1 v1)
  | [], p1, h1, v1 => by
    unfold spec_Stored_l0
    exact
     Pn.some (LpO.out [bF, .mask [3], .ren []] (by kernel_rfl) (show X.out 0 ≠ X.go from nofun) (cj1 (rng_end h1 : (decide ((p1.length : Int) < (l.length : Int))) = false)))
  | x1 :: t1, p1, h1, v1 => by
    unfold spec_Stored_l0
    exact
     Pn.bind (fun r1 h3 =>
     LpO.go [bT, .el (E104 x1), .call [] (E3 r1) [], .wait 4, .mask [3, 6, 7, 8], .ren [], .nm 8 (vI ((p1 ++ [x1]).length : Int))] (by kernel_rfl) (cj (rng_lt h1 : (decide ((p1.length : Int) < (l.length : Int))) = true) (cj (by omega : (0 : Int) ≤ (p1.length : Int)) (cj (rng_get _ h1 : (List.map E104 l)[(p1.length : Int).toNat]? = some (E104 x1)) (cj (spec_AddSat_ok v1 x1.Amount r1 h3) (cj tt (cj1 (rng_next h1 h2 : vI (i64 ((p1.length : Int) + 1)) = vI ((p1 ++ [x1]).length : Int)))))))) (spec_Stored_l0_ok l h2 t1 (p1 ++ [x1]) (rng_step h1) r1))
def spec_Stored (l : List Hold) : Option (Int) :=
 if (capOk l.length) = true then
 (spec_Stored_l0 l l 0).bind fun r2 =>
 some r2
 else none
theorem spec_Stored_ok (l : List Hold) : Pn (fun y => Fn Tryz.prog 33 [(false, E49 l)] (E3 y) []) (spec_Stored l) := by
  unfold spec_Stored
  exact
   Pn.ite (fun h4 =>
   Pn.bind (fun r2 h5 =>
   Pn.some (Fn.of [.wait 4, .nm 7 (vI (l.length : Int)), .wait 2, .mask [3, 6, 7, 8], .ren [], .loop (X.out 0) (st 18 [(3, vI r2)] [] [])] (by kernel_rfl) (cj (len_nm E104 l) (cj1 (spec_Stored_l0_ok l h4 l [] rfl 0 r2 h5)))))) (fun h4 =>
   Pn.none)
def spec_AcctOk (a : Acct) : Option (Bool) :=
 (spec_AcctIdOk a.Id).bind fun r1 =>
 if r1 = true then
 (spec_l01In a.Limit 0 9007199254740992).bind fun r2 =>
 if r2 = true then
 (spec_l01In a.Most 0 1000).bind fun r3 =>
 if r3 = true then
 (spec_l01In a.MostSum 0 9007199254740992).bind fun r4 =>
 if r4 = true then
 (spec_l01Money a.Posted).bind fun r5 =>
 if r5 = true then
 (spec_HoldsOk a.Holds).bind fun r6 =>
 if r6 = true then
 (spec_RingOk a.Ring).bind fun r7 =>
 if r7 = true then
 (spec_SlotsOk a.Slots).bind fun r8 =>
 if r8 = true then
 (spec_Stored a.Holds).bind fun r9 =>
 (spec_AddSat a.Posted r9).bind fun r10 =>
 some (decide (r10 ≤ a.Limit))
 else
 some false
 else
 some false
 else
 some false
 else
 some false
 else
 some false
 else
 some false
 else
 some false
 else
 some false
theorem spec_AcctOk_ok (a : Acct) : Pn (fun y => Fn Tryz.prog 48 [(false, E55 a)] (E4 y) []) (spec_AcctOk a) := by
  unfold spec_AcctOk
  exact
   Pn.bind (fun r1 h1 =>
   Pn.ite (fun h2 =>
   Pn.bind (fun r2 h3 =>
   Pn.ite (fun h4 =>
   Pn.bind (fun r3 h5 =>
   Pn.ite (fun h6 =>
   Pn.bind (fun r4 h7 =>
   Pn.ite (fun h8 =>
   Pn.bind (fun r5 h9 =>
   Pn.ite (fun h10 =>
   Pn.bind (fun r6 h11 =>
   Pn.ite (fun h12 =>
   Pn.bind (fun r7 h13 =>
   Pn.ite (fun h14 =>
   Pn.bind (fun r8 h15 =>
   Pn.ite (fun h16 =>
   Pn.bind (fun r9 h17 =>
   Pn.bind (fun r10 h18 =>
   Pn.some (Fn.of [.call [] (E4 r1) [], bF, bF, bF, .call [] (E4 r2) [], bF, bF, bF, bF, bF, .call [] (E4 r3) [], bF, bF, bF, bF, bF, .call [] (E4 r4) [], bF, bF, bF, bF, bF, .call [] (E4 r5) [], bF, bF, bF, .draw [], .call [] (E4 r6) [], bT, bT, bT, .call [] (E4 r7) [], bT, bT, bT, bT, .call [] (E4 r8) [], bT, bT, bT, bT, bT, bT, bT, bT, .call [] (E3 r9) [], bT, .call [] (E3 r10) [], bT, bT] (by kernel_rfl) (cj (spec_AcctIdOk_ok a.Id r1 h1) (cj tt (cj (nf h2) (cj (nf h2) (cj (nf h2) (cj (spec_l01In_ok a.Limit 0 9007199254740992 r2 h3) (cj tt (cj (nf h2) (cj (nf h2) (cj (nf h4) (cj (nf h4) (cj (nf h4) (cj (spec_l01In_ok a.Most 0 1000 r3 h5) (cj tt (cj (nf h4) (cj (nf h4) (cj (nf h6) (cj (nf h6) (cj (nf h6) (cj (spec_l01In_ok a.MostSum 0 9007199254740992 r4 h7) (cj tt (cj (nf h6) (cj (nf h6) (cj (nf h8) (cj (nf h8) (cj (nf h8) (cj (spec_l01Money_ok a.Posted r5 h9) (cj tt (cj (nf h8) (cj (nf h8) (cj (nf h10) (cj (spec_HoldsOk_ok a.Holds r6 h11) (cj tt (cj h12 (cj h12 (cj h12 (cj (spec_RingOk_ok a.Ring r7 h13) (cj tt (cj h12 (cj h14 (cj h14 (cj h14 (cj (spec_SlotsOk_ok a.Slots r8 h15) (cj tt (cj h14 (cj h16 (cj h16 (cj h16 (cj h16 (cj h16 (cj h16 (cj h16 (cj (spec_Stored_ok a.Holds r9 h17) (cj tt (cj h16 (cj (spec_AddSat_ok a.Posted r9 r10 h18) (cj tt (cj h16 (cj1 h16))))))))))))))))))))))))))))))))))))))))))))))))))))))))))))))) (fun h16 =>
   Pn.some (Fn.of [.call [] (E4 r1) [], bF, bF, bF, .call [] (E4 r2) [], bF, bF, bF, bF, bF, .call [] (E4 r3) [], bF, bF, bF, bF, bF, .call [] (E4 r4) [], bF, bF, bF, bF, bF, .call [] (E4 r5) [], bF, bF, bF, .draw [], .call [] (E4 r6) [], bT, bT, bT, .call [] (E4 r7) [], bT, bT, bT, bT, .call [] (E4 r8) [], bT, bF, bF, bF, bF, bF, bF, bF, bF, bF, bF] (by kernel_rfl) (cj (spec_AcctIdOk_ok a.Id r1 h1) (cj tt (cj (nf h2) (cj (nf h2) (cj (nf h2) (cj (spec_l01In_ok a.Limit 0 9007199254740992 r2 h3) (cj tt (cj (nf h2) (cj (nf h2) (cj (nf h4) (cj (nf h4) (cj (nf h4) (cj (spec_l01In_ok a.Most 0 1000 r3 h5) (cj tt (cj (nf h4) (cj (nf h4) (cj (nf h6) (cj (nf h6) (cj (nf h6) (cj (spec_l01In_ok a.MostSum 0 9007199254740992 r4 h7) (cj tt (cj (nf h6) (cj (nf h6) (cj (nf h8) (cj (nf h8) (cj (nf h8) (cj (spec_l01Money_ok a.Posted r5 h9) (cj tt (cj (nf h8) (cj (nf h8) (cj (nf h10) (cj (spec_HoldsOk_ok a.Holds r6 h11) (cj tt (cj h12 (cj h12 (cj h12 (cj (spec_RingOk_ok a.Ring r7 h13) (cj tt (cj h12 (cj h14 (cj h14 (cj h14 (cj (spec_SlotsOk_ok a.Slots r8 h15) (cj tt (cj h14 (cj h16 (cj h16 (cj h16 (cj h16 (cj h16 (cj h16 (cj h16 (cj h16 (cj h16 (cj1 h16))))))))))))))))))))))))))))))))))))))))))))))))))))))))))) (fun h14 =>
   Pn.some (Fn.of [.call [] (E4 r1) [], bF, bF, bF, .call [] (E4 r2) [], bF, bF, bF, bF, bF, .call [] (E4 r3) [], bF, bF, bF, bF, bF, .call [] (E4 r4) [], bF, bF, bF, bF, bF, .call [] (E4 r5) [], bF, bF, bF, .draw [], .call [] (E4 r6) [], bT, bT, bT, .call [] (E4 r7) [], bT, bF, bF, bF, bF, bF, bF, bF, bF, bF, bF, bF, bF, bF, bF] (by kernel_rfl) (cj (spec_AcctIdOk_ok a.Id r1 h1) (cj tt (cj (nf h2) (cj (nf h2) (cj (nf h2) (cj (spec_l01In_ok a.Limit 0 9007199254740992 r2 h3) (cj tt (cj (nf h2) (cj (nf h2) (cj (nf h4) (cj (nf h4) (cj (nf h4) (cj (spec_l01In_ok a.Most 0 1000 r3 h5) (cj tt (cj (nf h4) (cj (nf h4) (cj (nf h6) (cj (nf h6) (cj (nf h6) (cj (spec_l01In_ok a.MostSum 0 9007199254740992 r4 h7) (cj tt (cj (nf h6) (cj (nf h6) (cj (nf h8) (cj (nf h8) (cj (nf h8) (cj (spec_l01Money_ok a.Posted r5 h9) (cj tt (cj (nf h8) (cj (nf h8) (cj (nf h10) (cj (spec_HoldsOk_ok a.Holds r6 h11) (cj tt (cj h12 (cj h12 (cj h12 (cj (spec_RingOk_ok a.Ring r7 h13) (cj tt (cj h12 (cj h14 (cj h14 (cj h14 (cj h14 (cj ff (cj ff (cj ff (cj ff (cj ff (cj ff (cj ff (cj ff (cj ff (cj1 ff))))))))))))))))))))))))))))))))))))))))))))))))))))))))) (fun h12 =>
   Pn.some (Fn.of [.call [] (E4 r1) [], bF, bF, bF, .call [] (E4 r2) [], bF, bF, bF, bF, bF, .call [] (E4 r3) [], bF, bF, bF, bF, bF, .call [] (E4 r4) [], bF, bF, bF, bF, bF, .call [] (E4 r5) [], bF, bF, bF, .draw [], .call [] (E4 r6) [], bF, bF, bF, bF, bF, bF, bF, bF, bF, bF, bF, bF, bF, bF, bF, bF, bF, bF] (by kernel_rfl) (cj (spec_AcctIdOk_ok a.Id r1 h1) (cj tt (cj (nf h2) (cj (nf h2) (cj (nf h2) (cj (spec_l01In_ok a.Limit 0 9007199254740992 r2 h3) (cj tt (cj (nf h2) (cj (nf h2) (cj (nf h4) (cj (nf h4) (cj (nf h4) (cj (spec_l01In_ok a.Most 0 1000 r3 h5) (cj tt (cj (nf h4) (cj (nf h4) (cj (nf h6) (cj (nf h6) (cj (nf h6) (cj (spec_l01In_ok a.MostSum 0 9007199254740992 r4 h7) (cj tt (cj (nf h6) (cj (nf h6) (cj (nf h8) (cj (nf h8) (cj (nf h8) (cj (spec_l01Money_ok a.Posted r5 h9) (cj tt (cj (nf h8) (cj (nf h8) (cj (nf h10) (cj (spec_HoldsOk_ok a.Holds r6 h11) (cj tt (cj h12 (cj h12 (cj h12 (cj h12 (cj ff (cj ff (cj ff (cj ff (cj ff (cj ff (cj ff (cj ff (cj ff (cj ff (cj ff (cj ff (cj ff (cj1 ff))))))))))))))))))))))))))))))))))))))))))))))))))))))) (fun h10 =>
   Pn.some (Fn.of [.call [] (E4 r1) [], bF, bF, bF, .call [] (E4 r2) [], bF, bF, bF, bF, bF, .call [] (E4 r3) [], bF, bF, bF, bF, bF, .call [] (E4 r4) [], bF, bF, bF, bF, bF, .call [] (E4 r5) [], bF, bF, bT] (by kernel_rfl) (cj (spec_AcctIdOk_ok a.Id r1 h1) (cj tt (cj (nf h2) (cj (nf h2) (cj (nf h2) (cj (spec_l01In_ok a.Limit 0 9007199254740992 r2 h3) (cj tt (cj (nf h2) (cj (nf h2) (cj (nf h4) (cj (nf h4) (cj (nf h4) (cj (spec_l01In_ok a.Most 0 1000 r3 h5) (cj tt (cj (nf h4) (cj (nf h4) (cj (nf h6) (cj (nf h6) (cj (nf h6) (cj (spec_l01In_ok a.MostSum 0 9007199254740992 r4 h7) (cj tt (cj (nf h6) (cj (nf h6) (cj (nf h8) (cj (nf h8) (cj (nf h8) (cj (spec_l01Money_ok a.Posted r5 h9) (cj tt (cj (nf h8) (cj (nf h8) (cj1 (nt h10)))))))))))))))))))))))))))))))))))) (fun h8 =>
   Pn.some (Fn.of [.call [] (E4 r1) [], bF, bF, bF, .call [] (E4 r2) [], bF, bF, bF, bF, bF, .call [] (E4 r3) [], bF, bF, bF, bF, bF, .call [] (E4 r4) [], bF, bF, bT, bT, bT, bT, bT, bT] (by kernel_rfl) (cj (spec_AcctIdOk_ok a.Id r1 h1) (cj tt (cj (nf h2) (cj (nf h2) (cj (nf h2) (cj (spec_l01In_ok a.Limit 0 9007199254740992 r2 h3) (cj tt (cj (nf h2) (cj (nf h2) (cj (nf h4) (cj (nf h4) (cj (nf h4) (cj (spec_l01In_ok a.Most 0 1000 r3 h5) (cj tt (cj (nf h4) (cj (nf h4) (cj (nf h6) (cj (nf h6) (cj (nf h6) (cj (spec_l01In_ok a.MostSum 0 9007199254740992 r4 h7) (cj tt (cj (nf h6) (cj (nf h6) (cj (nt h8) (cj (nt h8) (cj (nt h8) (cj (nt h8) (cj (nt h8) (cj1 (rfl : true = true)))))))))))))))))))))))))))))))))) (fun h6 =>
   Pn.some (Fn.of [.call [] (E4 r1) [], bF, bF, bF, .call [] (E4 r2) [], bF, bF, bF, bF, bF, .call [] (E4 r3) [], bF, bF, bT, bT, bT, bT, bT, bT, bT, bT, bT, bT, bT] (by kernel_rfl) (cj (spec_AcctIdOk_ok a.Id r1 h1) (cj tt (cj (nf h2) (cj (nf h2) (cj (nf h2) (cj (spec_l01In_ok a.Limit 0 9007199254740992 r2 h3) (cj tt (cj (nf h2) (cj (nf h2) (cj (nf h4) (cj (nf h4) (cj (nf h4) (cj (spec_l01In_ok a.Most 0 1000 r3 h5) (cj tt (cj (nf h4) (cj (nf h4) (cj (nt h6) (cj (nt h6) (cj (nt h6) (cj (nt h6) (cj (nt h6) (cj (rfl : true = true) (cj (rfl : true = true) (cj (rfl : true = true) (cj (rfl : true = true) (cj (rfl : true = true) (cj1 (rfl : true = true)))))))))))))))))))))))))))))))) (fun h4 =>
   Pn.some (Fn.of [.call [] (E4 r1) [], bF, bF, bF, .call [] (E4 r2) [], bF, bF, bT, bT, bT, bT, bT, bT, bT, bT, bT, bT, bT, bT, bT, bT, bT, bT] (by kernel_rfl) (cj (spec_AcctIdOk_ok a.Id r1 h1) (cj tt (cj (nf h2) (cj (nf h2) (cj (nf h2) (cj (spec_l01In_ok a.Limit 0 9007199254740992 r2 h3) (cj tt (cj (nf h2) (cj (nf h2) (cj (nt h4) (cj (nt h4) (cj (nt h4) (cj (nt h4) (cj (nt h4) (cj (rfl : true = true) (cj (rfl : true = true) (cj (rfl : true = true) (cj (rfl : true = true) (cj (rfl : true = true) (cj (rfl : true = true) (cj (rfl : true = true) (cj (rfl : true = true) (cj (rfl : true = true) (cj (rfl : true = true) (cj1 (rfl : true = true)))))))))))))))))))))))))))))) (fun h2 =>
   Pn.some (Fn.of [.call [] (E4 r1) [], bT, bT, bT, bT, bT, bT, bT, bT, bT, bT, bT, bT, bT, bT, bT, bT, bT, bT, bT, bT, bT] (by kernel_rfl) (cj (spec_AcctIdOk_ok a.Id r1 h1) (cj tt (cj (nt h2) (cj (nt h2) (cj (nt h2) (cj (nt h2) (cj (nt h2) (cj (rfl : true = true) (cj (rfl : true = true) (cj (rfl : true = true) (cj (rfl : true = true) (cj (rfl : true = true) (cj (rfl : true = true) (cj (rfl : true = true) (cj (rfl : true = true) (cj (rfl : true = true) (cj (rfl : true = true) (cj (rfl : true = true) (cj (rfl : true = true) (cj (rfl : true = true) (cj (rfl : true = true) (cj (rfl : true = true) (cj1 (rfl : true = true)))))))))))))))))))))))))))
def spec_AcctNew (id : ByteArray) (limit : Int) (most : Int) (mostSum : Int) (buckets : Int) (span : Int) : Option (Acct × Bool) :=
 (spec_RingNew buckets span).bind fun r1 =>
 if r1.2 = true then
 (spec_AcctOk (Acct.mk id limit 0 most mostSum [] r1.1 [])).bind fun r2 =>
 if r2 = true then
 some ((Acct.mk id limit 0 most mostSum [] r1.1 []), true)
 else
 some ((Acct.mk ByteArray.empty 0 0 0 0 [] (Ring.mk 0 0 [] []) []), false)
 else
 some ((Acct.mk ByteArray.empty 0 0 0 0 [] (Ring.mk 0 0 [] []) []), false)
theorem spec_AcctNew_ok (id : ByteArray) (limit : Int) (most : Int) (mostSum : Int) (buckets : Int) (span : Int) : Pn (fun y => Fn Tryz.prog 28 [(false, E9 id), (false, E3 limit), (false, E3 most), (false, E3 mostSum), (false, E3 buckets), (false, E3 span)] (V.tup [E55 y.1, E4 y.2]) []) (spec_AcctNew id limit most mostSum buckets span) := by
  unfold spec_AcctNew
  exact
   Pn.bind (fun r1 h1 =>
   Pn.ite (fun h2 =>
   Pn.bind (fun r2 h3 =>
   Pn.ite (fun h4 =>
   Pn.some (Fn.of [.call [] (V.tup [E52 r1.1, E4 r1.2]) [], bF, bF, .call [] (E4 r2) [], bF, bF, bF] (by kernel_rfl) (cj (spec_RingNew_ok buckets span r1 h1) (cj tt (cj (nf h2) (cj (nf h2) (cj (Fn.nil [104, 111] (by kernel_rfl) (by kernel_rfl) (spec_AcctOk_ok (Acct.mk id limit 0 most mostSum [] r1.1 []) r2 h3) : Fn Tryz.prog 48 [(false, V.agg [vS id, vI limit, vI 0, vI most, vI mostSum, V.nl 104, vI r1.1.Span, vI r1.1.Head, lT3 r1.1.Counts, lT3 r1.1.Sums, V.nl 111])] (E4 r2) []) (cj (by simp [V.nv, nvL, nvL_all, nv_E4] : (false || ((E4 r2).nv && nvL [])) = true) (cj (nf h2) (cj (nf h2) (cj1 (nf h4)))))))))))) (fun h4 =>
   Pn.some (Fn.of [.call [] (V.tup [E52 r1.1, E4 r1.2]) [], bF, bF, .call [] (E4 r2) [], bF, bF, bT] (by kernel_rfl) (cj (spec_RingNew_ok buckets span r1 h1) (cj tt (cj (nf h2) (cj (nf h2) (cj (Fn.nil [104, 111] (by kernel_rfl) (by kernel_rfl) (spec_AcctOk_ok (Acct.mk id limit 0 most mostSum [] r1.1 []) r2 h3) : Fn Tryz.prog 48 [(false, V.agg [vS id, vI limit, vI 0, vI most, vI mostSum, V.nl 104, vI r1.1.Span, vI r1.1.Head, lT3 r1.1.Counts, lT3 r1.1.Sums, V.nl 111])] (E4 r2) []) (cj (by simp [V.nv, nvL, nvL_all, nv_E4] : (false || ((E4 r2).nv && nvL [])) = true) (cj (nf h2) (cj (nf h2) (cj1 (nt h4)))))))))))))) (fun h2 =>
   Pn.some (Fn.of [.call [] (V.tup [E52 r1.1, E4 r1.2]) [], bT, bT, bT, bT, bT] (by kernel_rfl) (cj (spec_RingNew_ok buckets span r1 h1) (cj tt (cj (nt h2) (cj (nt h2) (cj (nt h2) (cj (nt h2) (cj1 (rfl : true = true)))))))))))
def spec_l06Copy (r_ : Ring) : Option (Ring) :=
 if (capOk (0 + r_.Counts.length)) = true then
 if (capOk (0 + r_.Sums.length)) = true then
 some r_
 else none
 else none
theorem spec_l06Copy_ok (r_ : Ring) : Pn (fun y => Fn Tryz.prog 88 [(false, E52 r_)] (E52 y) []) (spec_l06Copy r_) := by
  unfold spec_l06Copy
  exact
   Pn.ite (fun h1 =>
   Pn.ite (fun h2 =>
   Pn.some (Fn.of [.cp (List.map E3 r_.Counts), .nb 3 (.row 3 (List.map E3 r_.Counts) []), .cp (List.map E3 r_.Sums), .nb 5 (.row 3 (List.map E3 r_.Sums) [])] (by kernel_rfl) (cj (vw_id (fun _ => rfl) _ : (List.map E3 r_.Counts).map V.vw = (List.map E3 r_.Counts)) (cj (cap1 (capN (by simp) h1) : ([] : List V).length + (List.map E3 r_.Counts).length ≤ 9223372036854775807) (cj (cap2 (capN (by simp) h1) (by decide) : (([] : List V).length + (List.map E3 r_.Counts).length) * 8 ≤ 140737488355328) (cj (rfl : Blk.row 3 (([] : List V) ++ (List.map E3 r_.Counts)) [] = Blk.row 3 (List.map E3 r_.Counts) []) (cj (vw_id (fun _ => rfl) _ : (List.map E3 r_.Sums).map V.vw = (List.map E3 r_.Sums)) (cj (cap1 (capN (by simp) h2) : ([] : List V).length + (List.map E3 r_.Sums).length ≤ 9223372036854775807) (cj (cap2 (capN (by simp) h2) (by decide) : (([] : List V).length + (List.map E3 r_.Sums).length) * 8 ≤ 140737488355328) (cj1 (rfl : Blk.row 3 (([] : List V) ++ (List.map E3 r_.Sums)) [] = Blk.row 3 (List.map E3 r_.Sums) []))))))))))) (fun h2 =>
   Pn.none)) (fun h1 =>
   Pn.none)
def spec_RingRoll_l0 (o : Ring) (o_ : Int) (r1 : Ring) : List Int → List Int → (List Int) → (List Int) → Option ((List Int) × (List Int))
  | [], p1, v1, v2 =>
   some (v1, v2)
  | x1 :: t1, p1, v1, v2 =>
   (v1[(p1.length : Int).toNat]?).bind fun x2 =>
   (v2[(p1.length : Int).toNat]?).bind fun x3 =>
   if (decide ((i64 ((i64 (Int.tdiv o_ o.Span)) - o.Head)) ≤ (p1.length : Int))) = true then
   if (decide (0 ≤ (i64 ((p1.length : Int) - (i64 ((i64 (Int.tdiv o_ o.Span)) - o.Head)))))) = true then
   (o.Counts[(i64 ((p1.length : Int) - (i64 ((i64 (Int.tdiv o_ o.Span)) - o.Head)))).toNat]?).bind fun x4 =>
   ((v1.set ((p1.length : Int).toNat) 0)[(p1.length : Int).toNat]?).bind fun x5 =>
   (o.Sums[(i64 ((p1.length : Int) - (i64 ((i64 (Int.tdiv o_ o.Span)) - o.Head)))).toNat]?).bind fun x6 =>
   ((v2.set ((p1.length : Int).toNat) 0)[(p1.length : Int).toNat]?).bind fun x7 =>
   spec_RingRoll_l0 o o_ r1 t1 (p1 ++ [x1]) ((v1.set ((p1.length : Int).toNat) 0).set ((p1.length : Int).toNat) x4) ((v2.set ((p1.length : Int).toNat) 0).set ((p1.length : Int).toNat) x6)
   else none
   else
   spec_RingRoll_l0 o o_ r1 t1 (p1 ++ [x1]) (v1.set ((p1.length : Int).toNat) 0) (v2.set ((p1.length : Int).toNat) 0)
theorem spec_RingRoll_l0_ok (o : Ring) (o_ : Int) (r1 : Ring) (h9 : capOk o.Counts.length = true) : ∀ (t1 p1 : List Int) (_ : o.Counts = p1 ++ t1) (v1 : List Int) (v2 : List Int), Pn (LpO Tryz.prog (sub (codeOf Tryz.prog 89) [1, 1, 1, 1, 0, 1, 0, 0]) (st 81 [(1, vI o_), (2, V.ptr 0 0), (4, V.ptr 1 0), (5, V.ptr 2 0), (6, vI (i64 ((i64 (Int.tdiv o_ o.Span)) - o.Head))), (37, vI (o.Counts.length : Int)), (38, vI (p1.length : Int))] [Blk.box 52 [vI o.Span, vI o.Head, lF3 o.Counts, lF3 o.Sums], Blk.box 52 [vI 0, vI 0, V.nl 3, V.nl 3], Blk.box 52 [vI r1.Span, vI r1.Head, V.ow 3, V.ow 4], Blk.row 3 (List.map E3 v1) [], Blk.row 3 (List.map E3 v2) []] []) (fun (y : (List Int) × (List Int)) => (X.out 0, st 81 [(1, vI o_), (2, V.ptr 0 0), (4, V.ptr 1 0), (5, V.ptr 2 0)] [Blk.box 52 [vI o.Span, vI o.Head, lF3 o.Counts, lF3 o.Sums], Blk.box 52 [vI 0, vI 0, V.nl 3, V.nl 3], Blk.box 52 [vI r1.Span, vI r1.Head, V.ow 3, V.ow 4], Blk.row 3 (List.map E3 y.1) [], Blk.row 3 (List.map E3 y.2) []] []))) (spec_RingRoll_l0 o o_ r1 t1 p1 v1 v2)
  | [], p1, h8, v1, v2 => by
    unfold spec_RingRoll_l0
    exact
     Pn.some (LpO.out [bF, .mask [1, 2, 4, 5], .ren [0, 1, 2, 3, 4]] (by kernel_rfl) (show X.out 0 ≠ X.go from nofun) (cj1 (rng_end h8 : (decide ((p1.length : Int) < (o.Counts.length : Int))) = false)))
  | x1 :: t1, p1, h8, v1, v2 => by
    unfold spec_RingRoll_l0
    exact
     Pn.bind (fun x2 h10 =>
     Pn.bind (fun x3 h11 =>
     Pn.ite (fun h12 =>
     Pn.ite (fun h13 =>
     Pn.bind (fun x4 h14 =>
     Pn.bind (fun x5 h15 =>
     Pn.bind (fun x6 h16 =>
     Pn.bind (fun x7 h17 =>
     LpO.go [bT, .el (E3 x2), .nb 3 (.row 3 (List.map E3 (v1.set ((p1.length : Int).toNat) 0)) []), .el (E3 x3), .nb 4 (.row 3 (List.map E3 (v2.set ((p1.length : Int).toNat) 0)) []), bT, .draw [11], .el (E3 x4), .el (E3 x5), .nb 3 (.row 3 (List.map E3 ((v1.set ((p1.length : Int).toNat) 0).set ((p1.length : Int).toNat) x4)) []), .draw [11], .el (E3 x6), .el (E3 x7), .nb 4 (.row 3 (List.map E3 ((v2.set ((p1.length : Int).toNat) 0).set ((p1.length : Int).toNat) x6)) []), .wait 3, .mask [1, 2, 4, 5, 6, 37, 38], .ren [0, 1, 2, 3, 4], .nm 38 (vI ((p1 ++ [x1]).length : Int))] (by kernel_rfl) (cj (rng_lt h8 : (decide ((p1.length : Int) < (o.Counts.length : Int))) = true) (cj (by omega : (0 : Int) ≤ (p1.length : Int)) (cj (map_ltN (by omega) h10 : ((p1.length : Int) : Int) < ((List.map E3 v1).length : Int)) (cj (rfl : look [] ((p1.length : Int).toNat) = none) (cj (map_get h10 : (List.map E3 v1)[(p1.length : Int).toNat]? = some (E3 x2)) (cj (nb_set E3 _ _ 0 : Blk.row 3 ((List.map E3 v1).set ((p1.length : Int).toNat) (vI 0)) [] = Blk.row 3 (List.map E3 (v1.set ((p1.length : Int).toNat) 0)) []) (cj (by omega : (0 : Int) ≤ (p1.length : Int)) (cj (map_ltN (by omega) h11 : ((p1.length : Int) : Int) < ((List.map E3 v2).length : Int)) (cj (rfl : look [] ((p1.length : Int).toNat) = none) (cj (map_get h11 : (List.map E3 v2)[(p1.length : Int).toNat]? = some (E3 x3)) (cj (nb_set E3 _ _ 0 : Blk.row 3 ((List.map E3 v2).set ((p1.length : Int).toNat) (vI 0)) [] = Blk.row 3 (List.map E3 (v2.set ((p1.length : Int).toNat) 0)) []) (cj h12 (cj (od h13) (cj (map_get h14 : (List.map E3 o.Counts)[(i64 ((p1.length : Int) - (i64 ((i64 (Int.tdiv o_ o.Span)) - o.Head)))).toNat]? = some (E3 x4)) (cj (by omega : (0 : Int) ≤ (p1.length : Int)) (cj (map_ltN (by omega) h15 : ((p1.length : Int) : Int) < ((List.map E3 (v1.set ((p1.length : Int).toNat) 0)).length : Int)) (cj (rfl : look [] ((p1.length : Int).toNat) = none) (cj (map_get h15 : (List.map E3 (v1.set ((p1.length : Int).toNat) 0))[(p1.length : Int).toNat]? = some (E3 x5)) (cj (nb_set E3 _ _ x4 : Blk.row 3 ((List.map E3 (v1.set ((p1.length : Int).toNat) 0)).set ((p1.length : Int).toNat) (vI x4)) [] = Blk.row 3 (List.map E3 ((v1.set ((p1.length : Int).toNat) 0).set ((p1.length : Int).toNat) x4)) []) (cj (od h13) (cj (map_get h16 : (List.map E3 o.Sums)[(i64 ((p1.length : Int) - (i64 ((i64 (Int.tdiv o_ o.Span)) - o.Head)))).toNat]? = some (E3 x6)) (cj (by omega : (0 : Int) ≤ (p1.length : Int)) (cj (map_ltN (by omega) h17 : ((p1.length : Int) : Int) < ((List.map E3 (v2.set ((p1.length : Int).toNat) 0)).length : Int)) (cj (rfl : look [] ((p1.length : Int).toNat) = none) (cj (map_get h17 : (List.map E3 (v2.set ((p1.length : Int).toNat) 0))[(p1.length : Int).toNat]? = some (E3 x7)) (cj (nb_set E3 _ _ x6 : Blk.row 3 ((List.map E3 (v2.set ((p1.length : Int).toNat) 0)).set ((p1.length : Int).toNat) (vI x6)) [] = Blk.row 3 (List.map E3 ((v2.set ((p1.length : Int).toNat) 0).set ((p1.length : Int).toNat) x6)) []) (cj1 (rng_next h8 h9 : vI (i64 ((p1.length : Int) + 1)) = vI ((p1 ++ [x1]).length : Int))))))))))))))))))))))))))))) (spec_RingRoll_l0_ok o o_ r1 h9 t1 (p1 ++ [x1]) (rng_step h8) ((v1.set ((p1.length : Int).toNat) 0).set ((p1.length : Int).toNat) x4) ((v2.set ((p1.length : Int).toNat) 0).set ((p1.length : Int).toNat) x6))))))) (fun h13 =>
     Pn.none)) (fun h12 =>
     LpO.go [bT, .el (E3 x2), .nb 3 (.row 3 (List.map E3 (v1.set ((p1.length : Int).toNat) 0)) []), .el (E3 x3), .nb 4 (.row 3 (List.map E3 (v2.set ((p1.length : Int).toNat) 0)) []), bF, .wait 2, .mask [1, 2, 4, 5, 6, 37, 38], .ren [0, 1, 2, 3, 4], .nm 38 (vI ((p1 ++ [x1]).length : Int))] (by kernel_rfl) (cj (rng_lt h8 : (decide ((p1.length : Int) < (o.Counts.length : Int))) = true) (cj (by omega : (0 : Int) ≤ (p1.length : Int)) (cj (map_ltN (by omega) h10 : ((p1.length : Int) : Int) < ((List.map E3 v1).length : Int)) (cj (rfl : look [] ((p1.length : Int).toNat) = none) (cj (map_get h10 : (List.map E3 v1)[(p1.length : Int).toNat]? = some (E3 x2)) (cj (nb_set E3 _ _ 0 : Blk.row 3 ((List.map E3 v1).set ((p1.length : Int).toNat) (vI 0)) [] = Blk.row 3 (List.map E3 (v1.set ((p1.length : Int).toNat) 0)) []) (cj (by omega : (0 : Int) ≤ (p1.length : Int)) (cj (map_ltN (by omega) h11 : ((p1.length : Int) : Int) < ((List.map E3 v2).length : Int)) (cj (rfl : look [] ((p1.length : Int).toNat) = none) (cj (map_get h11 : (List.map E3 v2)[(p1.length : Int).toNat]? = some (E3 x3)) (cj (nb_set E3 _ _ 0 : Blk.row 3 ((List.map E3 v2).set ((p1.length : Int).toNat) (vI 0)) [] = Blk.row 3 (List.map E3 (v2.set ((p1.length : Int).toNat) 0)) []) (cj h12 (cj1 (rng_next h8 h9 : vI (i64 ((p1.length : Int) + 1)) = vI ((p1 ++ [x1]).length : Int))))))))))))))) (spec_RingRoll_l0_ok o o_ r1 h9 t1 (p1 ++ [x1]) (rng_step h8) (v1.set ((p1.length : Int).toNat) 0) (v2.set ((p1.length : Int).toNat) 0)))))
def spec_RingRoll (o : Ring) (o_ : Int) : Option (Ring) :=
 (spec_l06Copy o).bind fun r1 =>
 (spec_RingOk o).bind fun r2 =>
 if r2 = true then
 (spec_l06Time o_).bind fun r3 =>
 if r3 = true then
 if (decide (o.Span ≠ 0)) = true then
 if (decide ((i64 (Int.tdiv o_ o.Span)) ≤ o.Head)) = true then
 some r1
 else
 if (capOk o.Counts.length) = true then
 (spec_RingRoll_l0 o o_ r1 o.Counts [] r1.Counts r1.Sums).bind fun r4 =>
 some (Ring.mk r1.Span (i64 (Int.tdiv o_ o.Span)) r4.1 r4.2)
 else none
 else none
 else
 some r1
 else
 some r1
theorem spec_RingRoll_ok (o : Ring) (o_ : Int) : Pn (fun y => Fn Tryz.prog 89 [(false, E52 o), (false, E3 o_)] (E52 y) []) (spec_RingRoll o o_) := by
  unfold spec_RingRoll
  exact
   Pn.bind (fun r1 h1 =>
   Pn.bind (fun r2 h2 =>
   Pn.ite (fun h3 =>
   Pn.bind (fun r3 h4 =>
   Pn.ite (fun h5 =>
   Pn.ite (fun h6 =>
   Pn.ite (fun h7 =>
   Pn.some (Fn.of [.call [] (E52 r1) [], .draw [], .call [] (E4 r2) [], bF, bF, .call [] (E4 r3) [], bF, bF, bF, bF, bF, bF, bF, bF, bF, bF, bT] (by kernel_rfl) (cj (spec_l06Copy_ok o r1 h1) (cj tt (cj (spec_RingOk_ok o r2 h2) (cj tt (cj (nf h3) (cj (nf h3) (cj (spec_l06Time_ok o_ r3 h4) (cj tt (cj (nf h3) (cj (nf h3) (cj (nf h5) (cj (nf h5) (cj (nf h5) (cj (nf h5) (cj (od h6) (cj (nf h5) (cj (nf h5) (cj (nf h5) (cj (nf h5) (cj1 h7)))))))))))))))))))))) (fun h7 =>
   Pn.ite (fun h18 =>
   Pn.bind (fun r4 h19 =>
   Pn.some (Fn.of [.call [] (E52 r1) [], .draw [], .call [] (E4 r2) [], bF, bF, .call [] (E4 r3) [], bF, bF, bF, bF, bF, bF, bF, bF, bF, bF, bF, .draw [], .wait 10, .nm 37 (vI (o.Counts.length : Int)), .wait 2, .mask [1, 2, 4, 5, 6, 37, 38], .ren [0, 1, 4, 2, 3], .loop (X.out 0) (st 81 [(1, vI o_), (2, V.ptr 0 0), (4, V.ptr 1 0), (5, V.ptr 2 0)] [Blk.box 52 [vI o.Span, vI o.Head, lF3 o.Counts, lF3 o.Sums], Blk.box 52 [vI 0, vI 0, V.nl 3, V.nl 3], Blk.box 52 [vI r1.Span, vI r1.Head, V.ow 3, V.ow 4], Blk.row 3 (List.map E3 r4.1) [], Blk.row 3 (List.map E3 r4.2) []] [])] (by kernel_rfl) (cj (spec_l06Copy_ok o r1 h1) (cj tt (cj (spec_RingOk_ok o r2 h2) (cj tt (cj (nf h3) (cj (nf h3) (cj (spec_l06Time_ok o_ r3 h4) (cj tt (cj (nf h3) (cj (nf h3) (cj (nf h5) (cj (nf h5) (cj (nf h5) (cj (nf h5) (cj (od h6) (cj (nf h5) (cj (nf h5) (cj (nf h5) (cj (nf h5) (cj h7 (cj (od h6) (cj (len_nm E3 o.Counts) (cj (spec_RingRoll_l0_ok o o_ r1 h18 o.Counts [] rfl r1.Counts r1.Sums r4 h19) (cj1 (od h6)))))))))))))))))))))))))))) (fun h18 =>
   Pn.none))) (fun h6 =>
   Pn.none)) (fun h5 =>
   Pn.some (Fn.of [.call [] (E52 r1) [], .draw [], .call [] (E4 r2) [], bF, bF, .call [] (E4 r3) [], bF, bF, bT, bT, bT, bT, bT, bT, bT, bT, bT] (by kernel_rfl) (cj (spec_l06Copy_ok o r1 h1) (cj tt (cj (spec_RingOk_ok o r2 h2) (cj tt (cj (nf h3) (cj (nf h3) (cj (spec_l06Time_ok o_ r3 h4) (cj tt (cj (nf h3) (cj (nf h3) (cj (nt h5) (cj (nt h5) (cj (nt h5) (cj (nt h5) (cj (nt h5) (cj (nt h5) (cj (nt h5) (cj (nt h5) (cj1 (rfl : true = true)))))))))))))))))))))))) (fun h3 =>
   Pn.some (Fn.of [.call [] (E52 r1) [], .draw [], .call [] (E4 r2) [], bT, bT, bT, bT, bT, bT, bT, bT, bT, bT, bT, bT, bT] (by kernel_rfl) (cj (spec_l06Copy_ok o r1 h1) (cj tt (cj (spec_RingOk_ok o r2 h2) (cj tt (cj (nt h3) (cj (nt h3) (cj (nt h3) (cj (nt h3) (cj (rfl : true = true) (cj (rfl : true = true) (cj (rfl : true = true) (cj (rfl : true = true) (cj (rfl : true = true) (cj (rfl : true = true) (cj (rfl : true = true) (cj (rfl : true = true) (cj1 (rfl : true = true))))))))))))))))))))))
def spec_RingAdd (r_ : Ring) (now : Int) (amount : Int) : Option (Ring) :=
 (spec_RingOk r_).bind fun r1 =>
 if r1 = true then
 (spec_l06Time now).bind fun r2 =>
 if r2 = true then
 (spec_l01Money amount).bind fun r3 =>
 if r3 = true then
 (spec_RingRoll r_ now).bind fun r4 =>
 (r4.Counts[0]?).bind fun x1 =>
 (spec_AddSat x1 1).bind fun r5 =>
 (r4.Sums[0]?).bind fun x2 =>
 (spec_AddSat x2 amount).bind fun r6 =>
 some (Ring.mk r4.Span r4.Head (r4.Counts.set 0 r5) (r4.Sums.set 0 r6))
 else
 (spec_l06Copy r_).bind fun r7 =>
 some r7
 else
 (spec_l06Copy r_).bind fun r8 =>
 some r8
 else
 (spec_l06Copy r_).bind fun r9 =>
 some r9
theorem spec_RingAdd_ok (r_ : Ring) (now : Int) (amount : Int) : Pn (fun y => Fn Tryz.prog 49 [(false, E52 r_), (false, E3 now), (false, E3 amount)] (E52 y) []) (spec_RingAdd r_ now amount) := by
  unfold spec_RingAdd
  exact
   Pn.bind (fun r1 h1 =>
   Pn.ite (fun h2 =>
   Pn.bind (fun r2 h3 =>
   Pn.ite (fun h4 =>
   Pn.bind (fun r3 h5 =>
   Pn.ite (fun h6 =>
   Pn.bind (fun r4 h7 =>
   Pn.bind (fun x1 h8 =>
   Pn.bind (fun r5 h9 =>
   Pn.bind (fun x2 h10 =>
   Pn.bind (fun r6 h11 =>
   Pn.some (Fn.of [.call [] (E4 r1) [], bF, bF, .call [] (E4 r2) [], bF, bF, bF, bF, .call [] (E4 r3) [], bF, bF, bF, .call [] (E52 r4) [], .draw [8], .el (E3 x1), .call [] (E3 r5) [], .el (E3 x1), .nb 2 (.row 3 (List.map E3 (r4.Counts.set 0 r5)) []), .draw [9], .el (E3 x2), .call [] (E3 r6) [], .el (E3 x2), .nb 3 (.row 3 (List.map E3 (r4.Sums.set 0 r6)) [])] (by kernel_rfl) (cj (spec_RingOk_ok r_ r1 h1) (cj tt (cj (nf h2) (cj (nf h2) (cj (spec_l06Time_ok now r2 h3) (cj tt (cj (nf h2) (cj (nf h2) (cj (nf h4) (cj (nf h4) (cj (spec_l01Money_ok amount r3 h5) (cj tt (cj (nf h4) (cj (nf h4) (cj (nf h6) (cj (spec_RingRoll_ok r_ now r4 h7) (cj tt (cj (by decide : (0 : Int) ≤ 0) (cj (map_ltN (by decide) h8 : (0 : Int) < ((List.map E3 r4.Counts).length : Int)) (cj (rfl : look [] 0 = none) (cj (map_get h8 : (List.map E3 r4.Counts)[0]? = some (E3 x1)) (cj (spec_AddSat_ok x1 1 r5 h9) (cj tt (cj (by decide : (0 : Int) ≤ 0) (cj (map_ltN (by decide) h8 : (0 : Int) < ((List.map E3 r4.Counts).length : Int)) (cj (rfl : look [] 0 = none) (cj (map_get h8 : (List.map E3 r4.Counts)[0]? = some (E3 x1)) (cj (nb_set E3 _ _ r5 : Blk.row 3 ((List.map E3 r4.Counts).set 0 (vI r5)) [] = Blk.row 3 (List.map E3 (r4.Counts.set 0 r5)) []) (cj (by decide : (0 : Int) ≤ 0) (cj (map_ltN (by decide) h10 : (0 : Int) < ((List.map E3 r4.Sums).length : Int)) (cj (rfl : look [] 0 = none) (cj (map_get h10 : (List.map E3 r4.Sums)[0]? = some (E3 x2)) (cj (spec_AddSat_ok x2 amount r6 h11) (cj tt (cj (by decide : (0 : Int) ≤ 0) (cj (map_ltN (by decide) h10 : (0 : Int) < ((List.map E3 r4.Sums).length : Int)) (cj (rfl : look [] 0 = none) (cj (map_get h10 : (List.map E3 r4.Sums)[0]? = some (E3 x2)) (cj1 (nb_set E3 _ _ r6 : Blk.row 3 ((List.map E3 r4.Sums).set 0 (vI r6)) [] = Blk.row 3 (List.map E3 (r4.Sums.set 0 r6)) []))))))))))))))))))))))))))))))))))))))))))))))) (fun h6 =>
   Pn.bind (fun r7 h12 =>
   Pn.some (Fn.of [.call [] (E4 r1) [], bF, bF, .call [] (E4 r2) [], bF, bF, bF, bF, .call [] (E4 r3) [], bF, bF, bT, .call [] (E52 r7) []] (by kernel_rfl) (cj (spec_RingOk_ok r_ r1 h1) (cj tt (cj (nf h2) (cj (nf h2) (cj (spec_l06Time_ok now r2 h3) (cj tt (cj (nf h2) (cj (nf h2) (cj (nf h4) (cj (nf h4) (cj (spec_l01Money_ok amount r3 h5) (cj tt (cj (nf h4) (cj (nf h4) (cj (nt h6) (cj (spec_l06Copy_ok r_ r7 h12) (cj1 tt)))))))))))))))))))))) (fun h4 =>
   Pn.bind (fun r8 h13 =>
   Pn.some (Fn.of [.call [] (E4 r1) [], bF, bF, .call [] (E4 r2) [], bF, bF, bT, bT, bT, bT, bT, .call [] (E52 r8) []] (by kernel_rfl) (cj (spec_RingOk_ok r_ r1 h1) (cj tt (cj (nf h2) (cj (nf h2) (cj (spec_l06Time_ok now r2 h3) (cj tt (cj (nf h2) (cj (nf h2) (cj (nt h4) (cj (nt h4) (cj (nt h4) (cj (nt h4) (cj (rfl : true = true) (cj (spec_l06Copy_ok r_ r8 h13) (cj1 tt)))))))))))))))))))) (fun h2 =>
   Pn.bind (fun r9 h14 =>
   Pn.some (Fn.of [.call [] (E4 r1) [], bT, bT, bT, bT, bT, bT, bT, bT, bT, .call [] (E52 r9) []] (by kernel_rfl) (cj (spec_RingOk_ok r_ r1 h1) (cj tt (cj (nt h2) (cj (nt h2) (cj (nt h2) (cj (nt h2) (cj (rfl : true = true) (cj (rfl : true = true) (cj (rfl : true = true) (cj (rfl : true = true) (cj (rfl : true = true) (cj (spec_l06Copy_ok r_ r9 h14) (cj1 tt)))))))))))))))))
def spec_l06Draw_s2 (v6 : Int) (r5 : Int × l01Cur) (v7 : Int) (v4 : Int) (v5 : Int) (r6 : Int × l01Cur) (r7 : Ring) (v8 : List Int) (v9 : List Int) : St := st 34 [(0, V.ptr 0 0), (2, V.ptr 1 0), (3, V.ptr 2 0), (5, vI (i64 (v6 + r5.1))), (6, vI v7), (19, vI v7), (20, vB (decide (0 < v7))), (23, vI v6), (24, V.ptr 0 0), (25, vI r5.1), (26, vI (i64 (v6 + r5.1))), (27, V.agg [vI v4, vI v5, V.ow 5, V.ow 6]), (28, vI (i64 (v6 + r5.1))), (29, V.ptr 0 0), (30, vI r6.1), (31, vI (i64 (1 + r6.1))), (32, V.agg [vI r7.Span, vI r7.Head, V.ow 3, V.ow 4])] [Blk.box 47 [lF5 r6.2.b, vI r6.2.i, vI r6.2.h], Blk.box 52 [vI 0, vI 0, V.nl 3, V.nl 3], Blk.box 52 [vI r7.Span, vI r7.Head, V.ow 3, V.ow 4], Blk.row 3 (List.map E3 r7.Counts) [], Blk.row 3 (List.map E3 r7.Sums) [], Blk.row 3 (List.map E3 v8) [], Blk.row 3 (List.map E3 v9) []] [some 0]
def spec_l06Draw_l0  : Nat → (List Int) → Int → Int → Int → Int → Int → Int → (List Int) → (List Int) → Option ((List Int) × Int × Int × Int × Int × (List Int) × (List Int))
  | 0, _, _, _, _, _, _, _, _, _ => none
  | fuel + 1, v1, v2, v3, v4, v5, v6, v7, v8, v9 =>
   if (decide (0 < v7)) = true then
   (spec_l01Below (l01Cur.mk v1 v2 v3) 9).bind fun r5 =>
   (spec_l01Below r5.2 90).bind fun r6 =>
   (spec_RingAdd (Ring.mk v4 v5 v8 v9) (i64 (v6 + r5.1)) (i64 (1 + r6.1))).bind fun r7 =>
   spec_l06Draw_l0 fuel r6.2.b r6.2.i r6.2.h r7.Span r7.Head (i64 (v6 + r5.1)) (i64 (v7 - 1)) r7.Counts r7.Sums
   else
   some (v1, v2, v3, v4, v5, v8, v9)
theorem spec_l06Draw_l0_ok  : ∀ (fuel : Nat) (v1 : List Int) (v2 : Int) (v3 : Int) (v4 : Int) (v5 : Int) (v6 : Int) (v7 : Int) (v8 : List Int) (v9 : List Int), Pn (LpO Tryz.prog (sub (codeOf Tryz.prog 30) [1, 1, 1, 0, 1, 0, 0]) (st 34 [(0, V.ptr 0 0), (2, V.ptr 1 0), (3, V.ptr 2 0), (5, vI v6), (6, vI v7)] [Blk.box 47 [lF5 v1, vI v2, vI v3], Blk.box 52 [vI 0, vI 0, V.nl 3, V.nl 3], Blk.box 52 [vI v4, vI v5, V.ow 3, V.ow 4], Blk.row 3 (List.map E3 v8) [], Blk.row 3 (List.map E3 v9) []] [some 0]) (fun (y : (List Int) × Int × Int × Int × Int × (List Int) × (List Int)) => (X.out 0, st 34 [(2, V.ptr 1 0), (3, V.ptr 2 0)] [Blk.box 47 [lF5 y.1, vI y.2.1, vI y.2.2.1], Blk.box 52 [vI 0, vI 0, V.nl 3, V.nl 3], Blk.box 52 [vI y.2.2.2.1, vI y.2.2.2.2.1, V.ow 3, V.ow 4], Blk.row 3 (List.map E3 y.2.2.2.2.2.1) [], Blk.row 3 (List.map E3 y.2.2.2.2.2.2) []] [some 0]))) (spec_l06Draw_l0 fuel v1 v2 v3 v4 v5 v6 v7 v8 v9)
  | 0, _, _, _, _, _, _, _, _, _ => Pn.none
  | fuel + 1, v1, v2, v3, v4, v5, v6, v7, v8, v9 => by
    unfold spec_l06Draw_l0
    exact
     Pn.ite (fun h5 =>
     Pn.bind (fun r5 h6 =>
     Pn.bind (fun r6 h7 =>
     Pn.bind (fun r7 h8 =>
     LpO.go [bT, .call [true, false] (E3 r5.1) [V.bx 47 [lF5 r5.2.b, vI r5.2.i, vI r5.2.h]], .draw [3, 6], .loop .go ((spec_l06Draw_s2 v6 r5 v7 v4 v5 r6 r7 v8 v9)), .loop .go ((spec_l06Draw_s2 v6 r5 v7 v4 v5 r6 r7 v8 v9)), .call [true, false] (E3 r6.1) [V.bx 47 [lF5 r6.2.b, vI r6.2.i, vI r6.2.h]], .call [] (E52 r7) [], .wait 1, .ren [0, 1, 2, 5, 6, 3, 4], .call [true, false] (E3 r6.1) [V.bx 47 [lF5 r6.2.b, vI r6.2.i, vI r6.2.h]], .call [] (E52 r7) [], .wait 1, .ren [0, 1, 2, 5, 6, 3, 4], .ren [0, 1, 2, 3, 4, 5, 6], .loop .go ((spec_l06Draw_s2 v6 r5 v7 v4 v5 r6 r7 v8 v9)), .call [true, false] (E3 r6.1) [V.bx 47 [lF5 r6.2.b, vI r6.2.i, vI r6.2.h]], .call [] (E52 r7) [], .wait 1, .ren [0, 1, 2, 5, 6, 3, 4], .call [true, false] (E3 r6.1) [V.bx 47 [lF5 r6.2.b, vI r6.2.i, vI r6.2.h]], .call [] (E52 r7) [], .wait 1, .ren [0, 1, 2, 5, 6, 3, 4], .ren [0, 1, 2, 3, 4, 5, 6], .call [true, false] (E3 r6.1) [V.bx 47 [lF5 r6.2.b, vI r6.2.i, vI r6.2.h]], .call [] (E52 r7) [], .wait 1, .ren [0, 1, 2, 5, 6, 3, 4], .wait 4, .mask [0, 2, 3, 5, 6], .ren [0, 1, 2, 3, 4]] (by kernel_rfl) (cj h5 (cj (spec_l01Below_ok (l01Cur.mk v1 v2 v3) 9 r5 h6) (cj tt (cj (spec_l01Below_ok r5.2 90 r6 h7) (cj tt (cj (spec_RingAdd_ok (Ring.mk v4 v5 v8 v9) (i64 (v6 + r5.1)) (i64 (1 + r6.1)) r7 h8) (cj (by simp [V.nv, nvL, nvL_all, nv_E3, nv_E50, nv_E52] : (false || ((E52 r7).nv && nvL [])) = true) (cj (rfl : (spec_l06Draw_s2 v6 r5 v7 v4 v5 r6 r7 v8 v9) = (spec_l06Draw_s2 v6 r5 v7 v4 v5 r6 r7 v8 v9)) (cj (spec_l01Below_ok r5.2 90 r6 h7) (cj tt (cj (spec_RingAdd_ok (Ring.mk v4 v5 v8 v9) (i64 (v6 + r5.1)) (i64 (1 + r6.1)) r7 h8) (cj (by simp [V.nv, nvL, nvL_all, nv_E3, nv_E50, nv_E52] : (false || ((E52 r7).nv && nvL [])) = true) (cj (rfl : (spec_l06Draw_s2 v6 r5 v7 v4 v5 r6 r7 v8 v9) = (spec_l06Draw_s2 v6 r5 v7 v4 v5 r6 r7 v8 v9)) (cj (rfl : (spec_l06Draw_s2 v6 r5 v7 v4 v5 r6 r7 v8 v9) = (spec_l06Draw_s2 v6 r5 v7 v4 v5 r6 r7 v8 v9)) (cj (spec_l01Below_ok r5.2 90 r6 h7) (cj tt (cj (spec_RingAdd_ok (Ring.mk v4 v5 v8 v9) (i64 (v6 + r5.1)) (i64 (1 + r6.1)) r7 h8) (cj (by simp [V.nv, nvL, nvL_all, nv_E3, nv_E50, nv_E52] : (false || ((E52 r7).nv && nvL [])) = true) (cj (rfl : (spec_l06Draw_s2 v6 r5 v7 v4 v5 r6 r7 v8 v9) = (spec_l06Draw_s2 v6 r5 v7 v4 v5 r6 r7 v8 v9)) (cj (spec_l01Below_ok r5.2 90 r6 h7) (cj tt (cj (spec_RingAdd_ok (Ring.mk v4 v5 v8 v9) (i64 (v6 + r5.1)) (i64 (1 + r6.1)) r7 h8) (cj (by simp [V.nv, nvL, nvL_all, nv_E3, nv_E50, nv_E52] : (false || ((E52 r7).nv && nvL [])) = true) (cj (rfl : (spec_l06Draw_s2 v6 r5 v7 v4 v5 r6 r7 v8 v9) = (spec_l06Draw_s2 v6 r5 v7 v4 v5 r6 r7 v8 v9)) (cj (rfl : (spec_l06Draw_s2 v6 r5 v7 v4 v5 r6 r7 v8 v9) = (spec_l06Draw_s2 v6 r5 v7 v4 v5 r6 r7 v8 v9)) (cj (spec_l01Below_ok r5.2 90 r6 h7) (cj tt (cj (spec_RingAdd_ok (Ring.mk v4 v5 v8 v9) (i64 (v6 + r5.1)) (i64 (1 + r6.1)) r7 h8) (cj (by simp [V.nv, nvL, nvL_all, nv_E3, nv_E50, nv_E52] : (false || ((E52 r7).nv && nvL [])) = true) (cj1 (rfl : (spec_l06Draw_s2 v6 r5 v7 v4 v5 r6 r7 v8 v9) = (spec_l06Draw_s2 v6 r5 v7 v4 v5 r6 r7 v8 v9)))))))))))))))))))))))))))))))) (spec_l06Draw_l0_ok fuel r6.2.b r6.2.i r6.2.h r7.Span r7.Head (i64 (v6 + r5.1)) (i64 (v7 - 1)) r7.Counts r7.Sums))))) (fun h5 =>
     Pn.some (LpO.out [bF, .mask [2, 3], .ren [0, 1, 2, 3, 4]] (by kernel_rfl) (show X.out 0 ≠ X.go from nofun) (cj1 h5)))
def spec_l06Draw (c : l01Cur) : Option (Ring × l01Cur) :=
 (spec_l01Below c 5).bind fun r1 =>
 (spec_l01Below r1.2 6).bind fun r2 =>
 (spec_RingNew (i64 (1 + r1.1)) (i64 (1 + r2.1))).bind fun r3 =>
 (spec_l01Below r2.2 5).bind fun r4 =>
 (spec_l06Draw_l0 FUEL r4.2.b r4.2.i r4.2.h r3.1.Span r3.1.Head 0 r4.1 r3.1.Counts r3.1.Sums).bind fun r8 =>
 some ((Ring.mk r8.2.2.2.1 r8.2.2.2.2.1 r8.2.2.2.2.2.1 r8.2.2.2.2.2.2), (l01Cur.mk r8.1 r8.2.1 r8.2.2.1))
theorem spec_l06Draw_ok (c : l01Cur) : Pn (fun y => Fn Tryz.prog 30 [(true, V.bx 47 [lF5 c.b, vI c.i, vI c.h])] (E52 y.1) [V.bx 47 [lF5 y.2.b, vI y.2.i, vI y.2.h]]) (spec_l06Draw c) := by
  unfold spec_l06Draw
  exact
   Pn.bind (fun r1 h1 =>
   Pn.bind (fun r2 h2 =>
   Pn.bind (fun r3 h3 =>
   Pn.bind (fun r4 h4 =>
   Pn.bind (fun r8 h9 =>
   Pn.some (Fn.of [.call [true, false] (E3 r1.1) [V.bx 47 [lF5 r1.2.b, vI r1.2.i, vI r1.2.h]], .call [true, false] (E3 r2.1) [V.bx 47 [lF5 r2.2.b, vI r2.2.i, vI r2.2.h]], .call [] (V.tup [E52 r3.1, E4 r3.2]) [], .call [true, false] (E3 r4.1) [V.bx 47 [lF5 r4.2.b, vI r4.2.i, vI r4.2.h]], .wait 2, .mask [0, 2, 3, 5, 6], .ren [0, 1, 4, 2, 3], .loop (X.out 0) (st 34 [(2, V.ptr 1 0), (3, V.ptr 2 0)] [Blk.box 47 [lF5 r8.1, vI r8.2.1, vI r8.2.2.1], Blk.box 52 [vI 0, vI 0, V.nl 3, V.nl 3], Blk.box 52 [vI r8.2.2.2.1, vI r8.2.2.2.2.1, V.ow 3, V.ow 4], Blk.row 3 (List.map E3 r8.2.2.2.2.2.1) [], Blk.row 3 (List.map E3 r8.2.2.2.2.2.2) []] [some 0])] (by kernel_rfl) (cj (spec_l01Below_ok c 5 r1 h1) (cj tt (cj (spec_l01Below_ok r1.2 6 r2 h2) (cj tt (cj (spec_RingNew_ok (i64 (1 + r1.1)) (i64 (1 + r2.1)) r3 h3) (cj tt (cj (spec_l01Below_ok r2.2 5 r4 h4) (cj tt (cj1 (spec_l06Draw_l0_ok FUEL r4.2.b r4.2.i r4.2.h r3.1.Span r3.1.Head 0 r4.1 r3.1.Counts r3.1.Sums r8 h9))))))))))))))))
def spec_l01Str (c : l01Cur) (l : List ByteArray) : Option (ByteArray × l01Cur × (List ByteArray)) :=
 (spec_l01Below c (l.length : Int)).bind fun r1 =>
 if (decide (0 ≤ r1.1)) = true then
 (l[r1.1.toNat]?).bind fun x1 =>
 some (x1, r1.2, l)
 else none
theorem spec_l01Str_ok (c : l01Cur) (l : List ByteArray) : Pn (fun y => Fn Tryz.prog 65 [(true, V.bx 47 [lF5 c.b, vI c.i, vI c.h]), (true, E39 l)] (E9 y.1) [V.bx 47 [lF5 y.2.1.b, vI y.2.1.i, vI y.2.1.h], lT9 y.2.2]) (spec_l01Str c l) := by
  unfold spec_l01Str
  exact
   Pn.bind (fun r1 h1 =>
   Pn.ite (fun h2 =>
   Pn.bind (fun x1 h3 =>
   Pn.some (Fn.of [.wait 5, .nm 8 (vI (l.length : Int)), .call [true, false] (E3 r1.1) [V.bx 47 [lF5 r1.2.b, vI r1.2.i, vI r1.2.h]], .el (E9 x1)] (by kernel_rfl) (cj (len_nm E9 l) (cj (spec_l01Below_ok c (l.length : Int) r1 h1 : Fn Tryz.prog 18 [(true, V.bx 47 [lF5 c.b, vI c.i, vI c.h]), (false, E3 (l.length : Int))] (E3 r1.1) [V.bx 47 [lF5 r1.2.b, vI r1.2.i, vI r1.2.h]]) (cj tt (cj (od h2) (cj (map_ltN (od h2) h3 : (r1.1 : Int) < ((List.map E9 l).length : Int)) (cj (rfl : look [] r1.1.toNat = none) (cj1 (map_get h3 : (List.map E9 l)[r1.1.toNat]? = some (E9 x1)))))))))))) (fun h2 =>
   Pn.none))
def spec_l07Id (c : l01Cur) : Option (ByteArray × l01Cur) :=
 (spec_l01Str c [bs [97], bs [98], bs [99], bs [104, 49], bs [122, 57]]).bind fun r1 =>
 some (r1.1, r1.2.1)
theorem spec_l07Id_ok (c : l01Cur) : Pn (fun y => Fn Tryz.prog 90 [(true, V.bx 47 [lF5 c.b, vI c.i, vI c.h])] (E9 y.1) [V.bx 47 [lF5 y.2.b, vI y.2.i, vI y.2.h]]) (spec_l07Id c) := by
  unfold spec_l07Id
  exact
   Pn.bind (fun r1 h1 =>
   Pn.some (Fn.of [.call [true, true] (E9 r1.1) [V.bx 47 [lF5 r1.2.1.b, vI r1.2.1.i, vI r1.2.1.h], lT9 r1.2.2]] (by kernel_rfl) (cj (spec_l01Str_ok c [bs [97], bs [98], bs [99], bs [104, 49], bs [122, 57]] r1 h1) (cj1 tt))))
def spec_l07Hold (c : l01Cur) : Option (Hold × l01Cur) :=
 (spec_l07Id c).bind fun r1 =>
 (spec_l01Below r1.2 60).bind fun r2 =>
 (spec_l01Below r2.2 30).bind fun r3 =>
 some ((Hold.mk r1.1 (i64 (1 + r2.1)) r3.1), r3.2)
theorem spec_l07Hold_ok (c : l01Cur) : Pn (fun y => Fn Tryz.prog 51 [(true, V.bx 47 [lF5 c.b, vI c.i, vI c.h])] (E104 y.1) [V.bx 47 [lF5 y.2.b, vI y.2.i, vI y.2.h]]) (spec_l07Hold c) := by
  unfold spec_l07Hold
  exact
   Pn.bind (fun r1 h1 =>
   Pn.bind (fun r2 h2 =>
   Pn.bind (fun r3 h3 =>
   Pn.some (Fn.of [.call [true] (E9 r1.1) [V.bx 47 [lF5 r1.2.b, vI r1.2.i, vI r1.2.h]], .call [true, false] (E3 r2.1) [V.bx 47 [lF5 r2.2.b, vI r2.2.i, vI r2.2.h]], .call [true, false] (E3 r3.1) [V.bx 47 [lF5 r3.2.b, vI r3.2.i, vI r3.2.h]]] (by kernel_rfl) (cj (spec_l07Id_ok c r1 h1) (cj tt (cj (spec_l01Below_ok r1.2 60 r2 h2) (cj tt (cj (spec_l01Below_ok r2.2 30 r3 h3) (cj1 tt))))))))))
def spec_HoldPut_l0 (l : List Hold) (h_ : Hold) : List Hold → Bool → (List Hold) → Option (Bool × (List Hold))
  | [], v1, v2 =>
   some (v1, v2)
  | x1 :: t1, v1, v2 =>
   if v1 = true then
   if (x1.Id == h_.Id) = true then
   spec_HoldPut_l0 l h_ t1 v1 v2
   else
   if (capOk (v2.length + 1)) = true then
   spec_HoldPut_l0 l h_ t1 v1 (v2 ++ [x1])
   else none
   else
   if (Op.bytesLess x1.Id.toList h_.Id.toList) = true then
   if (x1.Id == h_.Id) = true then
   spec_HoldPut_l0 l h_ t1 v1 v2
   else
   if (capOk (v2.length + 1)) = true then
   spec_HoldPut_l0 l h_ t1 v1 (v2 ++ [x1])
   else none
   else
   if (capOk (v2.length + 1)) = true then
   if (x1.Id == h_.Id) = true then
   spec_HoldPut_l0 l h_ t1 true (v2 ++ [h_])
   else
   if (capOk ((v2 ++ [h_]).length + 1)) = true then
   spec_HoldPut_l0 l h_ t1 true ((v2 ++ [h_]) ++ [x1])
   else none
   else none
theorem spec_HoldPut_l0_ok (l : List Hold) (h_ : Hold) (h4 : capOk l.length = true) : ∀ (t1 p1 : List Hold) (_ : l = p1 ++ t1) (v1 : Bool) (v2 : List Hold), Pn (LpO Tryz.prog (sub (codeOf Tryz.prog 50) [1, 1, 1, 1, 0, 1, 0, 0]) (st 53 [(3, V.ptr 0 0), (6, V.ow 1), (7, vB v1), (14, lF104 l), (15, vI (l.length : Int)), (16, vI (p1.length : Int))] [Blk.box 104 [vS h_.Id, vI h_.Amount, vI h_.Due], Blk.row 104 (List.map E104 v2) []] []) (fun (y : Bool × (List Hold)) => (X.out 0, st 53 [(3, V.ptr 0 0), (6, V.ow 1), (7, vB y.1)] [Blk.box 104 [vS h_.Id, vI h_.Amount, vI h_.Due], Blk.row 104 (List.map E104 y.2) []] []))) (spec_HoldPut_l0 l h_ t1 v1 v2)
  | [], p1, h3, v1, v2 => by
    unfold spec_HoldPut_l0
    exact
     Pn.some (LpO.out [bF, .mask [3, 6, 7], .ren [0, 1]] (by kernel_rfl) (show X.out 0 ≠ X.go from nofun) (cj1 (rng_end h3 : (decide ((p1.length : Int) < (l.length : Int))) = false)))
  | x1 :: t1, p1, h3, v1, v2 => by
    unfold spec_HoldPut_l0
    exact
     Pn.ite (fun h5 =>
     Pn.ite (fun h6 =>
     LpO.go [bT, .el (E104 x1), bF, bF, bF, bF, bF, bF, bF, bF, .wait 2, .mask [3, 6, 7, 14, 15, 16], .ren [0, 1], .nm 16 (vI ((p1 ++ [x1]).length : Int))] (by kernel_rfl) (cj (rng_lt h3 : (decide ((p1.length : Int) < (l.length : Int))) = true) (cj (by omega : (0 : Int) ≤ (p1.length : Int)) (cj (rng_get _ h3 : (List.map E104 l)[(p1.length : Int).toNat]? = some (E104 x1)) (cj (nf h5) (cj (nf h5) (cj (nf h5) (cj (nf h5) (cj (nf h5) (cj (nf h5) (cj ff (cj (nf h6) (cj1 (rng_next h3 h4 : vI (i64 ((p1.length : Int) + 1)) = vI ((p1 ++ [x1]).length : Int)))))))))))))) (spec_HoldPut_l0_ok l h_ h4 t1 (p1 ++ [x1]) (rng_step h3) v1 v2)) (fun h6 =>
     Pn.ite (fun h7 =>
     LpO.go [bT, .el (E104 x1), bF, bF, bF, bF, bF, bF, bF, bT, .cp [V.agg [vS x1.Id, vI x1.Amount, vI x1.Due]], .nb 4 (.row 104 (List.map E104 (v2 ++ [x1])) []), .wait 4, .mask [3, 6, 7, 14, 15, 16], .ren [0, 4], .nm 16 (vI ((p1 ++ [x1]).length : Int))] (by kernel_rfl) (cj (rng_lt h3 : (decide ((p1.length : Int) < (l.length : Int))) = true) (cj (by omega : (0 : Int) ≤ (p1.length : Int)) (cj (rng_get _ h3 : (List.map E104 l)[(p1.length : Int).toNat]? = some (E104 x1)) (cj (nf h5) (cj (nf h5) (cj (nf h5) (cj (nf h5) (cj (nf h5) (cj (nf h5) (cj ff (cj (nt h6) (cj (rfl : [V.agg [vS x1.Id, vI x1.Amount, vI x1.Due]] = [V.agg [vS x1.Id, vI x1.Amount, vI x1.Due]]) (cj (rfl : [V.agg [vS x1.Id, vI x1.Amount, vI x1.Due]].all V.flatE = true) (cj (cap1 (capN (by simp) h7) : (List.map E104 v2).length + [V.agg [vS x1.Id, vI x1.Amount, vI x1.Due]].length ≤ 9223372036854775807) (cj (cap2 (capN (by simp) h7) (by decide) : ((List.map E104 v2).length + [V.agg [vS x1.Id, vI x1.Amount, vI x1.Due]].length) * 32 ≤ 140737488355328) (cj (nb_app E104 v2 [x1] : Blk.row 104 ((List.map E104 v2) ++ [V.agg [vS x1.Id, vI x1.Amount, vI x1.Due]]) [] = Blk.row 104 (List.map E104 (v2 ++ [x1])) []) (cj1 (rng_next h3 h4 : vI (i64 ((p1.length : Int) + 1)) = vI ((p1 ++ [x1]).length : Int))))))))))))))))))) (spec_HoldPut_l0_ok l h_ h4 t1 (p1 ++ [x1]) (rng_step h3) v1 (v2 ++ [x1]))) (fun h7 =>
     Pn.none))) (fun h5 =>
     Pn.ite (fun h8 =>
     Pn.ite (fun h9 =>
     LpO.go [bT, .el (E104 x1), bT, bT, bT, bT, bT, bT, bF, bF, .wait 2, .mask [3, 6, 7, 14, 15, 16], .ren [0, 1], .nm 16 (vI ((p1 ++ [x1]).length : Int))] (by kernel_rfl) (cj (rng_lt h3 : (decide ((p1.length : Int) < (l.length : Int))) = true) (cj (by omega : (0 : Int) ≤ (p1.length : Int)) (cj (rng_get _ h3 : (List.map E104 l)[(p1.length : Int).toNat]? = some (E104 x1)) (cj (nt h5) (cj (nt h5) (cj (nt h5) (cj (nt h5) (cj (nt h5) (cj (nt h5) (cj (nf h8) (cj (nf h9) (cj1 (rng_next h3 h4 : vI (i64 ((p1.length : Int) + 1)) = vI ((p1 ++ [x1]).length : Int)))))))))))))) (spec_HoldPut_l0_ok l h_ h4 t1 (p1 ++ [x1]) (rng_step h3) v1 v2)) (fun h9 =>
     Pn.ite (fun h10 =>
     LpO.go [bT, .el (E104 x1), bT, bT, bT, bT, bT, bT, bF, bT, .cp [V.agg [vS x1.Id, vI x1.Amount, vI x1.Due]], .nb 4 (.row 104 (List.map E104 (v2 ++ [x1])) []), .wait 4, .mask [3, 6, 7, 14, 15, 16], .ren [0, 4], .nm 16 (vI ((p1 ++ [x1]).length : Int))] (by kernel_rfl) (cj (rng_lt h3 : (decide ((p1.length : Int) < (l.length : Int))) = true) (cj (by omega : (0 : Int) ≤ (p1.length : Int)) (cj (rng_get _ h3 : (List.map E104 l)[(p1.length : Int).toNat]? = some (E104 x1)) (cj (nt h5) (cj (nt h5) (cj (nt h5) (cj (nt h5) (cj (nt h5) (cj (nt h5) (cj (nf h8) (cj (nt h9) (cj (rfl : [V.agg [vS x1.Id, vI x1.Amount, vI x1.Due]] = [V.agg [vS x1.Id, vI x1.Amount, vI x1.Due]]) (cj (rfl : [V.agg [vS x1.Id, vI x1.Amount, vI x1.Due]].all V.flatE = true) (cj (cap1 (capN (by simp) h10) : (List.map E104 v2).length + [V.agg [vS x1.Id, vI x1.Amount, vI x1.Due]].length ≤ 9223372036854775807) (cj (cap2 (capN (by simp) h10) (by decide) : ((List.map E104 v2).length + [V.agg [vS x1.Id, vI x1.Amount, vI x1.Due]].length) * 32 ≤ 140737488355328) (cj (nb_app E104 v2 [x1] : Blk.row 104 ((List.map E104 v2) ++ [V.agg [vS x1.Id, vI x1.Amount, vI x1.Due]]) [] = Blk.row 104 (List.map E104 (v2 ++ [x1])) []) (cj1 (rng_next h3 h4 : vI (i64 ((p1.length : Int) + 1)) = vI ((p1 ++ [x1]).length : Int))))))))))))))))))) (spec_HoldPut_l0_ok l h_ h4 t1 (p1 ++ [x1]) (rng_step h3) v1 (v2 ++ [x1]))) (fun h10 =>
     Pn.none))) (fun h8 =>
     Pn.ite (fun h11 =>
     Pn.ite (fun h12 =>
     LpO.go [bT, .el (E104 x1), bT, bT, bT, bT, bT, bT, bT, .cp [V.agg [vS h_.Id, vI h_.Amount, vI h_.Due]], .nb 4 (.row 104 (List.map E104 (v2 ++ [h_])) []), bF, .wait 2, .mask [3, 6, 7, 14, 15, 16], .ren [0, 4], .nm 16 (vI ((p1 ++ [x1]).length : Int))] (by kernel_rfl) (cj (rng_lt h3 : (decide ((p1.length : Int) < (l.length : Int))) = true) (cj (by omega : (0 : Int) ≤ (p1.length : Int)) (cj (rng_get _ h3 : (List.map E104 l)[(p1.length : Int).toNat]? = some (E104 x1)) (cj (nt h5) (cj (nt h5) (cj (nt h5) (cj (nt h5) (cj (nt h5) (cj (nt h5) (cj (nt h8) (cj (rfl : [V.agg [vS h_.Id, vI h_.Amount, vI h_.Due]] = [V.agg [vS h_.Id, vI h_.Amount, vI h_.Due]]) (cj (rfl : [V.agg [vS h_.Id, vI h_.Amount, vI h_.Due]].all V.flatE = true) (cj (cap1 (capN (by simp) h11) : (List.map E104 v2).length + [V.agg [vS h_.Id, vI h_.Amount, vI h_.Due]].length ≤ 9223372036854775807) (cj (cap2 (capN (by simp) h11) (by decide) : ((List.map E104 v2).length + [V.agg [vS h_.Id, vI h_.Amount, vI h_.Due]].length) * 32 ≤ 140737488355328) (cj (nb_app E104 v2 [h_] : Blk.row 104 ((List.map E104 v2) ++ [V.agg [vS h_.Id, vI h_.Amount, vI h_.Due]]) [] = Blk.row 104 (List.map E104 (v2 ++ [h_])) []) (cj (nf h12) (cj1 (rng_next h3 h4 : vI (i64 ((p1.length : Int) + 1)) = vI ((p1 ++ [x1]).length : Int))))))))))))))))))) (spec_HoldPut_l0_ok l h_ h4 t1 (p1 ++ [x1]) (rng_step h3) true (v2 ++ [h_]))) (fun h12 =>
     Pn.ite (fun h13 =>
     LpO.go [bT, .el (E104 x1), bT, bT, bT, bT, bT, bT, bT, .cp [V.agg [vS h_.Id, vI h_.Amount, vI h_.Due]], .nb 4 (.row 104 (List.map E104 (v2 ++ [h_])) []), bT, .cp [V.agg [vS x1.Id, vI x1.Amount, vI x1.Due]], .nb 6 (.row 104 (List.map E104 ((v2 ++ [h_]) ++ [x1])) []), .wait 4, .mask [3, 6, 7, 14, 15, 16], .ren [0, 6], .nm 16 (vI ((p1 ++ [x1]).length : Int))] (by kernel_rfl) (cj (rng_lt h3 : (decide ((p1.length : Int) < (l.length : Int))) = true) (cj (by omega : (0 : Int) ≤ (p1.length : Int)) (cj (rng_get _ h3 : (List.map E104 l)[(p1.length : Int).toNat]? = some (E104 x1)) (cj (nt h5) (cj (nt h5) (cj (nt h5) (cj (nt h5) (cj (nt h5) (cj (nt h5) (cj (nt h8) (cj (rfl : [V.agg [vS h_.Id, vI h_.Amount, vI h_.Due]] = [V.agg [vS h_.Id, vI h_.Amount, vI h_.Due]]) (cj (rfl : [V.agg [vS h_.Id, vI h_.Amount, vI h_.Due]].all V.flatE = true) (cj (cap1 (capN (by simp) h11) : (List.map E104 v2).length + [V.agg [vS h_.Id, vI h_.Amount, vI h_.Due]].length ≤ 9223372036854775807) (cj (cap2 (capN (by simp) h11) (by decide) : ((List.map E104 v2).length + [V.agg [vS h_.Id, vI h_.Amount, vI h_.Due]].length) * 32 ≤ 140737488355328) (cj (nb_app E104 v2 [h_] : Blk.row 104 ((List.map E104 v2) ++ [V.agg [vS h_.Id, vI h_.Amount, vI h_.Due]]) [] = Blk.row 104 (List.map E104 (v2 ++ [h_])) []) (cj (nt h12) (cj (rfl : [V.agg [vS x1.Id, vI x1.Amount, vI x1.Due]] = [V.agg [vS x1.Id, vI x1.Amount, vI x1.Due]]) (cj (rfl : [V.agg [vS x1.Id, vI x1.Amount, vI x1.Due]].all V.flatE = true) (cj (cap1 (capN (by simp) h13) : (List.map E104 (v2 ++ [h_])).length + [V.agg [vS x1.Id, vI x1.Amount, vI x1.Due]].length ≤ 9223372036854775807) (cj (cap2 (capN (by simp) h13) (by decide) : ((List.map E104 (v2 ++ [h_])).length + [V.agg [vS x1.Id, vI x1.Amount, vI x1.Due]].length) * 32 ≤ 140737488355328) (cj (nb_app E104 (v2 ++ [h_]) [x1] : Blk.row 104 ((List.map E104 (v2 ++ [h_])) ++ [V.agg [vS x1.Id, vI x1.Amount, vI x1.Due]]) [] = Blk.row 104 (List.map E104 ((v2 ++ [h_]) ++ [x1])) []) (cj1 (rng_next h3 h4 : vI (i64 ((p1.length : Int) + 1)) = vI ((p1 ++ [x1]).length : Int)))))))))))))))))))))))) (spec_HoldPut_l0_ok l h_ h4 t1 (p1 ++ [x1]) (rng_step h3) true ((v2 ++ [h_]) ++ [x1]))) (fun h13 =>
     Pn.none))) (fun h11 =>
     Pn.none)))
def spec_HoldPut (l : List Hold) (h_ : Hold) : Option ((List Hold) × Bool) :=
 (spec_HoldsOk l).bind fun r1 =>
 if r1 = true then
 if (capOk l.length) = true then
 (spec_HoldPut_l0 l h_ l false []).bind fun r2 =>
 if r2.1 = true then
 (spec_HoldsOk r2.2).bind fun r3 =>
 if r3 = true then
 some (r2.2, true)
 else
 some ([], false)
 else
 if (capOk (r2.2.length + 1)) = true then
 (spec_HoldsOk (r2.2 ++ [h_])).bind fun r4 =>
 if r4 = true then
 some ((r2.2 ++ [h_]), true)
 else
 some ([], false)
 else none
 else none
 else
 some ([], false)
theorem spec_HoldPut_ok (l : List Hold) (h_ : Hold) : Pn (fun y => Fn Tryz.prog 50 [(false, E49 l), (false, E104 h_)] (V.tup [E49 y.1, E4 y.2]) []) (spec_HoldPut l h_) := by
  unfold spec_HoldPut
  exact
   Pn.bind (fun r1 h1 =>
   Pn.ite (fun h2 =>
   Pn.ite (fun h14 =>
   Pn.bind (fun r2 h15 =>
   Pn.ite (fun h16 =>
   Pn.bind (fun r3 h17 =>
   Pn.ite (fun h18 =>
   Pn.some (Fn.of [.call [] (E4 r1) [], bF, .wait 4, .nm 15 (vI (l.length : Int)), .wait 2, .mask [3, 6, 7, 14, 15, 16], .ren [0, 1], .loop (X.out 0) (st 53 [(3, V.ptr 0 0), (6, V.ow 1), (7, vB r2.1)] [Blk.box 104 [vS h_.Id, vI h_.Amount, vI h_.Due], Blk.row 104 (List.map E104 r2.2) []] []), bF, .call [] (E4 r3) [], bF] (by kernel_rfl) (cj (spec_HoldsOk_ok l r1 h1) (cj tt (cj (nf h2) (cj (len_nm E104 l) (cj (spec_HoldPut_l0_ok l h_ h14 l [] rfl false [] r2 h15) (cj (nf h16) (cj (spec_HoldsOk_ok r2.2 r3 h17) (cj (by simp [V.nv, nvL, nvL_all, nv_E4] : (false || ((E4 r3).nv && nvL [])) = true) (cj1 (nf h18)))))))))))) (fun h18 =>
   Pn.some (Fn.of [.call [] (E4 r1) [], bF, .wait 4, .nm 15 (vI (l.length : Int)), .wait 2, .mask [3, 6, 7, 14, 15, 16], .ren [0, 1], .loop (X.out 0) (st 53 [(3, V.ptr 0 0), (6, V.ow 1), (7, vB r2.1)] [Blk.box 104 [vS h_.Id, vI h_.Amount, vI h_.Due], Blk.row 104 (List.map E104 r2.2) []] []), bF, .call [] (E4 r3) [], bT] (by kernel_rfl) (cj (spec_HoldsOk_ok l r1 h1) (cj tt (cj (nf h2) (cj (len_nm E104 l) (cj (spec_HoldPut_l0_ok l h_ h14 l [] rfl false [] r2 h15) (cj (nf h16) (cj (spec_HoldsOk_ok r2.2 r3 h17) (cj (by simp [V.nv, nvL, nvL_all, nv_E4] : (false || ((E4 r3).nv && nvL [])) = true) (cj1 (nt h18)))))))))))))) (fun h16 =>
   Pn.ite (fun h19 =>
   Pn.bind (fun r4 h20 =>
   Pn.ite (fun h21 =>
   Pn.some (Fn.of [.call [] (E4 r1) [], bF, .wait 4, .nm 15 (vI (l.length : Int)), .wait 2, .mask [3, 6, 7, 14, 15, 16], .ren [0, 1], .loop (X.out 0) (st 53 [(3, V.ptr 0 0), (6, V.ow 1), (7, vB r2.1)] [Blk.box 104 [vS h_.Id, vI h_.Amount, vI h_.Due], Blk.row 104 (List.map E104 r2.2) []] []), bT, .cp [V.agg [vS h_.Id, vI h_.Amount, vI h_.Due]], .nb 3 (.row 104 (List.map E104 (r2.2 ++ [h_])) []), .call [] (E4 r4) [], bF] (by kernel_rfl) (cj (spec_HoldsOk_ok l r1 h1) (cj tt (cj (nf h2) (cj (len_nm E104 l) (cj (spec_HoldPut_l0_ok l h_ h14 l [] rfl false [] r2 h15) (cj (nt h16) (cj (rfl : [V.agg [vS h_.Id, vI h_.Amount, vI h_.Due]] = [V.agg [vS h_.Id, vI h_.Amount, vI h_.Due]]) (cj (rfl : [V.agg [vS h_.Id, vI h_.Amount, vI h_.Due]].all V.flatE = true) (cj (cap1 (capN (by simp) h19) : (List.map E104 r2.2).length + [V.agg [vS h_.Id, vI h_.Amount, vI h_.Due]].length ≤ 9223372036854775807) (cj (cap2 (capN (by simp) h19) (by decide) : ((List.map E104 r2.2).length + [V.agg [vS h_.Id, vI h_.Amount, vI h_.Due]].length) * 32 ≤ 140737488355328) (cj (nb_app E104 r2.2 [h_] : Blk.row 104 ((List.map E104 r2.2) ++ [V.agg [vS h_.Id, vI h_.Amount, vI h_.Due]]) [] = Blk.row 104 (List.map E104 (r2.2 ++ [h_])) []) (cj (spec_HoldsOk_ok (r2.2 ++ [h_]) r4 h20) (cj (by simp [V.nv, nvL, nvL_all, nv_E4] : (false || ((E4 r4).nv && nvL [])) = true) (cj1 (nf h21))))))))))))))))) (fun h21 =>
   Pn.some (Fn.of [.call [] (E4 r1) [], bF, .wait 4, .nm 15 (vI (l.length : Int)), .wait 2, .mask [3, 6, 7, 14, 15, 16], .ren [0, 1], .loop (X.out 0) (st 53 [(3, V.ptr 0 0), (6, V.ow 1), (7, vB r2.1)] [Blk.box 104 [vS h_.Id, vI h_.Amount, vI h_.Due], Blk.row 104 (List.map E104 r2.2) []] []), bT, .cp [V.agg [vS h_.Id, vI h_.Amount, vI h_.Due]], .nb 3 (.row 104 (List.map E104 (r2.2 ++ [h_])) []), .call [] (E4 r4) [], bT] (by kernel_rfl) (cj (spec_HoldsOk_ok l r1 h1) (cj tt (cj (nf h2) (cj (len_nm E104 l) (cj (spec_HoldPut_l0_ok l h_ h14 l [] rfl false [] r2 h15) (cj (nt h16) (cj (rfl : [V.agg [vS h_.Id, vI h_.Amount, vI h_.Due]] = [V.agg [vS h_.Id, vI h_.Amount, vI h_.Due]]) (cj (rfl : [V.agg [vS h_.Id, vI h_.Amount, vI h_.Due]].all V.flatE = true) (cj (cap1 (capN (by simp) h19) : (List.map E104 r2.2).length + [V.agg [vS h_.Id, vI h_.Amount, vI h_.Due]].length ≤ 9223372036854775807) (cj (cap2 (capN (by simp) h19) (by decide) : ((List.map E104 r2.2).length + [V.agg [vS h_.Id, vI h_.Amount, vI h_.Due]].length) * 32 ≤ 140737488355328) (cj (nb_app E104 r2.2 [h_] : Blk.row 104 ((List.map E104 r2.2) ++ [V.agg [vS h_.Id, vI h_.Amount, vI h_.Due]]) [] = Blk.row 104 (List.map E104 (r2.2 ++ [h_])) []) (cj (spec_HoldsOk_ok (r2.2 ++ [h_]) r4 h20) (cj (by simp [V.nv, nvL, nvL_all, nv_E4] : (false || ((E4 r4).nv && nvL [])) = true) (cj1 (nt h21))))))))))))))))))) (fun h19 =>
   Pn.none)))) (fun h14 =>
   Pn.none)) (fun h2 =>
   Pn.some (Fn.of [.call [] (E4 r1) [], bT] (by kernel_rfl) (cj (spec_HoldsOk_ok l r1 h1) (cj tt (cj1 (nt h2)))))))
def spec_l07Draw_l0  : Nat → (List Int) → Int → Int → Int → (List Hold) → Option ((List Int) × Int × Int × (List Hold))
  | 0, _, _, _, _, _ => none
  | fuel + 1, v1, v2, v3, v4, v5 =>
   if (decide (0 < v4)) = true then
   (spec_l07Hold (l01Cur.mk v1 v2 v3)).bind fun r2 =>
   (spec_HoldPut v5 r2.1).bind fun r3 =>
   if r3.2 = true then
   spec_l07Draw_l0 fuel r2.2.b r2.2.i r2.2.h (i64 (v4 - 1)) r3.1
   else
   spec_l07Draw_l0 fuel r2.2.b r2.2.i r2.2.h (i64 (v4 - 1)) v5
   else
   some (v1, v2, v3, v5)
theorem spec_l07Draw_l0_ok  : ∀ (fuel : Nat) (v1 : List Int) (v2 : Int) (v3 : Int) (v4 : Int) (v5 : List Hold), Pn (LpO Tryz.prog (sub (codeOf Tryz.prog 31) [1, 1, 0, 1, 0, 0]) (st 24 [(0, V.ptr 0 0), (3, V.ow 1), (4, vI v4)] [Blk.box 47 [lF5 v1, vI v2, vI v3], Blk.row 104 (List.map E104 v5) []] [some 0]) (fun (y : (List Int) × Int × Int × (List Hold)) => (X.out 0, st 24 [(3, V.ow 1)] [Blk.box 47 [lF5 y.1, vI y.2.1, vI y.2.2.1], Blk.row 104 (List.map E104 y.2.2.2) []] [some 0]))) (spec_l07Draw_l0 fuel v1 v2 v3 v4 v5)
  | 0, _, _, _, _, _ => Pn.none
  | fuel + 1, v1, v2, v3, v4, v5 => by
    unfold spec_l07Draw_l0
    exact
     Pn.ite (fun h2 =>
     Pn.bind (fun r2 h3 =>
     Pn.bind (fun r3 h4 =>
     Pn.ite (fun h5 =>
     LpO.go [bT, .call [true] (E104 r2.1) [V.bx 47 [lF5 r2.2.b, vI r2.2.i, vI r2.2.h]], .call [] (V.tup [E49 r3.1, E4 r3.2]) [], bT, .wait 5, .mask [0, 3, 4], .ren [0, 2]] (by kernel_rfl) (cj h2 (cj (spec_l07Hold_ok (l01Cur.mk v1 v2 v3) r2 h3) (cj tt (cj (spec_HoldPut_ok v5 r2.1 r3 h4) (cj (by simp [V.nv, nvL, nvL_all, nv_E3, nv_E4, nv_E9, nv_E49, nv_E104] : (false || ((V.tup [E49 r3.1, E4 r3.2]).nv && nvL [])) = true) (cj1 h5)))))) (spec_l07Draw_l0_ok fuel r2.2.b r2.2.i r2.2.h (i64 (v4 - 1)) r3.1)) (fun h5 =>
     LpO.go [bT, .call [true] (E104 r2.1) [V.bx 47 [lF5 r2.2.b, vI r2.2.i, vI r2.2.h]], .call [] (V.tup [E49 r3.1, E4 r3.2]) [], bF, .wait 3, .mask [0, 3, 4], .ren [0, 1]] (by kernel_rfl) (cj h2 (cj (spec_l07Hold_ok (l01Cur.mk v1 v2 v3) r2 h3) (cj tt (cj (spec_HoldPut_ok v5 r2.1 r3 h4) (cj (by simp [V.nv, nvL, nvL_all, nv_E3, nv_E4, nv_E9, nv_E49, nv_E104] : (false || ((V.tup [E49 r3.1, E4 r3.2]).nv && nvL [])) = true) (cj1 h5)))))) (spec_l07Draw_l0_ok fuel r2.2.b r2.2.i r2.2.h (i64 (v4 - 1)) v5))))) (fun h2 =>
     Pn.some (LpO.out [bF, .mask [3], .ren [0, 1]] (by kernel_rfl) (show X.out 0 ≠ X.go from nofun) (cj1 h2)))
def spec_l07Draw (c : l01Cur) : Option ((List Hold) × l01Cur) :=
 (spec_l01Below c 4).bind fun r1 =>
 (spec_l07Draw_l0 FUEL r1.2.b r1.2.i r1.2.h r1.1 []).bind fun r4 =>
 some (r4.2.2.2, (l01Cur.mk r4.1 r4.2.1 r4.2.2.1))
theorem spec_l07Draw_ok (c : l01Cur) : Pn (fun y => Fn Tryz.prog 31 [(true, V.bx 47 [lF5 c.b, vI c.i, vI c.h])] (E49 y.1) [V.bx 47 [lF5 y.2.b, vI y.2.i, vI y.2.h]]) (spec_l07Draw c) := by
  unfold spec_l07Draw
  exact
   Pn.bind (fun r1 h1 =>
   Pn.bind (fun r4 h6 =>
   Pn.some (Fn.of [.call [true, false] (E3 r1.1) [V.bx 47 [lF5 r1.2.b, vI r1.2.i, vI r1.2.h]], .wait 2, .mask [0, 3, 4], .ren [0, 1], .loop (X.out 0) (st 24 [(3, V.ow 1)] [Blk.box 47 [lF5 r4.1, vI r4.2.1, vI r4.2.2.1], Blk.row 104 (List.map E104 r4.2.2.2) []] [some 0])] (by kernel_rfl) (cj (spec_l01Below_ok c 4 r1 h1) (cj tt (cj1 (spec_l07Draw_l0_ok FUEL r1.2.b r1.2.i r1.2.h r1.1 [] r4 h6)))))))
def spec_l01Bytes_l0  : Nat → (List Int) → Int → Int → Int → (List Int) → Option ((List Int) × Int × Int × (List Int))
  | 0, _, _, _, _, _ => none
  | fuel + 1, v1, v2, v3, v4, v5 =>
   if (decide (0 < v4)) = true then
   (spec_l01Byte (l01Cur.mk v1 v2 v3)).bind fun r2 =>
   if (capOk (v5.length + 1)) = true then
   spec_l01Bytes_l0 fuel r2.2.b r2.2.i r2.2.h (i64 (v4 - 1)) (v5 ++ [u8 r2.1])
   else none
   else
   some (v1, v2, v3, v5)
theorem spec_l01Bytes_l0_ok  : ∀ (fuel : Nat) (v1 : List Int) (v2 : Int) (v3 : Int) (v4 : Int) (v5 : List Int), Pn (LpO Tryz.prog (sub (codeOf Tryz.prog 92) [1, 1, 0, 1, 0, 0]) (st 23 [(0, V.ptr 0 0), (5, V.ow 1), (6, vI v4)] [Blk.box 47 [lF5 v1, vI v2, vI v3], Blk.row 5 (List.map E5 v5) []] [some 0]) (fun (y : (List Int) × Int × Int × (List Int)) => (X.out 0, st 23 [(5, V.ow 1)] [Blk.box 47 [lF5 y.1, vI y.2.1, vI y.2.2.1], Blk.row 5 (List.map E5 y.2.2.2) []] [some 0]))) (spec_l01Bytes_l0 fuel v1 v2 v3 v4 v5)
  | 0, _, _, _, _, _ => Pn.none
  | fuel + 1, v1, v2, v3, v4, v5 => by
    unfold spec_l01Bytes_l0
    exact
     Pn.ite (fun h2 =>
     Pn.bind (fun r2 h3 =>
     Pn.ite (fun h4 =>
     LpO.go [bT, .call [true] (E3 r2.1) [V.bx 47 [lF5 r2.2.b, vI r2.2.i, vI r2.2.h]], .cp [V.sc (.int .u8 (u8 r2.1))], .nb 3 (.row 5 (List.map E5 (v5 ++ [u8 r2.1])) []), .wait 5, .mask [0, 5, 6], .ren [0, 3]] (by kernel_rfl) (cj h2 (cj (spec_l01Byte_ok (l01Cur.mk v1 v2 v3) r2 h3) (cj tt (cj (rfl : [V.sc (.int .u8 (u8 r2.1))] = [V.sc (.int .u8 (u8 r2.1))]) (cj (rfl : [V.sc (.int .u8 (u8 r2.1))].all V.flatE = true) (cj (cap1 (capN (by simp) h4) : (List.map E5 v5).length + [V.sc (.int .u8 (u8 r2.1))].length ≤ 9223372036854775807) (cj (cap2 (capN (by simp) h4) (by decide) : ((List.map E5 v5).length + [V.sc (.int .u8 (u8 r2.1))].length) * 1 ≤ 140737488355328) (cj1 (nb_app E5 v5 [u8 r2.1] : Blk.row 5 ((List.map E5 v5) ++ [V.sc (.int .u8 (u8 r2.1))]) [] = Blk.row 5 (List.map E5 (v5 ++ [u8 r2.1])) []))))))))) (spec_l01Bytes_l0_ok fuel r2.2.b r2.2.i r2.2.h (i64 (v4 - 1)) (v5 ++ [u8 r2.1]))) (fun h4 =>
     Pn.none))) (fun h2 =>
     Pn.some (LpO.out [bF, .mask [5], .ren [0, 1]] (by kernel_rfl) (show X.out 0 ≠ X.go from nofun) (cj1 h2)))
def spec_l01Bytes (c : l01Cur) (most : Int) : Option ((List Int) × l01Cur) :=
 (spec_l01Below c (i64 (most + 1))).bind fun r1 =>
 (spec_l01Bytes_l0 FUEL r1.2.b r1.2.i r1.2.h r1.1 []).bind fun r3 =>
 some (r3.2.2.2, (l01Cur.mk r3.1 r3.2.1 r3.2.2.1))
theorem spec_l01Bytes_ok (c : l01Cur) (most : Int) : Pn (fun y => Fn Tryz.prog 92 [(true, V.bx 47 [lF5 c.b, vI c.i, vI c.h]), (false, E3 most)] (E22 y.1) [V.bx 47 [lF5 y.2.b, vI y.2.i, vI y.2.h]]) (spec_l01Bytes c most) := by
  unfold spec_l01Bytes
  exact
   Pn.bind (fun r1 h1 =>
   Pn.bind (fun r3 h5 =>
   Pn.some (Fn.of [.call [true, false] (E3 r1.1) [V.bx 47 [lF5 r1.2.b, vI r1.2.i, vI r1.2.h]], .wait 2, .mask [0, 5, 6], .ren [0, 1], .loop (X.out 0) (st 23 [(5, V.ow 1)] [Blk.box 47 [lF5 r3.1, vI r3.2.1, vI r3.2.2.1], Blk.row 5 (List.map E5 r3.2.2.2) []] [some 0])] (by kernel_rfl) (cj (spec_l01Below_ok c (i64 (most + 1)) r1 h1) (cj tt (cj1 (spec_l01Bytes_l0_ok FUEL r1.2.b r1.2.i r1.2.h r1.1 [] r3 h5)))))))
def spec_l08Slot (c : l01Cur) : Option (Slot × l01Cur) :=
 (spec_l01Str c [bs [48, 48, 48, 48, 48, 49], bs [48, 48, 48, 48, 48, 50], bs [48, 48, 48, 48, 48, 51], bs [49, 50, 51, 52, 53, 54]]).bind fun r1 =>
 (spec_l01Str r1.2.1 [bs [48, 49, 48, 48], bs [48, 50, 50, 48], bs [48, 50, 48, 48]]).bind fun r2 =>
 (spec_l01Bytes r2.2.1 3).bind fun r3 =>
 if (capOk (r3.1.length + 1)) = true then
 some ((Slot.mk r1.1 r2.1 (r3.1 ++ [1])), r3.2)
 else none
theorem spec_l08Slot_ok (c : l01Cur) : Pn (fun y => Fn Tryz.prog 55 [(true, V.bx 47 [lF5 c.b, vI c.i, vI c.h])] (E111 y.1) [V.bx 47 [lF5 y.2.b, vI y.2.i, vI y.2.h]]) (spec_l08Slot c) := by
  unfold spec_l08Slot
  exact
   Pn.bind (fun r1 h1 =>
   Pn.bind (fun r2 h2 =>
   Pn.bind (fun r3 h3 =>
   Pn.ite (fun h4 =>
   Pn.some (Fn.of [.call [true, true] (E9 r1.1) [V.bx 47 [lF5 r1.2.1.b, vI r1.2.1.i, vI r1.2.1.h], lT9 r1.2.2], .call [true, true] (E9 r2.1) [V.bx 47 [lF5 r2.2.1.b, vI r2.2.1.i, vI r2.2.1.h], lT9 r2.2.2], .call [true, false] (E22 r3.1) [V.bx 47 [lF5 r3.2.b, vI r3.2.i, vI r3.2.h]], .cp [V.sc (.int .u8 1)], .nb 6 (.row 5 (List.map E5 (r3.1 ++ [1])) [])] (by kernel_rfl) (cj (spec_l01Str_ok c [bs [48, 48, 48, 48, 48, 49], bs [48, 48, 48, 48, 48, 50], bs [48, 48, 48, 48, 48, 51], bs [49, 50, 51, 52, 53, 54]] r1 h1) (cj tt (cj (spec_l01Str_ok r1.2.1 [bs [48, 49, 48, 48], bs [48, 50, 50, 48], bs [48, 50, 48, 48]] r2 h2) (cj tt (cj (spec_l01Bytes_ok r2.2.1 3 r3 h3) (cj tt (cj (rfl : [V.sc (.int .u8 1)] = [V.sc (.int .u8 1)]) (cj (rfl : [V.sc (.int .u8 1)].all V.flatE = true) (cj (cap1 (capN (by simp) h4) : (List.map E5 r3.1).length + [V.sc (.int .u8 1)].length ≤ 9223372036854775807) (cj (cap2 (capN (by simp) h4) (by decide) : ((List.map E5 r3.1).length + [V.sc (.int .u8 1)].length) * 1 ≤ 140737488355328) (cj1 (nb_app E5 r3.1 [1] : Blk.row 5 ((List.map E5 r3.1) ++ [V.sc (.int .u8 1)]) [] = Blk.row 5 (List.map E5 (r3.1 ++ [1])) [])))))))))))))) (fun h4 =>
   Pn.none))))
def spec_l08Copy_l0 (l : List Slot) : List Slot → (List Slot) → Option ((List Slot))
  | [], v1 =>
   some v1
  | x1 :: t1, v1 =>
   if (capOk (0 + x1.Reply.length)) = true then
   if (capOk (v1.length + 1)) = true then
   spec_l08Copy_l0 l t1 (v1 ++ [x1])
   else none
   else none
theorem spec_l08Copy_l0_ok (l : List Slot) (h2 : capOk l.length = true) : ∀ (t1 p1 : List Slot) (_ : l = p1 ++ t1) (v1 : List Slot), Pn (LpO Tryz.prog (sub (codeOf Tryz.prog 91) [1, 1, 0, 1, 0, 0]) (st 24 [(3, V.ow 0), (7, lF111 l), (8, vI (l.length : Int)), (9, vI (p1.length : Int))] [Blk.row 111 (List.map E111 v1) []] []) (fun (y : (List Slot)) => (X.out 0, st 24 [(3, V.ow 0)] [Blk.row 111 (List.map E111 y) []] []))) (spec_l08Copy_l0 l t1 v1)
  | [], p1, h1, v1 => by
    unfold spec_l08Copy_l0
    exact
     Pn.some (LpO.out [bF, .mask [3], .ren [0]] (by kernel_rfl) (show X.out 0 ≠ X.go from nofun) (cj1 (rng_end h1 : (decide ((p1.length : Int) < (l.length : Int))) = false)))
  | x1 :: t1, p1, h1, v1 => by
    unfold spec_l08Copy_l0
    exact
     Pn.ite (fun h3 =>
     Pn.ite (fun h4 =>
     LpO.go [bT, .el (E111 x1), .cp (List.map E5 x1.Reply), .nb 3 (.row 5 (List.map E5 x1.Reply) []), .wait 5, .shut 4, .mv, .nb 5 (.row 111 (List.map E111 (v1 ++ [x1])) []), .wait 4, .mask [3, 7, 8, 9], .ren [5], .nm 9 (vI ((p1 ++ [x1]).length : Int))] (by kernel_rfl) (cj (rng_lt h1 : (decide ((p1.length : Int) < (l.length : Int))) = true) (cj (by omega : (0 : Int) ≤ (p1.length : Int)) (cj (rng_get _ h1 : (List.map E111 l)[(p1.length : Int).toNat]? = some (E111 x1)) (cj (vw_id (fun _ => rfl) _ : (List.map E5 x1.Reply).map V.vw = (List.map E5 x1.Reply)) (cj (cap1 (capN (by simp) h3) : ([] : List V).length + (List.map E5 x1.Reply).length ≤ 9223372036854775807) (cj (cap2 (capN (by simp) h3) (by decide) : (([] : List V).length + (List.map E5 x1.Reply).length) * 1 ≤ 140737488355328) (cj (rfl : Blk.row 5 (([] : List V) ++ (List.map E5 x1.Reply)) [] = Blk.row 5 (List.map E5 x1.Reply) []) (cj (cap1 (capN (by simp) h4) : (List.map E111 v1).length + [V.agg [vS x1.Trace, vS x1.Mti, lT5 x1.Reply]].length ≤ 9223372036854775807) (cj (cap2 (capN (by simp) h4) (by decide) : ((List.map E111 v1).length + [V.agg [vS x1.Trace, vS x1.Mti, lT5 x1.Reply]].length) * 56 ≤ 140737488355328) (cj (nb_app E111 v1 [x1] : Blk.row 111 ((List.map E111 v1) ++ [V.agg [vS x1.Trace, vS x1.Mti, lT5 x1.Reply]]) [] = Blk.row 111 (List.map E111 (v1 ++ [x1])) []) (cj1 (rng_next h1 h2 : vI (i64 ((p1.length : Int) + 1)) = vI ((p1 ++ [x1]).length : Int))))))))))))) (spec_l08Copy_l0_ok l h2 t1 (p1 ++ [x1]) (rng_step h1) (v1 ++ [x1]))) (fun h4 =>
     Pn.none)) (fun h3 =>
     Pn.none)
def spec_l08Copy (l : List Slot) : Option ((List Slot)) :=
 if (capOk l.length) = true then
 (spec_l08Copy_l0 l l []).bind fun r1 =>
 some r1
 else none
theorem spec_l08Copy_ok (l : List Slot) : Pn (fun y => Fn Tryz.prog 91 [(false, E53 l)] (E53 y) []) (spec_l08Copy l) := by
  unfold spec_l08Copy
  exact
   Pn.ite (fun h5 =>
   Pn.bind (fun r1 h6 =>
   Pn.some (Fn.of [.wait 5, .nm 8 (vI (l.length : Int)), .wait 2, .mask [3, 7, 8, 9], .ren [0], .loop (X.out 0) (st 24 [(3, V.ow 0)] [Blk.row 111 (List.map E111 r1) []] [])] (by kernel_rfl) (cj (len_nm E111 l) (cj1 (spec_l08Copy_l0_ok l h5 l [] rfl [] r1 h6)))))) (fun h5 =>
   Pn.none)
def spec_SlotPut_s1 (l : List Slot) (s_ : Slot) (r2 : (List Slot)) (r1 : (List Slot)) : St := st 17 [(0, lF111 l), (1, V.agg [vS s_.Trace, vS s_.Mti, lF5 s_.Reply]), (3, V.ptr 0 0), (4, V.nl 111), (5, vB false), (6, V.ow 1), (7, lF111 l), (9, V.agg [vS s_.Trace, vS s_.Mti, lF5 s_.Reply]), (11, V.ow 2), (12, V.ow 1)] [Blk.box 111 [vS s_.Trace, vS s_.Mti, lF5 s_.Reply], Blk.row 111 (List.map E111 r2) [], Blk.row 111 ((List.map E111 r1) ++ [V.agg [vS s_.Trace, vS s_.Mti, lF5 s_.Reply]]) []] []
def spec_SlotPut (l : List Slot) (s_ : Slot) : Option ((List Slot) × Bool) :=
 (spec_l08Copy l).bind fun r1 =>
 if (capOk (r1.length + 1)) = true then
 (spec_l08Copy (r1 ++ [s_])).bind fun r2 =>
 (spec_SlotsOk r2).bind fun r3 =>
 if r3 = true then
 some (r2, true)
 else
 some ([], false)
 else none
theorem spec_SlotPut_ok (l : List Slot) (s_ : Slot) : Pn (fun y => Fn Tryz.prog 54 [(false, E53 l), (false, E111 s_)] (V.tup [E53 y.1, E4 y.2]) []) (spec_SlotPut l s_) := by
  unfold spec_SlotPut
  exact
   Pn.bind (fun r1 h1 =>
   Pn.ite (fun h2 =>
   Pn.bind (fun r2 h3 =>
   Pn.bind (fun r3 h4 =>
   Pn.ite (fun h5 =>
   Pn.some (Fn.of [.draw [4], .loop .go ((spec_SlotPut_s1 l s_ r2 r1)), .call [] (E53 r1) [], .mv, .call [] (E53 r2) [], .wait 1, .ren [0, 4, 3], .call [] (E53 r1) [], .mv, .call [] (E53 r2) [], .wait 1, .ren [0, 4, 3], .call [] (E4 r3) [], bF] (by kernel_rfl) (cj (spec_l08Copy_ok l r1 h1) (cj tt (cj (cap1 (capN (by simp) h2) : (List.map E111 r1).length + [V.agg [vS s_.Trace, vS s_.Mti, lF5 s_.Reply]].length ≤ 9223372036854775807) (cj (cap2 (capN (by simp) h2) (by decide) : ((List.map E111 r1).length + [V.agg [vS s_.Trace, vS s_.Mti, lF5 s_.Reply]].length) * 56 ≤ 140737488355328) (cj (Fn.flag 0 (congrArg (fun z => [(false, V.sl true 111 z)]) (flag_app E111 (fun _ => rfl) r1 rfl)) (spec_l08Copy_ok (r1 ++ [s_]) r2 h3) : Fn Tryz.prog 91 [(false, V.sl true 111 ((List.map E111 r1) ++ [V.agg [vS s_.Trace, vS s_.Mti, lF5 s_.Reply]]))] (E53 r2) []) (cj (by simp [V.nv, nvL, nvL_all, nv_E5, nv_E9, nv_E22, nv_E53, nv_E111] : (false || ((E53 r2).nv && nvL [])) = true) (cj (rfl : (spec_SlotPut_s1 l s_ r2 r1) = (spec_SlotPut_s1 l s_ r2 r1)) (cj (spec_l08Copy_ok l r1 h1) (cj tt (cj (cap1 (capN (by simp) h2) : (List.map E111 r1).length + [V.agg [vS s_.Trace, vS s_.Mti, lF5 s_.Reply]].length ≤ 9223372036854775807) (cj (cap2 (capN (by simp) h2) (by decide) : ((List.map E111 r1).length + [V.agg [vS s_.Trace, vS s_.Mti, lF5 s_.Reply]].length) * 56 ≤ 140737488355328) (cj (Fn.flag 0 (congrArg (fun z => [(false, V.sl true 111 z)]) (flag_app E111 (fun _ => rfl) r1 rfl)) (spec_l08Copy_ok (r1 ++ [s_]) r2 h3) : Fn Tryz.prog 91 [(false, V.sl true 111 ((List.map E111 r1) ++ [V.agg [vS s_.Trace, vS s_.Mti, lF5 s_.Reply]]))] (E53 r2) []) (cj (by simp [V.nv, nvL, nvL_all, nv_E5, nv_E9, nv_E22, nv_E53, nv_E111] : (false || ((E53 r2).nv && nvL [])) = true) (cj (rfl : (spec_SlotPut_s1 l s_ r2 r1) = (spec_SlotPut_s1 l s_ r2 r1)) (cj (spec_SlotsOk_ok r2 r3 h4) (cj (by simp [V.nv, nvL, nvL_all, nv_E4] : (false || ((E4 r3).nv && nvL [])) = true) (cj1 (nf h5)))))))))))))))))))) (fun h5 =>
   Pn.some (Fn.of [.draw [4], .loop .go ((spec_SlotPut_s1 l s_ r2 r1)), .call [] (E53 r1) [], .mv, .call [] (E53 r2) [], .wait 1, .ren [0, 4, 3], .call [] (E53 r1) [], .mv, .call [] (E53 r2) [], .wait 1, .ren [0, 4, 3], .call [] (E4 r3) [], bT] (by kernel_rfl) (cj (spec_l08Copy_ok l r1 h1) (cj tt (cj (cap1 (capN (by simp) h2) : (List.map E111 r1).length + [V.agg [vS s_.Trace, vS s_.Mti, lF5 s_.Reply]].length ≤ 9223372036854775807) (cj (cap2 (capN (by simp) h2) (by decide) : ((List.map E111 r1).length + [V.agg [vS s_.Trace, vS s_.Mti, lF5 s_.Reply]].length) * 56 ≤ 140737488355328) (cj (Fn.flag 0 (congrArg (fun z => [(false, V.sl true 111 z)]) (flag_app E111 (fun _ => rfl) r1 rfl)) (spec_l08Copy_ok (r1 ++ [s_]) r2 h3) : Fn Tryz.prog 91 [(false, V.sl true 111 ((List.map E111 r1) ++ [V.agg [vS s_.Trace, vS s_.Mti, lF5 s_.Reply]]))] (E53 r2) []) (cj (by simp [V.nv, nvL, nvL_all, nv_E5, nv_E9, nv_E22, nv_E53, nv_E111] : (false || ((E53 r2).nv && nvL [])) = true) (cj (rfl : (spec_SlotPut_s1 l s_ r2 r1) = (spec_SlotPut_s1 l s_ r2 r1)) (cj (spec_l08Copy_ok l r1 h1) (cj tt (cj (cap1 (capN (by simp) h2) : (List.map E111 r1).length + [V.agg [vS s_.Trace, vS s_.Mti, lF5 s_.Reply]].length ≤ 9223372036854775807) (cj (cap2 (capN (by simp) h2) (by decide) : ((List.map E111 r1).length + [V.agg [vS s_.Trace, vS s_.Mti, lF5 s_.Reply]].length) * 56 ≤ 140737488355328) (cj (Fn.flag 0 (congrArg (fun z => [(false, V.sl true 111 z)]) (flag_app E111 (fun _ => rfl) r1 rfl)) (spec_l08Copy_ok (r1 ++ [s_]) r2 h3) : Fn Tryz.prog 91 [(false, V.sl true 111 ((List.map E111 r1) ++ [V.agg [vS s_.Trace, vS s_.Mti, lF5 s_.Reply]]))] (E53 r2) []) (cj (by simp [V.nv, nvL, nvL_all, nv_E5, nv_E9, nv_E22, nv_E53, nv_E111] : (false || ((E53 r2).nv && nvL [])) = true) (cj (rfl : (spec_SlotPut_s1 l s_ r2 r1) = (spec_SlotPut_s1 l s_ r2 r1)) (cj (spec_SlotsOk_ok r2 r3 h4) (cj (by simp [V.nv, nvL, nvL_all, nv_E4] : (false || ((E4 r3).nv && nvL [])) = true) (cj1 (nt h5))))))))))))))))))))))) (fun h2 =>
   Pn.none))
def spec_l08Draw_l0  : Nat → (List Int) → Int → Int → Int → (List Slot) → Option ((List Int) × Int × Int × (List Slot))
  | 0, _, _, _, _, _ => none
  | fuel + 1, v1, v2, v3, v4, v5 =>
   if (decide (0 < v4)) = true then
   (spec_l08Slot (l01Cur.mk v1 v2 v3)).bind fun r2 =>
   (spec_SlotPut v5 r2.1).bind fun r3 =>
   if r3.2 = true then
   spec_l08Draw_l0 fuel r2.2.b r2.2.i r2.2.h (i64 (v4 - 1)) r3.1
   else
   spec_l08Draw_l0 fuel r2.2.b r2.2.i r2.2.h (i64 (v4 - 1)) v5
   else
   some (v1, v2, v3, v5)
theorem spec_l08Draw_l0_ok  : ∀ (fuel : Nat) (v1 : List Int) (v2 : Int) (v3 : Int) (v4 : Int) (v5 : List Slot), Pn (LpO Tryz.prog (sub (codeOf Tryz.prog 34) [1, 1, 0, 1, 0, 0]) (st 24 [(0, V.ptr 0 0), (3, V.ow 1), (4, vI v4)] [Blk.box 47 [lF5 v1, vI v2, vI v3], Blk.row 111 (List.map E111 v5) []] [some 0]) (fun (y : (List Int) × Int × Int × (List Slot)) => (X.out 0, st 24 [(3, V.ow 1)] [Blk.box 47 [lF5 y.1, vI y.2.1, vI y.2.2.1], Blk.row 111 (List.map E111 y.2.2.2) []] [some 0]))) (spec_l08Draw_l0 fuel v1 v2 v3 v4 v5)
  | 0, _, _, _, _, _ => Pn.none
  | fuel + 1, v1, v2, v3, v4, v5 => by
    unfold spec_l08Draw_l0
    exact
     Pn.ite (fun h2 =>
     Pn.bind (fun r2 h3 =>
     Pn.bind (fun r3 h4 =>
     Pn.ite (fun h5 =>
     LpO.go [bT, .call [true] (E111 r2.1) [V.bx 47 [lF5 r2.2.b, vI r2.2.i, vI r2.2.h]], .call [] (V.tup [E53 r3.1, E4 r3.2]) [], bT, .wait 5, .mask [0, 3, 4], .ren [0, 3]] (by kernel_rfl) (cj h2 (cj (spec_l08Slot_ok (l01Cur.mk v1 v2 v3) r2 h3) (cj tt (cj (spec_SlotPut_ok v5 r2.1 r3 h4) (cj (by simp [V.nv, nvL, nvL_all, nv_E4, nv_E5, nv_E9, nv_E22, nv_E53, nv_E111] : (false || ((V.tup [E53 r3.1, E4 r3.2]).nv && nvL [])) = true) (cj1 h5)))))) (spec_l08Draw_l0_ok fuel r2.2.b r2.2.i r2.2.h (i64 (v4 - 1)) r3.1)) (fun h5 =>
     LpO.go [bT, .call [true] (E111 r2.1) [V.bx 47 [lF5 r2.2.b, vI r2.2.i, vI r2.2.h]], .call [] (V.tup [E53 r3.1, E4 r3.2]) [], bF, .wait 3, .mask [0, 3, 4], .ren [0, 1]] (by kernel_rfl) (cj h2 (cj (spec_l08Slot_ok (l01Cur.mk v1 v2 v3) r2 h3) (cj tt (cj (spec_SlotPut_ok v5 r2.1 r3 h4) (cj (by simp [V.nv, nvL, nvL_all, nv_E4, nv_E5, nv_E9, nv_E22, nv_E53, nv_E111] : (false || ((V.tup [E53 r3.1, E4 r3.2]).nv && nvL [])) = true) (cj1 h5)))))) (spec_l08Draw_l0_ok fuel r2.2.b r2.2.i r2.2.h (i64 (v4 - 1)) v5))))) (fun h2 =>
     Pn.some (LpO.out [bF, .mask [3], .ren [0, 1]] (by kernel_rfl) (show X.out 0 ≠ X.go from nofun) (cj1 h2)))
def spec_l08Draw (c : l01Cur) : Option ((List Slot) × l01Cur) :=
 (spec_l01Below c 5).bind fun r1 =>
 (spec_l08Draw_l0 FUEL r1.2.b r1.2.i r1.2.h r1.1 []).bind fun r4 =>
 some (r4.2.2.2, (l01Cur.mk r4.1 r4.2.1 r4.2.2.1))
theorem spec_l08Draw_ok (c : l01Cur) : Pn (fun y => Fn Tryz.prog 34 [(true, V.bx 47 [lF5 c.b, vI c.i, vI c.h])] (E53 y.1) [V.bx 47 [lF5 y.2.b, vI y.2.i, vI y.2.h]]) (spec_l08Draw c) := by
  unfold spec_l08Draw
  exact
   Pn.bind (fun r1 h1 =>
   Pn.bind (fun r4 h6 =>
   Pn.some (Fn.of [.call [true, false] (E3 r1.1) [V.bx 47 [lF5 r1.2.b, vI r1.2.i, vI r1.2.h]], .wait 2, .mask [0, 3, 4], .ren [0, 1], .loop (X.out 0) (st 24 [(3, V.ow 1)] [Blk.box 47 [lF5 r4.1, vI r4.2.1, vI r4.2.2.1], Blk.row 111 (List.map E111 r4.2.2.2) []] [some 0])] (by kernel_rfl) (cj (spec_l01Below_ok c 5 r1 h1) (cj tt (cj1 (spec_l08Draw_l0_ok FUEL r1.2.b r1.2.i r1.2.h r1.1 [] r4 h6)))))))
def spec_l09Draw_c0 (r6 : Acct × Bool) (r7 : Ring × l01Cur) (r8 : (List Hold) × l01Cur) : Option ((List Hold)) :=
 (spec_Stored r8.1).bind fun r9 =>
 (spec_AddSat r9 0).bind fun r10 =>
 if (decide (r10 ≤ r6.1.Limit)) = true then
 some r8.1
 else
 some r6.1.Holds
theorem spec_l09Draw_c0_ok (r6 : Acct × Bool) (r7 : Ring × l01Cur) (r8 : (List Hold) × l01Cur) : Pn (JnO Tryz.prog (sub (codeOf Tryz.prog 17) [1, 1, 1, 1, 0]) (st 67 [(0, V.ptr 0 0), (4, V.ptr 1 0), (5, V.ptr 2 0), (7, V.ow 7)] [Blk.box 47 [lF5 r8.2.b, vI r8.2.i, vI r8.2.h], Blk.box 55 [vE, vI 0, vI 0, vI 0, vI 0, V.nl 104, vI 0, vI 0, V.nl 3, V.nl 3, V.nl 111], Blk.box 55 [vS r6.1.Id, vI r6.1.Limit, vI r6.1.Posted, vI r6.1.Most, vI r6.1.MostSum, V.ow 3, vI r7.1.Span, vI r7.1.Head, V.ow 4, V.ow 5, V.ow 6], Blk.row 104 (List.map E104 r6.1.Holds) [], Blk.row 3 (List.map E3 r7.1.Counts) [], Blk.row 3 (List.map E3 r7.1.Sums) [], Blk.row 111 (List.map E111 r6.1.Slots) [], Blk.row 104 (List.map E104 r8.1) []] [some 0]) (fun (y : (List Hold)) => (X.go, st 67 [(0, V.ptr 0 0), (4, V.ptr 1 0), (5, V.ptr 2 0)] [Blk.box 47 [lF5 r8.2.b, vI r8.2.i, vI r8.2.h], Blk.box 55 [vE, vI 0, vI 0, vI 0, vI 0, V.nl 104, vI 0, vI 0, V.nl 3, V.nl 3, V.nl 111], Blk.box 55 [vS r6.1.Id, vI r6.1.Limit, vI r6.1.Posted, vI r6.1.Most, vI r6.1.MostSum, V.ow 3, vI r7.1.Span, vI r7.1.Head, V.ow 4, V.ow 5, V.ow 6], Blk.row 104 (List.map E104 y) [], Blk.row 3 (List.map E3 r7.1.Counts) [], Blk.row 3 (List.map E3 r7.1.Sums) [], Blk.row 111 (List.map E111 r6.1.Slots) []] [some 0]))) (spec_l09Draw_c0 r6 r7 r8) := by
  unfold spec_l09Draw_c0
  exact
   Pn.bind (fun r9 h9 =>
   Pn.bind (fun r10 h10 =>
   Pn.ite (fun h11 =>
   Pn.some (JnO.of [.draw [], .call [] (E3 r9) [], .call [] (E3 r10) [], bT, .wait 3, .mask [0, 4, 5], .ren [0, 1, 2, 7, 4, 5, 6]] (by kernel_rfl) (cj (spec_Stored_ok r8.1 r9 h9) (cj (by simp [V.nv, nvL, nvL_all, nv_E3] : (false || ((E3 r9).nv && nvL [])) = true) (cj (spec_AddSat_ok r9 0 r10 h10) (cj tt (cj1 h11))))))) (fun h11 =>
   Pn.some (JnO.of [.draw [], .call [] (E3 r9) [], .call [] (E3 r10) [], bF, .mask [0, 4, 5], .ren [0, 1, 2, 3, 4, 5, 6]] (by kernel_rfl) (cj (spec_Stored_ok r8.1 r9 h9) (cj (by simp [V.nv, nvL, nvL_all, nv_E3] : (false || ((E3 r9).nv && nvL [])) = true) (cj (spec_AddSat_ok r9 0 r10 h10) (cj tt (cj1 h11)))))))))
def spec_l09Draw_c1 (r6 : Acct × Bool) (r7 : Ring × l01Cur) (r8 : (List Hold) × l01Cur) (r11 : (List Hold)) : Option ((List Int) × Int × Int × Int) :=
 (spec_Stored r11).bind fun r12 =>
 if (decide (r12 < r6.1.Limit)) = true then
 (spec_l01Once r8.2 2).bind fun r13 =>
 if r13.1 = true then
 (spec_Stored r11).bind fun r14 =>
 (spec_l01Below r13.2 (i64 ((i64 (r6.1.Limit - r14)) + 1))).bind fun r15 =>
 some (r15.2.b, r15.2.i, r15.2.h, r15.1)
 else
 some (r13.2.b, r13.2.i, r13.2.h, r6.1.Posted)
 else
 some (r8.2.b, r8.2.i, r8.2.h, r6.1.Posted)
theorem spec_l09Draw_c1_ok (r6 : Acct × Bool) (r7 : Ring × l01Cur) (r8 : (List Hold) × l01Cur) (r11 : (List Hold)) : Pn (JnO Tryz.prog (sub (codeOf Tryz.prog 17) [1, 1, 1, 1, 1, 0]) (st 67 [(0, V.ptr 0 0), (4, V.ptr 1 0), (5, V.ptr 2 0)] [Blk.box 47 [lF5 r8.2.b, vI r8.2.i, vI r8.2.h], Blk.box 55 [vE, vI 0, vI 0, vI 0, vI 0, V.nl 104, vI 0, vI 0, V.nl 3, V.nl 3, V.nl 111], Blk.box 55 [vS r6.1.Id, vI r6.1.Limit, vI r6.1.Posted, vI r6.1.Most, vI r6.1.MostSum, V.ow 3, vI r7.1.Span, vI r7.1.Head, V.ow 4, V.ow 5, V.ow 6], Blk.row 104 (List.map E104 r11) [], Blk.row 3 (List.map E3 r7.1.Counts) [], Blk.row 3 (List.map E3 r7.1.Sums) [], Blk.row 111 (List.map E111 r6.1.Slots) []] [some 0]) (fun (y : (List Int) × Int × Int × Int) => (X.go, st 67 [(0, V.ptr 0 0), (4, V.ptr 1 0), (5, V.ptr 2 0)] [Blk.box 47 [lF5 y.1, vI y.2.1, vI y.2.2.1], Blk.box 55 [vE, vI 0, vI 0, vI 0, vI 0, V.nl 104, vI 0, vI 0, V.nl 3, V.nl 3, V.nl 111], Blk.box 55 [vS r6.1.Id, vI r6.1.Limit, vI y.2.2.2, vI r6.1.Most, vI r6.1.MostSum, V.ow 3, vI r7.1.Span, vI r7.1.Head, V.ow 4, V.ow 5, V.ow 6], Blk.row 104 (List.map E104 r11) [], Blk.row 3 (List.map E3 r7.1.Counts) [], Blk.row 3 (List.map E3 r7.1.Sums) [], Blk.row 111 (List.map E111 r6.1.Slots) []] [some 0]))) (spec_l09Draw_c1 r6 r7 r8 r11) := by
  unfold spec_l09Draw_c1
  exact
   Pn.bind (fun r12 h13 =>
   Pn.ite (fun h14 =>
   Pn.bind (fun r13 h15 =>
   Pn.ite (fun h16 =>
   Pn.bind (fun r14 h17 =>
   Pn.bind (fun r15 h18 =>
   Pn.some (JnO.of [.draw [8], .call [] (E3 r12) [], bT, bT, .call [true, false] (E4 r13.1) [V.bx 47 [lF5 r13.2.b, vI r13.2.i, vI r13.2.h]], bT, bT, .draw [8, 10], .call [] (E3 r14) [], .call [true, false] (E3 r15.1) [V.bx 47 [lF5 r15.2.b, vI r15.2.i, vI r15.2.h]], .wait 3, .mask [0, 4, 5], .ren [0, 1, 2, 3, 4, 5, 6]] (by kernel_rfl) (cj (spec_Stored_ok r11 r12 h13) (cj (by simp [V.nv, nvL, nvL_all, nv_E3] : (false || ((E3 r12).nv && nvL [])) = true) (cj h14 (cj h14 (cj (spec_l01Once_ok r8.2 2 r13 h15) (cj tt (cj h14 (cj h16 (cj (spec_Stored_ok r11 r14 h17) (cj (by simp [V.nv, nvL, nvL_all, nv_E3] : (false || ((E3 r14).nv && nvL [])) = true) (cj (spec_l01Below_ok r13.2 (i64 ((i64 (r6.1.Limit - r14)) + 1)) r15 h18) (cj1 tt)))))))))))))))) (fun h16 =>
   Pn.some (JnO.of [.draw [8], .call [] (E3 r12) [], bT, bT, .call [true, false] (E4 r13.1) [V.bx 47 [lF5 r13.2.b, vI r13.2.i, vI r13.2.h]], bT, bF, .mask [0, 4, 5], .ren [0, 1, 2, 3, 4, 5, 6]] (by kernel_rfl) (cj (spec_Stored_ok r11 r12 h13) (cj (by simp [V.nv, nvL, nvL_all, nv_E3] : (false || ((E3 r12).nv && nvL [])) = true) (cj h14 (cj h14 (cj (spec_l01Once_ok r8.2 2 r13 h15) (cj tt (cj h14 (cj1 h16)))))))))))) (fun h14 =>
   Pn.some (JnO.of [.draw [8], .call [] (E3 r12) [], bF, bF, bF, bF, .mask [0, 4, 5], .ren [0, 1, 2, 3, 4, 5, 6]] (by kernel_rfl) (cj (spec_Stored_ok r11 r12 h13) (cj (by simp [V.nv, nvL, nvL_all, nv_E3] : (false || ((E3 r12).nv && nvL [])) = true) (cj h14 (cj h14 (cj h14 (cj1 ff)))))))))
def spec_l09Draw_c2 (r6 : Acct × Bool) (r7 : Ring × l01Cur) (r11 : (List Hold)) (r16 : (List Int) × Int × Int × Int) : Option ((List Int) × Int × Int × (List Slot)) :=
 (spec_l01Once (l01Cur.mk r16.1 r16.2.1 r16.2.2.1) 3).bind fun r17 =>
 if r17.1 = true then
 (spec_l08Draw r17.2).bind fun r18 =>
 some (r18.2.b, r18.2.i, r18.2.h, r18.1)
 else
 some (r17.2.b, r17.2.i, r17.2.h, r6.1.Slots)
theorem spec_l09Draw_c2_ok (r6 : Acct × Bool) (r7 : Ring × l01Cur) (r11 : (List Hold)) (r16 : (List Int) × Int × Int × Int) : Pn (JnO Tryz.prog (sub (codeOf Tryz.prog 17) [1, 1, 1, 1, 1, 1, 0]) (st 67 [(0, V.ptr 0 0), (4, V.ptr 1 0), (5, V.ptr 2 0)] [Blk.box 47 [lF5 r16.1, vI r16.2.1, vI r16.2.2.1], Blk.box 55 [vE, vI 0, vI 0, vI 0, vI 0, V.nl 104, vI 0, vI 0, V.nl 3, V.nl 3, V.nl 111], Blk.box 55 [vS r6.1.Id, vI r6.1.Limit, vI r16.2.2.2, vI r6.1.Most, vI r6.1.MostSum, V.ow 3, vI r7.1.Span, vI r7.1.Head, V.ow 4, V.ow 5, V.ow 6], Blk.row 104 (List.map E104 r11) [], Blk.row 3 (List.map E3 r7.1.Counts) [], Blk.row 3 (List.map E3 r7.1.Sums) [], Blk.row 111 (List.map E111 r6.1.Slots) []] [some 0]) (fun (y : (List Int) × Int × Int × (List Slot)) => (X.go, st 67 [(4, V.ptr 1 0), (5, V.ptr 2 0)] [Blk.box 47 [lF5 y.1, vI y.2.1, vI y.2.2.1], Blk.box 55 [vE, vI 0, vI 0, vI 0, vI 0, V.nl 104, vI 0, vI 0, V.nl 3, V.nl 3, V.nl 111], Blk.box 55 [vS r6.1.Id, vI r6.1.Limit, vI r16.2.2.2, vI r6.1.Most, vI r6.1.MostSum, V.ow 3, vI r7.1.Span, vI r7.1.Head, V.ow 4, V.ow 5, V.ow 6], Blk.row 104 (List.map E104 r11) [], Blk.row 3 (List.map E3 r7.1.Counts) [], Blk.row 3 (List.map E3 r7.1.Sums) [], Blk.row 111 (List.map E111 y.2.2.2) []] [some 0]))) (spec_l09Draw_c2 r6 r7 r11 r16) := by
  unfold spec_l09Draw_c2
  exact
   Pn.bind (fun r17 h20 =>
   Pn.ite (fun h21 =>
   Pn.bind (fun r18 h22 =>
   Pn.some (JnO.of [.call [true, false] (E4 r17.1) [V.bx 47 [lF5 r17.2.b, vI r17.2.i, vI r17.2.h]], bT, .call [true] (E53 r18.1) [V.bx 47 [lF5 r18.2.b, vI r18.2.i, vI r18.2.h]], .wait 3, .mask [4, 5], .ren [0, 1, 2, 3, 4, 5, 7]] (by kernel_rfl) (cj (spec_l01Once_ok (l01Cur.mk r16.1 r16.2.1 r16.2.2.1) 3 r17 h20) (cj tt (cj h21 (cj (spec_l08Draw_ok r17.2 r18 h22) (cj1 tt)))))))) (fun h21 =>
   Pn.some (JnO.of [.call [true, false] (E4 r17.1) [V.bx 47 [lF5 r17.2.b, vI r17.2.i, vI r17.2.h]], bF, .mask [4, 5], .ren [0, 1, 2, 3, 4, 5, 6]] (by kernel_rfl) (cj (spec_l01Once_ok (l01Cur.mk r16.1 r16.2.1 r16.2.2.1) 3 r17 h20) (cj tt (cj1 h21))))))
def spec_l09Draw (o : l01Cur) (o_ : ByteArray) : Option (Acct × l01Cur) :=
 (spec_l01Pick o [100, 200, 60, 0, 9007199254740992]).bind fun r1 =>
 (spec_l01Pick r1.2.1 [2, 3, 5, 1000]).bind fun r2 =>
 (spec_l01Pick r2.2.1 [60, 120, 1000, 9007199254740992]).bind fun r3 =>
 (spec_l01Below r3.2.1 4).bind fun r4 =>
 (spec_l01Below r4.2 5).bind fun r5 =>
 (spec_AcctNew o_ r1.1 r2.1 r3.1 (i64 (1 + r4.1)) (i64 (1 + r5.1))).bind fun r6 =>
 (spec_l06Draw r5.2).bind fun r7 =>
 (spec_l07Draw r7.2).bind fun r8 =>
 (spec_l09Draw_c0 r6 r7 r8).bind fun r11 =>
 (spec_l09Draw_c1 r6 r7 r8 r11).bind fun r16 =>
 (spec_l09Draw_c2 r6 r7 r11 r16).bind fun r19 =>
 some ((Acct.mk r6.1.Id r6.1.Limit r16.2.2.2 r6.1.Most r6.1.MostSum r11 r7.1 r19.2.2.2), (l01Cur.mk r19.1 r19.2.1 r19.2.2.1))
theorem spec_l09Draw_ok (o : l01Cur) (o_ : ByteArray) : Pn (fun y => Fn Tryz.prog 17 [(true, V.bx 47 [lF5 o.b, vI o.i, vI o.h]), (false, E9 o_)] (E55 y.1) [V.bx 47 [lF5 y.2.b, vI y.2.i, vI y.2.h]]) (spec_l09Draw o o_) := by
  unfold spec_l09Draw
  exact
   Pn.bind (fun r1 h1 =>
   Pn.bind (fun r2 h2 =>
   Pn.bind (fun r3 h3 =>
   Pn.bind (fun r4 h4 =>
   Pn.bind (fun r5 h5 =>
   Pn.bind (fun r6 h6 =>
   Pn.bind (fun r7 h7 =>
   Pn.bind (fun r8 h8 =>
   Pn.bind (fun r11 h12 =>
   Pn.bind (fun r16 h19 =>
   Pn.bind (fun r19 h23 =>
   Pn.some (Fn.of [.call [true, true] (E3 r1.1) [V.bx 47 [lF5 r1.2.1.b, vI r1.2.1.i, vI r1.2.1.h], lT3 r1.2.2], .call [true, true] (E3 r2.1) [V.bx 47 [lF5 r2.2.1.b, vI r2.2.1.i, vI r2.2.1.h], lT3 r2.2.2], .call [true, true] (E3 r3.1) [V.bx 47 [lF5 r3.2.1.b, vI r3.2.1.i, vI r3.2.1.h], lT3 r3.2.2], .call [true, false] (E3 r4.1) [V.bx 47 [lF5 r4.2.b, vI r4.2.i, vI r4.2.h]], .call [true, false] (E3 r5.1) [V.bx 47 [lF5 r5.2.b, vI r5.2.i, vI r5.2.h]], .call [] (V.tup [E55 r6.1, E4 r6.2]) [], .call [true] (E52 r7.1) [V.bx 47 [lF5 r7.2.b, vI r7.2.i, vI r7.2.h]], .call [true] (E49 r8.1) [V.bx 47 [lF5 r8.2.b, vI r8.2.i, vI r8.2.h]], .wait 2, .mask [0, 4, 5, 7], .ren [0, 1, 9, 5, 10, 11, 8, 12], .join 5 (X.go) (st 67 [(0, V.ptr 0 0), (4, V.ptr 1 0), (5, V.ptr 2 0)] [Blk.box 47 [lF5 r8.2.b, vI r8.2.i, vI r8.2.h], Blk.box 55 [vE, vI 0, vI 0, vI 0, vI 0, V.nl 104, vI 0, vI 0, V.nl 3, V.nl 3, V.nl 111], Blk.box 55 [vS r6.1.Id, vI r6.1.Limit, vI r6.1.Posted, vI r6.1.Most, vI r6.1.MostSum, V.ow 3, vI r7.1.Span, vI r7.1.Head, V.ow 4, V.ow 5, V.ow 6], Blk.row 104 (List.map E104 r11) [], Blk.row 3 (List.map E3 r7.1.Counts) [], Blk.row 3 (List.map E3 r7.1.Sums) [], Blk.row 111 (List.map E111 r6.1.Slots) []] [some 0]), .wait 1, .mask [0, 4, 5], .ren [0, 1, 2, 3, 4, 5, 6], .join 5 (X.go) (st 67 [(0, V.ptr 0 0), (4, V.ptr 1 0), (5, V.ptr 2 0)] [Blk.box 47 [lF5 r16.1, vI r16.2.1, vI r16.2.2.1], Blk.box 55 [vE, vI 0, vI 0, vI 0, vI 0, V.nl 104, vI 0, vI 0, V.nl 3, V.nl 3, V.nl 111], Blk.box 55 [vS r6.1.Id, vI r6.1.Limit, vI r16.2.2.2, vI r6.1.Most, vI r6.1.MostSum, V.ow 3, vI r7.1.Span, vI r7.1.Head, V.ow 4, V.ow 5, V.ow 6], Blk.row 104 (List.map E104 r11) [], Blk.row 3 (List.map E3 r7.1.Counts) [], Blk.row 3 (List.map E3 r7.1.Sums) [], Blk.row 111 (List.map E111 r6.1.Slots) []] [some 0]), .wait 1, .mask [0, 4, 5], .ren [0, 1, 2, 3, 4, 5, 6], .join 5 (X.go) (st 67 [(4, V.ptr 1 0), (5, V.ptr 2 0)] [Blk.box 47 [lF5 r19.1, vI r19.2.1, vI r19.2.2.1], Blk.box 55 [vE, vI 0, vI 0, vI 0, vI 0, V.nl 104, vI 0, vI 0, V.nl 3, V.nl 3, V.nl 111], Blk.box 55 [vS r6.1.Id, vI r6.1.Limit, vI r16.2.2.2, vI r6.1.Most, vI r6.1.MostSum, V.ow 3, vI r7.1.Span, vI r7.1.Head, V.ow 4, V.ow 5, V.ow 6], Blk.row 104 (List.map E104 r11) [], Blk.row 3 (List.map E3 r7.1.Counts) [], Blk.row 3 (List.map E3 r7.1.Sums) [], Blk.row 111 (List.map E111 r19.2.2.2) []] [some 0])] (by kernel_rfl) (cj (spec_l01Pick_ok o [100, 200, 60, 0, 9007199254740992] r1 h1) (cj tt (cj (spec_l01Pick_ok r1.2.1 [2, 3, 5, 1000] r2 h2) (cj tt (cj (spec_l01Pick_ok r2.2.1 [60, 120, 1000, 9007199254740992] r3 h3) (cj tt (cj (spec_l01Below_ok r3.2.1 4 r4 h4) (cj tt (cj (spec_l01Below_ok r4.2 5 r5 h5) (cj tt (cj (spec_AcctNew_ok o_ r1.1 r2.1 r3.1 (i64 (1 + r4.1)) (i64 (1 + r5.1)) r6 h6) (cj tt (cj (spec_l06Draw_ok r5.2 r7 h7) (cj tt (cj (spec_l07Draw_ok r7.2 r8 h8) (cj tt (cj (spec_l09Draw_c0_ok r6 r7 r8 r11 h12) (cj (spec_l09Draw_c1_ok r6 r7 r8 r11 r16 h19) (cj1 (spec_l09Draw_c2_ok r6 r7 r11 r16 r19 h23))))))))))))))))))))))))))))))))
def spec_l12Draw_s4 (x1 : ByteArray) (v9 : Int) (r1 : Bool × l01Cur) (r2 : Acct × l01Cur) (v10 : List Acct) : St := st 26 [(0, V.ptr 0 0), (2, V.ptr 1 0), (3, V.ptr 2 0), (5, vS x1), (7, V.ow 4), (8, vI 6), (9, vI v9), (10, vB (decide (v9 < 6))), (11, V.ep 4 1 v9.toNat 0), (12, vS x1), (13, V.ptr 0 0), (14, vB r1.1), (15, vB (!r1.1)), (16, V.ptr 2 0), (18, V.ptr 0 0), (19, vS x1), (20, V.agg [vS r2.1.Id, vI r2.1.Limit, vI r2.1.Posted, vI r2.1.Most, vI r2.1.MostSum, V.un, vI r2.1.Ring.Span, vI r2.1.Ring.Head, V.un, V.un, V.un]), (22, V.ow 3), (23, V.ptr 2 0)] [Blk.box 47 [lF5 r2.2.b, vI r2.2.i, vI r2.2.h], Blk.box 36 [V.nl 55], Blk.box 36 [V.ow 3], Blk.row 55 (List.map E55 (v10 ++ [r2.1])) [], Blk.row 9 (List.map E9 [bs [49, 56], bs [50, 54], bs [51, 52], bs [52, 50], bs [53, 57], bs [54, 55]]) []] [some 0]
def spec_l12Draw_l0  : Nat → (List Int) → Int → Int → Int → (List Acct) → Option ((List Int) × Int × Int × (List Acct))
  | 0, _, _, _, _, _ => none
  | fuel + 1, v6, v7, v8, v9, v10 =>
   if (decide (v9 < 6)) = true then
   if (decide (0 ≤ v9)) = true then
   ([bs [49, 56], bs [50, 54], bs [51, 52], bs [52, 50], bs [53, 57], bs [54, 55]][v9.toNat]?).bind fun x1 =>
   (spec_l01Once (l01Cur.mk v6 v7 v8) 3).bind fun r1 =>
   if r1.1 = true then
   spec_l12Draw_l0 fuel r1.2.b r1.2.i r1.2.h (i64 (v9 + 1)) v10
   else
   (spec_l09Draw r1.2 x1).bind fun r2 =>
   if (capOk (v10.length + 1)) = true then
   spec_l12Draw_l0 fuel r2.2.b r2.2.i r2.2.h (i64 (v9 + 1)) (v10 ++ [r2.1])
   else none
   else none
   else
   some (v6, v7, v8, v10)
theorem spec_l12Draw_l0_ok  : ∀ (fuel : Nat) (v6 : List Int) (v7 : Int) (v8 : Int) (v9 : Int) (v10 : List Acct), Pn (LpO Tryz.prog (sub (codeOf Tryz.prog 9) [1, 1, 0, 1, 0, 0]) (st 26 [(0, V.ptr 0 0), (2, V.ptr 1 0), (3, V.ptr 2 0), (7, V.ow 4), (8, vI 6), (9, vI v9)] [Blk.box 47 [lF5 v6, vI v7, vI v8], Blk.box 36 [V.nl 55], Blk.box 36 [V.ow 3], Blk.row 55 (List.map E55 v10) [], Blk.row 9 (List.map E9 [bs [49, 56], bs [50, 54], bs [51, 52], bs [52, 50], bs [53, 57], bs [54, 55]]) []] [some 0]) (fun (y : (List Int) × Int × Int × (List Acct)) => (X.out 0, st 26 [(2, V.ptr 1 0), (3, V.ptr 2 0)] [Blk.box 47 [lF5 y.1, vI y.2.1, vI y.2.2.1], Blk.box 36 [V.nl 55], Blk.box 36 [V.ow 3], Blk.row 55 (List.map E55 y.2.2.2) []] [some 0]))) (spec_l12Draw_l0 fuel v6 v7 v8 v9 v10)
  | 0, _, _, _, _, _ => Pn.none
  | fuel + 1, v6, v7, v8, v9, v10 => by
    unfold spec_l12Draw_l0
    exact
     Pn.ite (fun h3 =>
     Pn.ite (fun h4 =>
     Pn.bind (fun x1 h5 =>
     Pn.bind (fun r1 h6 =>
     Pn.ite (fun h7 =>
     LpO.go [bT, .el (E9 x1), .call [true, false] (E4 r1.1) [V.bx 47 [lF5 r1.2.b, vI r1.2.i, vI r1.2.h]], bF, .wait 2, .mask [0, 2, 3, 7, 8, 9], .ren [0, 1, 2, 3, 4]] (by kernel_rfl) (cj h3 (cj (od h4) (cj (map_ltN (od h4) h5 : (v9 : Int) < ((List.map E9 [bs [49, 56], bs [50, 54], bs [51, 52], bs [52, 50], bs [53, 57], bs [54, 55]]).length : Int)) (cj (rfl : look [] v9.toNat = none) (cj (map_get h5 : (List.map E9 [bs [49, 56], bs [50, 54], bs [51, 52], bs [52, 50], bs [53, 57], bs [54, 55]])[v9.toNat]? = some (E9 x1)) (cj (spec_l01Once_ok (l01Cur.mk v6 v7 v8) 3 r1 h6) (cj tt (cj1 (nf h7))))))))) (spec_l12Draw_l0_ok fuel r1.2.b r1.2.i r1.2.h (i64 (v9 + 1)) v10)) (fun h7 =>
     Pn.bind (fun r2 h8 =>
     Pn.ite (fun h9 =>
     LpO.go [bT, .el (E9 x1), .call [true, false] (E4 r1.1) [V.bx 47 [lF5 r1.2.b, vI r1.2.i, vI r1.2.h]], bT, .draw [4, 6, 8], .loop .go ((spec_l12Draw_s4 x1 v9 r1 r2 v10)), .loop .go ((spec_l12Draw_s4 x1 v9 r1 r2 v10)), .call [true, false] (E55 r2.1) [V.bx 47 [lF5 r2.2.b, vI r2.2.i, vI r2.2.h]], .wait 1, .shut 9, .mv, .nb 10 (.row 55 (List.map E55 (v10 ++ [r2.1])) []), .wait 2, .ren [0, 1, 2, 10, 4], .call [true, false] (E55 r2.1) [V.bx 47 [lF5 r2.2.b, vI r2.2.i, vI r2.2.h]], .wait 2, .shut 9, .mv, .nb 10 (.row 55 (List.map E55 (v10 ++ [r2.1])) []), .wait 2, .ren [0, 1, 2, 10, 4], .ren [0, 1, 2, 3, 4], .call [true, false] (E55 r2.1) [V.bx 47 [lF5 r2.2.b, vI r2.2.i, vI r2.2.h]], .wait 3, .shut 9, .mv, .nb 10 (.row 55 (List.map E55 (v10 ++ [r2.1])) []), .wait 2, .ren [0, 1, 2, 10, 4], .wait 3, .mask [0, 2, 3, 7, 8, 9], .ren [0, 1, 2, 3, 4]] (by kernel_rfl) (cj h3 (cj (od h4) (cj (map_ltN (od h4) h5 : (v9 : Int) < ((List.map E9 [bs [49, 56], bs [50, 54], bs [51, 52], bs [52, 50], bs [53, 57], bs [54, 55]]).length : Int)) (cj (rfl : look [] v9.toNat = none) (cj (map_get h5 : (List.map E9 [bs [49, 56], bs [50, 54], bs [51, 52], bs [52, 50], bs [53, 57], bs [54, 55]])[v9.toNat]? = some (E9 x1)) (cj (spec_l01Once_ok (l01Cur.mk v6 v7 v8) 3 r1 h6) (cj tt (cj (nt h7) (cj (spec_l09Draw_ok r1.2 x1 r2 h8) (cj tt (cj (cap1 (capN (by simp) h9) : (List.map E55 v10).length + [V.agg [vS r2.1.Id, vI r2.1.Limit, vI r2.1.Posted, vI r2.1.Most, vI r2.1.MostSum, lT104 r2.1.Holds, vI r2.1.Ring.Span, vI r2.1.Ring.Head, lT3 r2.1.Ring.Counts, lT3 r2.1.Ring.Sums, lT111 r2.1.Slots]].length ≤ 9223372036854775807) (cj (cap2 (capN (by simp) h9) (by decide) : ((List.map E55 v10).length + [V.agg [vS r2.1.Id, vI r2.1.Limit, vI r2.1.Posted, vI r2.1.Most, vI r2.1.MostSum, lT104 r2.1.Holds, vI r2.1.Ring.Span, vI r2.1.Ring.Head, lT3 r2.1.Ring.Counts, lT3 r2.1.Ring.Sums, lT111 r2.1.Slots]].length) * 160 ≤ 140737488355328) (cj (nb_app E55 v10 [r2.1] : Blk.row 55 ((List.map E55 v10) ++ [V.agg [vS r2.1.Id, vI r2.1.Limit, vI r2.1.Posted, vI r2.1.Most, vI r2.1.MostSum, lT104 r2.1.Holds, vI r2.1.Ring.Span, vI r2.1.Ring.Head, lT3 r2.1.Ring.Counts, lT3 r2.1.Ring.Sums, lT111 r2.1.Slots]]) [] = Blk.row 55 (List.map E55 (v10 ++ [r2.1])) []) (cj (rfl : (spec_l12Draw_s4 x1 v9 r1 r2 v10) = (spec_l12Draw_s4 x1 v9 r1 r2 v10)) (cj (spec_l09Draw_ok r1.2 x1 r2 h8) (cj tt (cj (cap1 (capN (by simp) h9) : (List.map E55 v10).length + [V.agg [vS r2.1.Id, vI r2.1.Limit, vI r2.1.Posted, vI r2.1.Most, vI r2.1.MostSum, lT104 r2.1.Holds, vI r2.1.Ring.Span, vI r2.1.Ring.Head, lT3 r2.1.Ring.Counts, lT3 r2.1.Ring.Sums, lT111 r2.1.Slots]].length ≤ 9223372036854775807) (cj (cap2 (capN (by simp) h9) (by decide) : ((List.map E55 v10).length + [V.agg [vS r2.1.Id, vI r2.1.Limit, vI r2.1.Posted, vI r2.1.Most, vI r2.1.MostSum, lT104 r2.1.Holds, vI r2.1.Ring.Span, vI r2.1.Ring.Head, lT3 r2.1.Ring.Counts, lT3 r2.1.Ring.Sums, lT111 r2.1.Slots]].length) * 160 ≤ 140737488355328) (cj (nb_app E55 v10 [r2.1] : Blk.row 55 ((List.map E55 v10) ++ [V.agg [vS r2.1.Id, vI r2.1.Limit, vI r2.1.Posted, vI r2.1.Most, vI r2.1.MostSum, lT104 r2.1.Holds, vI r2.1.Ring.Span, vI r2.1.Ring.Head, lT3 r2.1.Ring.Counts, lT3 r2.1.Ring.Sums, lT111 r2.1.Slots]]) [] = Blk.row 55 (List.map E55 (v10 ++ [r2.1])) []) (cj (rfl : (spec_l12Draw_s4 x1 v9 r1 r2 v10) = (spec_l12Draw_s4 x1 v9 r1 r2 v10)) (cj (rfl : (spec_l12Draw_s4 x1 v9 r1 r2 v10) = (spec_l12Draw_s4 x1 v9 r1 r2 v10)) (cj (spec_l09Draw_ok r1.2 x1 r2 h8) (cj tt (cj (cap1 (capN (by simp) h9) : (List.map E55 v10).length + [V.agg [vS r2.1.Id, vI r2.1.Limit, vI r2.1.Posted, vI r2.1.Most, vI r2.1.MostSum, lT104 r2.1.Holds, vI r2.1.Ring.Span, vI r2.1.Ring.Head, lT3 r2.1.Ring.Counts, lT3 r2.1.Ring.Sums, lT111 r2.1.Slots]].length ≤ 9223372036854775807) (cj (cap2 (capN (by simp) h9) (by decide) : ((List.map E55 v10).length + [V.agg [vS r2.1.Id, vI r2.1.Limit, vI r2.1.Posted, vI r2.1.Most, vI r2.1.MostSum, lT104 r2.1.Holds, vI r2.1.Ring.Span, vI r2.1.Ring.Head, lT3 r2.1.Ring.Counts, lT3 r2.1.Ring.Sums, lT111 r2.1.Slots]].length) * 160 ≤ 140737488355328) (cj (nb_app E55 v10 [r2.1] : Blk.row 55 ((List.map E55 v10) ++ [V.agg [vS r2.1.Id, vI r2.1.Limit, vI r2.1.Posted, vI r2.1.Most, vI r2.1.MostSum, lT104 r2.1.Holds, vI r2.1.Ring.Span, vI r2.1.Ring.Head, lT3 r2.1.Ring.Counts, lT3 r2.1.Ring.Sums, lT111 r2.1.Slots]]) [] = Blk.row 55 (List.map E55 (v10 ++ [r2.1])) []) (cj1 (rfl : (spec_l12Draw_s4 x1 v9 r1 r2 v10) = (spec_l12Draw_s4 x1 v9 r1 r2 v10))))))))))))))))))))))))))))) (spec_l12Draw_l0_ok fuel r2.2.b r2.2.i r2.2.h (i64 (v9 + 1)) (v10 ++ [r2.1]))) (fun h9 =>
     Pn.none)))))) (fun h4 =>
     Pn.none)) (fun h3 =>
     Pn.some (LpO.out [bF, .mask [2, 3], .ren [0, 1, 2, 3]] (by kernel_rfl) (show X.out 0 ≠ X.go from nofun) (cj1 h3)))
def spec_l12Draw (c : l01Cur) : Option (Book × l01Cur) :=
 (spec_l12Draw_l0 FUEL c.b c.i c.h 0 []).bind fun r3 =>
 some ((Book.mk r3.2.2.2), (l01Cur.mk r3.1 r3.2.1 r3.2.2.1))
theorem spec_l12Draw_ok (c : l01Cur) : Pn (fun y => Fn Tryz.prog 9 [(true, V.bx 47 [lF5 c.b, vI c.i, vI c.h])] (E36 y.1) [V.bx 47 [lF5 y.2.b, vI y.2.i, vI y.2.h]]) (spec_l12Draw c) := by
  unfold spec_l12Draw
  exact
   Pn.bind (fun r3 h10 =>
   Pn.some (Fn.of [.wait 8, .mask [0, 2, 3, 7, 8, 9], .ren [0, 1, 2, 3], .ownb 2 0, .mask [0, 2, 3, 7, 8, 9], .ren [0, 1, 2, 4, 3], .nb 4 (.row 9 (List.map E9 [bs [49, 56], bs [50, 54], bs [51, 52], bs [52, 50], bs [53, 57], bs [54, 55]]) []), .mask [0, 2, 3, 7, 8, 9], .ren [0, 1, 2, 3, 4], .loop (X.out 0) (st 26 [(2, V.ptr 1 0), (3, V.ptr 2 0)] [Blk.box 47 [lF5 r3.1, vI r3.2.1, vI r3.2.2.1], Blk.box 36 [V.nl 55], Blk.box 36 [V.ow 3], Blk.row 55 (List.map E55 r3.2.2.2) []] [some 0])] (by kernel_rfl) (cj (rfl : Blk.row 9 [vS (bs [49, 56]), vS (bs [50, 54]), vS (bs [51, 52]), vS (bs [52, 50]), vS (bs [53, 57]), vS (bs [54, 55])] [] = Blk.row 9 (List.map E9 [bs [49, 56], bs [50, 54], bs [51, 52], bs [52, 50], bs [53, 57], bs [54, 55]]) []) (cj1 (spec_l12Draw_l0_ok FUEL c.b c.i c.h 0 [] r3 h10)))))
end Go.Proofs.YtdahdpnkppknfaaGreatDoorM
