/- Printed by gen.py: functions on plain data, and that the program computes them. No condition. -/
import Derived.Test.YtlkkfamdlicaeaaM18
import Derived.Test.YtlkkfamdlicaeaaProg
import Derived.Shelf.Spec.SlicesInsert
import Derived.Lib.AppendZerosOnto
import Derived.Laws.NewBlocks
namespace Go.Proofs.YtlkkfamdlicaeaaM
set_option linter.unusedVariables false
set_option linter.unusedSimpArgs false
open Go.RowKit
set_option maxRecDepth 100000

structure Hold where
  Id : ByteArray
  Amount : Int
  Due : Int
structure Ring where
  Span : Int
  Head : Int
  Counts : List Int
  Sums : List Int
structure Slot where
  Trace : ByteArray
  Mti : ByteArray
  Reply : List Int
structure Acct where
  Id : ByteArray
  Limit : Int
  Posted : Int
  Most : Int
  MostSum : Int
  Holds : List Hold
  Ring : Ring
  Slots : List Slot
structure l01Cur where
  b : List Int
  i : Int
  h : Int
abbrev vI (x : Int) : V := V.sc (.int .i64 x)
def E5 (x : Int) : V := V.sc (.int .u8 x)
def E22 (x : List Int) : V := V.sl true 5 (List.map E5 x)
def E4 (x : Bool) : V := V.sc (.bool x)
def E9 (x : ByteArray) : V := V.sc (.string x)
def E3 (x : Int) : V := vI x
def E36 (x : Hold) : V := V.agg [V.sc (.string x.Id), vI x.Amount, vI x.Due]
def E23 (x : List Hold) : V := V.sl true 36 (List.map E36 x)
def E24 (x : List Int) : V := V.sl true 3 (List.map E3 x)
def E26 (x : Ring) : V := V.agg [vI x.Span, vI x.Head, V.sl true 3 (List.map E3 x.Counts), V.sl true 3 (List.map E3 x.Sums)]
def E94 (x : Slot) : V := V.agg [V.sc (.string x.Trace), V.sc (.string x.Mti), V.sl true 5 (List.map E5 x.Reply)]
def E27 (x : List Slot) : V := V.sl true 94 (List.map E94 x)
def E29 (x : Acct) : V := V.agg [V.sc (.string x.Id), vI x.Limit, vI x.Posted, vI x.Most, vI x.MostSum, V.sl true 36 (List.map E36 x.Holds), vI x.Ring.Span, vI x.Ring.Head, V.sl true 3 (List.map E3 x.Ring.Counts), V.sl true 3 (List.map E3 x.Ring.Sums), V.sl true 94 (List.map E94 x.Slots)]
def E52 (x : l01Cur) : V := V.agg [V.sl true 5 (List.map E5 x.b), vI x.i, vI x.h]
def E84 (x : List ByteArray) : V := V.sl true 9 (List.map E9 x)
def E112 (x : List (List Int)) : V := V.sl true 24 (List.map E24 x)
theorem nv_E5 (x : Int) : (E5 x).nv = true := by
  simp [E5, V.nv, nvL, nvL_all]
theorem nv_E22 (x : List Int) : (E22 x).nv = true := by
  simp [E22, V.nv, nvL, nvL_all, nv_E5]
theorem nv_E4 (x : Bool) : (E4 x).nv = true := by
  simp [E4, V.nv, nvL, nvL_all]
theorem nv_E9 (x : ByteArray) : (E9 x).nv = true := by
  simp [E9, V.nv, nvL, nvL_all]
theorem nv_E3 (x : Int) : (E3 x).nv = true := by
  simp [E3, V.nv, nvL, nvL_all]
theorem nv_E36 (x : Hold) : (E36 x).nv = true := by
  simp [E36, V.nv, nvL, nvL_all]
theorem nv_E23 (x : List Hold) : (E23 x).nv = true := by
  simp [E23, V.nv, nvL, nvL_all, nv_E36]
theorem nv_E24 (x : List Int) : (E24 x).nv = true := by
  simp [E24, V.nv, nvL, nvL_all, nv_E3]
theorem nv_E26 (x : Ring) : (E26 x).nv = true := by
  simp [E26, V.nv, nvL, nvL_all, nv_E3, nv_E3]
theorem nv_E94 (x : Slot) : (E94 x).nv = true := by
  simp [E94, V.nv, nvL, nvL_all, nv_E5]
theorem nv_E27 (x : List Slot) : (E27 x).nv = true := by
  simp [E27, V.nv, nvL, nvL_all, nv_E94]
theorem nv_E29 (x : Acct) : (E29 x).nv = true := by
  simp [E29, V.nv, nvL, nvL_all, nv_E36, nv_E3, nv_E3, nv_E94]
theorem nv_E52 (x : l01Cur) : (E52 x).nv = true := by
  simp [E52, V.nv, nvL, nvL_all, nv_E5]
theorem nv_E84 (x : List ByteArray) : (E84 x).nv = true := by
  simp [E84, V.nv, nvL, nvL_all, nv_E9]
theorem nv_E112 (x : List (List Int)) : (E112 x).nv = true := by
  simp [E112, V.nv, nvL, nvL_all, nv_E24]
def spec_l01New_l0 (code : List Int) : List Int → List Int → Int → Option (Int)
  | [], p1, v1 =>
   some v1
  | x1 :: t1, p1, v1 =>
   if (decide ((p1.length : Int) < 4000)) = true then
   spec_l01New_l0 code t1 (p1 ++ [x1]) (band .i64 (i64 ((i64 ((i64 (v1 * 31)) + (i64 x1))) + 7)) 1073741823)
   else
   some v1
theorem spec_l01New_l0_ok (code : List Int) (h2 : capOk code.length = true) : ∀ (t1 p1 : List Int) (_ : code = p1 ++ t1) (v1 : Int), Pn (LpO Try.prog (sub (codeOf Try.prog 19) [1, 1, 0, 1, 0, 0]) (st 32 [(0, V.sl false 5 (List.map E5 code)), (3, vI v1), (4, vI (p1.length : Int))] [] []) (fun (y : Int) => (X.out 0, st 32 [(0, V.sl false 5 (List.map E5 code)), (3, vI y)] [] []))) (spec_l01New_l0 code t1 p1 v1)
  | [], p1, h1, v1 => by
    unfold spec_l01New_l0
    exact
     Pn.some (LpO.out [.wait 3, .nm 10 (vI (code.length : Int)), .bit false, .bit false, .bit false, .bit false, .mask [0, 3], .ren []] (p := [vI ((List.map E5 code).length : Int) = vI (code.length : Int),(decide ((p1.length : Int) < (code.length : Int))) = false,(decide ((p1.length : Int) < (code.length : Int))) = false,(decide ((p1.length : Int) < (code.length : Int))) = false,false = false]) (by kernel_rfl) (show X.out 0 ≠ X.go from nofun) (cj (len_nm _ _) (cj (rng_end h1) (cj (rng_end h1) (cj (rng_end h1) (cj1 rfl))))))
  | x1 :: t1, p1, h1, v1 => by
    unfold spec_l01New_l0
    exact
     Pn.ite (fun h3 =>
     LpO.go [.wait 3, .nm 10 (vI (code.length : Int)), .bit true, .bit true, .bit true, .bit true, .el (E5 x1), .wait 10, .mask [0, 3, 4], .ren [], .nm 4 (vI ((p1 ++ [x1]).length : Int))] (p := [vI ((List.map E5 code).length : Int) = vI (code.length : Int),(decide ((p1.length : Int) < (code.length : Int))) = true,(decide ((p1.length : Int) < (code.length : Int))) = true,(decide ((p1.length : Int) < (code.length : Int))) = true,(decide ((p1.length : Int) < 4000)) = true,(0 : Int) ≤ (p1.length : Int),(List.map E5 code)[(p1.length : Int).toNat]? = some (E5 x1),vI (i64 ((p1.length : Int) + 1)) = vI ((p1 ++ [x1]).length : Int)]) (by kernel_rfl) (cj (len_nm _ _) (cj (rng_lt h1) (cj (rng_lt h1) (cj (rng_lt h1) (cj h3 (cj (by omega) (cj (rng_get _ h1) (cj1 (rng_next h1 h2))))))))) (spec_l01New_l0_ok code h2 t1 (p1 ++ [x1]) (rng_step h1) (band .i64 (i64 ((i64 ((i64 (v1 * 31)) + (i64 x1))) + 7)) 1073741823))) (fun h3 =>
     Pn.some (LpO.out [.wait 3, .nm 10 (vI (code.length : Int)), .bit true, .bit true, .bit true, .bit false, .mask [0, 3], .ren []] (p := [vI ((List.map E5 code).length : Int) = vI (code.length : Int),(decide ((p1.length : Int) < (code.length : Int))) = true,(decide ((p1.length : Int) < (code.length : Int))) = true,(decide ((p1.length : Int) < (code.length : Int))) = true,(decide ((p1.length : Int) < 4000)) = false]) (by kernel_rfl) (show X.out 0 ≠ X.go from nofun) (cj (len_nm _ _) (cj (rng_lt h1) (cj (rng_lt h1) (cj (rng_lt h1) (cj1 h3)))))))
def spec_l01New (code : List Int) : Option (l01Cur) :=
 if (capOk code.length) = true then
 (spec_l01New_l0 code code [] (i64 (1539 + (code.length : Int)))).bind fun r1 =>
 some (l01Cur.mk code 0 r1)
 else none
theorem spec_l01New_ok (code : List Int) : Pn (fun y => Fn Try.prog 19 [(false, E22 code)] (V.bx 52 [V.sl false 5 (List.map E5 y.b), vI y.i, vI y.h]) []) (spec_l01New code) := by
  unfold spec_l01New
  exact
   Pn.ite (fun h4 =>
   Pn.bind (fun r1 h5 =>
   Pn.some (Fn.of [.wait 3, .nm 6 (vI (code.length : Int)), .wait 4, .mask [0, 3, 4], .ren [], .loop (X.out 0) (st 32 [(0, V.sl false 5 (List.map E5 code)), (3, vI r1)] [] [])] (p := [vI ((List.map E5 code).length : Int) = vI (code.length : Int),Loop Try.prog (sub (codeOf Try.prog 19) [1, 1, 0, 1, 0, 0]) (st 32 [(0, V.sl false 5 (List.map E5 code)), (3, vI (i64 (1539 + (code.length : Int)))), (4, vI 0)] [] []) (X.out 0) (st 32 [(0, V.sl false 5 (List.map E5 code)), (3, vI r1)] [] [])]) (by kernel_rfl) (cj (len_nm _ _) (cj1 (spec_l01New_l0_ok code h4 code [] rfl (i64 (1539 + (code.length : Int))) r1 h5)))))) (fun h4 =>
   Pn.none)
def spec_l01Byte (c : l01Cur) : Option (Int × l01Cur) :=
 if (decide (c.i < (c.b.length : Int))) = true then
 if (decide (0 ≤ c.i)) = true then
 (c.b[c.i.toNat]?).bind fun x1 =>
 some (band .i64 (i64 ((band .i64 (bxor .i64 (bshr .i64 (i64 ((i64 (c.h * 6364136223846793005)) + 1442695040888963407)) 33) (bshr .i64 (i64 ((i64 (c.h * 6364136223846793005)) + 1442695040888963407)) 45)) 255) + (i64 x1))) 255, (l01Cur.mk c.b (i64 (c.i + 1)) (i64 ((i64 (c.h * 6364136223846793005)) + 1442695040888963407))))
 else none
 else
 some (band .i64 (bxor .i64 (bshr .i64 (i64 ((i64 (c.h * 6364136223846793005)) + 1442695040888963407)) 33) (bshr .i64 (i64 ((i64 (c.h * 6364136223846793005)) + 1442695040888963407)) 45)) 255, (l01Cur.mk c.b c.i (i64 ((i64 (c.h * 6364136223846793005)) + 1442695040888963407))))
theorem spec_l01Byte_ok (c : l01Cur) : Pn (fun y => Fn Try.prog 58 [(true, V.bx 52 [V.sl false 5 (List.map E5 c.b), vI c.i, vI c.h])] (E3 y.1) [V.bx 52 [V.sl false 5 (List.map E5 y.2.b), vI y.2.i, vI y.2.h]]) (spec_l01Byte c) := by
  unfold spec_l01Byte
  exact
   Pn.ite (fun h1 =>
   Pn.ite (fun h2 =>
   Pn.bind (fun x1 h3 =>
   Pn.some (Fn.of [.draw [], .draw [], .wait 8, .nm 33 (vI (c.b.length : Int)), .bit true, .draw [], .el (E5 x1)] (p := [¬ (33 : Int) < 0,¬ (45 : Int) < 0,vI ((List.map E5 c.b).length : Int) = vI (c.b.length : Int),(decide (c.i < (c.b.length : Int))) = true,(0 : Int) ≤ c.i,(List.map E5 c.b)[c.i.toNat]? = some (E5 x1)]) (by kernel_rfl) (cj (by decide) (cj (by decide) (cj (len_nm _ _) (cj h1 (cj (od h2) (cj1 (map_get h3)))))))))) (fun h2 =>
   Pn.none)) (fun h1 =>
   Pn.some (Fn.of [.draw [], .draw [], .wait 8, .nm 33 (vI (c.b.length : Int)), .bit false] (p := [¬ (33 : Int) < 0,¬ (45 : Int) < 0,vI ((List.map E5 c.b).length : Int) = vI (c.b.length : Int),(decide (c.i < (c.b.length : Int))) = false]) (by kernel_rfl) (cj (by decide) (cj (by decide) (cj (len_nm _ _) (cj1 h1))))))
def spec_l01Below (c : l01Cur) (n : Int) : Option (Int × l01Cur) :=
 if (decide (n ≤ 0)) = true then
 some (0, c)
 else
 if (decide (n ≤ 256)) = true then
 (spec_l01Byte c).bind fun r1 =>
 if (decide (n ≠ 0)) = true then
 some (Int.tmod r1.1 n, r1.2)
 else none
 else
 (spec_l01Byte c).bind fun r2 =>
 (spec_l01Byte r2.2).bind fun r3 =>
 (spec_l01Byte r3.2).bind fun r4 =>
 (spec_l01Byte r4.2).bind fun r5 =>
 if (decide (n ≠ 0)) = true then
 some (Int.tmod (i64 ((i64 ((i64 ((i64 (r2.1 * 16777216)) + (i64 (r3.1 * 65536)))) + (i64 (r4.1 * 256)))) + r5.1)) n, r5.2)
 else none
theorem spec_l01Below_ok (c : l01Cur) (n : Int) : Pn (fun y => Fn Try.prog 22 [(true, V.bx 52 [V.sl false 5 (List.map E5 c.b), vI c.i, vI c.h]), (false, E3 n)] (E3 y.1) [V.bx 52 [V.sl false 5 (List.map E5 y.2.b), vI y.2.i, vI y.2.h]]) (spec_l01Below c n) := by
  unfold spec_l01Below
  exact
   Pn.ite (fun h1 =>
   Pn.some (Fn.of [.bit true] (p := [(decide (n ≤ 0)) = true]) (by kernel_rfl) (cj1 h1))) (fun h1 =>
   Pn.ite (fun h2 =>
   Pn.bind (fun r1 h3 =>
   Pn.ite (fun h4 =>
   Pn.some (Fn.of [.bit false, .bit true, .call [true] (E3 r1.1) [V.bx 52 [V.sl false 5 (List.map E5 r1.2.b), vI r1.2.i, vI r1.2.h]]] (p := [(decide (n ≤ 0)) = false,(decide (n ≤ 256)) = true,Fn Try.prog 58 [(true, V.bx 52 [V.sl false 5 (List.map E5 c.b), vI c.i, vI c.h])] (E3 r1.1) [V.bx 52 [V.sl false 5 (List.map E5 r1.2.b), vI r1.2.i, vI r1.2.h]],(true || ((E3 r1.1).nv && nvL [V.bx 52 [V.sl false 5 (List.map E5 r1.2.b), vI r1.2.i, vI r1.2.h]])) = true,(n : Int) ≠ 0]) (by kernel_rfl) (cj h1 (cj h2 (cj (spec_l01Byte_ok c r1 h3) (cj rfl (cj1 (od h4)))))))) (fun h4 =>
   Pn.none))) (fun h2 =>
   Pn.bind (fun r2 h5 =>
   Pn.bind (fun r3 h6 =>
   Pn.bind (fun r4 h7 =>
   Pn.bind (fun r5 h8 =>
   Pn.ite (fun h9 =>
   Pn.some (Fn.of [.bit false, .bit false, .call [true] (E3 r2.1) [V.bx 52 [V.sl false 5 (List.map E5 r2.2.b), vI r2.2.i, vI r2.2.h]], .call [true] (E3 r3.1) [V.bx 52 [V.sl false 5 (List.map E5 r3.2.b), vI r3.2.i, vI r3.2.h]], .call [true] (E3 r4.1) [V.bx 52 [V.sl false 5 (List.map E5 r4.2.b), vI r4.2.i, vI r4.2.h]], .call [true] (E3 r5.1) [V.bx 52 [V.sl false 5 (List.map E5 r5.2.b), vI r5.2.i, vI r5.2.h]]] (p := [(decide (n ≤ 0)) = false,(decide (n ≤ 256)) = false,Fn Try.prog 58 [(true, V.bx 52 [V.sl false 5 (List.map E5 c.b), vI c.i, vI c.h])] (E3 r2.1) [V.bx 52 [V.sl false 5 (List.map E5 r2.2.b), vI r2.2.i, vI r2.2.h]],(true || ((E3 r2.1).nv && nvL [V.bx 52 [V.sl false 5 (List.map E5 r2.2.b), vI r2.2.i, vI r2.2.h]])) = true,Fn Try.prog 58 [(true, V.bx 52 [V.sl false 5 (List.map E5 r2.2.b), vI r2.2.i, vI r2.2.h])] (E3 r3.1) [V.bx 52 [V.sl false 5 (List.map E5 r3.2.b), vI r3.2.i, vI r3.2.h]],(true || ((E3 r3.1).nv && nvL [V.bx 52 [V.sl false 5 (List.map E5 r3.2.b), vI r3.2.i, vI r3.2.h]])) = true,Fn Try.prog 58 [(true, V.bx 52 [V.sl false 5 (List.map E5 r3.2.b), vI r3.2.i, vI r3.2.h])] (E3 r4.1) [V.bx 52 [V.sl false 5 (List.map E5 r4.2.b), vI r4.2.i, vI r4.2.h]],(true || ((E3 r4.1).nv && nvL [V.bx 52 [V.sl false 5 (List.map E5 r4.2.b), vI r4.2.i, vI r4.2.h]])) = true,Fn Try.prog 58 [(true, V.bx 52 [V.sl false 5 (List.map E5 r4.2.b), vI r4.2.i, vI r4.2.h])] (E3 r5.1) [V.bx 52 [V.sl false 5 (List.map E5 r5.2.b), vI r5.2.i, vI r5.2.h]],(true || ((E3 r5.1).nv && nvL [V.bx 52 [V.sl false 5 (List.map E5 r5.2.b), vI r5.2.i, vI r5.2.h]])) = true,(n : Int) ≠ 0]) (by kernel_rfl) (cj h1 (cj h2 (cj (spec_l01Byte_ok c r2 h5) (cj rfl (cj (spec_l01Byte_ok r2.2 r3 h6) (cj rfl (cj (spec_l01Byte_ok r3.2 r4 h7) (cj rfl (cj (spec_l01Byte_ok r4.2 r5 h8) (cj rfl (cj1 (od h9)))))))))))))) (fun h9 =>
   Pn.none)))))))
def spec_l01Str (c : l01Cur) (l : List ByteArray) : Option (ByteArray × l01Cur × (List ByteArray)) :=
 (spec_l01Below c (l.length : Int)).bind fun r1 =>
 if (decide (0 ≤ r1.1)) = true then
 (l[r1.1.toNat]?).bind fun x1 =>
 some (x1, r1.2, l)
 else none
theorem spec_l01Str_ok (c : l01Cur) (l : List ByteArray) : Pn (fun y => Fn Try.prog 57 [(true, V.bx 52 [V.sl false 5 (List.map E5 c.b), vI c.i, vI c.h]), (true, E84 l)] (E9 y.1) [V.bx 52 [V.sl false 5 (List.map E5 y.2.1.b), vI y.2.1.i, vI y.2.1.h], V.sl true 9 (List.map E9 y.2.2)]) (spec_l01Str c l) := by
  unfold spec_l01Str
  exact
   Pn.bind (fun r1 h1 =>
   Pn.ite (fun h2 =>
   Pn.bind (fun x1 h3 =>
   Pn.some (Fn.of [.wait 5, .nm 8 (vI (l.length : Int)), .call [true, false] (E3 r1.1) [V.bx 52 [V.sl false 5 (List.map E5 r1.2.b), vI r1.2.i, vI r1.2.h]], .el (E9 x1)] (p := [vI ((List.map E9 l).length : Int) = vI (l.length : Int),Fn Try.prog 22 [(true, V.bx 52 [V.sl false 5 (List.map E5 c.b), vI c.i, vI c.h]), (false, E3 (l.length : Int))] (E3 r1.1) [V.bx 52 [V.sl false 5 (List.map E5 r1.2.b), vI r1.2.i, vI r1.2.h]],(true || ((E3 r1.1).nv && nvL [V.bx 52 [V.sl false 5 (List.map E5 r1.2.b), vI r1.2.i, vI r1.2.h]])) = true,(0 : Int) ≤ r1.1,(r1.1 : Int) < ((List.map E9 l).length : Int),look [] r1.1.toNat = none,(List.map E9 l)[r1.1.toNat]? = some (E9 x1)]) (by kernel_rfl) (cj (len_nm _ _) (cj (spec_l01Below_ok c (l.length : Int) r1 h1) (cj rfl (cj (od h2) (cj (map_ltN (od h2) h3) (cj rfl (cj1 (map_get h3))))))))))) (fun h2 =>
   Pn.none))
def spec_l09Id (c : l01Cur) : Option (ByteArray × l01Cur) :=
 (spec_l01Str c [bs [49, 56], bs [50, 54], bs [51, 52], bs [52, 50], bs [53, 57], bs [54, 55]]).bind fun r1 =>
 some (r1.1, r1.2.1)
theorem spec_l09Id_ok (c : l01Cur) : Pn (fun y => Fn Try.prog 42 [(true, V.bx 52 [V.sl false 5 (List.map E5 c.b), vI c.i, vI c.h])] (E9 y.1) [V.bx 52 [V.sl false 5 (List.map E5 y.2.b), vI y.2.i, vI y.2.h]]) (spec_l09Id c) := by
  unfold spec_l09Id
  exact
   Pn.bind (fun r1 h1 =>
   Pn.some (Fn.of [.call [true, true] (E9 r1.1) [V.bx 52 [V.sl false 5 (List.map E5 r1.2.1.b), vI r1.2.1.i, vI r1.2.1.h], V.sl true 9 (List.map E9 r1.2.2)]] (p := [Fn Try.prog 57 [(true, V.bx 52 [V.sl false 5 (List.map E5 c.b), vI c.i, vI c.h]), (true, E84 [bs [49, 56], bs [50, 54], bs [51, 52], bs [52, 50], bs [53, 57], bs [54, 55]])] (E9 r1.1) [V.bx 52 [V.sl false 5 (List.map E5 r1.2.1.b), vI r1.2.1.i, vI r1.2.1.h], V.sl true 9 (List.map E9 r1.2.2)],(true || ((E9 r1.1).nv && nvL [V.bx 52 [V.sl false 5 (List.map E5 r1.2.1.b), vI r1.2.1.i, vI r1.2.1.h], V.sl true 9 (List.map E9 r1.2.2)])) = true]) (by kernel_rfl) (cj (spec_l01Str_ok c [bs [49, 56], bs [50, 54], bs [51, 52], bs [52, 50], bs [53, 57], bs [54, 55]] r1 h1) (cj1 rfl))))
def spec_l01Pick (c : l01Cur) (l : List Int) : Option (Int × l01Cur × (List Int)) :=
 (spec_l01Below c (l.length : Int)).bind fun r1 =>
 if (decide (0 ≤ r1.1)) = true then
 (l[r1.1.toNat]?).bind fun x1 =>
 some (x1, r1.2, l)
 else none
theorem spec_l01Pick_ok (c : l01Cur) (l : List Int) : Pn (fun y => Fn Try.prog 50 [(true, V.bx 52 [V.sl false 5 (List.map E5 c.b), vI c.i, vI c.h]), (true, E24 l)] (E3 y.1) [V.bx 52 [V.sl false 5 (List.map E5 y.2.1.b), vI y.2.1.i, vI y.2.1.h], V.sl true 3 (List.map E3 y.2.2)]) (spec_l01Pick c l) := by
  unfold spec_l01Pick
  exact
   Pn.bind (fun r1 h1 =>
   Pn.ite (fun h2 =>
   Pn.bind (fun x1 h3 =>
   Pn.some (Fn.of [.wait 5, .nm 8 (vI (l.length : Int)), .call [true, false] (E3 r1.1) [V.bx 52 [V.sl false 5 (List.map E5 r1.2.b), vI r1.2.i, vI r1.2.h]], .el (E3 x1)] (p := [vI ((List.map E3 l).length : Int) = vI (l.length : Int),Fn Try.prog 22 [(true, V.bx 52 [V.sl false 5 (List.map E5 c.b), vI c.i, vI c.h]), (false, E3 (l.length : Int))] (E3 r1.1) [V.bx 52 [V.sl false 5 (List.map E5 r1.2.b), vI r1.2.i, vI r1.2.h]],(true || ((E3 r1.1).nv && nvL [V.bx 52 [V.sl false 5 (List.map E5 r1.2.b), vI r1.2.i, vI r1.2.h]])) = true,(0 : Int) ≤ r1.1,(r1.1 : Int) < ((List.map E3 l).length : Int),look [] r1.1.toNat = none,(List.map E3 l)[r1.1.toNat]? = some (E3 x1)]) (by kernel_rfl) (cj (len_nm _ _) (cj (spec_l01Below_ok c (l.length : Int) r1 h1) (cj rfl (cj (od h2) (cj (map_ltN (od h2) h3) (cj rfl (cj1 (map_get h3))))))))))) (fun h2 =>
   Pn.none))
def spec_l01In (n : Int) (lo : Int) (hi : Int) : Option (Bool) :=
 if (decide (lo ≤ n)) = true then
 some (decide (n ≤ hi))
 else
 some false
theorem spec_l01In_ok (n : Int) (lo : Int) (hi : Int) : Pn (fun y => Fn Try.prog 62 [(false, E3 n), (false, E3 lo), (false, E3 hi)] (E4 y) []) (spec_l01In n lo hi) := by
  unfold spec_l01In
  exact
   Pn.ite (fun h1 =>
   Pn.some (Fn.of [.bit true, .bit true, .bit true, .bit true] (p := [(decide (lo ≤ n)) = true,(decide (lo ≤ n)) = true,(decide (lo ≤ n)) = true,(decide (lo ≤ n)) = true]) (by kernel_rfl) (cj h1 (cj h1 (cj h1 (cj1 h1)))))) (fun h1 =>
   Pn.some (Fn.of [.bit false, .bit false, .bit false, .bit false] (p := [(decide (lo ≤ n)) = false,(decide (lo ≤ n)) = false,(decide (lo ≤ n)) = false,(decide (lo ≤ n)) = false]) (by kernel_rfl) (cj h1 (cj h1 (cj h1 (cj1 h1))))))
def spec_RingNew_s1 (buckets : Int) (span : Int) (r1 : Bool) (r2 : Bool) : St := st 21 [(0, vI buckets), (1, vI span), (4, V.ptr 0 0), (5, V.sc (.bool true)), (6, vI buckets), (7, V.sc (.bool r1)), (8, V.sc (.bool (!r1))), (9, V.sc (.bool (!r1))), (10, vI span), (11, V.sc (.bool r2)), (12, V.sc (.bool (!r2))), (13, V.sc (.bool (!r2))), (15, vI span), (16, vI buckets), (17, V.ow 1), (18, vI buckets), (19, V.ow 2), (20, V.agg [vI span, vI 0, V.ow 1, V.ow 2])] [Blk.box 26 [vI span, vI 0, V.ow 1, V.ow 2], Blk.row 3 (List.map E3 (List.replicate buckets.toNat 0)) [], Blk.row 3 (List.map E3 (List.replicate buckets.toNat 0)) []] []
def spec_RingNew (buckets : Int) (span : Int) : Option (Ring × Bool) :=
 (spec_l01In buckets 1 8).bind fun r1 =>
 if r1 = true then
 (spec_l01In span 1 1000).bind fun r2 =>
 if r2 = true then
 if (decide (0 ≤ buckets)) = true then
 if (capOk buckets.toNat) = true then
 some ((Ring.mk span 0 (List.replicate buckets.toNat 0) (List.replicate buckets.toNat 0)), true)
 else none
 else none
 else
 some ((Ring.mk 0 0 [] []), false)
 else
 some ((Ring.mk 0 0 [] []), false)
theorem spec_RingNew_ok (buckets : Int) (span : Int) : Pn (fun y => Fn Try.prog 82 [(false, E3 buckets), (false, E3 span)] (V.tup [E26 y.1, E4 y.2]) []) (spec_RingNew buckets span) := by
  unfold spec_RingNew
  exact
   Pn.bind (fun r1 h1 =>
   Pn.ite (fun h2 =>
   Pn.bind (fun r2 h3 =>
   Pn.ite (fun h4 =>
   Pn.ite (fun h5 =>
   Pn.ite (fun h6 =>
   Pn.some (Fn.of [.call [] (E4 r1) [], .bit false, .bit false, .call [] (E4 r2) [], .bit false, .bit false, .bit false, .draw [6], .loop .go ((spec_RingNew_s1 buckets span r1 r2)), .nb 1 (.row 3 (List.map E3 (List.replicate buckets.toNat 0)) []), .wait 1, .nb 2 (.row 3 (List.map E3 (List.replicate buckets.toNat 0)) []), .wait 3, .ren [0, 1, 2], .wait 1, .nb 1 (.row 3 (List.map E3 (List.replicate buckets.toNat 0)) []), .wait 1, .nb 2 (.row 3 (List.map E3 (List.replicate buckets.toNat 0)) []), .wait 3, .ren [0, 2, 1]] (p := [Fn Try.prog 62 [(false, E3 buckets), (false, E3 1), (false, E3 8)] (E4 r1) [],(true || ((E4 r1).nv && nvL [])) = true,(!r1) = false,(!r1) = false,Fn Try.prog 62 [(false, E3 span), (false, E3 1), (false, E3 1000)] (E4 r2) [],(true || ((E4 r2).nv && nvL [])) = true,(!r1) = false,(!r1) = false,(!r2) = false,(buckets : Int) = buckets,(0 : Int) ≤ buckets,(buckets : Int) ≤ 9223372036854775807,8 * buckets.toNat ≤ 281474976710656,Blk.row 3 (List.replicate buckets.toNat (vI 0)) [] = Blk.row 3 (List.map E3 (List.replicate buckets.toNat 0)) [],(buckets : Int) = buckets,(0 : Int) ≤ buckets,(buckets : Int) ≤ 9223372036854775807,8 * buckets.toNat ≤ 281474976710656,Blk.row 3 (List.replicate buckets.toNat (vI 0)) [] = Blk.row 3 (List.map E3 (List.replicate buckets.toNat 0)) [],(spec_RingNew_s1 buckets span r1 r2) = (spec_RingNew_s1 buckets span r1 r2),(buckets : Int) = buckets,(0 : Int) ≤ buckets,(buckets : Int) ≤ 9223372036854775807,8 * buckets.toNat ≤ 281474976710656,Blk.row 3 (List.replicate buckets.toNat (vI 0)) [] = Blk.row 3 (List.map E3 (List.replicate buckets.toNat 0)) [],(buckets : Int) = buckets,(0 : Int) ≤ buckets,(buckets : Int) ≤ 9223372036854775807,8 * buckets.toNat ≤ 281474976710656,Blk.row 3 (List.replicate buckets.toNat (vI 0)) [] = Blk.row 3 (List.map E3 (List.replicate buckets.toNat 0)) [],(spec_RingNew_s1 buckets span r1 r2) = (spec_RingNew_s1 buckets span r1 r2)]) (by kernel_rfl) (cj (spec_l01In_ok buckets 1 8 r1 h1) (cj rfl (cj (nf h2) (cj (nf h2) (cj (spec_l01In_ok span 1 1000 r2 h3) (cj rfl (cj (nf h2) (cj (nf h2) (cj (nf h4) (cj rfl (cj (od h5) (cj (cap3 h5 h6) (cj (cap4 h6 (by decide)) (cj (nb_rep E3 _ 0) (cj rfl (cj (od h5) (cj (cap3 h5 h6) (cj (cap4 h6 (by decide)) (cj (nb_rep E3 _ 0) (cj rfl (cj rfl (cj (od h5) (cj (cap3 h5 h6) (cj (cap4 h6 (by decide)) (cj (nb_rep E3 _ 0) (cj rfl (cj (od h5) (cj (cap3 h5 h6) (cj (cap4 h6 (by decide)) (cj (nb_rep E3 _ 0) (cj1 rfl))))))))))))))))))))))))))))))))) (fun h6 =>
   Pn.none)) (fun h5 =>
   Pn.none)) (fun h4 =>
   Pn.some (Fn.of [.call [] (E4 r1) [], .bit false, .bit false, .call [] (E4 r2) [], .bit false, .bit false, .bit true] (p := [Fn Try.prog 62 [(false, E3 buckets), (false, E3 1), (false, E3 8)] (E4 r1) [],(true || ((E4 r1).nv && nvL [])) = true,(!r1) = false,(!r1) = false,Fn Try.prog 62 [(false, E3 span), (false, E3 1), (false, E3 1000)] (E4 r2) [],(true || ((E4 r2).nv && nvL [])) = true,(!r1) = false,(!r1) = false,(!r2) = true]) (by kernel_rfl) (cj (spec_l01In_ok buckets 1 8 r1 h1) (cj rfl (cj (nf h2) (cj (nf h2) (cj (spec_l01In_ok span 1 1000 r2 h3) (cj rfl (cj (nf h2) (cj (nf h2) (cj1 (nt h4)))))))))))))) (fun h2 =>
   Pn.some (Fn.of [.call [] (E4 r1) [], .bit true, .bit true, .bit true, .bit true, .bit true] (p := [Fn Try.prog 62 [(false, E3 buckets), (false, E3 1), (false, E3 8)] (E4 r1) [],(true || ((E4 r1).nv && nvL [])) = true,(!r1) = true,(!r1) = true,(!r1) = true,(!r1) = true,true = true]) (by kernel_rfl) (cj (spec_l01In_ok buckets 1 8 r1 h1) (cj rfl (cj (nt h2) (cj (nt h2) (cj (nt h2) (cj (nt h2) (cj1 rfl))))))))))
def spec_Digits_l0 (s_ : ByteArray) : Nat → Int → Option (Lo Unit Unit)
  | 0, _ => none
  | fuel + 1, v1 =>
   if (decide (v1 < (s_.size : Int))) = true then
   if (decide (0 ≤ v1)) = true then
   if (decide ((v1 : Int) < (s_.size : Int))) = true then
   if (decide ((sAt s_ v1) < 48)) = true then
   some (.ret ())
   else
   if (decide (57 < (sAt s_ v1))) = true then
   some (.ret ())
   else
   spec_Digits_l0 s_ fuel (i64 (v1 + 1))
   else none
   else none
   else
   some (.out ())
theorem spec_Digits_l0_ok (s_ : ByteArray) : ∀ (fuel : Nat) (v1 : Int), Pn (LpO Try.prog (sub (codeOf Try.prog 105) [1, 0, 1, 0, 0]) (st 23 [(0, V.sc (.string s_)), (3, vI v1)] [] []) (fun (y : Lo Unit Unit) => Lo.elim y (fun s => (X.out 0, st 23 [(0, V.sc (.string s_))] [] [])) (fun s => (X.ret, st 23 [(2, V.sc (.bool false))] [] [])))) (spec_Digits_l0 s_ fuel v1)
  | 0, _ => Pn.none
  | fuel + 1, v1 => by
    unfold spec_Digits_l0
    exact
     Pn.ite (fun h1 =>
     Pn.ite (fun h2 =>
     Pn.ite (fun h3 =>
     Pn.ite (fun h4 =>
     Pn.some (LpO.out [.bit true, .bit true, .bit true, .bit true, .bit true, .bit true, .bit true, .wait 1, .mask [2], .ren []] (p := [(decide (v1 < (s_.size : Int))) = true,(0 : Int) ≤ v1,(v1 : Int) < s_.size,(decide ((sAt s_ v1) < 48)) = true,(decide ((sAt s_ v1) < 48)) = true,(decide ((sAt s_ v1) < 48)) = true,(decide ((sAt s_ v1) < 48)) = true,(decide ((sAt s_ v1) < 48)) = true,true = true]) (by kernel_rfl) (show X.ret ≠ X.go from nofun) (cj h1 (cj (od h2) (cj (od h3) (cj h4 (cj h4 (cj h4 (cj h4 (cj h4 (cj1 rfl))))))))))) (fun h4 =>
     Pn.ite (fun h5 =>
     Pn.some (LpO.out [.bit true, .bit false, .bit false, .bit false, .bit false, .bit false, .bit true, .wait 1, .mask [2], .ren []] (p := [(decide (v1 < (s_.size : Int))) = true,(0 : Int) ≤ v1,(v1 : Int) < s_.size,(decide ((sAt s_ v1) < 48)) = false,(decide ((sAt s_ v1) < 48)) = false,(decide ((sAt s_ v1) < 48)) = false,(0 : Int) ≤ v1,(v1 : Int) < s_.size,(decide ((sAt s_ v1) < 48)) = false,(decide ((sAt s_ v1) < 48)) = false,(decide (57 < (sAt s_ v1))) = true]) (by kernel_rfl) (show X.ret ≠ X.go from nofun) (cj h1 (cj (od h2) (cj (od h3) (cj h4 (cj h4 (cj h4 (cj (od h2) (cj (od h3) (cj h4 (cj h4 (cj1 h5))))))))))))) (fun h5 =>
     LpO.go [.bit true, .bit false, .bit false, .bit false, .bit false, .bit false, .bit false, .wait 3, .mask [0, 3], .ren []] (p := [(decide (v1 < (s_.size : Int))) = true,(0 : Int) ≤ v1,(v1 : Int) < s_.size,(decide ((sAt s_ v1) < 48)) = false,(decide ((sAt s_ v1) < 48)) = false,(decide ((sAt s_ v1) < 48)) = false,(0 : Int) ≤ v1,(v1 : Int) < s_.size,(decide ((sAt s_ v1) < 48)) = false,(decide ((sAt s_ v1) < 48)) = false,(decide (57 < (sAt s_ v1))) = false]) (by kernel_rfl) (cj h1 (cj (od h2) (cj (od h3) (cj h4 (cj h4 (cj h4 (cj (od h2) (cj (od h3) (cj h4 (cj h4 (cj1 h5))))))))))) (spec_Digits_l0_ok s_ fuel (i64 (v1 + 1)))))) (fun h3 =>
     Pn.none)) (fun h2 =>
     Pn.none)) (fun h1 =>
     Pn.some (LpO.out [.bit false, .mask [0], .ren []] (p := [(decide (v1 < (s_.size : Int))) = false]) (by kernel_rfl) (show X.out 0 ≠ X.go from nofun) (cj1 h1)))
def spec_Digits (s_ : ByteArray) : Option (Bool) :=
 (spec_Digits_l0 s_ FUEL 0).bind fun r1 =>
 Lo.elim r1 (fun s1 =>
 some (decide (0 < (s_.size : Int)))) (fun s2 =>
 some false)
theorem spec_Digits_ok (s_ : ByteArray) : Pn (fun y => Fn Try.prog 105 [(false, E9 s_)] (E4 y) []) (spec_Digits s_) := by
  unfold spec_Digits
  exact
   Pn.bind (fun r1 h6 =>
   Pn.lo (fun s1 h7 =>
   Pn.some (Fn.of [.wait 3, .mask [0, 3], .ren [], .loop (X.out 0) (st 23 [(0, V.sc (.string s_))] [] [])] (p := [Loop Try.prog (sub (codeOf Try.prog 105) [1, 0, 1, 0, 0]) (st 23 [(0, V.sc (.string s_)), (3, vI 0)] [] []) (X.out 0) (st 23 [(0, V.sc (.string s_))] [] [])]) (by kernel_rfl) (cj1 ((spec_Digits_l0_ok s_ FUEL 0 r1 h6).at h7 :)))) (fun s2 h8 =>
   Pn.some (Fn.of [.wait 3, .mask [0, 3], .ren [], .loop (X.ret) (st 23 [(2, V.sc (.bool false))] [] [])] (p := [Loop Try.prog (sub (codeOf Try.prog 105) [1, 0, 1, 0, 0]) (st 23 [(0, V.sc (.string s_)), (3, vI 0)] [] []) (X.ret) (st 23 [(2, V.sc (.bool false))] [] [])]) (by kernel_rfl) (cj1 ((spec_Digits_l0_ok s_ FUEL 0 r1 h6).at h8 :)))))
def spec_Luhn_l0 (s_ : ByteArray) : Nat → Int → Bool → Int → Option (Int)
  | 0, _, _, _ => none
  | fuel + 1, v1, v2, v3 =>
   if (decide (0 ≤ v3)) = true then
   if (decide ((v3 : Int) < (s_.size : Int))) = true then
   if v2 = true then
   if (decide (9 < (i64 (2 * (i64 ((i64 (sAt s_ v3)) - 48)))))) = true then
   spec_Luhn_l0 s_ fuel (Int.tmod (i64 (v1 + (i64 ((i64 (2 * (i64 ((i64 (sAt s_ v3)) - 48)))) - 9)))) 10) (!v2) (i64 (v3 - 1))
   else
   spec_Luhn_l0 s_ fuel (Int.tmod (i64 (v1 + (i64 (2 * (i64 ((i64 (sAt s_ v3)) - 48)))))) 10) (!v2) (i64 (v3 - 1))
   else
   spec_Luhn_l0 s_ fuel (Int.tmod (i64 (v1 + (i64 ((i64 (sAt s_ v3)) - 48)))) 10) (!v2) (i64 (v3 - 1))
   else none
   else
   some v1
theorem spec_Luhn_l0_ok (s_ : ByteArray) : ∀ (fuel : Nat) (v1 : Int) (v2 : Bool) (v3 : Int), Pn (LpO Try.prog (sub (codeOf Try.prog 106) [1, 1, 1, 1, 0, 1, 0, 0]) (st 38 [(0, V.sc (.string s_)), (3, vI v1), (4, V.sc (.bool v2)), (5, vI v3)] [] []) (fun (y : Int) => (X.out 0, st 38 [(3, vI y)] [] []))) (spec_Luhn_l0 s_ fuel v1 v2 v3)
  | 0, _, _, _ => Pn.none
  | fuel + 1, v1, v2, v3 => by
    unfold spec_Luhn_l0
    exact
     Pn.ite (fun h3 =>
     Pn.ite (fun h4 =>
     Pn.ite (fun h5 =>
     Pn.ite (fun h6 =>
     LpO.go [.bit true, .bit true, .bit true, .wait 14, .mask [0, 3, 4, 5], .ren []] (p := [(decide (0 ≤ v3)) = true,(0 : Int) ≤ v3,(v3 : Int) < s_.size,v2 = true,(decide (9 < (i64 (2 * (i64 ((i64 (sAt s_ v3)) - 48)))))) = true,(10 : Int) ≠ 0]) (by kernel_rfl) (cj h3 (cj (od h3) (cj (od h4) (cj h5 (cj h6 (cj1 (by decide))))))) (spec_Luhn_l0_ok s_ fuel (Int.tmod (i64 (v1 + (i64 ((i64 (2 * (i64 ((i64 (sAt s_ v3)) - 48)))) - 9)))) 10) (!v2) (i64 (v3 - 1)))) (fun h6 =>
     LpO.go [.bit true, .bit true, .bit false, .wait 11, .mask [0, 3, 4, 5], .ren []] (p := [(decide (0 ≤ v3)) = true,(0 : Int) ≤ v3,(v3 : Int) < s_.size,v2 = true,(decide (9 < (i64 (2 * (i64 ((i64 (sAt s_ v3)) - 48)))))) = false,(10 : Int) ≠ 0]) (by kernel_rfl) (cj h3 (cj (od h3) (cj (od h4) (cj h5 (cj h6 (cj1 (by decide))))))) (spec_Luhn_l0_ok s_ fuel (Int.tmod (i64 (v1 + (i64 (2 * (i64 ((i64 (sAt s_ v3)) - 48)))))) 10) (!v2) (i64 (v3 - 1))))) (fun h5 =>
     LpO.go [.bit true, .bit false, .wait 11, .mask [0, 3, 4, 5], .ren []] (p := [(decide (0 ≤ v3)) = true,(0 : Int) ≤ v3,(v3 : Int) < s_.size,v2 = false,(10 : Int) ≠ 0]) (by kernel_rfl) (cj h3 (cj (od h3) (cj (od h4) (cj h5 (cj1 (by decide)))))) (spec_Luhn_l0_ok s_ fuel (Int.tmod (i64 (v1 + (i64 ((i64 (sAt s_ v3)) - 48)))) 10) (!v2) (i64 (v3 - 1))))) (fun h4 =>
     Pn.none)) (fun h3 =>
     Pn.some (LpO.out [.bit false, .mask [3], .ren []] (p := [(decide (0 ≤ v3)) = false]) (by kernel_rfl) (show X.out 0 ≠ X.go from nofun) (cj1 h3)))
def spec_Luhn (s_ : ByteArray) : Option (Int) :=
 (spec_Digits s_).bind fun r1 =>
 if r1 = true then
 (spec_Luhn_l0 s_ FUEL 0 true (i64 ((s_.size : Int) - 1))).bind fun r2 =>
 some (Int.tmod (i64 (10 - r2)) 10)
 else
 some (-1)
theorem spec_Luhn_ok (s_ : ByteArray) : Pn (fun y => Fn Try.prog 106 [(false, E9 s_)] (E3 y) []) (spec_Luhn s_) := by
  unfold spec_Luhn
  exact
   Pn.bind (fun r1 h1 =>
   Pn.ite (fun h2 =>
   Pn.bind (fun r2 h7 =>
   Pn.some (Fn.of [.call [] (E4 r1) [], .bit false, .wait 6, .mask [0, 3, 4, 5], .ren [], .loop (X.out 0) (st 38 [(3, vI r2)] [] [])] (p := [Fn Try.prog 105 [(false, E9 s_)] (E4 r1) [],(true || ((E4 r1).nv && nvL [])) = true,(!r1) = false,Loop Try.prog (sub (codeOf Try.prog 106) [1, 1, 1, 1, 0, 1, 0, 0]) (st 38 [(0, V.sc (.string s_)), (3, vI 0), (4, V.sc (.bool true)), (5, vI (i64 ((s_.size : Int) - 1)))] [] []) (X.out 0) (st 38 [(3, vI r2)] [] []),(10 : Int) ≠ 0]) (by kernel_rfl) (cj (spec_Digits_ok s_ r1 h1) (cj rfl (cj (nf h2) (cj (spec_Luhn_l0_ok s_ FUEL 0 true (i64 ((s_.size : Int) - 1)) r2 h7) (cj1 (by decide))))))))) (fun h2 =>
   Pn.some (Fn.of [.call [] (E4 r1) [], .bit true] (p := [Fn Try.prog 105 [(false, E9 s_)] (E4 r1) [],(true || ((E4 r1).nv && nvL [])) = true,(!r1) = true]) (by kernel_rfl) (cj (spec_Digits_ok s_ r1 h1) (cj rfl (cj1 (nt h2)))))))
def spec_LuhnOk (s_ : ByteArray) : Option (Bool) :=
 (spec_Digits s_).bind fun r1 =>
 if r1 = true then
 if (decide ((s_.size : Int) < 2)) = true then
 some false
 else
 if (decide (0 ≤ (i64 ((s_.size : Int) - 1)))) = true then
 if (decide ((i64 ((s_.size : Int) - 1)) ≤ (s_.size : Int))) = true then
 if (decide (0 ≤ i64 ((s_.size : Int) - 1))) = true then
 if (decide ((i64 ((s_.size : Int) - 1) : Int) < (s_.size : Int))) = true then
 (spec_Luhn (s_.extract 0 (i64 ((s_.size : Int) - 1)).toNat)).bind fun r2 =>
 some (r2 == (i64 ((i64 (sAt s_ (i64 ((s_.size : Int) - 1)))) - 48)))
 else none
 else none
 else none
 else none
 else
 some false
theorem spec_LuhnOk_ok (s_ : ByteArray) : Pn (fun y => Fn Try.prog 90 [(false, E9 s_)] (E4 y) []) (spec_LuhnOk s_) := by
  unfold spec_LuhnOk
  exact
   Pn.bind (fun r1 h1 =>
   Pn.ite (fun h2 =>
   Pn.ite (fun h3 =>
   Pn.some (Fn.of [.call [] (E4 r1) [], .bit false, .bit false, .bit false, .bit false, .bit true] (p := [Fn Try.prog 105 [(false, E9 s_)] (E4 r1) [],(true || ((E4 r1).nv && nvL [])) = true,(!r1) = false,(!r1) = false,(!r1) = false,(!r1) = false,(decide ((s_.size : Int) < 2)) = true]) (by kernel_rfl) (cj (spec_Digits_ok s_ r1 h1) (cj rfl (cj (nf h2) (cj (nf h2) (cj (nf h2) (cj (nf h2) (cj1 h3))))))))) (fun h3 =>
   Pn.ite (fun h4 =>
   Pn.ite (fun h5 =>
   Pn.ite (fun h6 =>
   Pn.ite (fun h7 =>
   Pn.bind (fun r2 h8 =>
   Pn.some (Fn.of [.call [] (E4 r1) [], .bit false, .bit false, .bit false, .bit false, .bit false, .draw [], .call [] (E3 r2) []] (p := [Fn Try.prog 105 [(false, E9 s_)] (E4 r1) [],(true || ((E4 r1).nv && nvL [])) = true,(!r1) = false,(!r1) = false,(!r1) = false,(!r1) = false,(decide ((s_.size : Int) < 2)) = false,(0 : Int) ≤ 0,(0 : Int) ≤ (i64 ((s_.size : Int) - 1)),((i64 ((s_.size : Int) - 1)) : Int) ≤ (s_.size : Int),(0 : Int) ≤ i64 ((s_.size : Int) - 1),(i64 ((s_.size : Int) - 1) : Int) < s_.size,Fn Try.prog 106 [(false, E9 (s_.extract 0 (i64 ((s_.size : Int) - 1)).toNat))] (E3 r2) [],(true || ((E3 r2).nv && nvL [])) = true]) (by kernel_rfl) (cj (spec_Digits_ok s_ r1 h1) (cj rfl (cj (nf h2) (cj (nf h2) (cj (nf h2) (cj (nf h2) (cj h3 (cj (by decide) (cj (od h4) (cj (od h5) (cj (od h6) (cj (od h7) (cj (spec_Luhn_ok (s_.extract 0 (i64 ((s_.size : Int) - 1)).toNat) r2 h8) (cj1 rfl))))))))))))))))) (fun h7 =>
   Pn.none)) (fun h6 =>
   Pn.none)) (fun h5 =>
   Pn.none)) (fun h4 =>
   Pn.none))) (fun h2 =>
   Pn.some (Fn.of [.call [] (E4 r1) [], .bit true, .bit true, .bit true, .bit true, .bit true] (p := [Fn Try.prog 105 [(false, E9 s_)] (E4 r1) [],(true || ((E4 r1).nv && nvL [])) = true,(!r1) = true,(!r1) = true,(!r1) = true,(!r1) = true,true = true]) (by kernel_rfl) (cj (spec_Digits_ok s_ r1 h1) (cj rfl (cj (nt h2) (cj (nt h2) (cj (nt h2) (cj (nt h2) (cj1 rfl))))))))))
def spec_AcctIdOk (s_ : ByteArray) : Option (Bool) :=
 if (decide ((s_.size : Int) ≤ 19)) = true then
 (spec_LuhnOk s_).bind fun r1 =>
 some r1
 else
 some false
theorem spec_AcctIdOk_ok (s_ : ByteArray) : Pn (fun y => Fn Try.prog 61 [(false, E9 s_)] (E4 y) []) (spec_AcctIdOk s_) := by
  unfold spec_AcctIdOk
  exact
   Pn.ite (fun h1 =>
   Pn.bind (fun r1 h2 =>
   Pn.some (Fn.of [.bit true, .bit true, .call [] (E4 r1) [], .bit true] (p := [(decide ((s_.size : Int) ≤ 19)) = true,(decide ((s_.size : Int) ≤ 19)) = true,Fn Try.prog 90 [(false, E9 s_)] (E4 r1) [],(true || ((E4 r1).nv && nvL [])) = true,(decide ((s_.size : Int) ≤ 19)) = true]) (by kernel_rfl) (cj h1 (cj h1 (cj (spec_LuhnOk_ok s_ r1 h2) (cj rfl (cj1 h1)))))))) (fun h1 =>
   Pn.some (Fn.of [.bit false, .bit false, .bit false] (p := [(decide ((s_.size : Int) ≤ 19)) = false,(decide ((s_.size : Int) ≤ 19)) = false,(decide ((s_.size : Int) ≤ 19)) = false]) (by kernel_rfl) (cj h1 (cj h1 (cj1 h1)))))
def spec_l01Money (n : Int) : Option (Bool) :=
 if (decide (0 ≤ n)) = true then
 some (decide (n ≤ 4611686018427387904))
 else
 some false
theorem spec_l01Money_ok (n : Int) : Pn (fun y => Fn Try.prog 63 [(false, E3 n)] (E4 y) []) (spec_l01Money n) := by
  unfold spec_l01Money
  exact
   Pn.ite (fun h1 =>
   Pn.some (Fn.of [.bit true, .bit true, .bit true] (p := [(decide (0 ≤ n)) = true,(decide (0 ≤ n)) = true,(decide (0 ≤ n)) = true]) (by kernel_rfl) (cj h1 (cj h1 (cj1 h1))))) (fun h1 =>
   Pn.some (Fn.of [.bit false, .bit false, .bit false] (p := [(decide (0 ≤ n)) = false,(decide (0 ≤ n)) = false,(decide (0 ≤ n)) = false]) (by kernel_rfl) (cj h1 (cj h1 (cj1 h1)))))
def spec_HoldIdOk_l0 (s_ : ByteArray) : Nat → Int → Option (Lo Unit Unit)
  | 0, _ => none
  | fuel + 1, v1 =>
   if (decide (v1 < (s_.size : Int))) = true then
   if (decide (0 ≤ v1)) = true then
   if (decide ((v1 : Int) < (s_.size : Int))) = true then
   if (decide ((sAt s_ v1) < 48)) = true then
   if (decide ((sAt s_ v1) < 97)) = true then
   some (.ret ())
   else
   if (decide (122 < (sAt s_ v1))) = true then
   some (.ret ())
   else
   spec_HoldIdOk_l0 s_ fuel (i64 (v1 + 1))
   else
   if (decide (57 < (sAt s_ v1))) = true then
   if (decide ((sAt s_ v1) < 97)) = true then
   some (.ret ())
   else
   if (decide (122 < (sAt s_ v1))) = true then
   some (.ret ())
   else
   spec_HoldIdOk_l0 s_ fuel (i64 (v1 + 1))
   else
   spec_HoldIdOk_l0 s_ fuel (i64 (v1 + 1))
   else none
   else none
   else
   some (.out ())
theorem spec_HoldIdOk_l0_ok (s_ : ByteArray) : ∀ (fuel : Nat) (v1 : Int), Pn (LpO Try.prog (sub (codeOf Try.prog 107) [1, 0, 1, 0, 0]) (st 35 [(0, V.sc (.string s_)), (3, vI v1)] [] []) (fun (y : Lo Unit Unit) => Lo.elim y (fun s => (X.out 0, st 35 [(0, V.sc (.string s_))] [] [])) (fun s => (X.ret, st 35 [(2, V.sc (.bool false))] [] [])))) (spec_HoldIdOk_l0 s_ fuel v1)
  | 0, _ => Pn.none
  | fuel + 1, v1 => by
    unfold spec_HoldIdOk_l0
    exact
     Pn.ite (fun h1 =>
     Pn.ite (fun h2 =>
     Pn.ite (fun h3 =>
     Pn.ite (fun h4 =>
     Pn.ite (fun h5 =>
     Pn.some (LpO.out [.bit true, .bit true, .bit true, .bit true, .bit true, .bit true, .bit true, .bit true, .bit true, .bit true, .bit true, .bit true, .bit true, .bit true, .bit true, .bit true, .bit true, .bit true, .bit true, .wait 1, .mask [2], .ren []] (p := [(decide (v1 < (s_.size : Int))) = true,(0 : Int) ≤ v1,(v1 : Int) < s_.size,(decide ((sAt s_ v1) < 48)) = true,(decide ((sAt s_ v1) < 48)) = true,(decide ((sAt s_ v1) < 48)) = true,(decide ((sAt s_ v1) < 48)) = true,(decide ((sAt s_ v1) < 48)) = true,true = true,true = true,true = true,(0 : Int) ≤ v1,(v1 : Int) < s_.size,true = true,true = true,(decide ((sAt s_ v1) < 97)) = true,(decide ((sAt s_ v1) < 97)) = true,(decide ((sAt s_ v1) < 97)) = true,(decide ((sAt s_ v1) < 97)) = true,true = true,(decide ((sAt s_ v1) < 97)) = true,true = true,true = true]) (by kernel_rfl) (show X.ret ≠ X.go from nofun) (cj h1 (cj (od h2) (cj (od h3) (cj h4 (cj h4 (cj h4 (cj h4 (cj h4 (cj rfl (cj rfl (cj rfl (cj (od h2) (cj (od h3) (cj rfl (cj rfl (cj h5 (cj h5 (cj h5 (cj h5 (cj rfl (cj h5 (cj rfl (cj1 rfl))))))))))))))))))))))))) (fun h5 =>
     Pn.ite (fun h6 =>
     Pn.some (LpO.out [.bit true, .bit true, .bit true, .bit true, .bit true, .bit true, .bit true, .bit true, .bit true, .bit true, .bit true, .bit false, .bit false, .bit false, .bit false, .bit true, .bit false, .bit true, .bit true, .wait 1, .mask [2], .ren []] (p := [(decide (v1 < (s_.size : Int))) = true,(0 : Int) ≤ v1,(v1 : Int) < s_.size,(decide ((sAt s_ v1) < 48)) = true,(decide ((sAt s_ v1) < 48)) = true,(decide ((sAt s_ v1) < 48)) = true,(decide ((sAt s_ v1) < 48)) = true,(decide ((sAt s_ v1) < 48)) = true,true = true,true = true,true = true,(0 : Int) ≤ v1,(v1 : Int) < s_.size,true = true,true = true,(decide ((sAt s_ v1) < 97)) = false,(decide ((sAt s_ v1) < 97)) = false,(decide ((sAt s_ v1) < 97)) = false,(0 : Int) ≤ v1,(v1 : Int) < s_.size,(decide ((sAt s_ v1) < 97)) = false,true = true,(decide ((sAt s_ v1) < 97)) = false,true = true,(decide (122 < (sAt s_ v1))) = true]) (by kernel_rfl) (show X.ret ≠ X.go from nofun) (cj h1 (cj (od h2) (cj (od h3) (cj h4 (cj h4 (cj h4 (cj h4 (cj h4 (cj rfl (cj rfl (cj rfl (cj (od h2) (cj (od h3) (cj rfl (cj rfl (cj h5 (cj h5 (cj h5 (cj (od h2) (cj (od h3) (cj h5 (cj rfl (cj h5 (cj rfl (cj1 h6))))))))))))))))))))))))))) (fun h6 =>
     LpO.go [.bit true, .bit true, .bit true, .bit true, .bit true, .bit true, .bit true, .bit true, .bit true, .bit true, .bit true, .bit false, .bit false, .bit false, .bit false, .bit true, .bit false, .bit true, .bit false, .wait 3, .mask [0, 3], .ren []] (p := [(decide (v1 < (s_.size : Int))) = true,(0 : Int) ≤ v1,(v1 : Int) < s_.size,(decide ((sAt s_ v1) < 48)) = true,(decide ((sAt s_ v1) < 48)) = true,(decide ((sAt s_ v1) < 48)) = true,(decide ((sAt s_ v1) < 48)) = true,(decide ((sAt s_ v1) < 48)) = true,true = true,true = true,true = true,(0 : Int) ≤ v1,(v1 : Int) < s_.size,true = true,true = true,(decide ((sAt s_ v1) < 97)) = false,(decide ((sAt s_ v1) < 97)) = false,(decide ((sAt s_ v1) < 97)) = false,(0 : Int) ≤ v1,(v1 : Int) < s_.size,(decide ((sAt s_ v1) < 97)) = false,true = true,(decide ((sAt s_ v1) < 97)) = false,true = true,(decide (122 < (sAt s_ v1))) = false]) (by kernel_rfl) (cj h1 (cj (od h2) (cj (od h3) (cj h4 (cj h4 (cj h4 (cj h4 (cj h4 (cj rfl (cj rfl (cj rfl (cj (od h2) (cj (od h3) (cj rfl (cj rfl (cj h5 (cj h5 (cj h5 (cj (od h2) (cj (od h3) (cj h5 (cj rfl (cj h5 (cj rfl (cj1 h6))))))))))))))))))))))))) (spec_HoldIdOk_l0_ok s_ fuel (i64 (v1 + 1)))))) (fun h4 =>
     Pn.ite (fun h7 =>
     Pn.ite (fun h8 =>
     Pn.some (LpO.out [.bit true, .bit false, .bit false, .bit false, .bit false, .bit false, .bit true, .bit true, .bit true, .bit true, .bit true, .bit true, .bit true, .bit true, .bit true, .bit true, .bit true, .bit true, .bit true, .wait 1, .mask [2], .ren []] (p := [(decide (v1 < (s_.size : Int))) = true,(0 : Int) ≤ v1,(v1 : Int) < s_.size,(decide ((sAt s_ v1) < 48)) = false,(decide ((sAt s_ v1) < 48)) = false,(decide ((sAt s_ v1) < 48)) = false,(0 : Int) ≤ v1,(v1 : Int) < s_.size,(decide ((sAt s_ v1) < 48)) = false,(decide ((sAt s_ v1) < 48)) = false,(decide (57 < (sAt s_ v1))) = true,(decide (57 < (sAt s_ v1))) = true,(decide (57 < (sAt s_ v1))) = true,(0 : Int) ≤ v1,(v1 : Int) < s_.size,(decide (57 < (sAt s_ v1))) = true,(decide (57 < (sAt s_ v1))) = true,(decide ((sAt s_ v1) < 97)) = true,(decide ((sAt s_ v1) < 97)) = true,(decide ((sAt s_ v1) < 97)) = true,(decide ((sAt s_ v1) < 97)) = true,(decide (57 < (sAt s_ v1))) = true,(decide ((sAt s_ v1) < 97)) = true,(decide (57 < (sAt s_ v1))) = true,true = true]) (by kernel_rfl) (show X.ret ≠ X.go from nofun) (cj h1 (cj (od h2) (cj (od h3) (cj h4 (cj h4 (cj h4 (cj (od h2) (cj (od h3) (cj h4 (cj h4 (cj h7 (cj h7 (cj h7 (cj (od h2) (cj (od h3) (cj h7 (cj h7 (cj h8 (cj h8 (cj h8 (cj h8 (cj h7 (cj h8 (cj h7 (cj1 rfl))))))))))))))))))))))))))) (fun h8 =>
     Pn.ite (fun h9 =>
     Pn.some (LpO.out [.bit true, .bit false, .bit false, .bit false, .bit false, .bit false, .bit true, .bit true, .bit true, .bit true, .bit true, .bit false, .bit false, .bit false, .bit false, .bit true, .bit false, .bit true, .bit true, .wait 1, .mask [2], .ren []] (p := [(decide (v1 < (s_.size : Int))) = true,(0 : Int) ≤ v1,(v1 : Int) < s_.size,(decide ((sAt s_ v1) < 48)) = false,(decide ((sAt s_ v1) < 48)) = false,(decide ((sAt s_ v1) < 48)) = false,(0 : Int) ≤ v1,(v1 : Int) < s_.size,(decide ((sAt s_ v1) < 48)) = false,(decide ((sAt s_ v1) < 48)) = false,(decide (57 < (sAt s_ v1))) = true,(decide (57 < (sAt s_ v1))) = true,(decide (57 < (sAt s_ v1))) = true,(0 : Int) ≤ v1,(v1 : Int) < s_.size,(decide (57 < (sAt s_ v1))) = true,(decide (57 < (sAt s_ v1))) = true,(decide ((sAt s_ v1) < 97)) = false,(decide ((sAt s_ v1) < 97)) = false,(decide ((sAt s_ v1) < 97)) = false,(0 : Int) ≤ v1,(v1 : Int) < s_.size,(decide ((sAt s_ v1) < 97)) = false,(decide (57 < (sAt s_ v1))) = true,(decide ((sAt s_ v1) < 97)) = false,(decide (57 < (sAt s_ v1))) = true,(decide (122 < (sAt s_ v1))) = true]) (by kernel_rfl) (show X.ret ≠ X.go from nofun) (cj h1 (cj (od h2) (cj (od h3) (cj h4 (cj h4 (cj h4 (cj (od h2) (cj (od h3) (cj h4 (cj h4 (cj h7 (cj h7 (cj h7 (cj (od h2) (cj (od h3) (cj h7 (cj h7 (cj h8 (cj h8 (cj h8 (cj (od h2) (cj (od h3) (cj h8 (cj h7 (cj h8 (cj h7 (cj1 h9))))))))))))))))))))))))))))) (fun h9 =>
     LpO.go [.bit true, .bit false, .bit false, .bit false, .bit false, .bit false, .bit true, .bit true, .bit true, .bit true, .bit true, .bit false, .bit false, .bit false, .bit false, .bit true, .bit false, .bit true, .bit false, .wait 3, .mask [0, 3], .ren []] (p := [(decide (v1 < (s_.size : Int))) = true,(0 : Int) ≤ v1,(v1 : Int) < s_.size,(decide ((sAt s_ v1) < 48)) = false,(decide ((sAt s_ v1) < 48)) = false,(decide ((sAt s_ v1) < 48)) = false,(0 : Int) ≤ v1,(v1 : Int) < s_.size,(decide ((sAt s_ v1) < 48)) = false,(decide ((sAt s_ v1) < 48)) = false,(decide (57 < (sAt s_ v1))) = true,(decide (57 < (sAt s_ v1))) = true,(decide (57 < (sAt s_ v1))) = true,(0 : Int) ≤ v1,(v1 : Int) < s_.size,(decide (57 < (sAt s_ v1))) = true,(decide (57 < (sAt s_ v1))) = true,(decide ((sAt s_ v1) < 97)) = false,(decide ((sAt s_ v1) < 97)) = false,(decide ((sAt s_ v1) < 97)) = false,(0 : Int) ≤ v1,(v1 : Int) < s_.size,(decide ((sAt s_ v1) < 97)) = false,(decide (57 < (sAt s_ v1))) = true,(decide ((sAt s_ v1) < 97)) = false,(decide (57 < (sAt s_ v1))) = true,(decide (122 < (sAt s_ v1))) = false]) (by kernel_rfl) (cj h1 (cj (od h2) (cj (od h3) (cj h4 (cj h4 (cj h4 (cj (od h2) (cj (od h3) (cj h4 (cj h4 (cj h7 (cj h7 (cj h7 (cj (od h2) (cj (od h3) (cj h7 (cj h7 (cj h8 (cj h8 (cj h8 (cj (od h2) (cj (od h3) (cj h8 (cj h7 (cj h8 (cj h7 (cj1 h9))))))))))))))))))))))))))) (spec_HoldIdOk_l0_ok s_ fuel (i64 (v1 + 1)))))) (fun h7 =>
     LpO.go [.bit true, .bit false, .bit false, .bit false, .bit false, .bit false, .bit false, .bit false, .bit false, .bit false, .bit false, .bit false, .bit false, .bit false, .wait 3, .mask [0, 3], .ren []] (p := [(decide (v1 < (s_.size : Int))) = true,(0 : Int) ≤ v1,(v1 : Int) < s_.size,(decide ((sAt s_ v1) < 48)) = false,(decide ((sAt s_ v1) < 48)) = false,(decide ((sAt s_ v1) < 48)) = false,(0 : Int) ≤ v1,(v1 : Int) < s_.size,(decide ((sAt s_ v1) < 48)) = false,(decide ((sAt s_ v1) < 48)) = false,(decide (57 < (sAt s_ v1))) = false,(decide (57 < (sAt s_ v1))) = false,(decide (57 < (sAt s_ v1))) = false,(decide (57 < (sAt s_ v1))) = false,(decide (57 < (sAt s_ v1))) = false,(decide (57 < (sAt s_ v1))) = false,(decide (57 < (sAt s_ v1))) = false,false = false]) (by kernel_rfl) (cj h1 (cj (od h2) (cj (od h3) (cj h4 (cj h4 (cj h4 (cj (od h2) (cj (od h3) (cj h4 (cj h4 (cj h7 (cj h7 (cj h7 (cj h7 (cj h7 (cj h7 (cj h7 (cj1 rfl)))))))))))))))))) (spec_HoldIdOk_l0_ok s_ fuel (i64 (v1 + 1)))))) (fun h3 =>
     Pn.none)) (fun h2 =>
     Pn.none)) (fun h1 =>
     Pn.some (LpO.out [.bit false, .mask [0], .ren []] (p := [(decide (v1 < (s_.size : Int))) = false]) (by kernel_rfl) (show X.out 0 ≠ X.go from nofun) (cj1 h1)))
def spec_HoldIdOk (s_ : ByteArray) : Option (Bool) :=
 (spec_HoldIdOk_l0 s_ FUEL 0).bind fun r1 =>
 Lo.elim r1 (fun s1 =>
 (spec_l01In (s_.size : Int) 1 6).bind fun r2 =>
 some r2) (fun s2 =>
 some false)
theorem spec_HoldIdOk_ok (s_ : ByteArray) : Pn (fun y => Fn Try.prog 107 [(false, E9 s_)] (E4 y) []) (spec_HoldIdOk s_) := by
  unfold spec_HoldIdOk
  exact
   Pn.bind (fun r1 h10 =>
   Pn.lo (fun s1 h11 =>
   Pn.bind (fun r2 h13 =>
   Pn.some (Fn.of [.wait 3, .mask [0, 3], .ren [], .loop (X.out 0) (st 35 [(0, V.sc (.string s_))] [] []), .call [] (E4 r2) []] (p := [Loop Try.prog (sub (codeOf Try.prog 107) [1, 0, 1, 0, 0]) (st 35 [(0, V.sc (.string s_)), (3, vI 0)] [] []) (X.out 0) (st 35 [(0, V.sc (.string s_))] [] []),Fn Try.prog 62 [(false, E3 (s_.size : Int)), (false, E3 1), (false, E3 6)] (E4 r2) [],(true || ((E4 r2).nv && nvL [])) = true]) (by kernel_rfl) (cj ((spec_HoldIdOk_l0_ok s_ FUEL 0 r1 h10).at h11 :) (cj (spec_l01In_ok (s_.size : Int) 1 6 r2 h13) (cj1 rfl)))))) (fun s2 h12 =>
   Pn.some (Fn.of [.wait 3, .mask [0, 3], .ren [], .loop (X.ret) (st 35 [(2, V.sc (.bool false))] [] [])] (p := [Loop Try.prog (sub (codeOf Try.prog 107) [1, 0, 1, 0, 0]) (st 35 [(0, V.sc (.string s_)), (3, vI 0)] [] []) (X.ret) (st 35 [(2, V.sc (.bool false))] [] [])]) (by kernel_rfl) (cj1 ((spec_HoldIdOk_l0_ok s_ FUEL 0 r1 h10).at h12 :)))))
def spec_l06Time (n : Int) : Option (Bool) :=
 (spec_l01In n 0 1000000000).bind fun r1 =>
 some r1
theorem spec_l06Time_ok (n : Int) : Pn (fun y => Fn Try.prog 25 [(false, E3 n)] (E4 y) []) (spec_l06Time n) := by
  unfold spec_l06Time
  exact
   Pn.bind (fun r1 h1 =>
   Pn.some (Fn.of [.call [] (E4 r1) []] (p := [Fn Try.prog 62 [(false, E3 n), (false, E3 0), (false, E3 1000000000)] (E4 r1) [],(true || ((E4 r1).nv && nvL [])) = true]) (by kernel_rfl) (cj (spec_l01In_ok n 0 1000000000 r1 h1) (cj1 rfl))))
def spec_HoldOk (h_ : Hold) : Option (Bool) :=
 (spec_HoldIdOk h_.Id).bind fun r1 =>
 if r1 = true then
 (spec_l01In h_.Amount 1 9007199254740992).bind fun r2 =>
 if r2 = true then
 (spec_l06Time h_.Due).bind fun r3 =>
 some r3
 else
 some false
 else
 some false
theorem spec_HoldOk_ok (h_ : Hold) : Pn (fun y => Fn Try.prog 91 [(false, E36 h_)] (E4 y) []) (spec_HoldOk h_) := by
  unfold spec_HoldOk
  exact
   Pn.bind (fun r1 h1 =>
   Pn.ite (fun h2 =>
   Pn.bind (fun r2 h3 =>
   Pn.ite (fun h4 =>
   Pn.bind (fun r3 h5 =>
   Pn.some (Fn.of [.call [] (E4 r1) [], .bit true, .bit true, .bit true, .call [] (E4 r2) [], .bit true, .bit true, .bit true, .bit true, .call [] (E4 r3) [], .bit true] (p := [Fn Try.prog 107 [(false, E9 h_.Id)] (E4 r1) [],(true || ((E4 r1).nv && nvL [])) = true,r1 = true,r1 = true,r1 = true,Fn Try.prog 62 [(false, E3 h_.Amount), (false, E3 1), (false, E3 9007199254740992)] (E4 r2) [],(true || ((E4 r2).nv && nvL [])) = true,r1 = true,r2 = true,r2 = true,r2 = true,Fn Try.prog 25 [(false, E3 h_.Due)] (E4 r3) [],(true || ((E4 r3).nv && nvL [])) = true,r2 = true]) (by kernel_rfl) (cj (spec_HoldIdOk_ok h_.Id r1 h1) (cj rfl (cj h2 (cj h2 (cj h2 (cj (spec_l01In_ok h_.Amount 1 9007199254740992 r2 h3) (cj rfl (cj h2 (cj h4 (cj h4 (cj h4 (cj (spec_l06Time_ok h_.Due r3 h5) (cj rfl (cj1 h4))))))))))))))))) (fun h4 =>
   Pn.some (Fn.of [.call [] (E4 r1) [], .bit true, .bit true, .bit true, .call [] (E4 r2) [], .bit true, .bit false, .bit false, .bit false, .bit false] (p := [Fn Try.prog 107 [(false, E9 h_.Id)] (E4 r1) [],(true || ((E4 r1).nv && nvL [])) = true,r1 = true,r1 = true,r1 = true,Fn Try.prog 62 [(false, E3 h_.Amount), (false, E3 1), (false, E3 9007199254740992)] (E4 r2) [],(true || ((E4 r2).nv && nvL [])) = true,r1 = true,r2 = false,r2 = false,r2 = false,r2 = false]) (by kernel_rfl) (cj (spec_HoldIdOk_ok h_.Id r1 h1) (cj rfl (cj h2 (cj h2 (cj h2 (cj (spec_l01In_ok h_.Amount 1 9007199254740992 r2 h3) (cj rfl (cj h2 (cj h4 (cj h4 (cj h4 (cj1 h4)))))))))))))))) (fun h2 =>
   Pn.some (Fn.of [.call [] (E4 r1) [], .bit false, .bit false, .bit false, .bit false, .bit false, .bit false, .bit false, .bit false] (p := [Fn Try.prog 107 [(false, E9 h_.Id)] (E4 r1) [],(true || ((E4 r1).nv && nvL [])) = true,r1 = false,r1 = false,r1 = false,r1 = false,false = false,false = false,false = false,false = false]) (by kernel_rfl) (cj (spec_HoldIdOk_ok h_.Id r1 h1) (cj rfl (cj h2 (cj h2 (cj h2 (cj h2 (cj rfl (cj rfl (cj rfl (cj1 rfl)))))))))))))
def spec_HoldsOk_l0 (l : List Hold) : List Hold → List Hold → Option (Lo Unit Unit)
  | [], p1 =>
   some (.out ())
  | x1 :: t1, p1 =>
   (spec_HoldOk x1).bind fun r1 =>
   if r1 = true then
   if (decide (0 < (p1.length : Int))) = true then
   if (decide (0 ≤ (i64 ((p1.length : Int) - 1)))) = true then
   (l[(i64 ((p1.length : Int) - 1)).toNat]?).bind fun x2 =>
   if (Op.bytesLess x2.Id.toList x1.Id.toList) = true then
   spec_HoldsOk_l0 l t1 (p1 ++ [x1])
   else
   some (.ret ())
   else none
   else
   spec_HoldsOk_l0 l t1 (p1 ++ [x1])
   else
   some (.ret ())
theorem spec_HoldsOk_l0_ok (l : List Hold) (h2 : capOk l.length = true) : ∀ (t1 p1 : List Hold) (_ : l = p1 ++ t1) , Pn (LpO Try.prog (sub (codeOf Try.prog 64) [1, 0, 1, 0, 0]) (st 34 [(0, V.sl false 36 (List.map E36 l)), (5, V.sl false 36 (List.map E36 l)), (6, vI (l.length : Int)), (7, vI (p1.length : Int))] [] []) (fun (y : Lo Unit Unit) => Lo.elim y (fun s => (X.out 0, st 34 [(0, V.sl false 36 (List.map E36 l))] [] [])) (fun s => (X.ret, st 34 [(2, V.sc (.bool false))] [] [])))) (spec_HoldsOk_l0 l t1 p1)
  | [], p1, h1 => by
    unfold spec_HoldsOk_l0
    exact
     Pn.some (LpO.out [.bit false, .mask [0], .ren []] (p := [(decide ((p1.length : Int) < (l.length : Int))) = false]) (by kernel_rfl) (show X.out 0 ≠ X.go from nofun) (cj1 (rng_end h1)))
  | x1 :: t1, p1, h1 => by
    unfold spec_HoldsOk_l0
    exact
     Pn.bind (fun r1 h3 =>
     Pn.ite (fun h4 =>
     Pn.ite (fun h5 =>
     Pn.ite (fun h6 =>
     Pn.bind (fun x2 h7 =>
     Pn.ite (fun h8 =>
     LpO.go [.bit true, .el (E36 x1), .draw [], .call [] (E4 r1) [], .bit false, .bit false, .bit false, .bit true, .bit true, .bit true, .bit true, .el (E36 x2), .bit true, .bit true, .bit true, .bit true, .bit true, .bit false, .bit true, .bit false, .bit false, .wait 2, .mask [0, 5, 6, 7], .ren [], .nm 7 (vI ((p1 ++ [x1]).length : Int))] (p := [(decide ((p1.length : Int) < (l.length : Int))) = true,(0 : Int) ≤ (p1.length : Int),(List.map E36 l)[(p1.length : Int).toNat]? = some (E36 x1),Fn Try.prog 91 [(false, E36 x1)] (E4 r1) [],(true || ((E4 r1).nv && nvL [])) = true,(!r1) = false,(!r1) = false,(!r1) = false,(decide (0 < (p1.length : Int))) = true,(decide (0 < (p1.length : Int))) = true,(decide (0 < (p1.length : Int))) = true,(decide (0 < (p1.length : Int))) = true,(0 : Int) ≤ (i64 ((p1.length : Int) - 1)),(List.map E36 l)[(i64 ((p1.length : Int) - 1)).toNat]? = some (E36 x2),(decide (0 < (p1.length : Int))) = true,(decide (0 < (p1.length : Int))) = true,(decide (0 < (p1.length : Int))) = true,(decide (0 < (p1.length : Int))) = true,(decide (0 < (p1.length : Int))) = true,(!r1) = false,(decide (0 < (p1.length : Int))) = true,(!r1) = false,(!(Op.bytesLess x2.Id.toList x1.Id.toList)) = false,vI (i64 ((p1.length : Int) + 1)) = vI ((p1 ++ [x1]).length : Int)]) (by kernel_rfl) (cj (rng_lt h1) (cj (by omega) (cj (rng_get _ h1) (cj (spec_HoldOk_ok x1 r1 h3) (cj rfl (cj (nf h4) (cj (nf h4) (cj (nf h4) (cj h5 (cj h5 (cj h5 (cj h5 (cj (od h6) (cj (map_get h7) (cj h5 (cj h5 (cj h5 (cj h5 (cj h5 (cj (nf h4) (cj h5 (cj (nf h4) (cj (nf h8) (cj1 (rng_next h1 h2))))))))))))))))))))))))) (spec_HoldsOk_l0_ok l h2 t1 (p1 ++ [x1]) (rng_step h1))) (fun h8 =>
     Pn.some (LpO.out [.bit true, .el (E36 x1), .draw [], .call [] (E4 r1) [], .bit false, .bit false, .bit false, .bit true, .bit true, .bit true, .bit true, .el (E36 x2), .bit true, .bit true, .bit true, .bit true, .bit true, .bit false, .bit true, .bit false, .bit true, .wait 1, .mask [2], .ren []] (p := [(decide ((p1.length : Int) < (l.length : Int))) = true,(0 : Int) ≤ (p1.length : Int),(List.map E36 l)[(p1.length : Int).toNat]? = some (E36 x1),Fn Try.prog 91 [(false, E36 x1)] (E4 r1) [],(true || ((E4 r1).nv && nvL [])) = true,(!r1) = false,(!r1) = false,(!r1) = false,(decide (0 < (p1.length : Int))) = true,(decide (0 < (p1.length : Int))) = true,(decide (0 < (p1.length : Int))) = true,(decide (0 < (p1.length : Int))) = true,(0 : Int) ≤ (i64 ((p1.length : Int) - 1)),(List.map E36 l)[(i64 ((p1.length : Int) - 1)).toNat]? = some (E36 x2),(decide (0 < (p1.length : Int))) = true,(decide (0 < (p1.length : Int))) = true,(decide (0 < (p1.length : Int))) = true,(decide (0 < (p1.length : Int))) = true,(decide (0 < (p1.length : Int))) = true,(!r1) = false,(decide (0 < (p1.length : Int))) = true,(!r1) = false,(!(Op.bytesLess x2.Id.toList x1.Id.toList)) = true]) (by kernel_rfl) (show X.ret ≠ X.go from nofun) (cj (rng_lt h1) (cj (by omega) (cj (rng_get _ h1) (cj (spec_HoldOk_ok x1 r1 h3) (cj rfl (cj (nf h4) (cj (nf h4) (cj (nf h4) (cj h5 (cj h5 (cj h5 (cj h5 (cj (od h6) (cj (map_get h7) (cj h5 (cj h5 (cj h5 (cj h5 (cj h5 (cj (nf h4) (cj h5 (cj (nf h4) (cj1 (nt h8)))))))))))))))))))))))))))) (fun h6 =>
     Pn.none)) (fun h5 =>
     LpO.go [.bit true, .el (E36 x1), .draw [], .call [] (E4 r1) [], .bit false, .bit false, .bit false, .bit false, .bit false, .bit false, .bit false, .bit false, .bit false, .bit false, .bit false, .bit false, .bit false, .bit false, .bit false, .bit false, .wait 2, .mask [0, 5, 6, 7], .ren [], .nm 7 (vI ((p1 ++ [x1]).length : Int))] (p := [(decide ((p1.length : Int) < (l.length : Int))) = true,(0 : Int) ≤ (p1.length : Int),(List.map E36 l)[(p1.length : Int).toNat]? = some (E36 x1),Fn Try.prog 91 [(false, E36 x1)] (E4 r1) [],(true || ((E4 r1).nv && nvL [])) = true,(!r1) = false,(!r1) = false,(!r1) = false,(decide (0 < (p1.length : Int))) = false,(decide (0 < (p1.length : Int))) = false,(decide (0 < (p1.length : Int))) = false,(decide (0 < (p1.length : Int))) = false,(decide (0 < (p1.length : Int))) = false,(decide (0 < (p1.length : Int))) = false,(decide (0 < (p1.length : Int))) = false,(decide (0 < (p1.length : Int))) = false,(decide (0 < (p1.length : Int))) = false,(!r1) = false,(decide (0 < (p1.length : Int))) = false,(!r1) = false,false = false,vI (i64 ((p1.length : Int) + 1)) = vI ((p1 ++ [x1]).length : Int)]) (by kernel_rfl) (cj (rng_lt h1) (cj (by omega) (cj (rng_get _ h1) (cj (spec_HoldOk_ok x1 r1 h3) (cj rfl (cj (nf h4) (cj (nf h4) (cj (nf h4) (cj h5 (cj h5 (cj h5 (cj h5 (cj h5 (cj h5 (cj h5 (cj h5 (cj h5 (cj (nf h4) (cj h5 (cj (nf h4) (cj rfl (cj1 (rng_next h1 h2))))))))))))))))))))))) (spec_HoldsOk_l0_ok l h2 t1 (p1 ++ [x1]) (rng_step h1)))) (fun h4 =>
     Pn.some (LpO.out [.bit true, .el (E36 x1), .draw [], .call [] (E4 r1) [], .bit true, .bit true, .bit true, .bit true, .bit true, .bit true, .wait 1, .mask [2], .ren []] (p := [(decide ((p1.length : Int) < (l.length : Int))) = true,(0 : Int) ≤ (p1.length : Int),(List.map E36 l)[(p1.length : Int).toNat]? = some (E36 x1),Fn Try.prog 91 [(false, E36 x1)] (E4 r1) [],(true || ((E4 r1).nv && nvL [])) = true,(!r1) = true,(!r1) = true,(!r1) = true,(!r1) = true,(!r1) = true,true = true]) (by kernel_rfl) (show X.ret ≠ X.go from nofun) (cj (rng_lt h1) (cj (by omega) (cj (rng_get _ h1) (cj (spec_HoldOk_ok x1 r1 h3) (cj rfl (cj (nt h4) (cj (nt h4) (cj (nt h4) (cj (nt h4) (cj (nt h4) (cj1 rfl))))))))))))))
def spec_HoldsOk (l : List Hold) : Option (Bool) :=
 if (capOk l.length) = true then
 (spec_HoldsOk_l0 l l []).bind fun r2 =>
 Lo.elim r2 (fun s1 =>
 some (decide ((l.length : Int) ≤ 4))) (fun s2 =>
 some false)
 else none
theorem spec_HoldsOk_ok (l : List Hold) : Pn (fun y => Fn Try.prog 64 [(false, E23 l)] (E4 y) []) (spec_HoldsOk l) := by
  unfold spec_HoldsOk
  exact
   Pn.ite (fun h9 =>
   Pn.bind (fun r2 h10 =>
   Pn.lo (fun s1 h11 =>
   Pn.some (Fn.of [.wait 3, .nm 6 (vI (l.length : Int)), .wait 2, .mask [0, 5, 6, 7], .ren [], .loop (X.out 0) (st 34 [(0, V.sl false 36 (List.map E36 l))] [] []), .wait 2, .nm 32 (vI (l.length : Int))] (p := [vI ((List.map E36 l).length : Int) = vI (l.length : Int),Loop Try.prog (sub (codeOf Try.prog 64) [1, 0, 1, 0, 0]) (st 34 [(0, V.sl false 36 (List.map E36 l)), (5, V.sl false 36 (List.map E36 l)), (6, vI (l.length : Int)), (7, vI 0)] [] []) (X.out 0) (st 34 [(0, V.sl false 36 (List.map E36 l))] [] []),vI ((List.map E36 l).length : Int) = vI (l.length : Int)]) (by kernel_rfl) (cj (len_nm _ _) (cj ((spec_HoldsOk_l0_ok l h9 l [] rfl r2 h10).at h11 :) (cj1 (len_nm _ _)))))) (fun s2 h12 =>
   Pn.some (Fn.of [.wait 3, .nm 6 (vI (l.length : Int)), .wait 2, .mask [0, 5, 6, 7], .ren [], .loop (X.ret) (st 34 [(2, V.sc (.bool false))] [] [])] (p := [vI ((List.map E36 l).length : Int) = vI (l.length : Int),Loop Try.prog (sub (codeOf Try.prog 64) [1, 0, 1, 0, 0]) (st 34 [(0, V.sl false 36 (List.map E36 l)), (5, V.sl false 36 (List.map E36 l)), (6, vI (l.length : Int)), (7, vI 0)] [] []) (X.ret) (st 34 [(2, V.sc (.bool false))] [] [])]) (by kernel_rfl) (cj (len_nm _ _) (cj1 ((spec_HoldsOk_l0_ok l h9 l [] rfl r2 h10).at h12 :))))))) (fun h9 =>
   Pn.none)
def spec_RingOk_l0 (r_ : Ring) : List Int → List Int → Option (Lo Unit Unit)
  | [], p1 =>
   some (.out ())
  | x1 :: t1, p1 =>
   (spec_l01Money x1).bind fun r4 =>
   if r4 = true then
   (r_.Sums[(p1.length : Int).toNat]?).bind fun x2 =>
   (spec_l01Money x2).bind fun r5 =>
   if r5 = true then
   spec_RingOk_l0 r_ t1 (p1 ++ [x1])
   else
   some (.ret ())
   else
   some (.ret ())
theorem spec_RingOk_l0_ok (r_ : Ring) (h9 : capOk r_.Counts.length = true) : ∀ (t1 p1 : List Int) (_ : r_.Counts = p1 ++ t1) , Pn (LpO Try.prog (sub (codeOf Try.prog 65) [1, 1, 0, 1, 0, 0]) (st 53 [(1, V.ptr 0 0), (32, vI (r_.Counts.length : Int)), (33, vI (p1.length : Int))] [Blk.box 26 [vI r_.Span, vI r_.Head, V.sl false 3 (List.map E3 r_.Counts), V.sl false 3 (List.map E3 r_.Sums)]] []) (fun (y : Lo Unit Unit) => Lo.elim y (fun s => (X.out 0, st 53 [] [] [])) (fun s => (X.ret, st 53 [(2, V.sc (.bool false))] [] [])))) (spec_RingOk_l0 r_ t1 p1)
  | [], p1, h8 => by
    unfold spec_RingOk_l0
    exact
     Pn.some (LpO.out [.bit false, .mask [], .ren []] (p := [(decide ((p1.length : Int) < (r_.Counts.length : Int))) = false]) (by kernel_rfl) (show X.out 0 ≠ X.go from nofun) (cj1 (rng_end h8)))
  | x1 :: t1, p1, h8 => by
    unfold spec_RingOk_l0
    exact
     Pn.bind (fun r4 h10 =>
     Pn.ite (fun h11 =>
     Pn.bind (fun x2 h12 =>
     Pn.bind (fun r5 h13 =>
     Pn.ite (fun h14 =>
     LpO.go [.bit true, .el (E3 x1), .call [] (E4 r4) [], .bit false, .bit false, .bit false, .bit false, .el (E3 x2), .bit false, .bit false, .call [] (E4 r5) [], .bit false, .bit false, .bit false, .wait 2, .mask [1, 32, 33], .ren [0], .nm 33 (vI ((p1 ++ [x1]).length : Int))] (p := [(decide ((p1.length : Int) < (r_.Counts.length : Int))) = true,(0 : Int) ≤ (p1.length : Int),(List.map E3 r_.Counts)[(p1.length : Int).toNat]? = some (E3 x1),Fn Try.prog 63 [(false, E3 x1)] (E4 r4) [],(true || ((E4 r4).nv && nvL [])) = true,(!r4) = false,(!r4) = false,(!r4) = false,(!r4) = false,(0 : Int) ≤ (p1.length : Int),(List.map E3 r_.Sums)[(p1.length : Int).toNat]? = some (E3 x2),(!r4) = false,(!r4) = false,Fn Try.prog 63 [(false, E3 x2)] (E4 r5) [],(true || ((E4 r5).nv && nvL [])) = true,(!r4) = false,(!r4) = false,(!r5) = false,vI (i64 ((p1.length : Int) + 1)) = vI ((p1 ++ [x1]).length : Int)]) (by kernel_rfl) (cj (rng_lt h8) (cj (by omega) (cj (rng_get _ h8) (cj (spec_l01Money_ok x1 r4 h10) (cj rfl (cj (nf h11) (cj (nf h11) (cj (nf h11) (cj (nf h11) (cj (by omega) (cj (map_get h12) (cj (nf h11) (cj (nf h11) (cj (spec_l01Money_ok x2 r5 h13) (cj rfl (cj (nf h11) (cj (nf h11) (cj (nf h14) (cj1 (rng_next h8 h9)))))))))))))))))))) (spec_RingOk_l0_ok r_ h9 t1 (p1 ++ [x1]) (rng_step h8))) (fun h14 =>
     Pn.some (LpO.out [.bit true, .el (E3 x1), .call [] (E4 r4) [], .bit false, .bit false, .bit false, .bit false, .el (E3 x2), .bit false, .bit false, .call [] (E4 r5) [], .bit false, .bit false, .bit true, .wait 1, .mask [2], .ren []] (p := [(decide ((p1.length : Int) < (r_.Counts.length : Int))) = true,(0 : Int) ≤ (p1.length : Int),(List.map E3 r_.Counts)[(p1.length : Int).toNat]? = some (E3 x1),Fn Try.prog 63 [(false, E3 x1)] (E4 r4) [],(true || ((E4 r4).nv && nvL [])) = true,(!r4) = false,(!r4) = false,(!r4) = false,(!r4) = false,(0 : Int) ≤ (p1.length : Int),(List.map E3 r_.Sums)[(p1.length : Int).toNat]? = some (E3 x2),(!r4) = false,(!r4) = false,Fn Try.prog 63 [(false, E3 x2)] (E4 r5) [],(true || ((E4 r5).nv && nvL [])) = true,(!r4) = false,(!r4) = false,(!r5) = true]) (by kernel_rfl) (show X.ret ≠ X.go from nofun) (cj (rng_lt h8) (cj (by omega) (cj (rng_get _ h8) (cj (spec_l01Money_ok x1 r4 h10) (cj rfl (cj (nf h11) (cj (nf h11) (cj (nf h11) (cj (nf h11) (cj (by omega) (cj (map_get h12) (cj (nf h11) (cj (nf h11) (cj (spec_l01Money_ok x2 r5 h13) (cj rfl (cj (nf h11) (cj (nf h11) (cj1 (nt h14)))))))))))))))))))))))) (fun h11 =>
     Pn.some (LpO.out [.bit true, .el (E3 x1), .call [] (E4 r4) [], .bit true, .bit true, .bit true, .bit true, .bit true, .bit true, .bit true, .bit true, .bit true, .wait 1, .mask [2], .ren []] (p := [(decide ((p1.length : Int) < (r_.Counts.length : Int))) = true,(0 : Int) ≤ (p1.length : Int),(List.map E3 r_.Counts)[(p1.length : Int).toNat]? = some (E3 x1),Fn Try.prog 63 [(false, E3 x1)] (E4 r4) [],(true || ((E4 r4).nv && nvL [])) = true,(!r4) = true,(!r4) = true,(!r4) = true,(!r4) = true,(!r4) = true,(!r4) = true,(!r4) = true,(!r4) = true,true = true]) (by kernel_rfl) (show X.ret ≠ X.go from nofun) (cj (rng_lt h8) (cj (by omega) (cj (rng_get _ h8) (cj (spec_l01Money_ok x1 r4 h10) (cj rfl (cj (nt h11) (cj (nt h11) (cj (nt h11) (cj (nt h11) (cj (nt h11) (cj (nt h11) (cj (nt h11) (cj (nt h11) (cj1 rfl)))))))))))))))))
def spec_RingOk (r_ : Ring) : Option (Bool) :=
 (spec_l01In r_.Span 1 1000).bind fun r1 =>
 if r1 = true then
 (spec_l01In (r_.Counts.length : Int) 1 8).bind fun r2 =>
 if r2 = true then
 if ((r_.Sums.length : Int) != (r_.Counts.length : Int)) = true then
 some false
 else
 (spec_l06Time r_.Head).bind fun r3 =>
 if r3 = true then
 if (capOk r_.Counts.length) = true then
 (spec_RingOk_l0 r_ r_.Counts []).bind fun r6 =>
 Lo.elim r6 (fun s1 =>
 some true) (fun s2 =>
 some false)
 else none
 else
 some false
 else
 some false
 else
 some false
theorem spec_RingOk_ok (r_ : Ring) : Pn (fun y => Fn Try.prog 65 [(false, E26 r_)] (E4 y) []) (spec_RingOk r_) := by
  unfold spec_RingOk
  exact
   Pn.bind (fun r1 h1 =>
   Pn.ite (fun h2 =>
   Pn.bind (fun r2 h3 =>
   Pn.ite (fun h4 =>
   Pn.ite (fun h5 =>
   Pn.some (Fn.of [.call [] (E4 r1) [], .bit false, .bit false, .bit false, .nm 11 (vI (r_.Counts.length : Int)), .bit false, .call [] (E4 r2) [], .bit false, .bit false, .bit false, .bit false, .bit false, .nm 18 (vI (r_.Sums.length : Int)), .bit false, .bit false, .bit false, .nm 21 (vI (r_.Counts.length : Int)), .bit false, .bit false, .bit true, .bit true, .bit true, .bit true, .bit true, .bit true] (p := [Fn Try.prog 62 [(false, E3 r_.Span), (false, E3 1), (false, E3 1000)] (E4 r1) [],(true || ((E4 r1).nv && nvL [])) = true,(!r1) = false,(!r1) = false,(!r1) = false,vI ((List.map E3 r_.Counts).length : Int) = vI (r_.Counts.length : Int),(!r1) = false,Fn Try.prog 62 [(false, E3 (r_.Counts.length : Int)), (false, E3 1), (false, E3 8)] (E4 r2) [],(true || ((E4 r2).nv && nvL [])) = true,(!r1) = false,(!r1) = false,(!r2) = false,(!r2) = false,(!r2) = false,vI ((List.map E3 r_.Sums).length : Int) = vI (r_.Sums.length : Int),(!r2) = false,(!r2) = false,(!r2) = false,vI ((List.map E3 r_.Counts).length : Int) = vI (r_.Counts.length : Int),(!r2) = false,(!r2) = false,((r_.Sums.length : Int) != (r_.Counts.length : Int)) = true,((r_.Sums.length : Int) != (r_.Counts.length : Int)) = true,((r_.Sums.length : Int) != (r_.Counts.length : Int)) = true,((r_.Sums.length : Int) != (r_.Counts.length : Int)) = true,((r_.Sums.length : Int) != (r_.Counts.length : Int)) = true,true = true]) (by kernel_rfl) (cj (spec_l01In_ok r_.Span 1 1000 r1 h1) (cj rfl (cj (nf h2) (cj (nf h2) (cj (nf h2) (cj (len_nm _ _) (cj (nf h2) (cj (spec_l01In_ok (r_.Counts.length : Int) 1 8 r2 h3) (cj rfl (cj (nf h2) (cj (nf h2) (cj (nf h4) (cj (nf h4) (cj (nf h4) (cj (len_nm _ _) (cj (nf h4) (cj (nf h4) (cj (nf h4) (cj (len_nm _ _) (cj (nf h4) (cj (nf h4) (cj h5 (cj h5 (cj h5 (cj h5 (cj h5 (cj1 rfl))))))))))))))))))))))))))))) (fun h5 =>
   Pn.bind (fun r3 h6 =>
   Pn.ite (fun h7 =>
   Pn.ite (fun h15 =>
   Pn.bind (fun r6 h16 =>
   Pn.lo (fun s1 h17 =>
   Pn.some (Fn.of [.call [] (E4 r1) [], .bit false, .bit false, .bit false, .nm 11 (vI (r_.Counts.length : Int)), .bit false, .call [] (E4 r2) [], .bit false, .bit false, .bit false, .bit false, .bit false, .nm 18 (vI (r_.Sums.length : Int)), .bit false, .bit false, .bit false, .nm 21 (vI (r_.Counts.length : Int)), .bit false, .bit false, .bit false, .bit false, .bit false, .call [] (E4 r3) [], .bit false, .bit false, .bit false, .wait 2, .nm 32 (vI (r_.Counts.length : Int)), .wait 2, .mask [1, 32, 33], .ren [0], .loop (X.out 0) (st 53 [] [] [])] (p := [Fn Try.prog 62 [(false, E3 r_.Span), (false, E3 1), (false, E3 1000)] (E4 r1) [],(true || ((E4 r1).nv && nvL [])) = true,(!r1) = false,(!r1) = false,(!r1) = false,vI ((List.map E3 r_.Counts).length : Int) = vI (r_.Counts.length : Int),(!r1) = false,Fn Try.prog 62 [(false, E3 (r_.Counts.length : Int)), (false, E3 1), (false, E3 8)] (E4 r2) [],(true || ((E4 r2).nv && nvL [])) = true,(!r1) = false,(!r1) = false,(!r2) = false,(!r2) = false,(!r2) = false,vI ((List.map E3 r_.Sums).length : Int) = vI (r_.Sums.length : Int),(!r2) = false,(!r2) = false,(!r2) = false,vI ((List.map E3 r_.Counts).length : Int) = vI (r_.Counts.length : Int),(!r2) = false,(!r2) = false,((r_.Sums.length : Int) != (r_.Counts.length : Int)) = false,((r_.Sums.length : Int) != (r_.Counts.length : Int)) = false,((r_.Sums.length : Int) != (r_.Counts.length : Int)) = false,Fn Try.prog 25 [(false, E3 r_.Head)] (E4 r3) [],(true || ((E4 r3).nv && nvL [])) = true,((r_.Sums.length : Int) != (r_.Counts.length : Int)) = false,((r_.Sums.length : Int) != (r_.Counts.length : Int)) = false,(!r3) = false,vI ((List.map E3 r_.Counts).length : Int) = vI (r_.Counts.length : Int),Loop Try.prog (sub (codeOf Try.prog 65) [1, 1, 0, 1, 0, 0]) (st 53 [(1, V.ptr 0 0), (32, vI (r_.Counts.length : Int)), (33, vI 0)] [Blk.box 26 [vI r_.Span, vI r_.Head, V.sl false 3 (List.map E3 r_.Counts), V.sl false 3 (List.map E3 r_.Sums)]] []) (X.out 0) (st 53 [] [] [])]) (by kernel_rfl) (cj (spec_l01In_ok r_.Span 1 1000 r1 h1) (cj rfl (cj (nf h2) (cj (nf h2) (cj (nf h2) (cj (len_nm _ _) (cj (nf h2) (cj (spec_l01In_ok (r_.Counts.length : Int) 1 8 r2 h3) (cj rfl (cj (nf h2) (cj (nf h2) (cj (nf h4) (cj (nf h4) (cj (nf h4) (cj (len_nm _ _) (cj (nf h4) (cj (nf h4) (cj (nf h4) (cj (len_nm _ _) (cj (nf h4) (cj (nf h4) (cj h5 (cj h5 (cj h5 (cj (spec_l06Time_ok r_.Head r3 h6) (cj rfl (cj h5 (cj h5 (cj (nf h7) (cj (len_nm _ _) (cj1 ((spec_RingOk_l0_ok r_ h15 r_.Counts [] rfl r6 h16).at h17 :)))))))))))))))))))))))))))))))))) (fun s2 h18 =>
   Pn.some (Fn.of [.call [] (E4 r1) [], .bit false, .bit false, .bit false, .nm 11 (vI (r_.Counts.length : Int)), .bit false, .call [] (E4 r2) [], .bit false, .bit false, .bit false, .bit false, .bit false, .nm 18 (vI (r_.Sums.length : Int)), .bit false, .bit false, .bit false, .nm 21 (vI (r_.Counts.length : Int)), .bit false, .bit false, .bit false, .bit false, .bit false, .call [] (E4 r3) [], .bit false, .bit false, .bit false, .wait 2, .nm 32 (vI (r_.Counts.length : Int)), .wait 2, .mask [1, 32, 33], .ren [0], .loop (X.ret) (st 53 [(2, V.sc (.bool false))] [] [])] (p := [Fn Try.prog 62 [(false, E3 r_.Span), (false, E3 1), (false, E3 1000)] (E4 r1) [],(true || ((E4 r1).nv && nvL [])) = true,(!r1) = false,(!r1) = false,(!r1) = false,vI ((List.map E3 r_.Counts).length : Int) = vI (r_.Counts.length : Int),(!r1) = false,Fn Try.prog 62 [(false, E3 (r_.Counts.length : Int)), (false, E3 1), (false, E3 8)] (E4 r2) [],(true || ((E4 r2).nv && nvL [])) = true,(!r1) = false,(!r1) = false,(!r2) = false,(!r2) = false,(!r2) = false,vI ((List.map E3 r_.Sums).length : Int) = vI (r_.Sums.length : Int),(!r2) = false,(!r2) = false,(!r2) = false,vI ((List.map E3 r_.Counts).length : Int) = vI (r_.Counts.length : Int),(!r2) = false,(!r2) = false,((r_.Sums.length : Int) != (r_.Counts.length : Int)) = false,((r_.Sums.length : Int) != (r_.Counts.length : Int)) = false,((r_.Sums.length : Int) != (r_.Counts.length : Int)) = false,Fn Try.prog 25 [(false, E3 r_.Head)] (E4 r3) [],(true || ((E4 r3).nv && nvL [])) = true,((r_.Sums.length : Int) != (r_.Counts.length : Int)) = false,((r_.Sums.length : Int) != (r_.Counts.length : Int)) = false,(!r3) = false,vI ((List.map E3 r_.Counts).length : Int) = vI (r_.Counts.length : Int),Loop Try.prog (sub (codeOf Try.prog 65) [1, 1, 0, 1, 0, 0]) (st 53 [(1, V.ptr 0 0), (32, vI (r_.Counts.length : Int)), (33, vI 0)] [Blk.box 26 [vI r_.Span, vI r_.Head, V.sl false 3 (List.map E3 r_.Counts), V.sl false 3 (List.map E3 r_.Sums)]] []) (X.ret) (st 53 [(2, V.sc (.bool false))] [] [])]) (by kernel_rfl) (cj (spec_l01In_ok r_.Span 1 1000 r1 h1) (cj rfl (cj (nf h2) (cj (nf h2) (cj (nf h2) (cj (len_nm _ _) (cj (nf h2) (cj (spec_l01In_ok (r_.Counts.length : Int) 1 8 r2 h3) (cj rfl (cj (nf h2) (cj (nf h2) (cj (nf h4) (cj (nf h4) (cj (nf h4) (cj (len_nm _ _) (cj (nf h4) (cj (nf h4) (cj (nf h4) (cj (len_nm _ _) (cj (nf h4) (cj (nf h4) (cj h5 (cj h5 (cj h5 (cj (spec_l06Time_ok r_.Head r3 h6) (cj rfl (cj h5 (cj h5 (cj (nf h7) (cj (len_nm _ _) (cj1 ((spec_RingOk_l0_ok r_ h15 r_.Counts [] rfl r6 h16).at h18 :)))))))))))))))))))))))))))))))))))) (fun h15 =>
   Pn.none)) (fun h7 =>
   Pn.some (Fn.of [.call [] (E4 r1) [], .bit false, .bit false, .bit false, .nm 11 (vI (r_.Counts.length : Int)), .bit false, .call [] (E4 r2) [], .bit false, .bit false, .bit false, .bit false, .bit false, .nm 18 (vI (r_.Sums.length : Int)), .bit false, .bit false, .bit false, .nm 21 (vI (r_.Counts.length : Int)), .bit false, .bit false, .bit false, .bit false, .bit false, .call [] (E4 r3) [], .bit false, .bit false, .bit true] (p := [Fn Try.prog 62 [(false, E3 r_.Span), (false, E3 1), (false, E3 1000)] (E4 r1) [],(true || ((E4 r1).nv && nvL [])) = true,(!r1) = false,(!r1) = false,(!r1) = false,vI ((List.map E3 r_.Counts).length : Int) = vI (r_.Counts.length : Int),(!r1) = false,Fn Try.prog 62 [(false, E3 (r_.Counts.length : Int)), (false, E3 1), (false, E3 8)] (E4 r2) [],(true || ((E4 r2).nv && nvL [])) = true,(!r1) = false,(!r1) = false,(!r2) = false,(!r2) = false,(!r2) = false,vI ((List.map E3 r_.Sums).length : Int) = vI (r_.Sums.length : Int),(!r2) = false,(!r2) = false,(!r2) = false,vI ((List.map E3 r_.Counts).length : Int) = vI (r_.Counts.length : Int),(!r2) = false,(!r2) = false,((r_.Sums.length : Int) != (r_.Counts.length : Int)) = false,((r_.Sums.length : Int) != (r_.Counts.length : Int)) = false,((r_.Sums.length : Int) != (r_.Counts.length : Int)) = false,Fn Try.prog 25 [(false, E3 r_.Head)] (E4 r3) [],(true || ((E4 r3).nv && nvL [])) = true,((r_.Sums.length : Int) != (r_.Counts.length : Int)) = false,((r_.Sums.length : Int) != (r_.Counts.length : Int)) = false,(!r3) = true]) (by kernel_rfl) (cj (spec_l01In_ok r_.Span 1 1000 r1 h1) (cj rfl (cj (nf h2) (cj (nf h2) (cj (nf h2) (cj (len_nm _ _) (cj (nf h2) (cj (spec_l01In_ok (r_.Counts.length : Int) 1 8 r2 h3) (cj rfl (cj (nf h2) (cj (nf h2) (cj (nf h4) (cj (nf h4) (cj (nf h4) (cj (len_nm _ _) (cj (nf h4) (cj (nf h4) (cj (nf h4) (cj (len_nm _ _) (cj (nf h4) (cj (nf h4) (cj h5 (cj h5 (cj h5 (cj (spec_l06Time_ok r_.Head r3 h6) (cj rfl (cj h5 (cj h5 (cj1 (nt h7))))))))))))))))))))))))))))))))))) (fun h4 =>
   Pn.some (Fn.of [.call [] (E4 r1) [], .bit false, .bit false, .bit false, .nm 11 (vI (r_.Counts.length : Int)), .bit false, .call [] (E4 r2) [], .bit false, .bit false, .bit true, .bit true, .bit true, .bit true, .bit true, .bit true, .bit true, .bit true, .bit true, .bit true, .bit true, .bit true, .bit true, .bit true] (p := [Fn Try.prog 62 [(false, E3 r_.Span), (false, E3 1), (false, E3 1000)] (E4 r1) [],(true || ((E4 r1).nv && nvL [])) = true,(!r1) = false,(!r1) = false,(!r1) = false,vI ((List.map E3 r_.Counts).length : Int) = vI (r_.Counts.length : Int),(!r1) = false,Fn Try.prog 62 [(false, E3 (r_.Counts.length : Int)), (false, E3 1), (false, E3 8)] (E4 r2) [],(true || ((E4 r2).nv && nvL [])) = true,(!r1) = false,(!r1) = false,(!r2) = true,(!r2) = true,(!r2) = true,(!r2) = true,(!r2) = true,(!r2) = true,(!r2) = true,(!r2) = true,true = true,true = true,true = true,true = true,true = true,true = true]) (by kernel_rfl) (cj (spec_l01In_ok r_.Span 1 1000 r1 h1) (cj rfl (cj (nf h2) (cj (nf h2) (cj (nf h2) (cj (len_nm _ _) (cj (nf h2) (cj (spec_l01In_ok (r_.Counts.length : Int) 1 8 r2 h3) (cj rfl (cj (nf h2) (cj (nf h2) (cj (nt h4) (cj (nt h4) (cj (nt h4) (cj (nt h4) (cj (nt h4) (cj (nt h4) (cj (nt h4) (cj (nt h4) (cj rfl (cj rfl (cj rfl (cj rfl (cj rfl (cj1 rfl))))))))))))))))))))))))))))) (fun h2 =>
   Pn.some (Fn.of [.call [] (E4 r1) [], .bit true, .bit true, .bit true, .bit true, .bit true, .bit true, .bit true, .bit true, .bit true, .bit true, .bit true, .bit true, .bit true, .bit true, .bit true, .bit true, .bit true, .bit true, .bit true, .bit true] (p := [Fn Try.prog 62 [(false, E3 r_.Span), (false, E3 1), (false, E3 1000)] (E4 r1) [],(true || ((E4 r1).nv && nvL [])) = true,(!r1) = true,(!r1) = true,(!r1) = true,(!r1) = true,(!r1) = true,(!r1) = true,true = true,true = true,true = true,true = true,true = true,true = true,true = true,true = true,true = true,true = true,true = true,true = true,true = true,true = true]) (by kernel_rfl) (cj (spec_l01In_ok r_.Span 1 1000 r1 h1) (cj rfl (cj (nt h2) (cj (nt h2) (cj (nt h2) (cj (nt h2) (cj (nt h2) (cj (nt h2) (cj rfl (cj rfl (cj rfl (cj rfl (cj rfl (cj rfl (cj rfl (cj rfl (cj rfl (cj rfl (cj rfl (cj rfl (cj rfl (cj1 rfl)))))))))))))))))))))))))
def spec_SlotOk (s_ : Slot) : Option (Bool) :=
 (spec_Digits s_.Trace).bind fun r1 =>
 if r1 = true then
 if ((s_.Trace.size : Int) == 6) = true then
 (spec_Digits s_.Mti).bind fun r2 =>
 if r2 = true then
 if ((s_.Mti.size : Int) == 4) = true then
 (spec_l01In (s_.Reply.length : Int) 1 200).bind fun r3 =>
 some r3
 else
 some false
 else
 some false
 else
 some false
 else
 some false
theorem spec_SlotOk_ok (s_ : Slot) : Pn (fun y => Fn Try.prog 92 [(false, E94 s_)] (E4 y) []) (spec_SlotOk s_) := by
  unfold spec_SlotOk
  exact
   Pn.bind (fun r1 h1 =>
   Pn.ite (fun h2 =>
   Pn.ite (fun h3 =>
   Pn.bind (fun r2 h4 =>
   Pn.ite (fun h5 =>
   Pn.ite (fun h6 =>
   Pn.bind (fun r3 h7 =>
   Pn.some (Fn.of [.call [] (E4 r1) [], .bit true, .bit true, .bit true, .bit true, .bit true, .bit true, .bit true, .bit true, .call [] (E4 r2) [], .bit true, .bit true, .bit true, .bit true, .bit true, .bit true, .bit true, .bit true, .bit true, .nm 26 (vI (s_.Reply.length : Int)), .bit true, .call [] (E4 r3) [], .bit true] (p := [Fn Try.prog 105 [(false, E9 s_.Trace)] (E4 r1) [],(true || ((E4 r1).nv && nvL [])) = true,r1 = true,r1 = true,r1 = true,r1 = true,r1 = true,((s_.Trace.size : Int) == 6) = true,((s_.Trace.size : Int) == 6) = true,((s_.Trace.size : Int) == 6) = true,Fn Try.prog 105 [(false, E9 s_.Mti)] (E4 r2) [],(true || ((E4 r2).nv && nvL [])) = true,((s_.Trace.size : Int) == 6) = true,r2 = true,r2 = true,r2 = true,r2 = true,r2 = true,((s_.Mti.size : Int) == 4) = true,((s_.Mti.size : Int) == 4) = true,((s_.Mti.size : Int) == 4) = true,vI ((List.map E5 s_.Reply).length : Int) = vI (s_.Reply.length : Int),((s_.Mti.size : Int) == 4) = true,Fn Try.prog 62 [(false, E3 (s_.Reply.length : Int)), (false, E3 1), (false, E3 200)] (E4 r3) [],(true || ((E4 r3).nv && nvL [])) = true,((s_.Mti.size : Int) == 4) = true]) (by kernel_rfl) (cj (spec_Digits_ok s_.Trace r1 h1) (cj rfl (cj h2 (cj h2 (cj h2 (cj h2 (cj h2 (cj h3 (cj h3 (cj h3 (cj (spec_Digits_ok s_.Mti r2 h4) (cj rfl (cj h3 (cj h5 (cj h5 (cj h5 (cj h5 (cj h5 (cj h6 (cj h6 (cj h6 (cj (len_nm _ _) (cj h6 (cj (spec_l01In_ok (s_.Reply.length : Int) 1 200 r3 h7) (cj rfl (cj1 h6))))))))))))))))))))))))))))) (fun h6 =>
   Pn.some (Fn.of [.call [] (E4 r1) [], .bit true, .bit true, .bit true, .bit true, .bit true, .bit true, .bit true, .bit true, .call [] (E4 r2) [], .bit true, .bit true, .bit true, .bit true, .bit true, .bit true, .bit false, .bit false, .bit false, .bit false, .bit false] (p := [Fn Try.prog 105 [(false, E9 s_.Trace)] (E4 r1) [],(true || ((E4 r1).nv && nvL [])) = true,r1 = true,r1 = true,r1 = true,r1 = true,r1 = true,((s_.Trace.size : Int) == 6) = true,((s_.Trace.size : Int) == 6) = true,((s_.Trace.size : Int) == 6) = true,Fn Try.prog 105 [(false, E9 s_.Mti)] (E4 r2) [],(true || ((E4 r2).nv && nvL [])) = true,((s_.Trace.size : Int) == 6) = true,r2 = true,r2 = true,r2 = true,r2 = true,r2 = true,((s_.Mti.size : Int) == 4) = false,((s_.Mti.size : Int) == 4) = false,((s_.Mti.size : Int) == 4) = false,((s_.Mti.size : Int) == 4) = false,((s_.Mti.size : Int) == 4) = false]) (by kernel_rfl) (cj (spec_Digits_ok s_.Trace r1 h1) (cj rfl (cj h2 (cj h2 (cj h2 (cj h2 (cj h2 (cj h3 (cj h3 (cj h3 (cj (spec_Digits_ok s_.Mti r2 h4) (cj rfl (cj h3 (cj h5 (cj h5 (cj h5 (cj h5 (cj h5 (cj h6 (cj h6 (cj h6 (cj h6 (cj1 h6)))))))))))))))))))))))))) (fun h5 =>
   Pn.some (Fn.of [.call [] (E4 r1) [], .bit true, .bit true, .bit true, .bit true, .bit true, .bit true, .bit true, .bit true, .call [] (E4 r2) [], .bit true, .bit false, .bit false, .bit false, .bit false, .bit false, .bit false, .bit false, .bit false, .bit false, .bit false] (p := [Fn Try.prog 105 [(false, E9 s_.Trace)] (E4 r1) [],(true || ((E4 r1).nv && nvL [])) = true,r1 = true,r1 = true,r1 = true,r1 = true,r1 = true,((s_.Trace.size : Int) == 6) = true,((s_.Trace.size : Int) == 6) = true,((s_.Trace.size : Int) == 6) = true,Fn Try.prog 105 [(false, E9 s_.Mti)] (E4 r2) [],(true || ((E4 r2).nv && nvL [])) = true,((s_.Trace.size : Int) == 6) = true,r2 = false,r2 = false,r2 = false,r2 = false,r2 = false,false = false,false = false,false = false,false = false,false = false]) (by kernel_rfl) (cj (spec_Digits_ok s_.Trace r1 h1) (cj rfl (cj h2 (cj h2 (cj h2 (cj h2 (cj h2 (cj h3 (cj h3 (cj h3 (cj (spec_Digits_ok s_.Mti r2 h4) (cj rfl (cj h3 (cj h5 (cj h5 (cj h5 (cj h5 (cj h5 (cj rfl (cj rfl (cj rfl (cj rfl (cj1 rfl))))))))))))))))))))))))))) (fun h3 =>
   Pn.some (Fn.of [.call [] (E4 r1) [], .bit true, .bit true, .bit true, .bit true, .bit true, .bit false, .bit false, .bit false, .bit false, .bit false, .bit false, .bit false, .bit false, .bit false, .bit false, .bit false, .bit false, .bit false, .bit false] (p := [Fn Try.prog 105 [(false, E9 s_.Trace)] (E4 r1) [],(true || ((E4 r1).nv && nvL [])) = true,r1 = true,r1 = true,r1 = true,r1 = true,r1 = true,((s_.Trace.size : Int) == 6) = false,((s_.Trace.size : Int) == 6) = false,((s_.Trace.size : Int) == 6) = false,((s_.Trace.size : Int) == 6) = false,false = false,false = false,false = false,false = false,false = false,false = false,false = false,false = false,false = false,false = false]) (by kernel_rfl) (cj (spec_Digits_ok s_.Trace r1 h1) (cj rfl (cj h2 (cj h2 (cj h2 (cj h2 (cj h2 (cj h3 (cj h3 (cj h3 (cj h3 (cj rfl (cj rfl (cj rfl (cj rfl (cj rfl (cj rfl (cj rfl (cj rfl (cj rfl (cj1 rfl)))))))))))))))))))))))) (fun h2 =>
   Pn.some (Fn.of [.call [] (E4 r1) [], .bit false, .bit false, .bit false, .bit false, .bit false, .bit false, .bit false, .bit false, .bit false, .bit false, .bit false, .bit false, .bit false, .bit false, .bit false, .bit false, .bit false, .bit false, .bit false] (p := [Fn Try.prog 105 [(false, E9 s_.Trace)] (E4 r1) [],(true || ((E4 r1).nv && nvL [])) = true,r1 = false,r1 = false,r1 = false,r1 = false,r1 = false,false = false,false = false,false = false,false = false,false = false,false = false,false = false,false = false,false = false,false = false,false = false,false = false,false = false,false = false]) (by kernel_rfl) (cj (spec_Digits_ok s_.Trace r1 h1) (cj rfl (cj h2 (cj h2 (cj h2 (cj h2 (cj h2 (cj rfl (cj rfl (cj rfl (cj rfl (cj rfl (cj rfl (cj rfl (cj rfl (cj rfl (cj rfl (cj rfl (cj rfl (cj rfl (cj1 rfl))))))))))))))))))))))))
def spec_SlotsOk_l1 (l : List Slot) (p1 : List Slot) (x1 : Slot) : List Slot → Option (Lo Unit Unit)
  | [] =>
   some (.out ())
  | x2 :: t2 =>
   if (x2.Trace == x1.Trace) = true then
   if (x2.Mti == x1.Mti) = true then
   some (.ret ())
   else
   spec_SlotsOk_l1 l p1 x1 t2
   else
   spec_SlotsOk_l1 l p1 x1 t2
theorem spec_SlotsOk_l1_ok (l : List Slot) (p1 : List Slot) (x1 : Slot) (h8 : capOk ((l.take ((p1.length : Int).toNat)).drop 0).length = true) : ∀ (t2 p2 : List Slot) (_ : ((l.take ((p1.length : Int).toNat)).drop 0) = p2 ++ t2) , Pn (LpO Try.prog (sub (codeOf Try.prog 66) [1, 0, 1, 0, 0, 1, 1, 0, 0, 1, 1, 1, 0, 0]) (st 42 [(0, V.sl false 94 (List.map E94 l)), (4, V.ptr 0 0), (7, V.sl false 94 (List.map E94 l)), (8, vI (l.length : Int)), (9, vI (p1.length : Int)), (19, V.sl false 94 (List.map E94 ((l.take ((p1.length : Int).toNat)).drop 0))), (20, vI (((l.take ((p1.length : Int).toNat)).drop 0).length : Int)), (21, vI (p2.length : Int))] [Blk.box 94 [V.sc (.string x1.Trace), V.sc (.string x1.Mti), V.sl false 5 (List.map E5 x1.Reply)]] []) (fun (y : Lo Unit Unit) => Lo.elim y (fun s => (X.out 2, st 42 [(0, V.sl false 94 (List.map E94 l)), (7, V.sl false 94 (List.map E94 l)), (8, vI (l.length : Int)), (9, vI (p1.length : Int))] [] [])) (fun s => (X.ret, st 42 [(2, V.sc (.bool false))] [] [])))) (spec_SlotsOk_l1 l p1 x1 t2)
  | [], p2, h7 => by
    unfold spec_SlotsOk_l1
    exact
     Pn.some (LpO.out [.bit false, .mask [0, 7, 8, 9], .ren []] (p := [(decide ((p2.length : Int) < (((l.take ((p1.length : Int).toNat)).drop 0).length : Int))) = false]) (by kernel_rfl) (show X.out 2 ≠ X.go from nofun) (cj1 (rng_end h7)))
  | x2 :: t2, p2, h7 => by
    unfold spec_SlotsOk_l1
    exact
     Pn.ite (fun h9 =>
     Pn.ite (fun h10 =>
     Pn.some (LpO.out [.bit true, .el (E94 x2), .bit true, .bit true, .bit true, .bit true, .bit true, .bit true, .bit true, .wait 1, .mask [2], .ren []] (p := [(decide ((p2.length : Int) < (((l.take ((p1.length : Int).toNat)).drop 0).length : Int))) = true,(0 : Int) ≤ (p2.length : Int),(List.map E94 ((l.take ((p1.length : Int).toNat)).drop 0))[(p2.length : Int).toNat]? = some (E94 x2),(x2.Trace == x1.Trace) = true,(x2.Trace == x1.Trace) = true,(x2.Trace == x1.Trace) = true,(x2.Trace == x1.Trace) = true,(x2.Trace == x1.Trace) = true,(x2.Trace == x1.Trace) = true,(x2.Mti == x1.Mti) = true]) (by kernel_rfl) (show X.ret ≠ X.go from nofun) (cj (rng_lt h7) (cj (by omega) (cj (rng_get _ h7) (cj h9 (cj h9 (cj h9 (cj h9 (cj h9 (cj h9 (cj1 h10)))))))))))) (fun h10 =>
     LpO.go [.bit true, .el (E94 x2), .bit true, .bit true, .bit true, .bit true, .bit true, .bit true, .bit false, .wait 2, .mask [0, 4, 7, 8, 9, 19, 20, 21], .ren [0], .nm 21 (vI ((p2 ++ [x2]).length : Int))] (p := [(decide ((p2.length : Int) < (((l.take ((p1.length : Int).toNat)).drop 0).length : Int))) = true,(0 : Int) ≤ (p2.length : Int),(List.map E94 ((l.take ((p1.length : Int).toNat)).drop 0))[(p2.length : Int).toNat]? = some (E94 x2),(x2.Trace == x1.Trace) = true,(x2.Trace == x1.Trace) = true,(x2.Trace == x1.Trace) = true,(x2.Trace == x1.Trace) = true,(x2.Trace == x1.Trace) = true,(x2.Trace == x1.Trace) = true,(x2.Mti == x1.Mti) = false,vI (i64 ((p2.length : Int) + 1)) = vI ((p2 ++ [x2]).length : Int)]) (by kernel_rfl) (cj (rng_lt h7) (cj (by omega) (cj (rng_get _ h7) (cj h9 (cj h9 (cj h9 (cj h9 (cj h9 (cj h9 (cj h10 (cj1 (rng_next h7 h8)))))))))))) (spec_SlotsOk_l1_ok l p1 x1 h8 t2 (p2 ++ [x2]) (rng_step h7)))) (fun h9 =>
     LpO.go [.bit true, .el (E94 x2), .bit false, .bit false, .bit false, .bit false, .bit false, .bit false, .bit false, .wait 2, .mask [0, 4, 7, 8, 9, 19, 20, 21], .ren [0], .nm 21 (vI ((p2 ++ [x2]).length : Int))] (p := [(decide ((p2.length : Int) < (((l.take ((p1.length : Int).toNat)).drop 0).length : Int))) = true,(0 : Int) ≤ (p2.length : Int),(List.map E94 ((l.take ((p1.length : Int).toNat)).drop 0))[(p2.length : Int).toNat]? = some (E94 x2),(x2.Trace == x1.Trace) = false,(x2.Trace == x1.Trace) = false,(x2.Trace == x1.Trace) = false,(x2.Trace == x1.Trace) = false,(x2.Trace == x1.Trace) = false,(x2.Trace == x1.Trace) = false,false = false,vI (i64 ((p2.length : Int) + 1)) = vI ((p2 ++ [x2]).length : Int)]) (by kernel_rfl) (cj (rng_lt h7) (cj (by omega) (cj (rng_get _ h7) (cj h9 (cj h9 (cj h9 (cj h9 (cj h9 (cj h9 (cj rfl (cj1 (rng_next h7 h8)))))))))))) (spec_SlotsOk_l1_ok l p1 x1 h8 t2 (p2 ++ [x2]) (rng_step h7)))
def spec_SlotsOk_l0 (l : List Slot) : List Slot → List Slot → Option (Lo Unit Unit)
  | [], p1 =>
   some (.out ())
  | x1 :: t1, p1 =>
   (spec_SlotOk x1).bind fun r1 =>
   if r1 = true then
   if (decide (0 ≤ (p1.length : Int))) = true then
   if (decide ((p1.length : Int) ≤ (l.length : Int))) = true then
   if (capOk ((l.take ((p1.length : Int).toNat)).drop 0).length) = true then
   (spec_SlotsOk_l1 l p1 x1 ((l.take ((p1.length : Int).toNat)).drop 0)).bind fun r2 =>
   Lo.elim r2 (fun s1 =>
   spec_SlotsOk_l0 l t1 (p1 ++ [x1])) (fun s2 =>
   some (.ret ()))
   else none
   else none
   else none
   else
   some (.ret ())
theorem spec_SlotsOk_l0_ok (l : List Slot) (h2 : capOk l.length = true) : ∀ (t1 p1 : List Slot) (_ : l = p1 ++ t1) , Pn (LpO Try.prog (sub (codeOf Try.prog 66) [1, 0, 1, 0, 0]) (st 42 [(0, V.sl false 94 (List.map E94 l)), (7, V.sl false 94 (List.map E94 l)), (8, vI (l.length : Int)), (9, vI (p1.length : Int))] [] []) (fun (y : Lo Unit Unit) => Lo.elim y (fun s => (X.out 0, st 42 [(0, V.sl false 94 (List.map E94 l))] [] [])) (fun s => (X.ret, st 42 [(2, V.sc (.bool false))] [] [])))) (spec_SlotsOk_l0 l t1 p1)
  | [], p1, h1 => by
    unfold spec_SlotsOk_l0
    exact
     Pn.some (LpO.out [.bit false, .mask [0], .ren []] (p := [(decide ((p1.length : Int) < (l.length : Int))) = false]) (by kernel_rfl) (show X.out 0 ≠ X.go from nofun) (cj1 (rng_end h1)))
  | x1 :: t1, p1, h1 => by
    unfold spec_SlotsOk_l0
    exact
     Pn.bind (fun r1 h3 =>
     Pn.ite (fun h4 =>
     Pn.ite (fun h5 =>
     Pn.ite (fun h6 =>
     Pn.ite (fun h11 =>
     Pn.bind (fun r2 h12 =>
     Pn.lo (fun s1 h13 =>
     LpO.go [.bit true, .el (E94 x1), .call [] (E4 r1) [], .bit false, .wait 2, .nm 19 (V.sl false 94 (List.map E94 ((l.take ((p1.length : Int).toNat)).drop 0))), .wait 1, .nm 20 (vI (((l.take ((p1.length : Int).toNat)).drop 0).length : Int)), .wait 2, .mask [0, 4, 7, 8, 9, 19, 20, 21], .ren [0], .loop (X.out 2) (st 42 [(0, V.sl false 94 (List.map E94 l)), (7, V.sl false 94 (List.map E94 l)), (8, vI (l.length : Int)), (9, vI (p1.length : Int))] [] []), .wait 3, .mask [0, 7, 8, 9], .ren [], .nm 9 (vI ((p1 ++ [x1]).length : Int))] (p := [(decide ((p1.length : Int) < (l.length : Int))) = true,(0 : Int) ≤ (p1.length : Int),(List.map E94 l)[(p1.length : Int).toNat]? = some (E94 x1),Fn Try.prog 92 [(false, E94 x1)] (E4 r1) [],(true || ((E4 r1).nv && nvL [])) = true,(!r1) = false,(0 : Int) ≤ 0,(0 : Int) ≤ (p1.length : Int),((p1.length : Int) : Int) ≤ ((List.map E94 l).length : Int),V.sl false 94 (((List.map E94 l).take ((p1.length : Int).toNat)).drop 0) = V.sl false 94 (List.map E94 ((l.take ((p1.length : Int).toNat)).drop 0)),vI ((List.map E94 ((l.take ((p1.length : Int).toNat)).drop 0)).length : Int) = vI (((l.take ((p1.length : Int).toNat)).drop 0).length : Int),Loop Try.prog (sub (codeOf Try.prog 66) [1, 0, 1, 0, 0, 1, 1, 0, 0, 1, 1, 1, 0, 0]) (st 42 [(0, V.sl false 94 (List.map E94 l)), (4, V.ptr 0 0), (7, V.sl false 94 (List.map E94 l)), (8, vI (l.length : Int)), (9, vI (p1.length : Int)), (19, V.sl false 94 (List.map E94 ((l.take ((p1.length : Int).toNat)).drop 0))), (20, vI (((l.take ((p1.length : Int).toNat)).drop 0).length : Int)), (21, vI 0)] [Blk.box 94 [V.sc (.string x1.Trace), V.sc (.string x1.Mti), V.sl false 5 (List.map E5 x1.Reply)]] []) (X.out 2) (st 42 [(0, V.sl false 94 (List.map E94 l)), (7, V.sl false 94 (List.map E94 l)), (8, vI (l.length : Int)), (9, vI (p1.length : Int))] [] []),vI (i64 ((p1.length : Int) + 1)) = vI ((p1 ++ [x1]).length : Int)]) (by kernel_rfl) (cj (rng_lt h1) (cj (by omega) (cj (rng_get _ h1) (cj (spec_SlotOk_ok x1 r1 h3) (cj rfl (cj (nf h4) (cj (by decide) (cj (od h5) (cj (by rw [List.length_map]; exact (od h6)) (cj (nm_cut _ _ _ _ _) (cj (len_nm _ _) (cj ((spec_SlotsOk_l1_ok l p1 x1 h11 ((l.take ((p1.length : Int).toNat)).drop 0) [] rfl r2 h12).at h13 :) (cj1 (rng_next h1 h2)))))))))))))) (spec_SlotsOk_l0_ok l h2 t1 (p1 ++ [x1]) (rng_step h1))) (fun s2 h14 =>
     Pn.some (LpO.out [.bit true, .el (E94 x1), .call [] (E4 r1) [], .bit false, .wait 2, .nm 19 (V.sl false 94 (List.map E94 ((l.take ((p1.length : Int).toNat)).drop 0))), .wait 1, .nm 20 (vI (((l.take ((p1.length : Int).toNat)).drop 0).length : Int)), .wait 2, .mask [0, 4, 7, 8, 9, 19, 20, 21], .ren [0], .loop (X.ret) (st 42 [(2, V.sc (.bool false))] [] []), .wait 1, .mask [2], .ren []] (p := [(decide ((p1.length : Int) < (l.length : Int))) = true,(0 : Int) ≤ (p1.length : Int),(List.map E94 l)[(p1.length : Int).toNat]? = some (E94 x1),Fn Try.prog 92 [(false, E94 x1)] (E4 r1) [],(true || ((E4 r1).nv && nvL [])) = true,(!r1) = false,(0 : Int) ≤ 0,(0 : Int) ≤ (p1.length : Int),((p1.length : Int) : Int) ≤ ((List.map E94 l).length : Int),V.sl false 94 (((List.map E94 l).take ((p1.length : Int).toNat)).drop 0) = V.sl false 94 (List.map E94 ((l.take ((p1.length : Int).toNat)).drop 0)),vI ((List.map E94 ((l.take ((p1.length : Int).toNat)).drop 0)).length : Int) = vI (((l.take ((p1.length : Int).toNat)).drop 0).length : Int),Loop Try.prog (sub (codeOf Try.prog 66) [1, 0, 1, 0, 0, 1, 1, 0, 0, 1, 1, 1, 0, 0]) (st 42 [(0, V.sl false 94 (List.map E94 l)), (4, V.ptr 0 0), (7, V.sl false 94 (List.map E94 l)), (8, vI (l.length : Int)), (9, vI (p1.length : Int)), (19, V.sl false 94 (List.map E94 ((l.take ((p1.length : Int).toNat)).drop 0))), (20, vI (((l.take ((p1.length : Int).toNat)).drop 0).length : Int)), (21, vI 0)] [Blk.box 94 [V.sc (.string x1.Trace), V.sc (.string x1.Mti), V.sl false 5 (List.map E5 x1.Reply)]] []) (X.ret) (st 42 [(2, V.sc (.bool false))] [] [])]) (by kernel_rfl) (show X.ret ≠ X.go from nofun) (cj (rng_lt h1) (cj (by omega) (cj (rng_get _ h1) (cj (spec_SlotOk_ok x1 r1 h3) (cj rfl (cj (nf h4) (cj (by decide) (cj (od h5) (cj (by rw [List.length_map]; exact (od h6)) (cj (nm_cut _ _ _ _ _) (cj (len_nm _ _) (cj1 ((spec_SlotsOk_l1_ok l p1 x1 h11 ((l.take ((p1.length : Int).toNat)).drop 0) [] rfl r2 h12).at h14 :))))))))))))))))) (fun h11 =>
     Pn.none)) (fun h6 =>
     Pn.none)) (fun h5 =>
     Pn.none)) (fun h4 =>
     Pn.some (LpO.out [.bit true, .el (E94 x1), .call [] (E4 r1) [], .bit true, .wait 1, .mask [2], .ren []] (p := [(decide ((p1.length : Int) < (l.length : Int))) = true,(0 : Int) ≤ (p1.length : Int),(List.map E94 l)[(p1.length : Int).toNat]? = some (E94 x1),Fn Try.prog 92 [(false, E94 x1)] (E4 r1) [],(true || ((E4 r1).nv && nvL [])) = true,(!r1) = true]) (by kernel_rfl) (show X.ret ≠ X.go from nofun) (cj (rng_lt h1) (cj (by omega) (cj (rng_get _ h1) (cj (spec_SlotOk_ok x1 r1 h3) (cj rfl (cj1 (nt h4))))))))))
def spec_SlotsOk (l : List Slot) : Option (Bool) :=
 if (capOk l.length) = true then
 (spec_SlotsOk_l0 l l []).bind fun r3 =>
 Lo.elim r3 (fun s3 =>
 some (decide ((l.length : Int) ≤ 6))) (fun s4 =>
 some false)
 else none
theorem spec_SlotsOk_ok (l : List Slot) : Pn (fun y => Fn Try.prog 66 [(false, E27 l)] (E4 y) []) (spec_SlotsOk l) := by
  unfold spec_SlotsOk
  exact
   Pn.ite (fun h15 =>
   Pn.bind (fun r3 h16 =>
   Pn.lo (fun s3 h17 =>
   Pn.some (Fn.of [.wait 3, .nm 8 (vI (l.length : Int)), .wait 2, .mask [0, 7, 8, 9], .ren [], .loop (X.out 0) (st 42 [(0, V.sl false 94 (List.map E94 l))] [] []), .wait 2, .nm 40 (vI (l.length : Int))] (p := [vI ((List.map E94 l).length : Int) = vI (l.length : Int),Loop Try.prog (sub (codeOf Try.prog 66) [1, 0, 1, 0, 0]) (st 42 [(0, V.sl false 94 (List.map E94 l)), (7, V.sl false 94 (List.map E94 l)), (8, vI (l.length : Int)), (9, vI 0)] [] []) (X.out 0) (st 42 [(0, V.sl false 94 (List.map E94 l))] [] []),vI ((List.map E94 l).length : Int) = vI (l.length : Int)]) (by kernel_rfl) (cj (len_nm _ _) (cj ((spec_SlotsOk_l0_ok l h15 l [] rfl r3 h16).at h17 :) (cj1 (len_nm _ _)))))) (fun s4 h18 =>
   Pn.some (Fn.of [.wait 3, .nm 8 (vI (l.length : Int)), .wait 2, .mask [0, 7, 8, 9], .ren [], .loop (X.ret) (st 42 [(2, V.sc (.bool false))] [] [])] (p := [vI ((List.map E94 l).length : Int) = vI (l.length : Int),Loop Try.prog (sub (codeOf Try.prog 66) [1, 0, 1, 0, 0]) (st 42 [(0, V.sl false 94 (List.map E94 l)), (7, V.sl false 94 (List.map E94 l)), (8, vI (l.length : Int)), (9, vI 0)] [] []) (X.ret) (st 42 [(2, V.sc (.bool false))] [] [])]) (by kernel_rfl) (cj (len_nm _ _) (cj1 ((spec_SlotsOk_l0_ok l h15 l [] rfl r3 h16).at h18 :))))))) (fun h15 =>
   Pn.none)
def spec_l01Clamp (n : Int) (lo : Int) (hi : Int) : Option (Int) :=
 if (decide (n < lo)) = true then
 some lo
 else
 if (decide (hi < n)) = true then
 some hi
 else
 some n
theorem spec_l01Clamp_ok (n : Int) (lo : Int) (hi : Int) : Pn (fun y => Fn Try.prog 87 [(false, E3 n), (false, E3 lo), (false, E3 hi)] (E3 y) []) (spec_l01Clamp n lo hi) := by
  unfold spec_l01Clamp
  exact
   Pn.ite (fun h1 =>
   Pn.some (Fn.of [.bit true] (p := [(decide (n < lo)) = true]) (by kernel_rfl) (cj1 h1))) (fun h1 =>
   Pn.ite (fun h2 =>
   Pn.some (Fn.of [.bit false, .bit true] (p := [(decide (n < lo)) = false,(decide (hi < n)) = true]) (by kernel_rfl) (cj h1 (cj1 h2)))) (fun h2 =>
   Pn.some (Fn.of [.bit false, .bit false] (p := [(decide (n < lo)) = false,(decide (hi < n)) = false]) (by kernel_rfl) (cj h1 (cj1 h2)))))
def spec_AddMoney (a : Int) (b : Int) : Option (Int × Bool) :=
 (spec_l01Money a).bind fun r1 =>
 if r1 = true then
 (spec_l01Money b).bind fun r2 =>
 if r2 = true then
 if (decide ((i64 (4611686018427387904 - b)) < a)) = true then
 some (0, false)
 else
 some (i64 (a + b), true)
 else
 some (0, false)
 else
 some (0, false)
theorem spec_AddMoney_ok (a : Int) (b : Int) : Pn (fun y => Fn Try.prog 86 [(false, E3 a), (false, E3 b)] (V.tup [E3 y.1, E4 y.2]) []) (spec_AddMoney a b) := by
  unfold spec_AddMoney
  exact
   Pn.bind (fun r1 h1 =>
   Pn.ite (fun h2 =>
   Pn.bind (fun r2 h3 =>
   Pn.ite (fun h4 =>
   Pn.ite (fun h5 =>
   Pn.some (Fn.of [.call [] (E4 r1) [], .bit false, .bit false, .call [] (E4 r2) [], .bit false, .bit false, .bit false, .bit false, .bit false, .bit false, .bit false, .bit true] (p := [Fn Try.prog 63 [(false, E3 a)] (E4 r1) [],(true || ((E4 r1).nv && nvL [])) = true,(!r1) = false,(!r1) = false,Fn Try.prog 63 [(false, E3 b)] (E4 r2) [],(true || ((E4 r2).nv && nvL [])) = true,(!r1) = false,(!r1) = false,(!r2) = false,(!r2) = false,(!r2) = false,(!r2) = false,(!r2) = false,(decide ((i64 (4611686018427387904 - b)) < a)) = true]) (by kernel_rfl) (cj (spec_l01Money_ok a r1 h1) (cj rfl (cj (nf h2) (cj (nf h2) (cj (spec_l01Money_ok b r2 h3) (cj rfl (cj (nf h2) (cj (nf h2) (cj (nf h4) (cj (nf h4) (cj (nf h4) (cj (nf h4) (cj (nf h4) (cj1 h5)))))))))))))))) (fun h5 =>
   Pn.some (Fn.of [.call [] (E4 r1) [], .bit false, .bit false, .call [] (E4 r2) [], .bit false, .bit false, .bit false, .bit false, .bit false, .bit false, .bit false, .bit false] (p := [Fn Try.prog 63 [(false, E3 a)] (E4 r1) [],(true || ((E4 r1).nv && nvL [])) = true,(!r1) = false,(!r1) = false,Fn Try.prog 63 [(false, E3 b)] (E4 r2) [],(true || ((E4 r2).nv && nvL [])) = true,(!r1) = false,(!r1) = false,(!r2) = false,(!r2) = false,(!r2) = false,(!r2) = false,(!r2) = false,(decide ((i64 (4611686018427387904 - b)) < a)) = false]) (by kernel_rfl) (cj (spec_l01Money_ok a r1 h1) (cj rfl (cj (nf h2) (cj (nf h2) (cj (spec_l01Money_ok b r2 h3) (cj rfl (cj (nf h2) (cj (nf h2) (cj (nf h4) (cj (nf h4) (cj (nf h4) (cj (nf h4) (cj (nf h4) (cj1 h5))))))))))))))))) (fun h4 =>
   Pn.some (Fn.of [.call [] (E4 r1) [], .bit false, .bit false, .call [] (E4 r2) [], .bit false, .bit false, .bit true, .bit true, .bit true, .bit true, .bit true, .bit true] (p := [Fn Try.prog 63 [(false, E3 a)] (E4 r1) [],(true || ((E4 r1).nv && nvL [])) = true,(!r1) = false,(!r1) = false,Fn Try.prog 63 [(false, E3 b)] (E4 r2) [],(true || ((E4 r2).nv && nvL [])) = true,(!r1) = false,(!r1) = false,(!r2) = true,(!r2) = true,(!r2) = true,(!r2) = true,(!r2) = true,true = true]) (by kernel_rfl) (cj (spec_l01Money_ok a r1 h1) (cj rfl (cj (nf h2) (cj (nf h2) (cj (spec_l01Money_ok b r2 h3) (cj rfl (cj (nf h2) (cj (nf h2) (cj (nt h4) (cj (nt h4) (cj (nt h4) (cj (nt h4) (cj (nt h4) (cj1 rfl)))))))))))))))))) (fun h2 =>
   Pn.some (Fn.of [.call [] (E4 r1) [], .bit true, .bit true, .bit true, .bit true, .bit true, .bit true, .bit true, .bit true, .bit true, .bit true] (p := [Fn Try.prog 63 [(false, E3 a)] (E4 r1) [],(true || ((E4 r1).nv && nvL [])) = true,(!r1) = true,(!r1) = true,(!r1) = true,(!r1) = true,true = true,true = true,true = true,true = true,true = true,true = true]) (by kernel_rfl) (cj (spec_l01Money_ok a r1 h1) (cj rfl (cj (nt h2) (cj (nt h2) (cj (nt h2) (cj (nt h2) (cj rfl (cj rfl (cj rfl (cj rfl (cj rfl (cj1 rfl)))))))))))))))
def spec_AddSat (a : Int) (b : Int) : Option (Int) :=
 (spec_l01Clamp a 0 4611686018427387904).bind fun r1 =>
 (spec_l01Clamp b 0 4611686018427387904).bind fun r2 =>
 (spec_AddMoney r1 r2).bind fun r3 =>
 if r3.2 = true then
 some r3.1
 else
 some 4611686018427387904
theorem spec_AddSat_ok (a : Int) (b : Int) : Pn (fun y => Fn Try.prog 53 [(false, E3 a), (false, E3 b)] (E3 y) []) (spec_AddSat a b) := by
  unfold spec_AddSat
  exact
   Pn.bind (fun r1 h1 =>
   Pn.bind (fun r2 h2 =>
   Pn.bind (fun r3 h3 =>
   Pn.ite (fun h4 =>
   Pn.some (Fn.of [.call [] (E3 r1) [], .call [] (E3 r2) [], .call [] (V.tup [E3 r3.1, E4 r3.2]) [], .bit false] (p := [Fn Try.prog 87 [(false, E3 a), (false, E3 0), (false, E3 4611686018427387904)] (E3 r1) [],(true || ((E3 r1).nv && nvL [])) = true,Fn Try.prog 87 [(false, E3 b), (false, E3 0), (false, E3 4611686018427387904)] (E3 r2) [],(true || ((E3 r2).nv && nvL [])) = true,Fn Try.prog 86 [(false, E3 r1), (false, E3 r2)] (V.tup [E3 r3.1, E4 r3.2]) [],(true || ((V.tup [E3 r3.1, E4 r3.2]).nv && nvL [])) = true,(!r3.2) = false]) (by kernel_rfl) (cj (spec_l01Clamp_ok a 0 4611686018427387904 r1 h1) (cj rfl (cj (spec_l01Clamp_ok b 0 4611686018427387904 r2 h2) (cj rfl (cj (spec_AddMoney_ok r1 r2 r3 h3) (cj rfl (cj1 (nf h4)))))))))) (fun h4 =>
   Pn.some (Fn.of [.call [] (E3 r1) [], .call [] (E3 r2) [], .call [] (V.tup [E3 r3.1, E4 r3.2]) [], .bit true] (p := [Fn Try.prog 87 [(false, E3 a), (false, E3 0), (false, E3 4611686018427387904)] (E3 r1) [],(true || ((E3 r1).nv && nvL [])) = true,Fn Try.prog 87 [(false, E3 b), (false, E3 0), (false, E3 4611686018427387904)] (E3 r2) [],(true || ((E3 r2).nv && nvL [])) = true,Fn Try.prog 86 [(false, E3 r1), (false, E3 r2)] (V.tup [E3 r3.1, E4 r3.2]) [],(true || ((V.tup [E3 r3.1, E4 r3.2]).nv && nvL [])) = true,(!r3.2) = true]) (by kernel_rfl) (cj (spec_l01Clamp_ok a 0 4611686018427387904 r1 h1) (cj rfl (cj (spec_l01Clamp_ok b 0 4611686018427387904 r2 h2) (cj rfl (cj (spec_AddMoney_ok r1 r2 r3 h3) (cj rfl (cj1 (nt h4)))))))))))))
def spec_Stored_l0 (l : List Hold) : List Hold → Int → Option (Int)
  | [], v1 =>
   some v1
  | x1 :: t1, v1 =>
   (spec_AddSat v1 x1.Amount).bind fun r1 =>
   spec_Stored_l0 l t1 r1
theorem spec_Stored_l0_ok (l : List Hold) (h2 : capOk l.length = true) : ∀ (t1 p1 : List Hold) (_ : l = p1 ++ t1) (v1 : Int), Pn (LpO Try.prog (sub (codeOf Try.prog 54) [1, 1, 0, 1, 0, 0]) (st 18 [(3, vI v1), (6, V.sl false 36 (List.map E36 l)), (7, vI (l.length : Int)), (8, vI (p1.length : Int))] [] []) (fun (y : Int) => (X.out 0, st 18 [(3, vI y)] [] []))) (spec_Stored_l0 l t1 v1)
  | [], p1, h1, v1 => by
    unfold spec_Stored_l0
    exact
     Pn.some (LpO.out [.bit false, .mask [3], .ren []] (p := [(decide ((p1.length : Int) < (l.length : Int))) = false]) (by kernel_rfl) (show X.out 0 ≠ X.go from nofun) (cj1 (rng_end h1)))
  | x1 :: t1, p1, h1, v1 => by
    unfold spec_Stored_l0
    exact
     Pn.bind (fun r1 h3 =>
     LpO.go [.bit true, .el (E36 x1), .call [] (E3 r1) [], .wait 4, .mask [3, 6, 7, 8], .ren [], .nm 8 (vI ((p1 ++ [x1]).length : Int))] (p := [(decide ((p1.length : Int) < (l.length : Int))) = true,(0 : Int) ≤ (p1.length : Int),(List.map E36 l)[(p1.length : Int).toNat]? = some (E36 x1),Fn Try.prog 53 [(false, E3 v1), (false, E3 x1.Amount)] (E3 r1) [],(true || ((E3 r1).nv && nvL [])) = true,vI (i64 ((p1.length : Int) + 1)) = vI ((p1 ++ [x1]).length : Int)]) (by kernel_rfl) (cj (rng_lt h1) (cj (by omega) (cj (rng_get _ h1) (cj (spec_AddSat_ok v1 x1.Amount r1 h3) (cj rfl (cj1 (rng_next h1 h2))))))) (spec_Stored_l0_ok l h2 t1 (p1 ++ [x1]) (rng_step h1) r1))
def spec_Stored (l : List Hold) : Option (Int) :=
 if (capOk l.length) = true then
 (spec_Stored_l0 l l 0).bind fun r2 =>
 some r2
 else none
theorem spec_Stored_ok (l : List Hold) : Pn (fun y => Fn Try.prog 54 [(false, E23 l)] (E3 y) []) (spec_Stored l) := by
  unfold spec_Stored
  exact
   Pn.ite (fun h4 =>
   Pn.bind (fun r2 h5 =>
   Pn.some (Fn.of [.wait 4, .nm 7 (vI (l.length : Int)), .wait 2, .mask [3, 6, 7, 8], .ren [], .loop (X.out 0) (st 18 [(3, vI r2)] [] [])] (p := [vI ((List.map E36 l).length : Int) = vI (l.length : Int),Loop Try.prog (sub (codeOf Try.prog 54) [1, 1, 0, 1, 0, 0]) (st 18 [(3, vI 0), (6, V.sl false 36 (List.map E36 l)), (7, vI (l.length : Int)), (8, vI 0)] [] []) (X.out 0) (st 18 [(3, vI r2)] [] [])]) (by kernel_rfl) (cj (len_nm _ _) (cj1 (spec_Stored_l0_ok l h4 l [] rfl 0 r2 h5)))))) (fun h4 =>
   Pn.none)
def spec_AcctOk (a : Acct) : Option (Bool) :=
 (spec_AcctIdOk a.Id).bind fun r1 =>
 if r1 = true then
 (spec_l01In a.Limit 0 9007199254740992).bind fun r2 =>
 if r2 = true then
 (spec_l01In a.Most 0 1000).bind fun r3 =>
 if r3 = true then
 (spec_l01In a.MostSum 0 9007199254740992).bind fun r4 =>
 if r4 = true then
 (spec_l01Money a.Posted).bind fun r5 =>
 if r5 = true then
 (spec_HoldsOk a.Holds).bind fun r6 =>
 if r6 = true then
 (spec_RingOk a.Ring).bind fun r7 =>
 if r7 = true then
 (spec_SlotsOk a.Slots).bind fun r8 =>
 if r8 = true then
 (spec_Stored a.Holds).bind fun r9 =>
 (spec_AddSat a.Posted r9).bind fun r10 =>
 some (decide (r10 ≤ a.Limit))
 else
 some false
 else
 some false
 else
 some false
 else
 some false
 else
 some false
 else
 some false
 else
 some false
 else
 some false
theorem spec_AcctOk_ok (a : Acct) : Pn (fun y => Fn Try.prog 24 [(false, E29 a)] (E4 y) []) (spec_AcctOk a) := by
  unfold spec_AcctOk
  exact
   Pn.bind (fun r1 h1 =>
   Pn.ite (fun h2 =>
   Pn.bind (fun r2 h3 =>
   Pn.ite (fun h4 =>
   Pn.bind (fun r3 h5 =>
   Pn.ite (fun h6 =>
   Pn.bind (fun r4 h7 =>
   Pn.ite (fun h8 =>
   Pn.bind (fun r5 h9 =>
   Pn.ite (fun h10 =>
   Pn.bind (fun r6 h11 =>
   Pn.ite (fun h12 =>
   Pn.bind (fun r7 h13 =>
   Pn.ite (fun h14 =>
   Pn.bind (fun r8 h15 =>
   Pn.ite (fun h16 =>
   Pn.bind (fun r9 h17 =>
   Pn.bind (fun r10 h18 =>
   Pn.some (Fn.of [.call [] (E4 r1) [], .bit false, .bit false, .bit false, .call [] (E4 r2) [], .bit false, .bit false, .bit false, .bit false, .bit false, .call [] (E4 r3) [], .bit false, .bit false, .bit false, .bit false, .bit false, .call [] (E4 r4) [], .bit false, .bit false, .bit false, .bit false, .bit false, .call [] (E4 r5) [], .bit false, .bit false, .bit false, .draw [], .call [] (E4 r6) [], .bit true, .bit true, .bit true, .call [] (E4 r7) [], .bit true, .bit true, .bit true, .bit true, .call [] (E4 r8) [], .bit true, .bit true, .bit true, .bit true, .bit true, .bit true, .bit true, .bit true, .call [] (E3 r9) [], .bit true, .call [] (E3 r10) [], .bit true, .bit true] (p := [Fn Try.prog 61 [(false, E9 a.Id)] (E4 r1) [],(true || ((E4 r1).nv && nvL [])) = true,(!r1) = false,(!r1) = false,(!r1) = false,Fn Try.prog 62 [(false, E3 a.Limit), (false, E3 0), (false, E3 9007199254740992)] (E4 r2) [],(true || ((E4 r2).nv && nvL [])) = true,(!r1) = false,(!r1) = false,(!r2) = false,(!r2) = false,(!r2) = false,Fn Try.prog 62 [(false, E3 a.Most), (false, E3 0), (false, E3 1000)] (E4 r3) [],(true || ((E4 r3).nv && nvL [])) = true,(!r2) = false,(!r2) = false,(!r3) = false,(!r3) = false,(!r3) = false,Fn Try.prog 62 [(false, E3 a.MostSum), (false, E3 0), (false, E3 9007199254740992)] (E4 r4) [],(true || ((E4 r4).nv && nvL [])) = true,(!r3) = false,(!r3) = false,(!r4) = false,(!r4) = false,(!r4) = false,Fn Try.prog 63 [(false, E3 a.Posted)] (E4 r5) [],(true || ((E4 r5).nv && nvL [])) = true,(!r4) = false,(!r4) = false,(!r5) = false,Fn Try.prog 64 [(false, E23 a.Holds)] (E4 r6) [],(true || ((E4 r6).nv && nvL [])) = true,r6 = true,r6 = true,r6 = true,Fn Try.prog 65 [(false, E26 a.Ring)] (E4 r7) [],(true || ((E4 r7).nv && nvL [])) = true,r6 = true,r7 = true,r7 = true,r7 = true,Fn Try.prog 66 [(false, E27 a.Slots)] (E4 r8) [],(true || ((E4 r8).nv && nvL [])) = true,r7 = true,r8 = true,r8 = true,r8 = true,r8 = true,r8 = true,r8 = true,r8 = true,Fn Try.prog 54 [(false, E23 a.Holds)] (E3 r9) [],(true || ((E3 r9).nv && nvL [])) = true,r8 = true,Fn Try.prog 53 [(false, E3 a.Posted), (false, E3 r9)] (E3 r10) [],(true || ((E3 r10).nv && nvL [])) = true,r8 = true,r8 = true]) (by kernel_rfl) (cj (spec_AcctIdOk_ok a.Id r1 h1) (cj rfl (cj (nf h2) (cj (nf h2) (cj (nf h2) (cj (spec_l01In_ok a.Limit 0 9007199254740992 r2 h3) (cj rfl (cj (nf h2) (cj (nf h2) (cj (nf h4) (cj (nf h4) (cj (nf h4) (cj (spec_l01In_ok a.Most 0 1000 r3 h5) (cj rfl (cj (nf h4) (cj (nf h4) (cj (nf h6) (cj (nf h6) (cj (nf h6) (cj (spec_l01In_ok a.MostSum 0 9007199254740992 r4 h7) (cj rfl (cj (nf h6) (cj (nf h6) (cj (nf h8) (cj (nf h8) (cj (nf h8) (cj (spec_l01Money_ok a.Posted r5 h9) (cj rfl (cj (nf h8) (cj (nf h8) (cj (nf h10) (cj (spec_HoldsOk_ok a.Holds r6 h11) (cj rfl (cj h12 (cj h12 (cj h12 (cj (spec_RingOk_ok a.Ring r7 h13) (cj rfl (cj h12 (cj h14 (cj h14 (cj h14 (cj (spec_SlotsOk_ok a.Slots r8 h15) (cj rfl (cj h14 (cj h16 (cj h16 (cj h16 (cj h16 (cj h16 (cj h16 (cj h16 (cj (spec_Stored_ok a.Holds r9 h17) (cj rfl (cj h16 (cj (spec_AddSat_ok a.Posted r9 r10 h18) (cj rfl (cj h16 (cj1 h16))))))))))))))))))))))))))))))))))))))))))))))))))))))))))))))) (fun h16 =>
   Pn.some (Fn.of [.call [] (E4 r1) [], .bit false, .bit false, .bit false, .call [] (E4 r2) [], .bit false, .bit false, .bit false, .bit false, .bit false, .call [] (E4 r3) [], .bit false, .bit false, .bit false, .bit false, .bit false, .call [] (E4 r4) [], .bit false, .bit false, .bit false, .bit false, .bit false, .call [] (E4 r5) [], .bit false, .bit false, .bit false, .draw [], .call [] (E4 r6) [], .bit true, .bit true, .bit true, .call [] (E4 r7) [], .bit true, .bit true, .bit true, .bit true, .call [] (E4 r8) [], .bit true, .bit false, .bit false, .bit false, .bit false, .bit false, .bit false, .bit false, .bit false, .bit false, .bit false] (p := [Fn Try.prog 61 [(false, E9 a.Id)] (E4 r1) [],(true || ((E4 r1).nv && nvL [])) = true,(!r1) = false,(!r1) = false,(!r1) = false,Fn Try.prog 62 [(false, E3 a.Limit), (false, E3 0), (false, E3 9007199254740992)] (E4 r2) [],(true || ((E4 r2).nv && nvL [])) = true,(!r1) = false,(!r1) = false,(!r2) = false,(!r2) = false,(!r2) = false,Fn Try.prog 62 [(false, E3 a.Most), (false, E3 0), (false, E3 1000)] (E4 r3) [],(true || ((E4 r3).nv && nvL [])) = true,(!r2) = false,(!r2) = false,(!r3) = false,(!r3) = false,(!r3) = false,Fn Try.prog 62 [(false, E3 a.MostSum), (false, E3 0), (false, E3 9007199254740992)] (E4 r4) [],(true || ((E4 r4).nv && nvL [])) = true,(!r3) = false,(!r3) = false,(!r4) = false,(!r4) = false,(!r4) = false,Fn Try.prog 63 [(false, E3 a.Posted)] (E4 r5) [],(true || ((E4 r5).nv && nvL [])) = true,(!r4) = false,(!r4) = false,(!r5) = false,Fn Try.prog 64 [(false, E23 a.Holds)] (E4 r6) [],(true || ((E4 r6).nv && nvL [])) = true,r6 = true,r6 = true,r6 = true,Fn Try.prog 65 [(false, E26 a.Ring)] (E4 r7) [],(true || ((E4 r7).nv && nvL [])) = true,r6 = true,r7 = true,r7 = true,r7 = true,Fn Try.prog 66 [(false, E27 a.Slots)] (E4 r8) [],(true || ((E4 r8).nv && nvL [])) = true,r7 = true,r8 = false,r8 = false,r8 = false,r8 = false,r8 = false,r8 = false,r8 = false,r8 = false,r8 = false,r8 = false]) (by kernel_rfl) (cj (spec_AcctIdOk_ok a.Id r1 h1) (cj rfl (cj (nf h2) (cj (nf h2) (cj (nf h2) (cj (spec_l01In_ok a.Limit 0 9007199254740992 r2 h3) (cj rfl (cj (nf h2) (cj (nf h2) (cj (nf h4) (cj (nf h4) (cj (nf h4) (cj (spec_l01In_ok a.Most 0 1000 r3 h5) (cj rfl (cj (nf h4) (cj (nf h4) (cj (nf h6) (cj (nf h6) (cj (nf h6) (cj (spec_l01In_ok a.MostSum 0 9007199254740992 r4 h7) (cj rfl (cj (nf h6) (cj (nf h6) (cj (nf h8) (cj (nf h8) (cj (nf h8) (cj (spec_l01Money_ok a.Posted r5 h9) (cj rfl (cj (nf h8) (cj (nf h8) (cj (nf h10) (cj (spec_HoldsOk_ok a.Holds r6 h11) (cj rfl (cj h12 (cj h12 (cj h12 (cj (spec_RingOk_ok a.Ring r7 h13) (cj rfl (cj h12 (cj h14 (cj h14 (cj h14 (cj (spec_SlotsOk_ok a.Slots r8 h15) (cj rfl (cj h14 (cj h16 (cj h16 (cj h16 (cj h16 (cj h16 (cj h16 (cj h16 (cj h16 (cj h16 (cj1 h16))))))))))))))))))))))))))))))))))))))))))))))))))))))))))) (fun h14 =>
   Pn.some (Fn.of [.call [] (E4 r1) [], .bit false, .bit false, .bit false, .call [] (E4 r2) [], .bit false, .bit false, .bit false, .bit false, .bit false, .call [] (E4 r3) [], .bit false, .bit false, .bit false, .bit false, .bit false, .call [] (E4 r4) [], .bit false, .bit false, .bit false, .bit false, .bit false, .call [] (E4 r5) [], .bit false, .bit false, .bit false, .draw [], .call [] (E4 r6) [], .bit true, .bit true, .bit true, .call [] (E4 r7) [], .bit true, .bit false, .bit false, .bit false, .bit false, .bit false, .bit false, .bit false, .bit false, .bit false, .bit false, .bit false, .bit false, .bit false, .bit false] (p := [Fn Try.prog 61 [(false, E9 a.Id)] (E4 r1) [],(true || ((E4 r1).nv && nvL [])) = true,(!r1) = false,(!r1) = false,(!r1) = false,Fn Try.prog 62 [(false, E3 a.Limit), (false, E3 0), (false, E3 9007199254740992)] (E4 r2) [],(true || ((E4 r2).nv && nvL [])) = true,(!r1) = false,(!r1) = false,(!r2) = false,(!r2) = false,(!r2) = false,Fn Try.prog 62 [(false, E3 a.Most), (false, E3 0), (false, E3 1000)] (E4 r3) [],(true || ((E4 r3).nv && nvL [])) = true,(!r2) = false,(!r2) = false,(!r3) = false,(!r3) = false,(!r3) = false,Fn Try.prog 62 [(false, E3 a.MostSum), (false, E3 0), (false, E3 9007199254740992)] (E4 r4) [],(true || ((E4 r4).nv && nvL [])) = true,(!r3) = false,(!r3) = false,(!r4) = false,(!r4) = false,(!r4) = false,Fn Try.prog 63 [(false, E3 a.Posted)] (E4 r5) [],(true || ((E4 r5).nv && nvL [])) = true,(!r4) = false,(!r4) = false,(!r5) = false,Fn Try.prog 64 [(false, E23 a.Holds)] (E4 r6) [],(true || ((E4 r6).nv && nvL [])) = true,r6 = true,r6 = true,r6 = true,Fn Try.prog 65 [(false, E26 a.Ring)] (E4 r7) [],(true || ((E4 r7).nv && nvL [])) = true,r6 = true,r7 = false,r7 = false,r7 = false,r7 = false,false = false,false = false,false = false,false = false,false = false,false = false,false = false,false = false,false = false,false = false]) (by kernel_rfl) (cj (spec_AcctIdOk_ok a.Id r1 h1) (cj rfl (cj (nf h2) (cj (nf h2) (cj (nf h2) (cj (spec_l01In_ok a.Limit 0 9007199254740992 r2 h3) (cj rfl (cj (nf h2) (cj (nf h2) (cj (nf h4) (cj (nf h4) (cj (nf h4) (cj (spec_l01In_ok a.Most 0 1000 r3 h5) (cj rfl (cj (nf h4) (cj (nf h4) (cj (nf h6) (cj (nf h6) (cj (nf h6) (cj (spec_l01In_ok a.MostSum 0 9007199254740992 r4 h7) (cj rfl (cj (nf h6) (cj (nf h6) (cj (nf h8) (cj (nf h8) (cj (nf h8) (cj (spec_l01Money_ok a.Posted r5 h9) (cj rfl (cj (nf h8) (cj (nf h8) (cj (nf h10) (cj (spec_HoldsOk_ok a.Holds r6 h11) (cj rfl (cj h12 (cj h12 (cj h12 (cj (spec_RingOk_ok a.Ring r7 h13) (cj rfl (cj h12 (cj h14 (cj h14 (cj h14 (cj h14 (cj rfl (cj rfl (cj rfl (cj rfl (cj rfl (cj rfl (cj rfl (cj rfl (cj rfl (cj1 rfl))))))))))))))))))))))))))))))))))))))))))))))))))))))))) (fun h12 =>
   Pn.some (Fn.of [.call [] (E4 r1) [], .bit false, .bit false, .bit false, .call [] (E4 r2) [], .bit false, .bit false, .bit false, .bit false, .bit false, .call [] (E4 r3) [], .bit false, .bit false, .bit false, .bit false, .bit false, .call [] (E4 r4) [], .bit false, .bit false, .bit false, .bit false, .bit false, .call [] (E4 r5) [], .bit false, .bit false, .bit false, .draw [], .call [] (E4 r6) [], .bit false, .bit false, .bit false, .bit false, .bit false, .bit false, .bit false, .bit false, .bit false, .bit false, .bit false, .bit false, .bit false, .bit false, .bit false, .bit false, .bit false, .bit false] (p := [Fn Try.prog 61 [(false, E9 a.Id)] (E4 r1) [],(true || ((E4 r1).nv && nvL [])) = true,(!r1) = false,(!r1) = false,(!r1) = false,Fn Try.prog 62 [(false, E3 a.Limit), (false, E3 0), (false, E3 9007199254740992)] (E4 r2) [],(true || ((E4 r2).nv && nvL [])) = true,(!r1) = false,(!r1) = false,(!r2) = false,(!r2) = false,(!r2) = false,Fn Try.prog 62 [(false, E3 a.Most), (false, E3 0), (false, E3 1000)] (E4 r3) [],(true || ((E4 r3).nv && nvL [])) = true,(!r2) = false,(!r2) = false,(!r3) = false,(!r3) = false,(!r3) = false,Fn Try.prog 62 [(false, E3 a.MostSum), (false, E3 0), (false, E3 9007199254740992)] (E4 r4) [],(true || ((E4 r4).nv && nvL [])) = true,(!r3) = false,(!r3) = false,(!r4) = false,(!r4) = false,(!r4) = false,Fn Try.prog 63 [(false, E3 a.Posted)] (E4 r5) [],(true || ((E4 r5).nv && nvL [])) = true,(!r4) = false,(!r4) = false,(!r5) = false,Fn Try.prog 64 [(false, E23 a.Holds)] (E4 r6) [],(true || ((E4 r6).nv && nvL [])) = true,r6 = false,r6 = false,r6 = false,r6 = false,false = false,false = false,false = false,false = false,false = false,false = false,false = false,false = false,false = false,false = false,false = false,false = false,false = false,false = false]) (by kernel_rfl) (cj (spec_AcctIdOk_ok a.Id r1 h1) (cj rfl (cj (nf h2) (cj (nf h2) (cj (nf h2) (cj (spec_l01In_ok a.Limit 0 9007199254740992 r2 h3) (cj rfl (cj (nf h2) (cj (nf h2) (cj (nf h4) (cj (nf h4) (cj (nf h4) (cj (spec_l01In_ok a.Most 0 1000 r3 h5) (cj rfl (cj (nf h4) (cj (nf h4) (cj (nf h6) (cj (nf h6) (cj (nf h6) (cj (spec_l01In_ok a.MostSum 0 9007199254740992 r4 h7) (cj rfl (cj (nf h6) (cj (nf h6) (cj (nf h8) (cj (nf h8) (cj (nf h8) (cj (spec_l01Money_ok a.Posted r5 h9) (cj rfl (cj (nf h8) (cj (nf h8) (cj (nf h10) (cj (spec_HoldsOk_ok a.Holds r6 h11) (cj rfl (cj h12 (cj h12 (cj h12 (cj h12 (cj rfl (cj rfl (cj rfl (cj rfl (cj rfl (cj rfl (cj rfl (cj rfl (cj rfl (cj rfl (cj rfl (cj rfl (cj rfl (cj1 rfl))))))))))))))))))))))))))))))))))))))))))))))))))))))) (fun h10 =>
   Pn.some (Fn.of [.call [] (E4 r1) [], .bit false, .bit false, .bit false, .call [] (E4 r2) [], .bit false, .bit false, .bit false, .bit false, .bit false, .call [] (E4 r3) [], .bit false, .bit false, .bit false, .bit false, .bit false, .call [] (E4 r4) [], .bit false, .bit false, .bit false, .bit false, .bit false, .call [] (E4 r5) [], .bit false, .bit false, .bit true] (p := [Fn Try.prog 61 [(false, E9 a.Id)] (E4 r1) [],(true || ((E4 r1).nv && nvL [])) = true,(!r1) = false,(!r1) = false,(!r1) = false,Fn Try.prog 62 [(false, E3 a.Limit), (false, E3 0), (false, E3 9007199254740992)] (E4 r2) [],(true || ((E4 r2).nv && nvL [])) = true,(!r1) = false,(!r1) = false,(!r2) = false,(!r2) = false,(!r2) = false,Fn Try.prog 62 [(false, E3 a.Most), (false, E3 0), (false, E3 1000)] (E4 r3) [],(true || ((E4 r3).nv && nvL [])) = true,(!r2) = false,(!r2) = false,(!r3) = false,(!r3) = false,(!r3) = false,Fn Try.prog 62 [(false, E3 a.MostSum), (false, E3 0), (false, E3 9007199254740992)] (E4 r4) [],(true || ((E4 r4).nv && nvL [])) = true,(!r3) = false,(!r3) = false,(!r4) = false,(!r4) = false,(!r4) = false,Fn Try.prog 63 [(false, E3 a.Posted)] (E4 r5) [],(true || ((E4 r5).nv && nvL [])) = true,(!r4) = false,(!r4) = false,(!r5) = true]) (by kernel_rfl) (cj (spec_AcctIdOk_ok a.Id r1 h1) (cj rfl (cj (nf h2) (cj (nf h2) (cj (nf h2) (cj (spec_l01In_ok a.Limit 0 9007199254740992 r2 h3) (cj rfl (cj (nf h2) (cj (nf h2) (cj (nf h4) (cj (nf h4) (cj (nf h4) (cj (spec_l01In_ok a.Most 0 1000 r3 h5) (cj rfl (cj (nf h4) (cj (nf h4) (cj (nf h6) (cj (nf h6) (cj (nf h6) (cj (spec_l01In_ok a.MostSum 0 9007199254740992 r4 h7) (cj rfl (cj (nf h6) (cj (nf h6) (cj (nf h8) (cj (nf h8) (cj (nf h8) (cj (spec_l01Money_ok a.Posted r5 h9) (cj rfl (cj (nf h8) (cj (nf h8) (cj1 (nt h10)))))))))))))))))))))))))))))))))))) (fun h8 =>
   Pn.some (Fn.of [.call [] (E4 r1) [], .bit false, .bit false, .bit false, .call [] (E4 r2) [], .bit false, .bit false, .bit false, .bit false, .bit false, .call [] (E4 r3) [], .bit false, .bit false, .bit false, .bit false, .bit false, .call [] (E4 r4) [], .bit false, .bit false, .bit true, .bit true, .bit true, .bit true, .bit true, .bit true] (p := [Fn Try.prog 61 [(false, E9 a.Id)] (E4 r1) [],(true || ((E4 r1).nv && nvL [])) = true,(!r1) = false,(!r1) = false,(!r1) = false,Fn Try.prog 62 [(false, E3 a.Limit), (false, E3 0), (false, E3 9007199254740992)] (E4 r2) [],(true || ((E4 r2).nv && nvL [])) = true,(!r1) = false,(!r1) = false,(!r2) = false,(!r2) = false,(!r2) = false,Fn Try.prog 62 [(false, E3 a.Most), (false, E3 0), (false, E3 1000)] (E4 r3) [],(true || ((E4 r3).nv && nvL [])) = true,(!r2) = false,(!r2) = false,(!r3) = false,(!r3) = false,(!r3) = false,Fn Try.prog 62 [(false, E3 a.MostSum), (false, E3 0), (false, E3 9007199254740992)] (E4 r4) [],(true || ((E4 r4).nv && nvL [])) = true,(!r3) = false,(!r3) = false,(!r4) = true,(!r4) = true,(!r4) = true,(!r4) = true,(!r4) = true,true = true]) (by kernel_rfl) (cj (spec_AcctIdOk_ok a.Id r1 h1) (cj rfl (cj (nf h2) (cj (nf h2) (cj (nf h2) (cj (spec_l01In_ok a.Limit 0 9007199254740992 r2 h3) (cj rfl (cj (nf h2) (cj (nf h2) (cj (nf h4) (cj (nf h4) (cj (nf h4) (cj (spec_l01In_ok a.Most 0 1000 r3 h5) (cj rfl (cj (nf h4) (cj (nf h4) (cj (nf h6) (cj (nf h6) (cj (nf h6) (cj (spec_l01In_ok a.MostSum 0 9007199254740992 r4 h7) (cj rfl (cj (nf h6) (cj (nf h6) (cj (nt h8) (cj (nt h8) (cj (nt h8) (cj (nt h8) (cj (nt h8) (cj1 rfl))))))))))))))))))))))))))))))))) (fun h6 =>
   Pn.some (Fn.of [.call [] (E4 r1) [], .bit false, .bit false, .bit false, .call [] (E4 r2) [], .bit false, .bit false, .bit false, .bit false, .bit false, .call [] (E4 r3) [], .bit false, .bit false, .bit true, .bit true, .bit true, .bit true, .bit true, .bit true, .bit true, .bit true, .bit true, .bit true, .bit true] (p := [Fn Try.prog 61 [(false, E9 a.Id)] (E4 r1) [],(true || ((E4 r1).nv && nvL [])) = true,(!r1) = false,(!r1) = false,(!r1) = false,Fn Try.prog 62 [(false, E3 a.Limit), (false, E3 0), (false, E3 9007199254740992)] (E4 r2) [],(true || ((E4 r2).nv && nvL [])) = true,(!r1) = false,(!r1) = false,(!r2) = false,(!r2) = false,(!r2) = false,Fn Try.prog 62 [(false, E3 a.Most), (false, E3 0), (false, E3 1000)] (E4 r3) [],(true || ((E4 r3).nv && nvL [])) = true,(!r2) = false,(!r2) = false,(!r3) = true,(!r3) = true,(!r3) = true,(!r3) = true,(!r3) = true,true = true,true = true,true = true,true = true,true = true,true = true]) (by kernel_rfl) (cj (spec_AcctIdOk_ok a.Id r1 h1) (cj rfl (cj (nf h2) (cj (nf h2) (cj (nf h2) (cj (spec_l01In_ok a.Limit 0 9007199254740992 r2 h3) (cj rfl (cj (nf h2) (cj (nf h2) (cj (nf h4) (cj (nf h4) (cj (nf h4) (cj (spec_l01In_ok a.Most 0 1000 r3 h5) (cj rfl (cj (nf h4) (cj (nf h4) (cj (nt h6) (cj (nt h6) (cj (nt h6) (cj (nt h6) (cj (nt h6) (cj rfl (cj rfl (cj rfl (cj rfl (cj rfl (cj1 rfl))))))))))))))))))))))))))))))) (fun h4 =>
   Pn.some (Fn.of [.call [] (E4 r1) [], .bit false, .bit false, .bit false, .call [] (E4 r2) [], .bit false, .bit false, .bit true, .bit true, .bit true, .bit true, .bit true, .bit true, .bit true, .bit true, .bit true, .bit true, .bit true, .bit true, .bit true, .bit true, .bit true, .bit true] (p := [Fn Try.prog 61 [(false, E9 a.Id)] (E4 r1) [],(true || ((E4 r1).nv && nvL [])) = true,(!r1) = false,(!r1) = false,(!r1) = false,Fn Try.prog 62 [(false, E3 a.Limit), (false, E3 0), (false, E3 9007199254740992)] (E4 r2) [],(true || ((E4 r2).nv && nvL [])) = true,(!r1) = false,(!r1) = false,(!r2) = true,(!r2) = true,(!r2) = true,(!r2) = true,(!r2) = true,true = true,true = true,true = true,true = true,true = true,true = true,true = true,true = true,true = true,true = true,true = true]) (by kernel_rfl) (cj (spec_AcctIdOk_ok a.Id r1 h1) (cj rfl (cj (nf h2) (cj (nf h2) (cj (nf h2) (cj (spec_l01In_ok a.Limit 0 9007199254740992 r2 h3) (cj rfl (cj (nf h2) (cj (nf h2) (cj (nt h4) (cj (nt h4) (cj (nt h4) (cj (nt h4) (cj (nt h4) (cj rfl (cj rfl (cj rfl (cj rfl (cj rfl (cj rfl (cj rfl (cj rfl (cj rfl (cj rfl (cj1 rfl))))))))))))))))))))))))))))) (fun h2 =>
   Pn.some (Fn.of [.call [] (E4 r1) [], .bit true, .bit true, .bit true, .bit true, .bit true, .bit true, .bit true, .bit true, .bit true, .bit true, .bit true, .bit true, .bit true, .bit true, .bit true, .bit true, .bit true, .bit true, .bit true, .bit true, .bit true] (p := [Fn Try.prog 61 [(false, E9 a.Id)] (E4 r1) [],(true || ((E4 r1).nv && nvL [])) = true,(!r1) = true,(!r1) = true,(!r1) = true,(!r1) = true,(!r1) = true,true = true,true = true,true = true,true = true,true = true,true = true,true = true,true = true,true = true,true = true,true = true,true = true,true = true,true = true,true = true,true = true]) (by kernel_rfl) (cj (spec_AcctIdOk_ok a.Id r1 h1) (cj rfl (cj (nt h2) (cj (nt h2) (cj (nt h2) (cj (nt h2) (cj (nt h2) (cj rfl (cj rfl (cj rfl (cj rfl (cj rfl (cj rfl (cj rfl (cj rfl (cj rfl (cj rfl (cj rfl (cj rfl (cj rfl (cj rfl (cj rfl (cj1 rfl))))))))))))))))))))))))))
def spec_AcctNew (id : ByteArray) (limit : Int) (most : Int) (mostSum : Int) (buckets : Int) (span : Int) : Option (Acct × Bool) :=
 (spec_RingNew buckets span).bind fun r1 =>
 if r1.2 = true then
 (spec_AcctOk (Acct.mk id limit 0 most mostSum [] r1.1 [])).bind fun r2 =>
 if r2 = true then
 some ((Acct.mk id limit 0 most mostSum [] r1.1 []), true)
 else
 some ((Acct.mk ByteArray.empty 0 0 0 0 [] (Ring.mk 0 0 [] []) []), false)
 else
 some ((Acct.mk ByteArray.empty 0 0 0 0 [] (Ring.mk 0 0 [] []) []), false)
theorem spec_AcctNew_ok (id : ByteArray) (limit : Int) (most : Int) (mostSum : Int) (buckets : Int) (span : Int) : Pn (fun y => Fn Try.prog 49 [(false, E9 id), (false, E3 limit), (false, E3 most), (false, E3 mostSum), (false, E3 buckets), (false, E3 span)] (V.tup [E29 y.1, E4 y.2]) []) (spec_AcctNew id limit most mostSum buckets span) := by
  unfold spec_AcctNew
  exact
   Pn.bind (fun r1 h1 =>
   Pn.ite (fun h2 =>
   Pn.bind (fun r2 h3 =>
   Pn.ite (fun h4 =>
   Pn.some (Fn.of [.call [] (V.tup [E26 r1.1, E4 r1.2]) [], .bit false, .bit false, .call [] (E4 r2) [], .bit false, .bit false, .bit false] (p := [Fn Try.prog 82 [(false, E3 buckets), (false, E3 span)] (V.tup [E26 r1.1, E4 r1.2]) [],(true || ((V.tup [E26 r1.1, E4 r1.2]).nv && nvL [])) = true,(!r1.2) = false,(!r1.2) = false,Fn Try.prog 24 [(false, V.agg [V.sc (.string id), vI limit, vI 0, vI most, vI mostSum, V.nl 36, vI r1.1.Span, vI r1.1.Head, V.sl true 3 (List.map E3 r1.1.Counts), V.sl true 3 (List.map E3 r1.1.Sums), V.nl 94])] (E4 r2) [],(false || ((E4 r2).nv && nvL [])) = true,(!r1.2) = false,(!r1.2) = false,(!r2) = false]) (by kernel_rfl) (cj (spec_RingNew_ok buckets span r1 h1) (cj rfl (cj (nf h2) (cj (nf h2) (cj (Fn.nil [36, 94] (by kernel_rfl) (by kernel_rfl) (spec_AcctOk_ok (Acct.mk id limit 0 most mostSum [] r1.1 []) r2 h3)) (cj (by simp [V.nv, nvL, nvL_all, nv_E4]) (cj (nf h2) (cj (nf h2) (cj1 (nf h4)))))))))))) (fun h4 =>
   Pn.some (Fn.of [.call [] (V.tup [E26 r1.1, E4 r1.2]) [], .bit false, .bit false, .call [] (E4 r2) [], .bit false, .bit false, .bit true] (p := [Fn Try.prog 82 [(false, E3 buckets), (false, E3 span)] (V.tup [E26 r1.1, E4 r1.2]) [],(true || ((V.tup [E26 r1.1, E4 r1.2]).nv && nvL [])) = true,(!r1.2) = false,(!r1.2) = false,Fn Try.prog 24 [(false, V.agg [V.sc (.string id), vI limit, vI 0, vI most, vI mostSum, V.nl 36, vI r1.1.Span, vI r1.1.Head, V.sl true 3 (List.map E3 r1.1.Counts), V.sl true 3 (List.map E3 r1.1.Sums), V.nl 94])] (E4 r2) [],(false || ((E4 r2).nv && nvL [])) = true,(!r1.2) = false,(!r1.2) = false,(!r2) = true]) (by kernel_rfl) (cj (spec_RingNew_ok buckets span r1 h1) (cj rfl (cj (nf h2) (cj (nf h2) (cj (Fn.nil [36, 94] (by kernel_rfl) (by kernel_rfl) (spec_AcctOk_ok (Acct.mk id limit 0 most mostSum [] r1.1 []) r2 h3)) (cj (by simp [V.nv, nvL, nvL_all, nv_E4]) (cj (nf h2) (cj (nf h2) (cj1 (nt h4)))))))))))))) (fun h2 =>
   Pn.some (Fn.of [.call [] (V.tup [E26 r1.1, E4 r1.2]) [], .bit true, .bit true, .bit true, .bit true, .bit true] (p := [Fn Try.prog 82 [(false, E3 buckets), (false, E3 span)] (V.tup [E26 r1.1, E4 r1.2]) [],(true || ((V.tup [E26 r1.1, E4 r1.2]).nv && nvL [])) = true,(!r1.2) = true,(!r1.2) = true,(!r1.2) = true,(!r1.2) = true,true = true]) (by kernel_rfl) (cj (spec_RingNew_ok buckets span r1 h1) (cj rfl (cj (nt h2) (cj (nt h2) (cj (nt h2) (cj (nt h2) (cj1 rfl))))))))))
def spec_l06Copy (r_ : Ring) : Option (Ring) :=
 if (capOk (0 + r_.Counts.length)) = true then
 if (capOk (0 + r_.Sums.length)) = true then
 some r_
 else none
 else none
theorem spec_l06Copy_ok (r_ : Ring) : Pn (fun y => Fn Try.prog 59 [(false, E26 r_)] (E26 y) []) (spec_l06Copy r_) := by
  unfold spec_l06Copy
  exact
   Pn.ite (fun h1 =>
   Pn.ite (fun h2 =>
   Pn.some (Fn.of [.cp (List.map E3 r_.Counts), .nb 3 (.row 3 (List.map E3 r_.Counts) []), .cp (List.map E3 r_.Sums), .nb 5 (.row 3 (List.map E3 r_.Sums) [])] (p := [(List.map E3 r_.Counts).map V.vw = (List.map E3 r_.Counts),([] : List V).length + (List.map E3 r_.Counts).length ≤ 9223372036854775807,(([] : List V).length + (List.map E3 r_.Counts).length) * 8 ≤ 140737488355328,Blk.row 3 (([] : List V) ++ (List.map E3 r_.Counts)) [] = Blk.row 3 (List.map E3 r_.Counts) [],(List.map E3 r_.Sums).map V.vw = (List.map E3 r_.Sums),([] : List V).length + (List.map E3 r_.Sums).length ≤ 9223372036854775807,(([] : List V).length + (List.map E3 r_.Sums).length) * 8 ≤ 140737488355328,Blk.row 3 (([] : List V) ++ (List.map E3 r_.Sums)) [] = Blk.row 3 (List.map E3 r_.Sums) []]) (by kernel_rfl) (cj (vw_id (fun _ => rfl) _) (cj (cap1 (capN (by simp) h1)) (cj (cap2 (capN (by simp) h1) (by decide)) (cj rfl (cj (vw_id (fun _ => rfl) _) (cj (cap1 (capN (by simp) h2)) (cj (cap2 (capN (by simp) h2) (by decide)) (cj1 rfl)))))))))) (fun h2 =>
   Pn.none)) (fun h1 =>
   Pn.none)
def spec_RingRoll_l0 (o : Ring) (o_ : Int) (r1 : Ring) : List Int → List Int → (List Int) → (List Int) → Option ((List Int) × (List Int))
  | [], p1, v1, v2 =>
   some (v1, v2)
  | x1 :: t1, p1, v1, v2 =>
   (v1[(p1.length : Int).toNat]?).bind fun x2 =>
   (v2[(p1.length : Int).toNat]?).bind fun x3 =>
   if (decide ((i64 ((i64 (Int.tdiv o_ o.Span)) - o.Head)) ≤ (p1.length : Int))) = true then
   if (decide (0 ≤ (i64 ((p1.length : Int) - (i64 ((i64 (Int.tdiv o_ o.Span)) - o.Head)))))) = true then
   (o.Counts[(i64 ((p1.length : Int) - (i64 ((i64 (Int.tdiv o_ o.Span)) - o.Head)))).toNat]?).bind fun x4 =>
   ((v1.set ((p1.length : Int).toNat) 0)[(p1.length : Int).toNat]?).bind fun x5 =>
   (o.Sums[(i64 ((p1.length : Int) - (i64 ((i64 (Int.tdiv o_ o.Span)) - o.Head)))).toNat]?).bind fun x6 =>
   ((v2.set ((p1.length : Int).toNat) 0)[(p1.length : Int).toNat]?).bind fun x7 =>
   spec_RingRoll_l0 o o_ r1 t1 (p1 ++ [x1]) ((v1.set ((p1.length : Int).toNat) 0).set ((p1.length : Int).toNat) x4) ((v2.set ((p1.length : Int).toNat) 0).set ((p1.length : Int).toNat) x6)
   else none
   else
   spec_RingRoll_l0 o o_ r1 t1 (p1 ++ [x1]) (v1.set ((p1.length : Int).toNat) 0) (v2.set ((p1.length : Int).toNat) 0)
theorem spec_RingRoll_l0_ok (o : Ring) (o_ : Int) (r1 : Ring) (h9 : capOk o.Counts.length = true) : ∀ (t1 p1 : List Int) (_ : o.Counts = p1 ++ t1) (v1 : List Int) (v2 : List Int), Pn (LpO Try.prog (sub (codeOf Try.prog 103) [1, 1, 1, 1, 0, 1, 0, 0]) (st 81 [(1, vI o_), (2, V.ptr 0 0), (4, V.ptr 1 0), (5, V.ptr 2 0), (6, vI (i64 ((i64 (Int.tdiv o_ o.Span)) - o.Head))), (37, vI (o.Counts.length : Int)), (38, vI (p1.length : Int))] [Blk.box 26 [vI o.Span, vI o.Head, V.sl false 3 (List.map E3 o.Counts), V.sl false 3 (List.map E3 o.Sums)], Blk.box 26 [vI 0, vI 0, V.nl 3, V.nl 3], Blk.box 26 [vI r1.Span, vI r1.Head, V.ow 3, V.ow 4], Blk.row 3 (List.map E3 v1) [], Blk.row 3 (List.map E3 v2) []] []) (fun (y : (List Int) × (List Int)) => (X.out 0, st 81 [(1, vI o_), (2, V.ptr 0 0), (4, V.ptr 1 0), (5, V.ptr 2 0)] [Blk.box 26 [vI o.Span, vI o.Head, V.sl false 3 (List.map E3 o.Counts), V.sl false 3 (List.map E3 o.Sums)], Blk.box 26 [vI 0, vI 0, V.nl 3, V.nl 3], Blk.box 26 [vI r1.Span, vI r1.Head, V.ow 3, V.ow 4], Blk.row 3 (List.map E3 y.1) [], Blk.row 3 (List.map E3 y.2) []] []))) (spec_RingRoll_l0 o o_ r1 t1 p1 v1 v2)
  | [], p1, h8, v1, v2 => by
    unfold spec_RingRoll_l0
    exact
     Pn.some (LpO.out [.bit false, .mask [1, 2, 4, 5], .ren [0, 1, 2, 3, 4]] (p := [(decide ((p1.length : Int) < (o.Counts.length : Int))) = false]) (by kernel_rfl) (show X.out 0 ≠ X.go from nofun) (cj1 (rng_end h8)))
  | x1 :: t1, p1, h8, v1, v2 => by
    unfold spec_RingRoll_l0
    exact
     Pn.bind (fun x2 h10 =>
     Pn.bind (fun x3 h11 =>
     Pn.ite (fun h12 =>
     Pn.ite (fun h13 =>
     Pn.bind (fun x4 h14 =>
     Pn.bind (fun x5 h15 =>
     Pn.bind (fun x6 h16 =>
     Pn.bind (fun x7 h17 =>
     LpO.go [.bit true, .el (E3 x2), .nb 3 (.row 3 (List.map E3 (v1.set ((p1.length : Int).toNat) 0)) []), .el (E3 x3), .nb 4 (.row 3 (List.map E3 (v2.set ((p1.length : Int).toNat) 0)) []), .bit true, .draw [11], .el (E3 x4), .el (E3 x5), .nb 3 (.row 3 (List.map E3 ((v1.set ((p1.length : Int).toNat) 0).set ((p1.length : Int).toNat) x4)) []), .draw [11], .el (E3 x6), .el (E3 x7), .nb 4 (.row 3 (List.map E3 ((v2.set ((p1.length : Int).toNat) 0).set ((p1.length : Int).toNat) x6)) []), .wait 3, .mask [1, 2, 4, 5, 6, 37, 38], .ren [0, 1, 2, 3, 4], .nm 38 (vI ((p1 ++ [x1]).length : Int))] (p := [(decide ((p1.length : Int) < (o.Counts.length : Int))) = true,(0 : Int) ≤ (p1.length : Int),((p1.length : Int) : Int) < ((List.map E3 v1).length : Int),look [] ((p1.length : Int).toNat) = none,(List.map E3 v1)[(p1.length : Int).toNat]? = some (E3 x2),Blk.row 3 ((List.map E3 v1).set ((p1.length : Int).toNat) (vI 0)) [] = Blk.row 3 (List.map E3 (v1.set ((p1.length : Int).toNat) 0)) [],(0 : Int) ≤ (p1.length : Int),((p1.length : Int) : Int) < ((List.map E3 v2).length : Int),look [] ((p1.length : Int).toNat) = none,(List.map E3 v2)[(p1.length : Int).toNat]? = some (E3 x3),Blk.row 3 ((List.map E3 v2).set ((p1.length : Int).toNat) (vI 0)) [] = Blk.row 3 (List.map E3 (v2.set ((p1.length : Int).toNat) 0)) [],(decide ((i64 ((i64 (Int.tdiv o_ o.Span)) - o.Head)) ≤ (p1.length : Int))) = true,(0 : Int) ≤ (i64 ((p1.length : Int) - (i64 ((i64 (Int.tdiv o_ o.Span)) - o.Head)))),(List.map E3 o.Counts)[(i64 ((p1.length : Int) - (i64 ((i64 (Int.tdiv o_ o.Span)) - o.Head)))).toNat]? = some (E3 x4),(0 : Int) ≤ (p1.length : Int),((p1.length : Int) : Int) < ((List.map E3 (v1.set ((p1.length : Int).toNat) 0)).length : Int),look [] ((p1.length : Int).toNat) = none,(List.map E3 (v1.set ((p1.length : Int).toNat) 0))[(p1.length : Int).toNat]? = some (E3 x5),Blk.row 3 ((List.map E3 (v1.set ((p1.length : Int).toNat) 0)).set ((p1.length : Int).toNat) (vI x4)) [] = Blk.row 3 (List.map E3 ((v1.set ((p1.length : Int).toNat) 0).set ((p1.length : Int).toNat) x4)) [],(0 : Int) ≤ (i64 ((p1.length : Int) - (i64 ((i64 (Int.tdiv o_ o.Span)) - o.Head)))),(List.map E3 o.Sums)[(i64 ((p1.length : Int) - (i64 ((i64 (Int.tdiv o_ o.Span)) - o.Head)))).toNat]? = some (E3 x6),(0 : Int) ≤ (p1.length : Int),((p1.length : Int) : Int) < ((List.map E3 (v2.set ((p1.length : Int).toNat) 0)).length : Int),look [] ((p1.length : Int).toNat) = none,(List.map E3 (v2.set ((p1.length : Int).toNat) 0))[(p1.length : Int).toNat]? = some (E3 x7),Blk.row 3 ((List.map E3 (v2.set ((p1.length : Int).toNat) 0)).set ((p1.length : Int).toNat) (vI x6)) [] = Blk.row 3 (List.map E3 ((v2.set ((p1.length : Int).toNat) 0).set ((p1.length : Int).toNat) x6)) [],vI (i64 ((p1.length : Int) + 1)) = vI ((p1 ++ [x1]).length : Int)]) (by kernel_rfl) (cj (rng_lt h8) (cj (by omega) (cj (map_ltN (by omega) h10) (cj rfl (cj (map_get h10) (cj (nb_set E3 _ _ 0) (cj (by omega) (cj (map_ltN (by omega) h11) (cj rfl (cj (map_get h11) (cj (nb_set E3 _ _ 0) (cj h12 (cj (od h13) (cj (map_get h14) (cj (by omega) (cj (map_ltN (by omega) h15) (cj rfl (cj (map_get h15) (cj (nb_set E3 _ _ x4) (cj (od h13) (cj (map_get h16) (cj (by omega) (cj (map_ltN (by omega) h17) (cj rfl (cj (map_get h17) (cj (nb_set E3 _ _ x6) (cj1 (rng_next h8 h9)))))))))))))))))))))))))))) (spec_RingRoll_l0_ok o o_ r1 h9 t1 (p1 ++ [x1]) (rng_step h8) ((v1.set ((p1.length : Int).toNat) 0).set ((p1.length : Int).toNat) x4) ((v2.set ((p1.length : Int).toNat) 0).set ((p1.length : Int).toNat) x6))))))) (fun h13 =>
     Pn.none)) (fun h12 =>
     LpO.go [.bit true, .el (E3 x2), .nb 3 (.row 3 (List.map E3 (v1.set ((p1.length : Int).toNat) 0)) []), .el (E3 x3), .nb 4 (.row 3 (List.map E3 (v2.set ((p1.length : Int).toNat) 0)) []), .bit false, .wait 2, .mask [1, 2, 4, 5, 6, 37, 38], .ren [0, 1, 2, 3, 4], .nm 38 (vI ((p1 ++ [x1]).length : Int))] (p := [(decide ((p1.length : Int) < (o.Counts.length : Int))) = true,(0 : Int) ≤ (p1.length : Int),((p1.length : Int) : Int) < ((List.map E3 v1).length : Int),look [] ((p1.length : Int).toNat) = none,(List.map E3 v1)[(p1.length : Int).toNat]? = some (E3 x2),Blk.row 3 ((List.map E3 v1).set ((p1.length : Int).toNat) (vI 0)) [] = Blk.row 3 (List.map E3 (v1.set ((p1.length : Int).toNat) 0)) [],(0 : Int) ≤ (p1.length : Int),((p1.length : Int) : Int) < ((List.map E3 v2).length : Int),look [] ((p1.length : Int).toNat) = none,(List.map E3 v2)[(p1.length : Int).toNat]? = some (E3 x3),Blk.row 3 ((List.map E3 v2).set ((p1.length : Int).toNat) (vI 0)) [] = Blk.row 3 (List.map E3 (v2.set ((p1.length : Int).toNat) 0)) [],(decide ((i64 ((i64 (Int.tdiv o_ o.Span)) - o.Head)) ≤ (p1.length : Int))) = false,vI (i64 ((p1.length : Int) + 1)) = vI ((p1 ++ [x1]).length : Int)]) (by kernel_rfl) (cj (rng_lt h8) (cj (by omega) (cj (map_ltN (by omega) h10) (cj rfl (cj (map_get h10) (cj (nb_set E3 _ _ 0) (cj (by omega) (cj (map_ltN (by omega) h11) (cj rfl (cj (map_get h11) (cj (nb_set E3 _ _ 0) (cj h12 (cj1 (rng_next h8 h9)))))))))))))) (spec_RingRoll_l0_ok o o_ r1 h9 t1 (p1 ++ [x1]) (rng_step h8) (v1.set ((p1.length : Int).toNat) 0) (v2.set ((p1.length : Int).toNat) 0)))))
def spec_RingRoll (o : Ring) (o_ : Int) : Option (Ring) :=
 (spec_l06Copy o).bind fun r1 =>
 (spec_RingOk o).bind fun r2 =>
 if r2 = true then
 (spec_l06Time o_).bind fun r3 =>
 if r3 = true then
 if (decide (o.Span ≠ 0)) = true then
 if (decide ((i64 (Int.tdiv o_ o.Span)) ≤ o.Head)) = true then
 some r1
 else
 if (capOk o.Counts.length) = true then
 (spec_RingRoll_l0 o o_ r1 o.Counts [] r1.Counts r1.Sums).bind fun r4 =>
 some (Ring.mk r1.Span (i64 (Int.tdiv o_ o.Span)) r4.1 r4.2)
 else none
 else none
 else
 some r1
 else
 some r1
theorem spec_RingRoll_ok (o : Ring) (o_ : Int) : Pn (fun y => Fn Try.prog 103 [(false, E26 o), (false, E3 o_)] (E26 y) []) (spec_RingRoll o o_) := by
  unfold spec_RingRoll
  exact
   Pn.bind (fun r1 h1 =>
   Pn.bind (fun r2 h2 =>
   Pn.ite (fun h3 =>
   Pn.bind (fun r3 h4 =>
   Pn.ite (fun h5 =>
   Pn.ite (fun h6 =>
   Pn.ite (fun h7 =>
   Pn.some (Fn.of [.call [] (E26 r1) [], .draw [], .call [] (E4 r2) [], .bit false, .bit false, .call [] (E4 r3) [], .bit false, .bit false, .bit false, .bit false, .bit false, .bit false, .bit false, .bit false, .bit false, .bit false, .bit true] (p := [Fn Try.prog 59 [(false, E26 o)] (E26 r1) [],(true || ((E26 r1).nv && nvL [])) = true,Fn Try.prog 65 [(false, E26 o)] (E4 r2) [],(true || ((E4 r2).nv && nvL [])) = true,(!r2) = false,(!r2) = false,Fn Try.prog 25 [(false, E3 o_)] (E4 r3) [],(true || ((E4 r3).nv && nvL [])) = true,(!r2) = false,(!r2) = false,(!r3) = false,(!r3) = false,(!r3) = false,(!r3) = false,(o.Span : Int) ≠ 0,(!r3) = false,(!r3) = false,(!r3) = false,(!r3) = false,(decide ((i64 (Int.tdiv o_ o.Span)) ≤ o.Head)) = true]) (by kernel_rfl) (cj (spec_l06Copy_ok o r1 h1) (cj rfl (cj (spec_RingOk_ok o r2 h2) (cj rfl (cj (nf h3) (cj (nf h3) (cj (spec_l06Time_ok o_ r3 h4) (cj rfl (cj (nf h3) (cj (nf h3) (cj (nf h5) (cj (nf h5) (cj (nf h5) (cj (nf h5) (cj (od h6) (cj (nf h5) (cj (nf h5) (cj (nf h5) (cj (nf h5) (cj1 h7)))))))))))))))))))))) (fun h7 =>
   Pn.ite (fun h18 =>
   Pn.bind (fun r4 h19 =>
   Pn.some (Fn.of [.call [] (E26 r1) [], .draw [], .call [] (E4 r2) [], .bit false, .bit false, .call [] (E4 r3) [], .bit false, .bit false, .bit false, .bit false, .bit false, .bit false, .bit false, .bit false, .bit false, .bit false, .bit false, .draw [], .wait 10, .nm 37 (vI (o.Counts.length : Int)), .wait 2, .mask [1, 2, 4, 5, 6, 37, 38], .ren [0, 1, 4, 2, 3], .loop (X.out 0) (st 81 [(1, vI o_), (2, V.ptr 0 0), (4, V.ptr 1 0), (5, V.ptr 2 0)] [Blk.box 26 [vI o.Span, vI o.Head, V.sl false 3 (List.map E3 o.Counts), V.sl false 3 (List.map E3 o.Sums)], Blk.box 26 [vI 0, vI 0, V.nl 3, V.nl 3], Blk.box 26 [vI r1.Span, vI r1.Head, V.ow 3, V.ow 4], Blk.row 3 (List.map E3 r4.1) [], Blk.row 3 (List.map E3 r4.2) []] [])] (p := [Fn Try.prog 59 [(false, E26 o)] (E26 r1) [],(true || ((E26 r1).nv && nvL [])) = true,Fn Try.prog 65 [(false, E26 o)] (E4 r2) [],(true || ((E4 r2).nv && nvL [])) = true,(!r2) = false,(!r2) = false,Fn Try.prog 25 [(false, E3 o_)] (E4 r3) [],(true || ((E4 r3).nv && nvL [])) = true,(!r2) = false,(!r2) = false,(!r3) = false,(!r3) = false,(!r3) = false,(!r3) = false,(o.Span : Int) ≠ 0,(!r3) = false,(!r3) = false,(!r3) = false,(!r3) = false,(decide ((i64 (Int.tdiv o_ o.Span)) ≤ o.Head)) = false,(o.Span : Int) ≠ 0,vI ((List.map E3 o.Counts).length : Int) = vI (o.Counts.length : Int),Loop Try.prog (sub (codeOf Try.prog 103) [1, 1, 1, 1, 0, 1, 0, 0]) (st 81 [(1, vI o_), (2, V.ptr 0 0), (4, V.ptr 1 0), (5, V.ptr 2 0), (6, vI (i64 ((i64 (Int.tdiv o_ o.Span)) - o.Head))), (37, vI (o.Counts.length : Int)), (38, vI 0)] [Blk.box 26 [vI o.Span, vI o.Head, V.sl false 3 (List.map E3 o.Counts), V.sl false 3 (List.map E3 o.Sums)], Blk.box 26 [vI 0, vI 0, V.nl 3, V.nl 3], Blk.box 26 [vI r1.Span, vI r1.Head, V.ow 3, V.ow 4], Blk.row 3 (List.map E3 r1.Counts) [], Blk.row 3 (List.map E3 r1.Sums) []] []) (X.out 0) (st 81 [(1, vI o_), (2, V.ptr 0 0), (4, V.ptr 1 0), (5, V.ptr 2 0)] [Blk.box 26 [vI o.Span, vI o.Head, V.sl false 3 (List.map E3 o.Counts), V.sl false 3 (List.map E3 o.Sums)], Blk.box 26 [vI 0, vI 0, V.nl 3, V.nl 3], Blk.box 26 [vI r1.Span, vI r1.Head, V.ow 3, V.ow 4], Blk.row 3 (List.map E3 r4.1) [], Blk.row 3 (List.map E3 r4.2) []] []),(o.Span : Int) ≠ 0]) (by kernel_rfl) (cj (spec_l06Copy_ok o r1 h1) (cj rfl (cj (spec_RingOk_ok o r2 h2) (cj rfl (cj (nf h3) (cj (nf h3) (cj (spec_l06Time_ok o_ r3 h4) (cj rfl (cj (nf h3) (cj (nf h3) (cj (nf h5) (cj (nf h5) (cj (nf h5) (cj (nf h5) (cj (od h6) (cj (nf h5) (cj (nf h5) (cj (nf h5) (cj (nf h5) (cj h7 (cj (od h6) (cj (len_nm _ _) (cj (spec_RingRoll_l0_ok o o_ r1 h18 o.Counts [] rfl r1.Counts r1.Sums r4 h19) (cj1 (od h6)))))))))))))))))))))))))))) (fun h18 =>
   Pn.none))) (fun h6 =>
   Pn.none)) (fun h5 =>
   Pn.some (Fn.of [.call [] (E26 r1) [], .draw [], .call [] (E4 r2) [], .bit false, .bit false, .call [] (E4 r3) [], .bit false, .bit false, .bit true, .bit true, .bit true, .bit true, .bit true, .bit true, .bit true, .bit true, .bit true] (p := [Fn Try.prog 59 [(false, E26 o)] (E26 r1) [],(true || ((E26 r1).nv && nvL [])) = true,Fn Try.prog 65 [(false, E26 o)] (E4 r2) [],(true || ((E4 r2).nv && nvL [])) = true,(!r2) = false,(!r2) = false,Fn Try.prog 25 [(false, E3 o_)] (E4 r3) [],(true || ((E4 r3).nv && nvL [])) = true,(!r2) = false,(!r2) = false,(!r3) = true,(!r3) = true,(!r3) = true,(!r3) = true,(!r3) = true,(!r3) = true,(!r3) = true,(!r3) = true,true = true]) (by kernel_rfl) (cj (spec_l06Copy_ok o r1 h1) (cj rfl (cj (spec_RingOk_ok o r2 h2) (cj rfl (cj (nf h3) (cj (nf h3) (cj (spec_l06Time_ok o_ r3 h4) (cj rfl (cj (nf h3) (cj (nf h3) (cj (nt h5) (cj (nt h5) (cj (nt h5) (cj (nt h5) (cj (nt h5) (cj (nt h5) (cj (nt h5) (cj (nt h5) (cj1 rfl))))))))))))))))))))))) (fun h3 =>
   Pn.some (Fn.of [.call [] (E26 r1) [], .draw [], .call [] (E4 r2) [], .bit true, .bit true, .bit true, .bit true, .bit true, .bit true, .bit true, .bit true, .bit true, .bit true, .bit true, .bit true, .bit true] (p := [Fn Try.prog 59 [(false, E26 o)] (E26 r1) [],(true || ((E26 r1).nv && nvL [])) = true,Fn Try.prog 65 [(false, E26 o)] (E4 r2) [],(true || ((E4 r2).nv && nvL [])) = true,(!r2) = true,(!r2) = true,(!r2) = true,(!r2) = true,true = true,true = true,true = true,true = true,true = true,true = true,true = true,true = true,true = true]) (by kernel_rfl) (cj (spec_l06Copy_ok o r1 h1) (cj rfl (cj (spec_RingOk_ok o r2 h2) (cj rfl (cj (nt h3) (cj (nt h3) (cj (nt h3) (cj (nt h3) (cj rfl (cj rfl (cj rfl (cj rfl (cj rfl (cj rfl (cj rfl (cj rfl (cj1 rfl)))))))))))))))))))))
def spec_RingAdd (r_ : Ring) (now : Int) (amount : Int) : Option (Ring) :=
 (spec_RingOk r_).bind fun r1 =>
 if r1 = true then
 (spec_l06Time now).bind fun r2 =>
 if r2 = true then
 (spec_l01Money amount).bind fun r3 =>
 if r3 = true then
 (spec_RingRoll r_ now).bind fun r4 =>
 (r4.Counts[0]?).bind fun x1 =>
 (spec_AddSat x1 1).bind fun r5 =>
 (r4.Sums[0]?).bind fun x2 =>
 (spec_AddSat x2 amount).bind fun r6 =>
 some (Ring.mk r4.Span r4.Head (r4.Counts.set 0 r5) (r4.Sums.set 0 r6))
 else
 (spec_l06Copy r_).bind fun r7 =>
 some r7
 else
 (spec_l06Copy r_).bind fun r8 =>
 some r8
 else
 (spec_l06Copy r_).bind fun r9 =>
 some r9
theorem spec_RingAdd_ok (r_ : Ring) (now : Int) (amount : Int) : Pn (fun y => Fn Try.prog 83 [(false, E26 r_), (false, E3 now), (false, E3 amount)] (E26 y) []) (spec_RingAdd r_ now amount) := by
  unfold spec_RingAdd
  exact
   Pn.bind (fun r1 h1 =>
   Pn.ite (fun h2 =>
   Pn.bind (fun r2 h3 =>
   Pn.ite (fun h4 =>
   Pn.bind (fun r3 h5 =>
   Pn.ite (fun h6 =>
   Pn.bind (fun r4 h7 =>
   Pn.bind (fun x1 h8 =>
   Pn.bind (fun r5 h9 =>
   Pn.bind (fun x2 h10 =>
   Pn.bind (fun r6 h11 =>
   Pn.some (Fn.of [.call [] (E4 r1) [], .bit false, .bit false, .call [] (E4 r2) [], .bit false, .bit false, .bit false, .bit false, .call [] (E4 r3) [], .bit false, .bit false, .bit false, .call [] (E26 r4) [], .draw [8], .el (E3 x1), .call [] (E3 r5) [], .el (E3 x1), .nb 2 (.row 3 (List.map E3 (r4.Counts.set 0 r5)) []), .draw [9], .el (E3 x2), .call [] (E3 r6) [], .el (E3 x2), .nb 3 (.row 3 (List.map E3 (r4.Sums.set 0 r6)) [])] (p := [Fn Try.prog 65 [(false, E26 r_)] (E4 r1) [],(true || ((E4 r1).nv && nvL [])) = true,(!r1) = false,(!r1) = false,Fn Try.prog 25 [(false, E3 now)] (E4 r2) [],(true || ((E4 r2).nv && nvL [])) = true,(!r1) = false,(!r1) = false,(!r2) = false,(!r2) = false,Fn Try.prog 63 [(false, E3 amount)] (E4 r3) [],(true || ((E4 r3).nv && nvL [])) = true,(!r2) = false,(!r2) = false,(!r3) = false,Fn Try.prog 103 [(false, E26 r_), (false, E3 now)] (E26 r4) [],(true || ((E26 r4).nv && nvL [])) = true,(0 : Int) ≤ 0,(0 : Int) < ((List.map E3 r4.Counts).length : Int),look [] 0 = none,(List.map E3 r4.Counts)[0]? = some (E3 x1),Fn Try.prog 53 [(false, E3 x1), (false, E3 1)] (E3 r5) [],(true || ((E3 r5).nv && nvL [])) = true,(0 : Int) ≤ 0,(0 : Int) < ((List.map E3 r4.Counts).length : Int),look [] 0 = none,(List.map E3 r4.Counts)[0]? = some (E3 x1),Blk.row 3 ((List.map E3 r4.Counts).set 0 (vI r5)) [] = Blk.row 3 (List.map E3 (r4.Counts.set 0 r5)) [],(0 : Int) ≤ 0,(0 : Int) < ((List.map E3 r4.Sums).length : Int),look [] 0 = none,(List.map E3 r4.Sums)[0]? = some (E3 x2),Fn Try.prog 53 [(false, E3 x2), (false, E3 amount)] (E3 r6) [],(true || ((E3 r6).nv && nvL [])) = true,(0 : Int) ≤ 0,(0 : Int) < ((List.map E3 r4.Sums).length : Int),look [] 0 = none,(List.map E3 r4.Sums)[0]? = some (E3 x2),Blk.row 3 ((List.map E3 r4.Sums).set 0 (vI r6)) [] = Blk.row 3 (List.map E3 (r4.Sums.set 0 r6)) []]) (by kernel_rfl) (cj (spec_RingOk_ok r_ r1 h1) (cj rfl (cj (nf h2) (cj (nf h2) (cj (spec_l06Time_ok now r2 h3) (cj rfl (cj (nf h2) (cj (nf h2) (cj (nf h4) (cj (nf h4) (cj (spec_l01Money_ok amount r3 h5) (cj rfl (cj (nf h4) (cj (nf h4) (cj (nf h6) (cj (spec_RingRoll_ok r_ now r4 h7) (cj rfl (cj (by decide) (cj (map_ltN (by decide) h8) (cj rfl (cj (map_get h8) (cj (spec_AddSat_ok x1 1 r5 h9) (cj rfl (cj (by decide) (cj (map_ltN (by decide) h8) (cj rfl (cj (map_get h8) (cj (nb_set E3 _ _ r5) (cj (by decide) (cj (map_ltN (by decide) h10) (cj rfl (cj (map_get h10) (cj (spec_AddSat_ok x2 amount r6 h11) (cj rfl (cj (by decide) (cj (map_ltN (by decide) h10) (cj rfl (cj (map_get h10) (cj1 (nb_set E3 _ _ r6))))))))))))))))))))))))))))))))))))))))))))))) (fun h6 =>
   Pn.bind (fun r7 h12 =>
   Pn.some (Fn.of [.call [] (E4 r1) [], .bit false, .bit false, .call [] (E4 r2) [], .bit false, .bit false, .bit false, .bit false, .call [] (E4 r3) [], .bit false, .bit false, .bit true, .call [] (E26 r7) []] (p := [Fn Try.prog 65 [(false, E26 r_)] (E4 r1) [],(true || ((E4 r1).nv && nvL [])) = true,(!r1) = false,(!r1) = false,Fn Try.prog 25 [(false, E3 now)] (E4 r2) [],(true || ((E4 r2).nv && nvL [])) = true,(!r1) = false,(!r1) = false,(!r2) = false,(!r2) = false,Fn Try.prog 63 [(false, E3 amount)] (E4 r3) [],(true || ((E4 r3).nv && nvL [])) = true,(!r2) = false,(!r2) = false,(!r3) = true,Fn Try.prog 59 [(false, E26 r_)] (E26 r7) [],(true || ((E26 r7).nv && nvL [])) = true]) (by kernel_rfl) (cj (spec_RingOk_ok r_ r1 h1) (cj rfl (cj (nf h2) (cj (nf h2) (cj (spec_l06Time_ok now r2 h3) (cj rfl (cj (nf h2) (cj (nf h2) (cj (nf h4) (cj (nf h4) (cj (spec_l01Money_ok amount r3 h5) (cj rfl (cj (nf h4) (cj (nf h4) (cj (nt h6) (cj (spec_l06Copy_ok r_ r7 h12) (cj1 rfl)))))))))))))))))))))) (fun h4 =>
   Pn.bind (fun r8 h13 =>
   Pn.some (Fn.of [.call [] (E4 r1) [], .bit false, .bit false, .call [] (E4 r2) [], .bit false, .bit false, .bit true, .bit true, .bit true, .bit true, .bit true, .call [] (E26 r8) []] (p := [Fn Try.prog 65 [(false, E26 r_)] (E4 r1) [],(true || ((E4 r1).nv && nvL [])) = true,(!r1) = false,(!r1) = false,Fn Try.prog 25 [(false, E3 now)] (E4 r2) [],(true || ((E4 r2).nv && nvL [])) = true,(!r1) = false,(!r1) = false,(!r2) = true,(!r2) = true,(!r2) = true,(!r2) = true,true = true,Fn Try.prog 59 [(false, E26 r_)] (E26 r8) [],(true || ((E26 r8).nv && nvL [])) = true]) (by kernel_rfl) (cj (spec_RingOk_ok r_ r1 h1) (cj rfl (cj (nf h2) (cj (nf h2) (cj (spec_l06Time_ok now r2 h3) (cj rfl (cj (nf h2) (cj (nf h2) (cj (nt h4) (cj (nt h4) (cj (nt h4) (cj (nt h4) (cj rfl (cj (spec_l06Copy_ok r_ r8 h13) (cj1 rfl)))))))))))))))))))) (fun h2 =>
   Pn.bind (fun r9 h14 =>
   Pn.some (Fn.of [.call [] (E4 r1) [], .bit true, .bit true, .bit true, .bit true, .bit true, .bit true, .bit true, .bit true, .bit true, .call [] (E26 r9) []] (p := [Fn Try.prog 65 [(false, E26 r_)] (E4 r1) [],(true || ((E4 r1).nv && nvL [])) = true,(!r1) = true,(!r1) = true,(!r1) = true,(!r1) = true,true = true,true = true,true = true,true = true,true = true,Fn Try.prog 59 [(false, E26 r_)] (E26 r9) [],(true || ((E26 r9).nv && nvL [])) = true]) (by kernel_rfl) (cj (spec_RingOk_ok r_ r1 h1) (cj rfl (cj (nt h2) (cj (nt h2) (cj (nt h2) (cj (nt h2) (cj rfl (cj rfl (cj rfl (cj rfl (cj rfl (cj (spec_l06Copy_ok r_ r9 h14) (cj1 rfl)))))))))))))))))
def spec_l06Draw_s2 (v6 : Int) (r5 : Int × l01Cur) (v7 : Int) (v4 : Int) (v5 : Int) (r6 : Int × l01Cur) (r7 : Ring) (v8 : List Int) (v9 : List Int) : St := st 34 [(0, V.ptr 0 0), (2, V.ptr 1 0), (3, V.ptr 2 0), (5, vI (i64 (v6 + r5.1))), (6, vI v7), (19, vI v7), (20, V.sc (.bool (decide (0 < v7)))), (23, vI v6), (24, V.ptr 0 0), (25, vI r5.1), (26, vI (i64 (v6 + r5.1))), (27, V.agg [vI v4, vI v5, V.ow 5, V.ow 6]), (28, vI (i64 (v6 + r5.1))), (29, V.ptr 0 0), (30, vI r6.1), (31, vI (i64 (1 + r6.1))), (32, V.agg [vI r7.Span, vI r7.Head, V.ow 3, V.ow 4])] [Blk.box 52 [V.sl false 5 (List.map E5 r6.2.b), vI r6.2.i, vI r6.2.h], Blk.box 26 [vI 0, vI 0, V.nl 3, V.nl 3], Blk.box 26 [vI r7.Span, vI r7.Head, V.ow 3, V.ow 4], Blk.row 3 (List.map E3 r7.Counts) [], Blk.row 3 (List.map E3 r7.Sums) [], Blk.row 3 (List.map E3 v8) [], Blk.row 3 (List.map E3 v9) []] [some 0]
def spec_l06Draw_l0  : Nat → (List Int) → Int → Int → Int → Int → Int → Int → (List Int) → (List Int) → Option ((List Int) × Int × Int × Int × Int × (List Int) × (List Int))
  | 0, _, _, _, _, _, _, _, _, _ => none
  | fuel + 1, v1, v2, v3, v4, v5, v6, v7, v8, v9 =>
   if (decide (0 < v7)) = true then
   (spec_l01Below (l01Cur.mk v1 v2 v3) 9).bind fun r5 =>
   (spec_l01Below r5.2 90).bind fun r6 =>
   (spec_RingAdd (Ring.mk v4 v5 v8 v9) (i64 (v6 + r5.1)) (i64 (1 + r6.1))).bind fun r7 =>
   spec_l06Draw_l0 fuel r6.2.b r6.2.i r6.2.h r7.Span r7.Head (i64 (v6 + r5.1)) (i64 (v7 - 1)) r7.Counts r7.Sums
   else
   some (v1, v2, v3, v4, v5, v8, v9)
theorem spec_l06Draw_l0_ok  : ∀ (fuel : Nat) (v1 : List Int) (v2 : Int) (v3 : Int) (v4 : Int) (v5 : Int) (v6 : Int) (v7 : Int) (v8 : List Int) (v9 : List Int), Pn (LpO Try.prog (sub (codeOf Try.prog 51) [1, 1, 1, 0, 1, 0, 0]) (st 34 [(0, V.ptr 0 0), (2, V.ptr 1 0), (3, V.ptr 2 0), (5, vI v6), (6, vI v7)] [Blk.box 52 [V.sl false 5 (List.map E5 v1), vI v2, vI v3], Blk.box 26 [vI 0, vI 0, V.nl 3, V.nl 3], Blk.box 26 [vI v4, vI v5, V.ow 3, V.ow 4], Blk.row 3 (List.map E3 v8) [], Blk.row 3 (List.map E3 v9) []] [some 0]) (fun (y : (List Int) × Int × Int × Int × Int × (List Int) × (List Int)) => (X.out 0, st 34 [(2, V.ptr 1 0), (3, V.ptr 2 0)] [Blk.box 52 [V.sl false 5 (List.map E5 y.1), vI y.2.1, vI y.2.2.1], Blk.box 26 [vI 0, vI 0, V.nl 3, V.nl 3], Blk.box 26 [vI y.2.2.2.1, vI y.2.2.2.2.1, V.ow 3, V.ow 4], Blk.row 3 (List.map E3 y.2.2.2.2.2.1) [], Blk.row 3 (List.map E3 y.2.2.2.2.2.2) []] [some 0]))) (spec_l06Draw_l0 fuel v1 v2 v3 v4 v5 v6 v7 v8 v9)
  | 0, _, _, _, _, _, _, _, _, _ => Pn.none
  | fuel + 1, v1, v2, v3, v4, v5, v6, v7, v8, v9 => by
    unfold spec_l06Draw_l0
    exact
     Pn.ite (fun h5 =>
     Pn.bind (fun r5 h6 =>
     Pn.bind (fun r6 h7 =>
     Pn.bind (fun r7 h8 =>
     LpO.go [.bit true, .call [true, false] (E3 r5.1) [V.bx 52 [V.sl false 5 (List.map E5 r5.2.b), vI r5.2.i, vI r5.2.h]], .draw [3, 6], .loop .go ((spec_l06Draw_s2 v6 r5 v7 v4 v5 r6 r7 v8 v9)), .loop .go ((spec_l06Draw_s2 v6 r5 v7 v4 v5 r6 r7 v8 v9)), .call [true, false] (E3 r6.1) [V.bx 52 [V.sl false 5 (List.map E5 r6.2.b), vI r6.2.i, vI r6.2.h]], .call [] (E26 r7) [], .wait 1, .ren [0, 1, 2, 5, 6, 3, 4], .call [true, false] (E3 r6.1) [V.bx 52 [V.sl false 5 (List.map E5 r6.2.b), vI r6.2.i, vI r6.2.h]], .call [] (E26 r7) [], .wait 1, .ren [0, 1, 2, 5, 6, 3, 4], .ren [0, 1, 2, 3, 4, 5, 6], .loop .go ((spec_l06Draw_s2 v6 r5 v7 v4 v5 r6 r7 v8 v9)), .call [true, false] (E3 r6.1) [V.bx 52 [V.sl false 5 (List.map E5 r6.2.b), vI r6.2.i, vI r6.2.h]], .call [] (E26 r7) [], .wait 1, .ren [0, 1, 2, 5, 6, 3, 4], .call [true, false] (E3 r6.1) [V.bx 52 [V.sl false 5 (List.map E5 r6.2.b), vI r6.2.i, vI r6.2.h]], .call [] (E26 r7) [], .wait 1, .ren [0, 1, 2, 5, 6, 3, 4], .ren [0, 1, 2, 3, 4, 5, 6], .call [true, false] (E3 r6.1) [V.bx 52 [V.sl false 5 (List.map E5 r6.2.b), vI r6.2.i, vI r6.2.h]], .call [] (E26 r7) [], .wait 1, .ren [0, 1, 2, 5, 6, 3, 4], .wait 4, .mask [0, 2, 3, 5, 6], .ren [0, 1, 2, 3, 4]] (p := [(decide (0 < v7)) = true,Fn Try.prog 22 [(true, V.bx 52 [V.sl false 5 (List.map E5 ((l01Cur.mk v1 v2 v3).b)), vI ((l01Cur.mk v1 v2 v3).i), vI ((l01Cur.mk v1 v2 v3).h)]), (false, E3 9)] (E3 r5.1) [V.bx 52 [V.sl false 5 (List.map E5 r5.2.b), vI r5.2.i, vI r5.2.h]],(true || ((E3 r5.1).nv && nvL [V.bx 52 [V.sl false 5 (List.map E5 r5.2.b), vI r5.2.i, vI r5.2.h]])) = true,Fn Try.prog 22 [(true, V.bx 52 [V.sl false 5 (List.map E5 r5.2.b), vI r5.2.i, vI r5.2.h]), (false, E3 90)] (E3 r6.1) [V.bx 52 [V.sl false 5 (List.map E5 r6.2.b), vI r6.2.i, vI r6.2.h]],(true || ((E3 r6.1).nv && nvL [V.bx 52 [V.sl false 5 (List.map E5 r6.2.b), vI r6.2.i, vI r6.2.h]])) = true,Fn Try.prog 83 [(false, E26 (Ring.mk v4 v5 v8 v9)), (false, E3 (i64 (v6 + r5.1))), (false, E3 (i64 (1 + r6.1)))] (E26 r7) [],(false || ((E26 r7).nv && nvL [])) = true,(spec_l06Draw_s2 v6 r5 v7 v4 v5 r6 r7 v8 v9) = (spec_l06Draw_s2 v6 r5 v7 v4 v5 r6 r7 v8 v9),Fn Try.prog 22 [(true, V.bx 52 [V.sl false 5 (List.map E5 r5.2.b), vI r5.2.i, vI r5.2.h]), (false, E3 90)] (E3 r6.1) [V.bx 52 [V.sl false 5 (List.map E5 r6.2.b), vI r6.2.i, vI r6.2.h]],(true || ((E3 r6.1).nv && nvL [V.bx 52 [V.sl false 5 (List.map E5 r6.2.b), vI r6.2.i, vI r6.2.h]])) = true,Fn Try.prog 83 [(false, E26 (Ring.mk v4 v5 v8 v9)), (false, E3 (i64 (v6 + r5.1))), (false, E3 (i64 (1 + r6.1)))] (E26 r7) [],(false || ((E26 r7).nv && nvL [])) = true,(spec_l06Draw_s2 v6 r5 v7 v4 v5 r6 r7 v8 v9) = (spec_l06Draw_s2 v6 r5 v7 v4 v5 r6 r7 v8 v9),(spec_l06Draw_s2 v6 r5 v7 v4 v5 r6 r7 v8 v9) = (spec_l06Draw_s2 v6 r5 v7 v4 v5 r6 r7 v8 v9),Fn Try.prog 22 [(true, V.bx 52 [V.sl false 5 (List.map E5 r5.2.b), vI r5.2.i, vI r5.2.h]), (false, E3 90)] (E3 r6.1) [V.bx 52 [V.sl false 5 (List.map E5 r6.2.b), vI r6.2.i, vI r6.2.h]],(true || ((E3 r6.1).nv && nvL [V.bx 52 [V.sl false 5 (List.map E5 r6.2.b), vI r6.2.i, vI r6.2.h]])) = true,Fn Try.prog 83 [(false, E26 (Ring.mk v4 v5 v8 v9)), (false, E3 (i64 (v6 + r5.1))), (false, E3 (i64 (1 + r6.1)))] (E26 r7) [],(false || ((E26 r7).nv && nvL [])) = true,(spec_l06Draw_s2 v6 r5 v7 v4 v5 r6 r7 v8 v9) = (spec_l06Draw_s2 v6 r5 v7 v4 v5 r6 r7 v8 v9),Fn Try.prog 22 [(true, V.bx 52 [V.sl false 5 (List.map E5 r5.2.b), vI r5.2.i, vI r5.2.h]), (false, E3 90)] (E3 r6.1) [V.bx 52 [V.sl false 5 (List.map E5 r6.2.b), vI r6.2.i, vI r6.2.h]],(true || ((E3 r6.1).nv && nvL [V.bx 52 [V.sl false 5 (List.map E5 r6.2.b), vI r6.2.i, vI r6.2.h]])) = true,Fn Try.prog 83 [(false, E26 (Ring.mk v4 v5 v8 v9)), (false, E3 (i64 (v6 + r5.1))), (false, E3 (i64 (1 + r6.1)))] (E26 r7) [],(false || ((E26 r7).nv && nvL [])) = true,(spec_l06Draw_s2 v6 r5 v7 v4 v5 r6 r7 v8 v9) = (spec_l06Draw_s2 v6 r5 v7 v4 v5 r6 r7 v8 v9),(spec_l06Draw_s2 v6 r5 v7 v4 v5 r6 r7 v8 v9) = (spec_l06Draw_s2 v6 r5 v7 v4 v5 r6 r7 v8 v9),Fn Try.prog 22 [(true, V.bx 52 [V.sl false 5 (List.map E5 r5.2.b), vI r5.2.i, vI r5.2.h]), (false, E3 90)] (E3 r6.1) [V.bx 52 [V.sl false 5 (List.map E5 r6.2.b), vI r6.2.i, vI r6.2.h]],(true || ((E3 r6.1).nv && nvL [V.bx 52 [V.sl false 5 (List.map E5 r6.2.b), vI r6.2.i, vI r6.2.h]])) = true,Fn Try.prog 83 [(false, E26 (Ring.mk v4 v5 v8 v9)), (false, E3 (i64 (v6 + r5.1))), (false, E3 (i64 (1 + r6.1)))] (E26 r7) [],(false || ((E26 r7).nv && nvL [])) = true,(spec_l06Draw_s2 v6 r5 v7 v4 v5 r6 r7 v8 v9) = (spec_l06Draw_s2 v6 r5 v7 v4 v5 r6 r7 v8 v9)]) (by kernel_rfl) (cj h5 (cj (spec_l01Below_ok (l01Cur.mk v1 v2 v3) 9 r5 h6) (cj rfl (cj (spec_l01Below_ok r5.2 90 r6 h7) (cj rfl (cj (spec_RingAdd_ok (Ring.mk v4 v5 v8 v9) (i64 (v6 + r5.1)) (i64 (1 + r6.1)) r7 h8) (cj (by simp [V.nv, nvL, nvL_all, nv_E3, nv_E24, nv_E26]) (cj rfl (cj (spec_l01Below_ok r5.2 90 r6 h7) (cj rfl (cj (spec_RingAdd_ok (Ring.mk v4 v5 v8 v9) (i64 (v6 + r5.1)) (i64 (1 + r6.1)) r7 h8) (cj (by simp [V.nv, nvL, nvL_all, nv_E3, nv_E24, nv_E26]) (cj rfl (cj rfl (cj (spec_l01Below_ok r5.2 90 r6 h7) (cj rfl (cj (spec_RingAdd_ok (Ring.mk v4 v5 v8 v9) (i64 (v6 + r5.1)) (i64 (1 + r6.1)) r7 h8) (cj (by simp [V.nv, nvL, nvL_all, nv_E3, nv_E24, nv_E26]) (cj rfl (cj (spec_l01Below_ok r5.2 90 r6 h7) (cj rfl (cj (spec_RingAdd_ok (Ring.mk v4 v5 v8 v9) (i64 (v6 + r5.1)) (i64 (1 + r6.1)) r7 h8) (cj (by simp [V.nv, nvL, nvL_all, nv_E3, nv_E24, nv_E26]) (cj rfl (cj rfl (cj (spec_l01Below_ok r5.2 90 r6 h7) (cj rfl (cj (spec_RingAdd_ok (Ring.mk v4 v5 v8 v9) (i64 (v6 + r5.1)) (i64 (1 + r6.1)) r7 h8) (cj (by simp [V.nv, nvL, nvL_all, nv_E3, nv_E24, nv_E26]) (cj1 rfl)))))))))))))))))))))))))))))) (spec_l06Draw_l0_ok fuel r6.2.b r6.2.i r6.2.h r7.Span r7.Head (i64 (v6 + r5.1)) (i64 (v7 - 1)) r7.Counts r7.Sums))))) (fun h5 =>
     Pn.some (LpO.out [.bit false, .mask [2, 3], .ren [0, 1, 2, 3, 4]] (p := [(decide (0 < v7)) = false]) (by kernel_rfl) (show X.out 0 ≠ X.go from nofun) (cj1 h5)))
def spec_l06Draw (c : l01Cur) : Option (Ring × l01Cur) :=
 (spec_l01Below c 5).bind fun r1 =>
 (spec_l01Below r1.2 6).bind fun r2 =>
 (spec_RingNew (i64 (1 + r1.1)) (i64 (1 + r2.1))).bind fun r3 =>
 (spec_l01Below r2.2 5).bind fun r4 =>
 (spec_l06Draw_l0 FUEL r4.2.b r4.2.i r4.2.h r3.1.Span r3.1.Head 0 r4.1 r3.1.Counts r3.1.Sums).bind fun r8 =>
 some ((Ring.mk r8.2.2.2.1 r8.2.2.2.2.1 r8.2.2.2.2.2.1 r8.2.2.2.2.2.2), (l01Cur.mk r8.1 r8.2.1 r8.2.2.1))
theorem spec_l06Draw_ok (c : l01Cur) : Pn (fun y => Fn Try.prog 51 [(true, V.bx 52 [V.sl false 5 (List.map E5 c.b), vI c.i, vI c.h])] (E26 y.1) [V.bx 52 [V.sl false 5 (List.map E5 y.2.b), vI y.2.i, vI y.2.h]]) (spec_l06Draw c) := by
  unfold spec_l06Draw
  exact
   Pn.bind (fun r1 h1 =>
   Pn.bind (fun r2 h2 =>
   Pn.bind (fun r3 h3 =>
   Pn.bind (fun r4 h4 =>
   Pn.bind (fun r8 h9 =>
   Pn.some (Fn.of [.call [true, false] (E3 r1.1) [V.bx 52 [V.sl false 5 (List.map E5 r1.2.b), vI r1.2.i, vI r1.2.h]], .call [true, false] (E3 r2.1) [V.bx 52 [V.sl false 5 (List.map E5 r2.2.b), vI r2.2.i, vI r2.2.h]], .call [] (V.tup [E26 r3.1, E4 r3.2]) [], .call [true, false] (E3 r4.1) [V.bx 52 [V.sl false 5 (List.map E5 r4.2.b), vI r4.2.i, vI r4.2.h]], .wait 2, .mask [0, 2, 3, 5, 6], .ren [0, 1, 4, 2, 3], .loop (X.out 0) (st 34 [(2, V.ptr 1 0), (3, V.ptr 2 0)] [Blk.box 52 [V.sl false 5 (List.map E5 r8.1), vI r8.2.1, vI r8.2.2.1], Blk.box 26 [vI 0, vI 0, V.nl 3, V.nl 3], Blk.box 26 [vI r8.2.2.2.1, vI r8.2.2.2.2.1, V.ow 3, V.ow 4], Blk.row 3 (List.map E3 r8.2.2.2.2.2.1) [], Blk.row 3 (List.map E3 r8.2.2.2.2.2.2) []] [some 0])] (p := [Fn Try.prog 22 [(true, V.bx 52 [V.sl false 5 (List.map E5 c.b), vI c.i, vI c.h]), (false, E3 5)] (E3 r1.1) [V.bx 52 [V.sl false 5 (List.map E5 r1.2.b), vI r1.2.i, vI r1.2.h]],(true || ((E3 r1.1).nv && nvL [V.bx 52 [V.sl false 5 (List.map E5 r1.2.b), vI r1.2.i, vI r1.2.h]])) = true,Fn Try.prog 22 [(true, V.bx 52 [V.sl false 5 (List.map E5 r1.2.b), vI r1.2.i, vI r1.2.h]), (false, E3 6)] (E3 r2.1) [V.bx 52 [V.sl false 5 (List.map E5 r2.2.b), vI r2.2.i, vI r2.2.h]],(true || ((E3 r2.1).nv && nvL [V.bx 52 [V.sl false 5 (List.map E5 r2.2.b), vI r2.2.i, vI r2.2.h]])) = true,Fn Try.prog 82 [(false, E3 (i64 (1 + r1.1))), (false, E3 (i64 (1 + r2.1)))] (V.tup [E26 r3.1, E4 r3.2]) [],(true || ((V.tup [E26 r3.1, E4 r3.2]).nv && nvL [])) = true,Fn Try.prog 22 [(true, V.bx 52 [V.sl false 5 (List.map E5 r2.2.b), vI r2.2.i, vI r2.2.h]), (false, E3 5)] (E3 r4.1) [V.bx 52 [V.sl false 5 (List.map E5 r4.2.b), vI r4.2.i, vI r4.2.h]],(true || ((E3 r4.1).nv && nvL [V.bx 52 [V.sl false 5 (List.map E5 r4.2.b), vI r4.2.i, vI r4.2.h]])) = true,Loop Try.prog (sub (codeOf Try.prog 51) [1, 1, 1, 0, 1, 0, 0]) (st 34 [(0, V.ptr 0 0), (2, V.ptr 1 0), (3, V.ptr 2 0), (5, vI 0), (6, vI r4.1)] [Blk.box 52 [V.sl false 5 (List.map E5 r4.2.b), vI r4.2.i, vI r4.2.h], Blk.box 26 [vI 0, vI 0, V.nl 3, V.nl 3], Blk.box 26 [vI r3.1.Span, vI r3.1.Head, V.ow 3, V.ow 4], Blk.row 3 (List.map E3 r3.1.Counts) [], Blk.row 3 (List.map E3 r3.1.Sums) []] [some 0]) (X.out 0) (st 34 [(2, V.ptr 1 0), (3, V.ptr 2 0)] [Blk.box 52 [V.sl false 5 (List.map E5 r8.1), vI r8.2.1, vI r8.2.2.1], Blk.box 26 [vI 0, vI 0, V.nl 3, V.nl 3], Blk.box 26 [vI r8.2.2.2.1, vI r8.2.2.2.2.1, V.ow 3, V.ow 4], Blk.row 3 (List.map E3 r8.2.2.2.2.2.1) [], Blk.row 3 (List.map E3 r8.2.2.2.2.2.2) []] [some 0])]) (by kernel_rfl) (cj (spec_l01Below_ok c 5 r1 h1) (cj rfl (cj (spec_l01Below_ok r1.2 6 r2 h2) (cj rfl (cj (spec_RingNew_ok (i64 (1 + r1.1)) (i64 (1 + r2.1)) r3 h3) (cj rfl (cj (spec_l01Below_ok r2.2 5 r4 h4) (cj rfl (cj1 (spec_l06Draw_l0_ok FUEL r4.2.b r4.2.i r4.2.h r3.1.Span r3.1.Head 0 r4.1 r3.1.Counts r3.1.Sums r8 h9))))))))))))))))
def spec_l07Id (c : l01Cur) : Option (ByteArray × l01Cur) :=
 (spec_l01Str c [bs [97], bs [98], bs [99], bs [104, 49], bs [122, 57]]).bind fun r1 =>
 some (r1.1, r1.2.1)
theorem spec_l07Id_ok (c : l01Cur) : Pn (fun y => Fn Try.prog 21 [(true, V.bx 52 [V.sl false 5 (List.map E5 c.b), vI c.i, vI c.h])] (E9 y.1) [V.bx 52 [V.sl false 5 (List.map E5 y.2.b), vI y.2.i, vI y.2.h]]) (spec_l07Id c) := by
  unfold spec_l07Id
  exact
   Pn.bind (fun r1 h1 =>
   Pn.some (Fn.of [.call [true, true] (E9 r1.1) [V.bx 52 [V.sl false 5 (List.map E5 r1.2.1.b), vI r1.2.1.i, vI r1.2.1.h], V.sl true 9 (List.map E9 r1.2.2)]] (p := [Fn Try.prog 57 [(true, V.bx 52 [V.sl false 5 (List.map E5 c.b), vI c.i, vI c.h]), (true, E84 [bs [97], bs [98], bs [99], bs [104, 49], bs [122, 57]])] (E9 r1.1) [V.bx 52 [V.sl false 5 (List.map E5 r1.2.1.b), vI r1.2.1.i, vI r1.2.1.h], V.sl true 9 (List.map E9 r1.2.2)],(true || ((E9 r1.1).nv && nvL [V.bx 52 [V.sl false 5 (List.map E5 r1.2.1.b), vI r1.2.1.i, vI r1.2.1.h], V.sl true 9 (List.map E9 r1.2.2)])) = true]) (by kernel_rfl) (cj (spec_l01Str_ok c [bs [97], bs [98], bs [99], bs [104, 49], bs [122, 57]] r1 h1) (cj1 rfl))))
def spec_l07Hold (c : l01Cur) : Option (Hold × l01Cur) :=
 (spec_l07Id c).bind fun r1 =>
 (spec_l01Below r1.2 60).bind fun r2 =>
 (spec_l01Below r2.2 30).bind fun r3 =>
 some ((Hold.mk r1.1 (i64 (1 + r2.1)) r3.1), r3.2)
theorem spec_l07Hold_ok (c : l01Cur) : Pn (fun y => Fn Try.prog 85 [(true, V.bx 52 [V.sl false 5 (List.map E5 c.b), vI c.i, vI c.h])] (E36 y.1) [V.bx 52 [V.sl false 5 (List.map E5 y.2.b), vI y.2.i, vI y.2.h]]) (spec_l07Hold c) := by
  unfold spec_l07Hold
  exact
   Pn.bind (fun r1 h1 =>
   Pn.bind (fun r2 h2 =>
   Pn.bind (fun r3 h3 =>
   Pn.some (Fn.of [.call [true] (E9 r1.1) [V.bx 52 [V.sl false 5 (List.map E5 r1.2.b), vI r1.2.i, vI r1.2.h]], .call [true, false] (E3 r2.1) [V.bx 52 [V.sl false 5 (List.map E5 r2.2.b), vI r2.2.i, vI r2.2.h]], .call [true, false] (E3 r3.1) [V.bx 52 [V.sl false 5 (List.map E5 r3.2.b), vI r3.2.i, vI r3.2.h]]] (p := [Fn Try.prog 21 [(true, V.bx 52 [V.sl false 5 (List.map E5 c.b), vI c.i, vI c.h])] (E9 r1.1) [V.bx 52 [V.sl false 5 (List.map E5 r1.2.b), vI r1.2.i, vI r1.2.h]],(true || ((E9 r1.1).nv && nvL [V.bx 52 [V.sl false 5 (List.map E5 r1.2.b), vI r1.2.i, vI r1.2.h]])) = true,Fn Try.prog 22 [(true, V.bx 52 [V.sl false 5 (List.map E5 r1.2.b), vI r1.2.i, vI r1.2.h]), (false, E3 60)] (E3 r2.1) [V.bx 52 [V.sl false 5 (List.map E5 r2.2.b), vI r2.2.i, vI r2.2.h]],(true || ((E3 r2.1).nv && nvL [V.bx 52 [V.sl false 5 (List.map E5 r2.2.b), vI r2.2.i, vI r2.2.h]])) = true,Fn Try.prog 22 [(true, V.bx 52 [V.sl false 5 (List.map E5 r2.2.b), vI r2.2.i, vI r2.2.h]), (false, E3 30)] (E3 r3.1) [V.bx 52 [V.sl false 5 (List.map E5 r3.2.b), vI r3.2.i, vI r3.2.h]],(true || ((E3 r3.1).nv && nvL [V.bx 52 [V.sl false 5 (List.map E5 r3.2.b), vI r3.2.i, vI r3.2.h]])) = true]) (by kernel_rfl) (cj (spec_l07Id_ok c r1 h1) (cj rfl (cj (spec_l01Below_ok r1.2 60 r2 h2) (cj rfl (cj (spec_l01Below_ok r2.2 30 r3 h3) (cj1 rfl))))))))))
def spec_HoldPut_l0 (l : List Hold) (h_ : Hold) : List Hold → Bool → (List Hold) → Option (Bool × (List Hold))
  | [], v1, v2 =>
   some (v1, v2)
  | x1 :: t1, v1, v2 =>
   if v1 = true then
   if (x1.Id == h_.Id) = true then
   spec_HoldPut_l0 l h_ t1 v1 v2
   else
   if (capOk (v2.length + 1)) = true then
   spec_HoldPut_l0 l h_ t1 v1 (v2 ++ [x1])
   else none
   else
   if (Op.bytesLess x1.Id.toList h_.Id.toList) = true then
   if (x1.Id == h_.Id) = true then
   spec_HoldPut_l0 l h_ t1 v1 v2
   else
   if (capOk (v2.length + 1)) = true then
   spec_HoldPut_l0 l h_ t1 v1 (v2 ++ [x1])
   else none
   else
   if (capOk (v2.length + 1)) = true then
   if (x1.Id == h_.Id) = true then
   spec_HoldPut_l0 l h_ t1 true (v2 ++ [h_])
   else
   if (capOk ((v2 ++ [h_]).length + 1)) = true then
   spec_HoldPut_l0 l h_ t1 true ((v2 ++ [h_]) ++ [x1])
   else none
   else none
theorem spec_HoldPut_l0_ok (l : List Hold) (h_ : Hold) (h4 : capOk l.length = true) : ∀ (t1 p1 : List Hold) (_ : l = p1 ++ t1) (v1 : Bool) (v2 : List Hold), Pn (LpO Try.prog (sub (codeOf Try.prog 84) [1, 1, 1, 1, 0, 1, 0, 0]) (st 53 [(3, V.ptr 0 0), (6, V.ow 1), (7, V.sc (.bool v1)), (14, V.sl false 36 (List.map E36 l)), (15, vI (l.length : Int)), (16, vI (p1.length : Int))] [Blk.box 36 [V.sc (.string h_.Id), vI h_.Amount, vI h_.Due], Blk.row 36 (List.map E36 v2) []] []) (fun (y : Bool × (List Hold)) => (X.out 0, st 53 [(3, V.ptr 0 0), (6, V.ow 1), (7, V.sc (.bool y.1))] [Blk.box 36 [V.sc (.string h_.Id), vI h_.Amount, vI h_.Due], Blk.row 36 (List.map E36 y.2) []] []))) (spec_HoldPut_l0 l h_ t1 v1 v2)
  | [], p1, h3, v1, v2 => by
    unfold spec_HoldPut_l0
    exact
     Pn.some (LpO.out [.bit false, .mask [3, 6, 7], .ren [0, 1]] (p := [(decide ((p1.length : Int) < (l.length : Int))) = false]) (by kernel_rfl) (show X.out 0 ≠ X.go from nofun) (cj1 (rng_end h3)))
  | x1 :: t1, p1, h3, v1, v2 => by
    unfold spec_HoldPut_l0
    exact
     Pn.ite (fun h5 =>
     Pn.ite (fun h6 =>
     LpO.go [.bit true, .el (E36 x1), .bit false, .bit false, .bit false, .bit false, .bit false, .bit false, .bit false, .bit false, .wait 2, .mask [3, 6, 7, 14, 15, 16], .ren [0, 1], .nm 16 (vI ((p1 ++ [x1]).length : Int))] (p := [(decide ((p1.length : Int) < (l.length : Int))) = true,(0 : Int) ≤ (p1.length : Int),(List.map E36 l)[(p1.length : Int).toNat]? = some (E36 x1),(!v1) = false,(!v1) = false,(!v1) = false,(!v1) = false,(!v1) = false,(!v1) = false,false = false,(!(x1.Id == h_.Id)) = false,vI (i64 ((p1.length : Int) + 1)) = vI ((p1 ++ [x1]).length : Int)]) (by kernel_rfl) (cj (rng_lt h3) (cj (by omega) (cj (rng_get _ h3) (cj (nf h5) (cj (nf h5) (cj (nf h5) (cj (nf h5) (cj (nf h5) (cj (nf h5) (cj rfl (cj (nf h6) (cj1 (rng_next h3 h4))))))))))))) (spec_HoldPut_l0_ok l h_ h4 t1 (p1 ++ [x1]) (rng_step h3) v1 v2)) (fun h6 =>
     Pn.ite (fun h7 =>
     LpO.go [.bit true, .el (E36 x1), .bit false, .bit false, .bit false, .bit false, .bit false, .bit false, .bit false, .bit true, .cp [V.agg [V.sc (.string x1.Id), vI x1.Amount, vI x1.Due]], .nb 4 (.row 36 (List.map E36 (v2 ++ [x1])) []), .wait 4, .mask [3, 6, 7, 14, 15, 16], .ren [0, 4], .nm 16 (vI ((p1 ++ [x1]).length : Int))] (p := [(decide ((p1.length : Int) < (l.length : Int))) = true,(0 : Int) ≤ (p1.length : Int),(List.map E36 l)[(p1.length : Int).toNat]? = some (E36 x1),(!v1) = false,(!v1) = false,(!v1) = false,(!v1) = false,(!v1) = false,(!v1) = false,false = false,(!(x1.Id == h_.Id)) = true,[V.agg [V.sc (.string x1.Id), vI x1.Amount, vI x1.Due]] = [V.agg [V.sc (.string x1.Id), vI x1.Amount, vI x1.Due]],[V.agg [V.sc (.string x1.Id), vI x1.Amount, vI x1.Due]].all V.flatE = true,(List.map E36 v2).length + [V.agg [V.sc (.string x1.Id), vI x1.Amount, vI x1.Due]].length ≤ 9223372036854775807,((List.map E36 v2).length + [V.agg [V.sc (.string x1.Id), vI x1.Amount, vI x1.Due]].length) * 32 ≤ 140737488355328,Blk.row 36 ((List.map E36 v2) ++ [V.agg [V.sc (.string x1.Id), vI x1.Amount, vI x1.Due]]) [] = Blk.row 36 (List.map E36 (v2 ++ [x1])) [],vI (i64 ((p1.length : Int) + 1)) = vI ((p1 ++ [x1]).length : Int)]) (by kernel_rfl) (cj (rng_lt h3) (cj (by omega) (cj (rng_get _ h3) (cj (nf h5) (cj (nf h5) (cj (nf h5) (cj (nf h5) (cj (nf h5) (cj (nf h5) (cj rfl (cj (nt h6) (cj rfl (cj rfl (cj (cap1 (capN (by simp) h7)) (cj (cap2 (capN (by simp) h7) (by decide)) (cj (nb_app E36 v2 [x1]) (cj1 (rng_next h3 h4)))))))))))))))))) (spec_HoldPut_l0_ok l h_ h4 t1 (p1 ++ [x1]) (rng_step h3) v1 (v2 ++ [x1]))) (fun h7 =>
     Pn.none))) (fun h5 =>
     Pn.ite (fun h8 =>
     Pn.ite (fun h9 =>
     LpO.go [.bit true, .el (E36 x1), .bit true, .bit true, .bit true, .bit true, .bit true, .bit true, .bit false, .bit false, .wait 2, .mask [3, 6, 7, 14, 15, 16], .ren [0, 1], .nm 16 (vI ((p1 ++ [x1]).length : Int))] (p := [(decide ((p1.length : Int) < (l.length : Int))) = true,(0 : Int) ≤ (p1.length : Int),(List.map E36 l)[(p1.length : Int).toNat]? = some (E36 x1),(!v1) = true,(!v1) = true,(!v1) = true,(!v1) = true,(!v1) = true,(!v1) = true,(!(Op.bytesLess x1.Id.toList h_.Id.toList)) = false,(!(x1.Id == h_.Id)) = false,vI (i64 ((p1.length : Int) + 1)) = vI ((p1 ++ [x1]).length : Int)]) (by kernel_rfl) (cj (rng_lt h3) (cj (by omega) (cj (rng_get _ h3) (cj (nt h5) (cj (nt h5) (cj (nt h5) (cj (nt h5) (cj (nt h5) (cj (nt h5) (cj (nf h8) (cj (nf h9) (cj1 (rng_next h3 h4))))))))))))) (spec_HoldPut_l0_ok l h_ h4 t1 (p1 ++ [x1]) (rng_step h3) v1 v2)) (fun h9 =>
     Pn.ite (fun h10 =>
     LpO.go [.bit true, .el (E36 x1), .bit true, .bit true, .bit true, .bit true, .bit true, .bit true, .bit false, .bit true, .cp [V.agg [V.sc (.string x1.Id), vI x1.Amount, vI x1.Due]], .nb 4 (.row 36 (List.map E36 (v2 ++ [x1])) []), .wait 4, .mask [3, 6, 7, 14, 15, 16], .ren [0, 4], .nm 16 (vI ((p1 ++ [x1]).length : Int))] (p := [(decide ((p1.length : Int) < (l.length : Int))) = true,(0 : Int) ≤ (p1.length : Int),(List.map E36 l)[(p1.length : Int).toNat]? = some (E36 x1),(!v1) = true,(!v1) = true,(!v1) = true,(!v1) = true,(!v1) = true,(!v1) = true,(!(Op.bytesLess x1.Id.toList h_.Id.toList)) = false,(!(x1.Id == h_.Id)) = true,[V.agg [V.sc (.string x1.Id), vI x1.Amount, vI x1.Due]] = [V.agg [V.sc (.string x1.Id), vI x1.Amount, vI x1.Due]],[V.agg [V.sc (.string x1.Id), vI x1.Amount, vI x1.Due]].all V.flatE = true,(List.map E36 v2).length + [V.agg [V.sc (.string x1.Id), vI x1.Amount, vI x1.Due]].length ≤ 9223372036854775807,((List.map E36 v2).length + [V.agg [V.sc (.string x1.Id), vI x1.Amount, vI x1.Due]].length) * 32 ≤ 140737488355328,Blk.row 36 ((List.map E36 v2) ++ [V.agg [V.sc (.string x1.Id), vI x1.Amount, vI x1.Due]]) [] = Blk.row 36 (List.map E36 (v2 ++ [x1])) [],vI (i64 ((p1.length : Int) + 1)) = vI ((p1 ++ [x1]).length : Int)]) (by kernel_rfl) (cj (rng_lt h3) (cj (by omega) (cj (rng_get _ h3) (cj (nt h5) (cj (nt h5) (cj (nt h5) (cj (nt h5) (cj (nt h5) (cj (nt h5) (cj (nf h8) (cj (nt h9) (cj rfl (cj rfl (cj (cap1 (capN (by simp) h10)) (cj (cap2 (capN (by simp) h10) (by decide)) (cj (nb_app E36 v2 [x1]) (cj1 (rng_next h3 h4)))))))))))))))))) (spec_HoldPut_l0_ok l h_ h4 t1 (p1 ++ [x1]) (rng_step h3) v1 (v2 ++ [x1]))) (fun h10 =>
     Pn.none))) (fun h8 =>
     Pn.ite (fun h11 =>
     Pn.ite (fun h12 =>
     LpO.go [.bit true, .el (E36 x1), .bit true, .bit true, .bit true, .bit true, .bit true, .bit true, .bit true, .cp [V.agg [V.sc (.string h_.Id), vI h_.Amount, vI h_.Due]], .nb 4 (.row 36 (List.map E36 (v2 ++ [h_])) []), .bit false, .wait 2, .mask [3, 6, 7, 14, 15, 16], .ren [0, 4], .nm 16 (vI ((p1 ++ [x1]).length : Int))] (p := [(decide ((p1.length : Int) < (l.length : Int))) = true,(0 : Int) ≤ (p1.length : Int),(List.map E36 l)[(p1.length : Int).toNat]? = some (E36 x1),(!v1) = true,(!v1) = true,(!v1) = true,(!v1) = true,(!v1) = true,(!v1) = true,(!(Op.bytesLess x1.Id.toList h_.Id.toList)) = true,[V.agg [V.sc (.string h_.Id), vI h_.Amount, vI h_.Due]] = [V.agg [V.sc (.string h_.Id), vI h_.Amount, vI h_.Due]],[V.agg [V.sc (.string h_.Id), vI h_.Amount, vI h_.Due]].all V.flatE = true,(List.map E36 v2).length + [V.agg [V.sc (.string h_.Id), vI h_.Amount, vI h_.Due]].length ≤ 9223372036854775807,((List.map E36 v2).length + [V.agg [V.sc (.string h_.Id), vI h_.Amount, vI h_.Due]].length) * 32 ≤ 140737488355328,Blk.row 36 ((List.map E36 v2) ++ [V.agg [V.sc (.string h_.Id), vI h_.Amount, vI h_.Due]]) [] = Blk.row 36 (List.map E36 (v2 ++ [h_])) [],(!(x1.Id == h_.Id)) = false,vI (i64 ((p1.length : Int) + 1)) = vI ((p1 ++ [x1]).length : Int)]) (by kernel_rfl) (cj (rng_lt h3) (cj (by omega) (cj (rng_get _ h3) (cj (nt h5) (cj (nt h5) (cj (nt h5) (cj (nt h5) (cj (nt h5) (cj (nt h5) (cj (nt h8) (cj rfl (cj rfl (cj (cap1 (capN (by simp) h11)) (cj (cap2 (capN (by simp) h11) (by decide)) (cj (nb_app E36 v2 [h_]) (cj (nf h12) (cj1 (rng_next h3 h4)))))))))))))))))) (spec_HoldPut_l0_ok l h_ h4 t1 (p1 ++ [x1]) (rng_step h3) true (v2 ++ [h_]))) (fun h12 =>
     Pn.ite (fun h13 =>
     LpO.go [.bit true, .el (E36 x1), .bit true, .bit true, .bit true, .bit true, .bit true, .bit true, .bit true, .cp [V.agg [V.sc (.string h_.Id), vI h_.Amount, vI h_.Due]], .nb 4 (.row 36 (List.map E36 (v2 ++ [h_])) []), .bit true, .cp [V.agg [V.sc (.string x1.Id), vI x1.Amount, vI x1.Due]], .nb 6 (.row 36 (List.map E36 ((v2 ++ [h_]) ++ [x1])) []), .wait 4, .mask [3, 6, 7, 14, 15, 16], .ren [0, 6], .nm 16 (vI ((p1 ++ [x1]).length : Int))] (p := [(decide ((p1.length : Int) < (l.length : Int))) = true,(0 : Int) ≤ (p1.length : Int),(List.map E36 l)[(p1.length : Int).toNat]? = some (E36 x1),(!v1) = true,(!v1) = true,(!v1) = true,(!v1) = true,(!v1) = true,(!v1) = true,(!(Op.bytesLess x1.Id.toList h_.Id.toList)) = true,[V.agg [V.sc (.string h_.Id), vI h_.Amount, vI h_.Due]] = [V.agg [V.sc (.string h_.Id), vI h_.Amount, vI h_.Due]],[V.agg [V.sc (.string h_.Id), vI h_.Amount, vI h_.Due]].all V.flatE = true,(List.map E36 v2).length + [V.agg [V.sc (.string h_.Id), vI h_.Amount, vI h_.Due]].length ≤ 9223372036854775807,((List.map E36 v2).length + [V.agg [V.sc (.string h_.Id), vI h_.Amount, vI h_.Due]].length) * 32 ≤ 140737488355328,Blk.row 36 ((List.map E36 v2) ++ [V.agg [V.sc (.string h_.Id), vI h_.Amount, vI h_.Due]]) [] = Blk.row 36 (List.map E36 (v2 ++ [h_])) [],(!(x1.Id == h_.Id)) = true,[V.agg [V.sc (.string x1.Id), vI x1.Amount, vI x1.Due]] = [V.agg [V.sc (.string x1.Id), vI x1.Amount, vI x1.Due]],[V.agg [V.sc (.string x1.Id), vI x1.Amount, vI x1.Due]].all V.flatE = true,(List.map E36 (v2 ++ [h_])).length + [V.agg [V.sc (.string x1.Id), vI x1.Amount, vI x1.Due]].length ≤ 9223372036854775807,((List.map E36 (v2 ++ [h_])).length + [V.agg [V.sc (.string x1.Id), vI x1.Amount, vI x1.Due]].length) * 32 ≤ 140737488355328,Blk.row 36 ((List.map E36 (v2 ++ [h_])) ++ [V.agg [V.sc (.string x1.Id), vI x1.Amount, vI x1.Due]]) [] = Blk.row 36 (List.map E36 ((v2 ++ [h_]) ++ [x1])) [],vI (i64 ((p1.length : Int) + 1)) = vI ((p1 ++ [x1]).length : Int)]) (by kernel_rfl) (cj (rng_lt h3) (cj (by omega) (cj (rng_get _ h3) (cj (nt h5) (cj (nt h5) (cj (nt h5) (cj (nt h5) (cj (nt h5) (cj (nt h5) (cj (nt h8) (cj rfl (cj rfl (cj (cap1 (capN (by simp) h11)) (cj (cap2 (capN (by simp) h11) (by decide)) (cj (nb_app E36 v2 [h_]) (cj (nt h12) (cj rfl (cj rfl (cj (cap1 (capN (by simp) h13)) (cj (cap2 (capN (by simp) h13) (by decide)) (cj (nb_app E36 (v2 ++ [h_]) [x1]) (cj1 (rng_next h3 h4))))))))))))))))))))))) (spec_HoldPut_l0_ok l h_ h4 t1 (p1 ++ [x1]) (rng_step h3) true ((v2 ++ [h_]) ++ [x1]))) (fun h13 =>
     Pn.none))) (fun h11 =>
     Pn.none)))
def spec_HoldPut (l : List Hold) (h_ : Hold) : Option ((List Hold) × Bool) :=
 (spec_HoldsOk l).bind fun r1 =>
 if r1 = true then
 if (capOk l.length) = true then
 (spec_HoldPut_l0 l h_ l false []).bind fun r2 =>
 if r2.1 = true then
 (spec_HoldsOk r2.2).bind fun r3 =>
 if r3 = true then
 some (r2.2, true)
 else
 some ([], false)
 else
 if (capOk (r2.2.length + 1)) = true then
 (spec_HoldsOk (r2.2 ++ [h_])).bind fun r4 =>
 if r4 = true then
 some ((r2.2 ++ [h_]), true)
 else
 some ([], false)
 else none
 else none
 else
 some ([], false)
theorem spec_HoldPut_ok (l : List Hold) (h_ : Hold) : Pn (fun y => Fn Try.prog 84 [(false, E23 l), (false, E36 h_)] (V.tup [E23 y.1, E4 y.2]) []) (spec_HoldPut l h_) := by
  unfold spec_HoldPut
  exact
   Pn.bind (fun r1 h1 =>
   Pn.ite (fun h2 =>
   Pn.ite (fun h14 =>
   Pn.bind (fun r2 h15 =>
   Pn.ite (fun h16 =>
   Pn.bind (fun r3 h17 =>
   Pn.ite (fun h18 =>
   Pn.some (Fn.of [.call [] (E4 r1) [], .bit false, .wait 4, .nm 15 (vI (l.length : Int)), .wait 2, .mask [3, 6, 7, 14, 15, 16], .ren [0, 1], .loop (X.out 0) (st 53 [(3, V.ptr 0 0), (6, V.ow 1), (7, V.sc (.bool r2.1))] [Blk.box 36 [V.sc (.string h_.Id), vI h_.Amount, vI h_.Due], Blk.row 36 (List.map E36 r2.2) []] []), .bit false, .call [] (E4 r3) [], .bit false] (p := [Fn Try.prog 64 [(false, E23 l)] (E4 r1) [],(true || ((E4 r1).nv && nvL [])) = true,(!r1) = false,vI ((List.map E36 l).length : Int) = vI (l.length : Int),Loop Try.prog (sub (codeOf Try.prog 84) [1, 1, 1, 1, 0, 1, 0, 0]) (st 53 [(3, V.ptr 0 0), (6, V.ow 1), (7, V.sc (.bool false)), (14, V.sl false 36 (List.map E36 l)), (15, vI (l.length : Int)), (16, vI 0)] [Blk.box 36 [V.sc (.string h_.Id), vI h_.Amount, vI h_.Due], Blk.row 36 ([] : List V) []] []) (X.out 0) (st 53 [(3, V.ptr 0 0), (6, V.ow 1), (7, V.sc (.bool r2.1))] [Blk.box 36 [V.sc (.string h_.Id), vI h_.Amount, vI h_.Due], Blk.row 36 (List.map E36 r2.2) []] []),(!r2.1) = false,Fn Try.prog 64 [(false, E23 r2.2)] (E4 r3) [],(false || ((E4 r3).nv && nvL [])) = true,(!r3) = false]) (by kernel_rfl) (cj (spec_HoldsOk_ok l r1 h1) (cj rfl (cj (nf h2) (cj (len_nm _ _) (cj (spec_HoldPut_l0_ok l h_ h14 l [] rfl false [] r2 h15) (cj (nf h16) (cj (spec_HoldsOk_ok r2.2 r3 h17) (cj (by simp [V.nv, nvL, nvL_all, nv_E4]) (cj1 (nf h18)))))))))))) (fun h18 =>
   Pn.some (Fn.of [.call [] (E4 r1) [], .bit false, .wait 4, .nm 15 (vI (l.length : Int)), .wait 2, .mask [3, 6, 7, 14, 15, 16], .ren [0, 1], .loop (X.out 0) (st 53 [(3, V.ptr 0 0), (6, V.ow 1), (7, V.sc (.bool r2.1))] [Blk.box 36 [V.sc (.string h_.Id), vI h_.Amount, vI h_.Due], Blk.row 36 (List.map E36 r2.2) []] []), .bit false, .call [] (E4 r3) [], .bit true] (p := [Fn Try.prog 64 [(false, E23 l)] (E4 r1) [],(true || ((E4 r1).nv && nvL [])) = true,(!r1) = false,vI ((List.map E36 l).length : Int) = vI (l.length : Int),Loop Try.prog (sub (codeOf Try.prog 84) [1, 1, 1, 1, 0, 1, 0, 0]) (st 53 [(3, V.ptr 0 0), (6, V.ow 1), (7, V.sc (.bool false)), (14, V.sl false 36 (List.map E36 l)), (15, vI (l.length : Int)), (16, vI 0)] [Blk.box 36 [V.sc (.string h_.Id), vI h_.Amount, vI h_.Due], Blk.row 36 ([] : List V) []] []) (X.out 0) (st 53 [(3, V.ptr 0 0), (6, V.ow 1), (7, V.sc (.bool r2.1))] [Blk.box 36 [V.sc (.string h_.Id), vI h_.Amount, vI h_.Due], Blk.row 36 (List.map E36 r2.2) []] []),(!r2.1) = false,Fn Try.prog 64 [(false, E23 r2.2)] (E4 r3) [],(false || ((E4 r3).nv && nvL [])) = true,(!r3) = true]) (by kernel_rfl) (cj (spec_HoldsOk_ok l r1 h1) (cj rfl (cj (nf h2) (cj (len_nm _ _) (cj (spec_HoldPut_l0_ok l h_ h14 l [] rfl false [] r2 h15) (cj (nf h16) (cj (spec_HoldsOk_ok r2.2 r3 h17) (cj (by simp [V.nv, nvL, nvL_all, nv_E4]) (cj1 (nt h18)))))))))))))) (fun h16 =>
   Pn.ite (fun h19 =>
   Pn.bind (fun r4 h20 =>
   Pn.ite (fun h21 =>
   Pn.some (Fn.of [.call [] (E4 r1) [], .bit false, .wait 4, .nm 15 (vI (l.length : Int)), .wait 2, .mask [3, 6, 7, 14, 15, 16], .ren [0, 1], .loop (X.out 0) (st 53 [(3, V.ptr 0 0), (6, V.ow 1), (7, V.sc (.bool r2.1))] [Blk.box 36 [V.sc (.string h_.Id), vI h_.Amount, vI h_.Due], Blk.row 36 (List.map E36 r2.2) []] []), .bit true, .cp [V.agg [V.sc (.string h_.Id), vI h_.Amount, vI h_.Due]], .nb 3 (.row 36 (List.map E36 (r2.2 ++ [h_])) []), .call [] (E4 r4) [], .bit false] (p := [Fn Try.prog 64 [(false, E23 l)] (E4 r1) [],(true || ((E4 r1).nv && nvL [])) = true,(!r1) = false,vI ((List.map E36 l).length : Int) = vI (l.length : Int),Loop Try.prog (sub (codeOf Try.prog 84) [1, 1, 1, 1, 0, 1, 0, 0]) (st 53 [(3, V.ptr 0 0), (6, V.ow 1), (7, V.sc (.bool false)), (14, V.sl false 36 (List.map E36 l)), (15, vI (l.length : Int)), (16, vI 0)] [Blk.box 36 [V.sc (.string h_.Id), vI h_.Amount, vI h_.Due], Blk.row 36 ([] : List V) []] []) (X.out 0) (st 53 [(3, V.ptr 0 0), (6, V.ow 1), (7, V.sc (.bool r2.1))] [Blk.box 36 [V.sc (.string h_.Id), vI h_.Amount, vI h_.Due], Blk.row 36 (List.map E36 r2.2) []] []),(!r2.1) = true,[V.agg [V.sc (.string h_.Id), vI h_.Amount, vI h_.Due]] = [V.agg [V.sc (.string h_.Id), vI h_.Amount, vI h_.Due]],[V.agg [V.sc (.string h_.Id), vI h_.Amount, vI h_.Due]].all V.flatE = true,(List.map E36 r2.2).length + [V.agg [V.sc (.string h_.Id), vI h_.Amount, vI h_.Due]].length ≤ 9223372036854775807,((List.map E36 r2.2).length + [V.agg [V.sc (.string h_.Id), vI h_.Amount, vI h_.Due]].length) * 32 ≤ 140737488355328,Blk.row 36 ((List.map E36 r2.2) ++ [V.agg [V.sc (.string h_.Id), vI h_.Amount, vI h_.Due]]) [] = Blk.row 36 (List.map E36 (r2.2 ++ [h_])) [],Fn Try.prog 64 [(false, E23 (r2.2 ++ [h_]))] (E4 r4) [],(false || ((E4 r4).nv && nvL [])) = true,(!r4) = false]) (by kernel_rfl) (cj (spec_HoldsOk_ok l r1 h1) (cj rfl (cj (nf h2) (cj (len_nm _ _) (cj (spec_HoldPut_l0_ok l h_ h14 l [] rfl false [] r2 h15) (cj (nt h16) (cj rfl (cj rfl (cj (cap1 (capN (by simp) h19)) (cj (cap2 (capN (by simp) h19) (by decide)) (cj (nb_app E36 r2.2 [h_]) (cj (spec_HoldsOk_ok (r2.2 ++ [h_]) r4 h20) (cj (by simp [V.nv, nvL, nvL_all, nv_E4]) (cj1 (nf h21))))))))))))))))) (fun h21 =>
   Pn.some (Fn.of [.call [] (E4 r1) [], .bit false, .wait 4, .nm 15 (vI (l.length : Int)), .wait 2, .mask [3, 6, 7, 14, 15, 16], .ren [0, 1], .loop (X.out 0) (st 53 [(3, V.ptr 0 0), (6, V.ow 1), (7, V.sc (.bool r2.1))] [Blk.box 36 [V.sc (.string h_.Id), vI h_.Amount, vI h_.Due], Blk.row 36 (List.map E36 r2.2) []] []), .bit true, .cp [V.agg [V.sc (.string h_.Id), vI h_.Amount, vI h_.Due]], .nb 3 (.row 36 (List.map E36 (r2.2 ++ [h_])) []), .call [] (E4 r4) [], .bit true] (p := [Fn Try.prog 64 [(false, E23 l)] (E4 r1) [],(true || ((E4 r1).nv && nvL [])) = true,(!r1) = false,vI ((List.map E36 l).length : Int) = vI (l.length : Int),Loop Try.prog (sub (codeOf Try.prog 84) [1, 1, 1, 1, 0, 1, 0, 0]) (st 53 [(3, V.ptr 0 0), (6, V.ow 1), (7, V.sc (.bool false)), (14, V.sl false 36 (List.map E36 l)), (15, vI (l.length : Int)), (16, vI 0)] [Blk.box 36 [V.sc (.string h_.Id), vI h_.Amount, vI h_.Due], Blk.row 36 ([] : List V) []] []) (X.out 0) (st 53 [(3, V.ptr 0 0), (6, V.ow 1), (7, V.sc (.bool r2.1))] [Blk.box 36 [V.sc (.string h_.Id), vI h_.Amount, vI h_.Due], Blk.row 36 (List.map E36 r2.2) []] []),(!r2.1) = true,[V.agg [V.sc (.string h_.Id), vI h_.Amount, vI h_.Due]] = [V.agg [V.sc (.string h_.Id), vI h_.Amount, vI h_.Due]],[V.agg [V.sc (.string h_.Id), vI h_.Amount, vI h_.Due]].all V.flatE = true,(List.map E36 r2.2).length + [V.agg [V.sc (.string h_.Id), vI h_.Amount, vI h_.Due]].length ≤ 9223372036854775807,((List.map E36 r2.2).length + [V.agg [V.sc (.string h_.Id), vI h_.Amount, vI h_.Due]].length) * 32 ≤ 140737488355328,Blk.row 36 ((List.map E36 r2.2) ++ [V.agg [V.sc (.string h_.Id), vI h_.Amount, vI h_.Due]]) [] = Blk.row 36 (List.map E36 (r2.2 ++ [h_])) [],Fn Try.prog 64 [(false, E23 (r2.2 ++ [h_]))] (E4 r4) [],(false || ((E4 r4).nv && nvL [])) = true,(!r4) = true]) (by kernel_rfl) (cj (spec_HoldsOk_ok l r1 h1) (cj rfl (cj (nf h2) (cj (len_nm _ _) (cj (spec_HoldPut_l0_ok l h_ h14 l [] rfl false [] r2 h15) (cj (nt h16) (cj rfl (cj rfl (cj (cap1 (capN (by simp) h19)) (cj (cap2 (capN (by simp) h19) (by decide)) (cj (nb_app E36 r2.2 [h_]) (cj (spec_HoldsOk_ok (r2.2 ++ [h_]) r4 h20) (cj (by simp [V.nv, nvL, nvL_all, nv_E4]) (cj1 (nt h21))))))))))))))))))) (fun h19 =>
   Pn.none)))) (fun h14 =>
   Pn.none)) (fun h2 =>
   Pn.some (Fn.of [.call [] (E4 r1) [], .bit true] (p := [Fn Try.prog 64 [(false, E23 l)] (E4 r1) [],(true || ((E4 r1).nv && nvL [])) = true,(!r1) = true]) (by kernel_rfl) (cj (spec_HoldsOk_ok l r1 h1) (cj rfl (cj1 (nt h2)))))))
def spec_l07Draw_l0  : Nat → (List Int) → Int → Int → Int → (List Hold) → Option ((List Int) × Int × Int × (List Hold))
  | 0, _, _, _, _, _ => none
  | fuel + 1, v1, v2, v3, v4, v5 =>
   if (decide (0 < v4)) = true then
   (spec_l07Hold (l01Cur.mk v1 v2 v3)).bind fun r2 =>
   (spec_HoldPut v5 r2.1).bind fun r3 =>
   if r3.2 = true then
   spec_l07Draw_l0 fuel r2.2.b r2.2.i r2.2.h (i64 (v4 - 1)) r3.1
   else
   spec_l07Draw_l0 fuel r2.2.b r2.2.i r2.2.h (i64 (v4 - 1)) v5
   else
   some (v1, v2, v3, v5)
theorem spec_l07Draw_l0_ok  : ∀ (fuel : Nat) (v1 : List Int) (v2 : Int) (v3 : Int) (v4 : Int) (v5 : List Hold), Pn (LpO Try.prog (sub (codeOf Try.prog 52) [1, 1, 0, 1, 0, 0]) (st 24 [(0, V.ptr 0 0), (3, V.ow 1), (4, vI v4)] [Blk.box 52 [V.sl false 5 (List.map E5 v1), vI v2, vI v3], Blk.row 36 (List.map E36 v5) []] [some 0]) (fun (y : (List Int) × Int × Int × (List Hold)) => (X.out 0, st 24 [(3, V.ow 1)] [Blk.box 52 [V.sl false 5 (List.map E5 y.1), vI y.2.1, vI y.2.2.1], Blk.row 36 (List.map E36 y.2.2.2) []] [some 0]))) (spec_l07Draw_l0 fuel v1 v2 v3 v4 v5)
  | 0, _, _, _, _, _ => Pn.none
  | fuel + 1, v1, v2, v3, v4, v5 => by
    unfold spec_l07Draw_l0
    exact
     Pn.ite (fun h2 =>
     Pn.bind (fun r2 h3 =>
     Pn.bind (fun r3 h4 =>
     Pn.ite (fun h5 =>
     LpO.go [.bit true, .call [true] (E36 r2.1) [V.bx 52 [V.sl false 5 (List.map E5 r2.2.b), vI r2.2.i, vI r2.2.h]], .call [] (V.tup [E23 r3.1, E4 r3.2]) [], .bit true, .wait 5, .mask [0, 3, 4], .ren [0, 2]] (p := [(decide (0 < v4)) = true,Fn Try.prog 85 [(true, V.bx 52 [V.sl false 5 (List.map E5 ((l01Cur.mk v1 v2 v3).b)), vI ((l01Cur.mk v1 v2 v3).i), vI ((l01Cur.mk v1 v2 v3).h)])] (E36 r2.1) [V.bx 52 [V.sl false 5 (List.map E5 r2.2.b), vI r2.2.i, vI r2.2.h]],(true || ((E36 r2.1).nv && nvL [V.bx 52 [V.sl false 5 (List.map E5 r2.2.b), vI r2.2.i, vI r2.2.h]])) = true,Fn Try.prog 84 [(false, E23 v5), (false, E36 r2.1)] (V.tup [E23 r3.1, E4 r3.2]) [],(false || ((V.tup [E23 r3.1, E4 r3.2]).nv && nvL [])) = true,r3.2 = true]) (by kernel_rfl) (cj h2 (cj (spec_l07Hold_ok (l01Cur.mk v1 v2 v3) r2 h3) (cj rfl (cj (spec_HoldPut_ok v5 r2.1 r3 h4) (cj (by simp [V.nv, nvL, nvL_all, nv_E3, nv_E4, nv_E9, nv_E23, nv_E36]) (cj1 h5)))))) (spec_l07Draw_l0_ok fuel r2.2.b r2.2.i r2.2.h (i64 (v4 - 1)) r3.1)) (fun h5 =>
     LpO.go [.bit true, .call [true] (E36 r2.1) [V.bx 52 [V.sl false 5 (List.map E5 r2.2.b), vI r2.2.i, vI r2.2.h]], .call [] (V.tup [E23 r3.1, E4 r3.2]) [], .bit false, .wait 3, .mask [0, 3, 4], .ren [0, 1]] (p := [(decide (0 < v4)) = true,Fn Try.prog 85 [(true, V.bx 52 [V.sl false 5 (List.map E5 ((l01Cur.mk v1 v2 v3).b)), vI ((l01Cur.mk v1 v2 v3).i), vI ((l01Cur.mk v1 v2 v3).h)])] (E36 r2.1) [V.bx 52 [V.sl false 5 (List.map E5 r2.2.b), vI r2.2.i, vI r2.2.h]],(true || ((E36 r2.1).nv && nvL [V.bx 52 [V.sl false 5 (List.map E5 r2.2.b), vI r2.2.i, vI r2.2.h]])) = true,Fn Try.prog 84 [(false, E23 v5), (false, E36 r2.1)] (V.tup [E23 r3.1, E4 r3.2]) [],(false || ((V.tup [E23 r3.1, E4 r3.2]).nv && nvL [])) = true,r3.2 = false]) (by kernel_rfl) (cj h2 (cj (spec_l07Hold_ok (l01Cur.mk v1 v2 v3) r2 h3) (cj rfl (cj (spec_HoldPut_ok v5 r2.1 r3 h4) (cj (by simp [V.nv, nvL, nvL_all, nv_E3, nv_E4, nv_E9, nv_E23, nv_E36]) (cj1 h5)))))) (spec_l07Draw_l0_ok fuel r2.2.b r2.2.i r2.2.h (i64 (v4 - 1)) v5))))) (fun h2 =>
     Pn.some (LpO.out [.bit false, .mask [3], .ren [0, 1]] (p := [(decide (0 < v4)) = false]) (by kernel_rfl) (show X.out 0 ≠ X.go from nofun) (cj1 h2)))
def spec_l07Draw (c : l01Cur) : Option ((List Hold) × l01Cur) :=
 (spec_l01Below c 4).bind fun r1 =>
 (spec_l07Draw_l0 FUEL r1.2.b r1.2.i r1.2.h r1.1 []).bind fun r4 =>
 some (r4.2.2.2, (l01Cur.mk r4.1 r4.2.1 r4.2.2.1))
theorem spec_l07Draw_ok (c : l01Cur) : Pn (fun y => Fn Try.prog 52 [(true, V.bx 52 [V.sl false 5 (List.map E5 c.b), vI c.i, vI c.h])] (E23 y.1) [V.bx 52 [V.sl false 5 (List.map E5 y.2.b), vI y.2.i, vI y.2.h]]) (spec_l07Draw c) := by
  unfold spec_l07Draw
  exact
   Pn.bind (fun r1 h1 =>
   Pn.bind (fun r4 h6 =>
   Pn.some (Fn.of [.call [true, false] (E3 r1.1) [V.bx 52 [V.sl false 5 (List.map E5 r1.2.b), vI r1.2.i, vI r1.2.h]], .wait 2, .mask [0, 3, 4], .ren [0, 1], .loop (X.out 0) (st 24 [(3, V.ow 1)] [Blk.box 52 [V.sl false 5 (List.map E5 r4.1), vI r4.2.1, vI r4.2.2.1], Blk.row 36 (List.map E36 r4.2.2.2) []] [some 0])] (p := [Fn Try.prog 22 [(true, V.bx 52 [V.sl false 5 (List.map E5 c.b), vI c.i, vI c.h]), (false, E3 4)] (E3 r1.1) [V.bx 52 [V.sl false 5 (List.map E5 r1.2.b), vI r1.2.i, vI r1.2.h]],(true || ((E3 r1.1).nv && nvL [V.bx 52 [V.sl false 5 (List.map E5 r1.2.b), vI r1.2.i, vI r1.2.h]])) = true,Loop Try.prog (sub (codeOf Try.prog 52) [1, 1, 0, 1, 0, 0]) (st 24 [(0, V.ptr 0 0), (3, V.ow 1), (4, vI r1.1)] [Blk.box 52 [V.sl false 5 (List.map E5 r1.2.b), vI r1.2.i, vI r1.2.h], Blk.row 36 ([] : List V) []] [some 0]) (X.out 0) (st 24 [(3, V.ow 1)] [Blk.box 52 [V.sl false 5 (List.map E5 r4.1), vI r4.2.1, vI r4.2.2.1], Blk.row 36 (List.map E36 r4.2.2.2) []] [some 0])]) (by kernel_rfl) (cj (spec_l01Below_ok c 4 r1 h1) (cj rfl (cj1 (spec_l07Draw_l0_ok FUEL r1.2.b r1.2.i r1.2.h r1.1 [] r4 h6)))))))
def spec_l01Once (c : l01Cur) (n : Int) : Option (Bool × l01Cur) :=
 (spec_l01Below c n).bind fun r1 =>
 some ((r1.1 == 0), r1.2)
theorem spec_l01Once_ok (c : l01Cur) (n : Int) : Pn (fun y => Fn Try.prog 55 [(true, V.bx 52 [V.sl false 5 (List.map E5 c.b), vI c.i, vI c.h]), (false, E3 n)] (E4 y.1) [V.bx 52 [V.sl false 5 (List.map E5 y.2.b), vI y.2.i, vI y.2.h]]) (spec_l01Once c n) := by
  unfold spec_l01Once
  exact
   Pn.bind (fun r1 h1 =>
   Pn.some (Fn.of [.call [true, false] (E3 r1.1) [V.bx 52 [V.sl false 5 (List.map E5 r1.2.b), vI r1.2.i, vI r1.2.h]]] (p := [Fn Try.prog 22 [(true, V.bx 52 [V.sl false 5 (List.map E5 c.b), vI c.i, vI c.h]), (false, E3 n)] (E3 r1.1) [V.bx 52 [V.sl false 5 (List.map E5 r1.2.b), vI r1.2.i, vI r1.2.h]],(true || ((E3 r1.1).nv && nvL [V.bx 52 [V.sl false 5 (List.map E5 r1.2.b), vI r1.2.i, vI r1.2.h]])) = true]) (by kernel_rfl) (cj (spec_l01Below_ok c n r1 h1) (cj1 rfl))))
def spec_l01Bytes_l0  : Nat → (List Int) → Int → Int → Int → (List Int) → Option ((List Int) × Int × Int × (List Int))
  | 0, _, _, _, _, _ => none
  | fuel + 1, v1, v2, v3, v4, v5 =>
   if (decide (0 < v4)) = true then
   (spec_l01Byte (l01Cur.mk v1 v2 v3)).bind fun r2 =>
   if (capOk (v5.length + 1)) = true then
   spec_l01Bytes_l0 fuel r2.2.b r2.2.i r2.2.h (i64 (v4 - 1)) (v5 ++ [u8 r2.1])
   else none
   else
   some (v1, v2, v3, v5)
theorem spec_l01Bytes_l0_ok  : ∀ (fuel : Nat) (v1 : List Int) (v2 : Int) (v3 : Int) (v4 : Int) (v5 : List Int), Pn (LpO Try.prog (sub (codeOf Try.prog 104) [1, 1, 0, 1, 0, 0]) (st 23 [(0, V.ptr 0 0), (5, V.ow 1), (6, vI v4)] [Blk.box 52 [V.sl false 5 (List.map E5 v1), vI v2, vI v3], Blk.row 5 (List.map E5 v5) []] [some 0]) (fun (y : (List Int) × Int × Int × (List Int)) => (X.out 0, st 23 [(5, V.ow 1)] [Blk.box 52 [V.sl false 5 (List.map E5 y.1), vI y.2.1, vI y.2.2.1], Blk.row 5 (List.map E5 y.2.2.2) []] [some 0]))) (spec_l01Bytes_l0 fuel v1 v2 v3 v4 v5)
  | 0, _, _, _, _, _ => Pn.none
  | fuel + 1, v1, v2, v3, v4, v5 => by
    unfold spec_l01Bytes_l0
    exact
     Pn.ite (fun h2 =>
     Pn.bind (fun r2 h3 =>
     Pn.ite (fun h4 =>
     LpO.go [.bit true, .call [true] (E3 r2.1) [V.bx 52 [V.sl false 5 (List.map E5 r2.2.b), vI r2.2.i, vI r2.2.h]], .cp [V.sc (.int .u8 (u8 r2.1))], .nb 3 (.row 5 (List.map E5 (v5 ++ [u8 r2.1])) []), .wait 5, .mask [0, 5, 6], .ren [0, 3]] (p := [(decide (0 < v4)) = true,Fn Try.prog 58 [(true, V.bx 52 [V.sl false 5 (List.map E5 ((l01Cur.mk v1 v2 v3).b)), vI ((l01Cur.mk v1 v2 v3).i), vI ((l01Cur.mk v1 v2 v3).h)])] (E3 r2.1) [V.bx 52 [V.sl false 5 (List.map E5 r2.2.b), vI r2.2.i, vI r2.2.h]],(true || ((E3 r2.1).nv && nvL [V.bx 52 [V.sl false 5 (List.map E5 r2.2.b), vI r2.2.i, vI r2.2.h]])) = true,[V.sc (.int .u8 (u8 r2.1))] = [V.sc (.int .u8 (u8 r2.1))],[V.sc (.int .u8 (u8 r2.1))].all V.flatE = true,(List.map E5 v5).length + [V.sc (.int .u8 (u8 r2.1))].length ≤ 9223372036854775807,((List.map E5 v5).length + [V.sc (.int .u8 (u8 r2.1))].length) * 1 ≤ 140737488355328,Blk.row 5 ((List.map E5 v5) ++ [V.sc (.int .u8 (u8 r2.1))]) [] = Blk.row 5 (List.map E5 (v5 ++ [u8 r2.1])) []]) (by kernel_rfl) (cj h2 (cj (spec_l01Byte_ok (l01Cur.mk v1 v2 v3) r2 h3) (cj rfl (cj rfl (cj rfl (cj (cap1 (capN (by simp) h4)) (cj (cap2 (capN (by simp) h4) (by decide)) (cj1 (nb_app E5 v5 [u8 r2.1]))))))))) (spec_l01Bytes_l0_ok fuel r2.2.b r2.2.i r2.2.h (i64 (v4 - 1)) (v5 ++ [u8 r2.1]))) (fun h4 =>
     Pn.none))) (fun h2 =>
     Pn.some (LpO.out [.bit false, .mask [5], .ren [0, 1]] (p := [(decide (0 < v4)) = false]) (by kernel_rfl) (show X.out 0 ≠ X.go from nofun) (cj1 h2)))
def spec_l01Bytes (c : l01Cur) (most : Int) : Option ((List Int) × l01Cur) :=
 (spec_l01Below c (i64 (most + 1))).bind fun r1 =>
 (spec_l01Bytes_l0 FUEL r1.2.b r1.2.i r1.2.h r1.1 []).bind fun r3 =>
 some (r3.2.2.2, (l01Cur.mk r3.1 r3.2.1 r3.2.2.1))
theorem spec_l01Bytes_ok (c : l01Cur) (most : Int) : Pn (fun y => Fn Try.prog 104 [(true, V.bx 52 [V.sl false 5 (List.map E5 c.b), vI c.i, vI c.h]), (false, E3 most)] (E22 y.1) [V.bx 52 [V.sl false 5 (List.map E5 y.2.b), vI y.2.i, vI y.2.h]]) (spec_l01Bytes c most) := by
  unfold spec_l01Bytes
  exact
   Pn.bind (fun r1 h1 =>
   Pn.bind (fun r3 h5 =>
   Pn.some (Fn.of [.call [true, false] (E3 r1.1) [V.bx 52 [V.sl false 5 (List.map E5 r1.2.b), vI r1.2.i, vI r1.2.h]], .wait 2, .mask [0, 5, 6], .ren [0, 1], .loop (X.out 0) (st 23 [(5, V.ow 1)] [Blk.box 52 [V.sl false 5 (List.map E5 r3.1), vI r3.2.1, vI r3.2.2.1], Blk.row 5 (List.map E5 r3.2.2.2) []] [some 0])] (p := [Fn Try.prog 22 [(true, V.bx 52 [V.sl false 5 (List.map E5 c.b), vI c.i, vI c.h]), (false, E3 (i64 (most + 1)))] (E3 r1.1) [V.bx 52 [V.sl false 5 (List.map E5 r1.2.b), vI r1.2.i, vI r1.2.h]],(true || ((E3 r1.1).nv && nvL [V.bx 52 [V.sl false 5 (List.map E5 r1.2.b), vI r1.2.i, vI r1.2.h]])) = true,Loop Try.prog (sub (codeOf Try.prog 104) [1, 1, 0, 1, 0, 0]) (st 23 [(0, V.ptr 0 0), (5, V.ow 1), (6, vI r1.1)] [Blk.box 52 [V.sl false 5 (List.map E5 r1.2.b), vI r1.2.i, vI r1.2.h], Blk.row 5 ([] : List V) []] [some 0]) (X.out 0) (st 23 [(5, V.ow 1)] [Blk.box 52 [V.sl false 5 (List.map E5 r3.1), vI r3.2.1, vI r3.2.2.1], Blk.row 5 (List.map E5 r3.2.2.2) []] [some 0])]) (by kernel_rfl) (cj (spec_l01Below_ok c (i64 (most + 1)) r1 h1) (cj rfl (cj1 (spec_l01Bytes_l0_ok FUEL r1.2.b r1.2.i r1.2.h r1.1 [] r3 h5)))))))
def spec_l08Slot (c : l01Cur) : Option (Slot × l01Cur) :=
 (spec_l01Str c [bs [48, 48, 48, 48, 48, 49], bs [48, 48, 48, 48, 48, 50], bs [48, 48, 48, 48, 48, 51], bs [49, 50, 51, 52, 53, 54]]).bind fun r1 =>
 (spec_l01Str r1.2.1 [bs [48, 49, 48, 48], bs [48, 50, 50, 48], bs [48, 50, 48, 48]]).bind fun r2 =>
 (spec_l01Bytes r2.2.1 3).bind fun r3 =>
 if (capOk (r3.1.length + 1)) = true then
 some ((Slot.mk r1.1 r2.1 (r3.1 ++ [1])), r3.2)
 else none
theorem spec_l08Slot_ok (c : l01Cur) : Pn (fun y => Fn Try.prog 89 [(true, V.bx 52 [V.sl false 5 (List.map E5 c.b), vI c.i, vI c.h])] (E94 y.1) [V.bx 52 [V.sl false 5 (List.map E5 y.2.b), vI y.2.i, vI y.2.h]]) (spec_l08Slot c) := by
  unfold spec_l08Slot
  exact
   Pn.bind (fun r1 h1 =>
   Pn.bind (fun r2 h2 =>
   Pn.bind (fun r3 h3 =>
   Pn.ite (fun h4 =>
   Pn.some (Fn.of [.call [true, true] (E9 r1.1) [V.bx 52 [V.sl false 5 (List.map E5 r1.2.1.b), vI r1.2.1.i, vI r1.2.1.h], V.sl true 9 (List.map E9 r1.2.2)], .call [true, true] (E9 r2.1) [V.bx 52 [V.sl false 5 (List.map E5 r2.2.1.b), vI r2.2.1.i, vI r2.2.1.h], V.sl true 9 (List.map E9 r2.2.2)], .call [true, false] (E22 r3.1) [V.bx 52 [V.sl false 5 (List.map E5 r3.2.b), vI r3.2.i, vI r3.2.h]], .cp [V.sc (.int .u8 1)], .nb 6 (.row 5 (List.map E5 (r3.1 ++ [1])) [])] (p := [Fn Try.prog 57 [(true, V.bx 52 [V.sl false 5 (List.map E5 c.b), vI c.i, vI c.h]), (true, E84 [bs [48, 48, 48, 48, 48, 49], bs [48, 48, 48, 48, 48, 50], bs [48, 48, 48, 48, 48, 51], bs [49, 50, 51, 52, 53, 54]])] (E9 r1.1) [V.bx 52 [V.sl false 5 (List.map E5 r1.2.1.b), vI r1.2.1.i, vI r1.2.1.h], V.sl true 9 (List.map E9 r1.2.2)],(true || ((E9 r1.1).nv && nvL [V.bx 52 [V.sl false 5 (List.map E5 r1.2.1.b), vI r1.2.1.i, vI r1.2.1.h], V.sl true 9 (List.map E9 r1.2.2)])) = true,Fn Try.prog 57 [(true, V.bx 52 [V.sl false 5 (List.map E5 r1.2.1.b), vI r1.2.1.i, vI r1.2.1.h]), (true, E84 [bs [48, 49, 48, 48], bs [48, 50, 50, 48], bs [48, 50, 48, 48]])] (E9 r2.1) [V.bx 52 [V.sl false 5 (List.map E5 r2.2.1.b), vI r2.2.1.i, vI r2.2.1.h], V.sl true 9 (List.map E9 r2.2.2)],(true || ((E9 r2.1).nv && nvL [V.bx 52 [V.sl false 5 (List.map E5 r2.2.1.b), vI r2.2.1.i, vI r2.2.1.h], V.sl true 9 (List.map E9 r2.2.2)])) = true,Fn Try.prog 104 [(true, V.bx 52 [V.sl false 5 (List.map E5 r2.2.1.b), vI r2.2.1.i, vI r2.2.1.h]), (false, E3 3)] (E22 r3.1) [V.bx 52 [V.sl false 5 (List.map E5 r3.2.b), vI r3.2.i, vI r3.2.h]],(true || ((E22 r3.1).nv && nvL [V.bx 52 [V.sl false 5 (List.map E5 r3.2.b), vI r3.2.i, vI r3.2.h]])) = true,[V.sc (.int .u8 1)] = [V.sc (.int .u8 1)],[V.sc (.int .u8 1)].all V.flatE = true,(List.map E5 r3.1).length + [V.sc (.int .u8 1)].length ≤ 9223372036854775807,((List.map E5 r3.1).length + [V.sc (.int .u8 1)].length) * 1 ≤ 140737488355328,Blk.row 5 ((List.map E5 r3.1) ++ [V.sc (.int .u8 1)]) [] = Blk.row 5 (List.map E5 (r3.1 ++ [1])) []]) (by kernel_rfl) (cj (spec_l01Str_ok c [bs [48, 48, 48, 48, 48, 49], bs [48, 48, 48, 48, 48, 50], bs [48, 48, 48, 48, 48, 51], bs [49, 50, 51, 52, 53, 54]] r1 h1) (cj rfl (cj (spec_l01Str_ok r1.2.1 [bs [48, 49, 48, 48], bs [48, 50, 50, 48], bs [48, 50, 48, 48]] r2 h2) (cj rfl (cj (spec_l01Bytes_ok r2.2.1 3 r3 h3) (cj rfl (cj rfl (cj rfl (cj (cap1 (capN (by simp) h4)) (cj (cap2 (capN (by simp) h4) (by decide)) (cj1 (nb_app E5 r3.1 [1])))))))))))))) (fun h4 =>
   Pn.none))))
def spec_l08Copy_l0 (l : List Slot) : List Slot → (List Slot) → Option ((List Slot))
  | [], v1 =>
   some v1
  | x1 :: t1, v1 =>
   if (capOk (0 + x1.Reply.length)) = true then
   if (capOk (v1.length + 1)) = true then
   spec_l08Copy_l0 l t1 (v1 ++ [x1])
   else none
   else none
theorem spec_l08Copy_l0_ok (l : List Slot) (h2 : capOk l.length = true) : ∀ (t1 p1 : List Slot) (_ : l = p1 ++ t1) (v1 : List Slot), Pn (LpO Try.prog (sub (codeOf Try.prog 60) [1, 1, 0, 1, 0, 0]) (st 24 [(3, V.ow 0), (7, V.sl false 94 (List.map E94 l)), (8, vI (l.length : Int)), (9, vI (p1.length : Int))] [Blk.row 94 (List.map E94 v1) []] []) (fun (y : (List Slot)) => (X.out 0, st 24 [(3, V.ow 0)] [Blk.row 94 (List.map E94 y) []] []))) (spec_l08Copy_l0 l t1 v1)
  | [], p1, h1, v1 => by
    unfold spec_l08Copy_l0
    exact
     Pn.some (LpO.out [.bit false, .mask [3], .ren [0]] (p := [(decide ((p1.length : Int) < (l.length : Int))) = false]) (by kernel_rfl) (show X.out 0 ≠ X.go from nofun) (cj1 (rng_end h1)))
  | x1 :: t1, p1, h1, v1 => by
    unfold spec_l08Copy_l0
    exact
     Pn.ite (fun h3 =>
     Pn.ite (fun h4 =>
     LpO.go [.bit true, .el (E94 x1), .cp (List.map E5 x1.Reply), .nb 3 (.row 5 (List.map E5 x1.Reply) []), .wait 5, .shut 4, .mv, .nb 5 (.row 94 (List.map E94 (v1 ++ [x1])) []), .wait 4, .mask [3, 7, 8, 9], .ren [5], .nm 9 (vI ((p1 ++ [x1]).length : Int))] (p := [(decide ((p1.length : Int) < (l.length : Int))) = true,(0 : Int) ≤ (p1.length : Int),(List.map E94 l)[(p1.length : Int).toNat]? = some (E94 x1),(List.map E5 x1.Reply).map V.vw = (List.map E5 x1.Reply),([] : List V).length + (List.map E5 x1.Reply).length ≤ 9223372036854775807,(([] : List V).length + (List.map E5 x1.Reply).length) * 1 ≤ 140737488355328,Blk.row 5 (([] : List V) ++ (List.map E5 x1.Reply)) [] = Blk.row 5 (List.map E5 x1.Reply) [],(List.map E94 v1).length + [V.agg [V.sc (.string x1.Trace), V.sc (.string x1.Mti), V.sl true 5 (List.map E5 x1.Reply)]].length ≤ 9223372036854775807,((List.map E94 v1).length + [V.agg [V.sc (.string x1.Trace), V.sc (.string x1.Mti), V.sl true 5 (List.map E5 x1.Reply)]].length) * 56 ≤ 140737488355328,Blk.row 94 ((List.map E94 v1) ++ [V.agg [V.sc (.string x1.Trace), V.sc (.string x1.Mti), V.sl true 5 (List.map E5 x1.Reply)]]) [] = Blk.row 94 (List.map E94 (v1 ++ [x1])) [],vI (i64 ((p1.length : Int) + 1)) = vI ((p1 ++ [x1]).length : Int)]) (by kernel_rfl) (cj (rng_lt h1) (cj (by omega) (cj (rng_get _ h1) (cj (vw_id (fun _ => rfl) _) (cj (cap1 (capN (by simp) h3)) (cj (cap2 (capN (by simp) h3) (by decide)) (cj rfl (cj (cap1 (capN (by simp) h4)) (cj (cap2 (capN (by simp) h4) (by decide)) (cj (nb_app E94 v1 [x1]) (cj1 (rng_next h1 h2)))))))))))) (spec_l08Copy_l0_ok l h2 t1 (p1 ++ [x1]) (rng_step h1) (v1 ++ [x1]))) (fun h4 =>
     Pn.none)) (fun h3 =>
     Pn.none)
def spec_l08Copy (l : List Slot) : Option ((List Slot)) :=
 if (capOk l.length) = true then
 (spec_l08Copy_l0 l l []).bind fun r1 =>
 some r1
 else none
theorem spec_l08Copy_ok (l : List Slot) : Pn (fun y => Fn Try.prog 60 [(false, E27 l)] (E27 y) []) (spec_l08Copy l) := by
  unfold spec_l08Copy
  exact
   Pn.ite (fun h5 =>
   Pn.bind (fun r1 h6 =>
   Pn.some (Fn.of [.wait 5, .nm 8 (vI (l.length : Int)), .wait 2, .mask [3, 7, 8, 9], .ren [0], .loop (X.out 0) (st 24 [(3, V.ow 0)] [Blk.row 94 (List.map E94 r1) []] [])] (p := [vI ((List.map E94 l).length : Int) = vI (l.length : Int),Loop Try.prog (sub (codeOf Try.prog 60) [1, 1, 0, 1, 0, 0]) (st 24 [(3, V.ow 0), (7, V.sl false 94 (List.map E94 l)), (8, vI (l.length : Int)), (9, vI 0)] [Blk.row 94 ([] : List V) []] []) (X.out 0) (st 24 [(3, V.ow 0)] [Blk.row 94 (List.map E94 r1) []] [])]) (by kernel_rfl) (cj (len_nm _ _) (cj1 (spec_l08Copy_l0_ok l h5 l [] rfl [] r1 h6)))))) (fun h5 =>
   Pn.none)
def spec_SlotPut_s1 (l : List Slot) (s_ : Slot) (r2 : (List Slot)) (r1 : (List Slot)) : St := st 17 [(0, V.sl false 94 (List.map E94 l)), (1, V.agg [V.sc (.string s_.Trace), V.sc (.string s_.Mti), V.sl false 5 (List.map E5 s_.Reply)]), (3, V.ptr 0 0), (4, V.nl 94), (5, V.sc (.bool false)), (6, V.ow 1), (7, V.sl false 94 (List.map E94 l)), (9, V.agg [V.sc (.string s_.Trace), V.sc (.string s_.Mti), V.sl false 5 (List.map E5 s_.Reply)]), (11, V.ow 2), (12, V.ow 1)] [Blk.box 94 [V.sc (.string s_.Trace), V.sc (.string s_.Mti), V.sl false 5 (List.map E5 s_.Reply)], Blk.row 94 (List.map E94 r2) [], Blk.row 94 ((List.map E94 r1) ++ [V.agg [V.sc (.string s_.Trace), V.sc (.string s_.Mti), V.sl false 5 (List.map E5 s_.Reply)]]) []] []
def spec_SlotPut (l : List Slot) (s_ : Slot) : Option ((List Slot) × Bool) :=
 (spec_l08Copy l).bind fun r1 =>
 if (capOk (r1.length + 1)) = true then
 (spec_l08Copy (r1 ++ [s_])).bind fun r2 =>
 (spec_SlotsOk r2).bind fun r3 =>
 if r3 = true then
 some (r2, true)
 else
 some ([], false)
 else none
theorem spec_SlotPut_ok (l : List Slot) (s_ : Slot) : Pn (fun y => Fn Try.prog 88 [(false, E27 l), (false, E94 s_)] (V.tup [E27 y.1, E4 y.2]) []) (spec_SlotPut l s_) := by
  unfold spec_SlotPut
  exact
   Pn.bind (fun r1 h1 =>
   Pn.ite (fun h2 =>
   Pn.bind (fun r2 h3 =>
   Pn.bind (fun r3 h4 =>
   Pn.ite (fun h5 =>
   Pn.some (Fn.of [.draw [4], .loop .go ((spec_SlotPut_s1 l s_ r2 r1)), .call [] (E27 r1) [], .mv, .call [] (E27 r2) [], .wait 1, .ren [0, 4, 3], .call [] (E27 r1) [], .mv, .call [] (E27 r2) [], .wait 1, .ren [0, 4, 3], .call [] (E4 r3) [], .bit false] (p := [Fn Try.prog 60 [(false, E27 l)] (E27 r1) [],(true || ((E27 r1).nv && nvL [])) = true,(List.map E94 r1).length + [V.agg [V.sc (.string s_.Trace), V.sc (.string s_.Mti), V.sl false 5 (List.map E5 s_.Reply)]].length ≤ 9223372036854775807,((List.map E94 r1).length + [V.agg [V.sc (.string s_.Trace), V.sc (.string s_.Mti), V.sl false 5 (List.map E5 s_.Reply)]].length) * 56 ≤ 140737488355328,Fn Try.prog 60 [(false, V.sl true 94 ((List.map E94 r1) ++ [V.agg [V.sc (.string s_.Trace), V.sc (.string s_.Mti), V.sl false 5 (List.map E5 s_.Reply)]]))] (E27 r2) [],(false || ((E27 r2).nv && nvL [])) = true,(spec_SlotPut_s1 l s_ r2 r1) = (spec_SlotPut_s1 l s_ r2 r1),Fn Try.prog 60 [(false, E27 l)] (E27 r1) [],(true || ((E27 r1).nv && nvL [])) = true,(List.map E94 r1).length + [V.agg [V.sc (.string s_.Trace), V.sc (.string s_.Mti), V.sl false 5 (List.map E5 s_.Reply)]].length ≤ 9223372036854775807,((List.map E94 r1).length + [V.agg [V.sc (.string s_.Trace), V.sc (.string s_.Mti), V.sl false 5 (List.map E5 s_.Reply)]].length) * 56 ≤ 140737488355328,Fn Try.prog 60 [(false, V.sl true 94 ((List.map E94 r1) ++ [V.agg [V.sc (.string s_.Trace), V.sc (.string s_.Mti), V.sl false 5 (List.map E5 s_.Reply)]]))] (E27 r2) [],(false || ((E27 r2).nv && nvL [])) = true,(spec_SlotPut_s1 l s_ r2 r1) = (spec_SlotPut_s1 l s_ r2 r1),Fn Try.prog 66 [(false, E27 r2)] (E4 r3) [],(false || ((E4 r3).nv && nvL [])) = true,(!r3) = false]) (by kernel_rfl) (cj (spec_l08Copy_ok l r1 h1) (cj rfl (cj (cap1 (capN (by simp) h2)) (cj (cap2 (capN (by simp) h2) (by decide)) (cj (Fn.flag 0 (congrArg (fun z => [(false, V.sl true 94 z)]) (flag_app E94 (fun _ => rfl) r1 rfl)) (spec_l08Copy_ok (r1 ++ [s_]) r2 h3)) (cj (by simp [V.nv, nvL, nvL_all, nv_E5, nv_E9, nv_E22, nv_E27, nv_E94]) (cj rfl (cj (spec_l08Copy_ok l r1 h1) (cj rfl (cj (cap1 (capN (by simp) h2)) (cj (cap2 (capN (by simp) h2) (by decide)) (cj (Fn.flag 0 (congrArg (fun z => [(false, V.sl true 94 z)]) (flag_app E94 (fun _ => rfl) r1 rfl)) (spec_l08Copy_ok (r1 ++ [s_]) r2 h3)) (cj (by simp [V.nv, nvL, nvL_all, nv_E5, nv_E9, nv_E22, nv_E27, nv_E94]) (cj rfl (cj (spec_SlotsOk_ok r2 r3 h4) (cj (by simp [V.nv, nvL, nvL_all, nv_E4]) (cj1 (nf h5)))))))))))))))))))) (fun h5 =>
   Pn.some (Fn.of [.draw [4], .loop .go ((spec_SlotPut_s1 l s_ r2 r1)), .call [] (E27 r1) [], .mv, .call [] (E27 r2) [], .wait 1, .ren [0, 4, 3], .call [] (E27 r1) [], .mv, .call [] (E27 r2) [], .wait 1, .ren [0, 4, 3], .call [] (E4 r3) [], .bit true] (p := [Fn Try.prog 60 [(false, E27 l)] (E27 r1) [],(true || ((E27 r1).nv && nvL [])) = true,(List.map E94 r1).length + [V.agg [V.sc (.string s_.Trace), V.sc (.string s_.Mti), V.sl false 5 (List.map E5 s_.Reply)]].length ≤ 9223372036854775807,((List.map E94 r1).length + [V.agg [V.sc (.string s_.Trace), V.sc (.string s_.Mti), V.sl false 5 (List.map E5 s_.Reply)]].length) * 56 ≤ 140737488355328,Fn Try.prog 60 [(false, V.sl true 94 ((List.map E94 r1) ++ [V.agg [V.sc (.string s_.Trace), V.sc (.string s_.Mti), V.sl false 5 (List.map E5 s_.Reply)]]))] (E27 r2) [],(false || ((E27 r2).nv && nvL [])) = true,(spec_SlotPut_s1 l s_ r2 r1) = (spec_SlotPut_s1 l s_ r2 r1),Fn Try.prog 60 [(false, E27 l)] (E27 r1) [],(true || ((E27 r1).nv && nvL [])) = true,(List.map E94 r1).length + [V.agg [V.sc (.string s_.Trace), V.sc (.string s_.Mti), V.sl false 5 (List.map E5 s_.Reply)]].length ≤ 9223372036854775807,((List.map E94 r1).length + [V.agg [V.sc (.string s_.Trace), V.sc (.string s_.Mti), V.sl false 5 (List.map E5 s_.Reply)]].length) * 56 ≤ 140737488355328,Fn Try.prog 60 [(false, V.sl true 94 ((List.map E94 r1) ++ [V.agg [V.sc (.string s_.Trace), V.sc (.string s_.Mti), V.sl false 5 (List.map E5 s_.Reply)]]))] (E27 r2) [],(false || ((E27 r2).nv && nvL [])) = true,(spec_SlotPut_s1 l s_ r2 r1) = (spec_SlotPut_s1 l s_ r2 r1),Fn Try.prog 66 [(false, E27 r2)] (E4 r3) [],(false || ((E4 r3).nv && nvL [])) = true,(!r3) = true]) (by kernel_rfl) (cj (spec_l08Copy_ok l r1 h1) (cj rfl (cj (cap1 (capN (by simp) h2)) (cj (cap2 (capN (by simp) h2) (by decide)) (cj (Fn.flag 0 (congrArg (fun z => [(false, V.sl true 94 z)]) (flag_app E94 (fun _ => rfl) r1 rfl)) (spec_l08Copy_ok (r1 ++ [s_]) r2 h3)) (cj (by simp [V.nv, nvL, nvL_all, nv_E5, nv_E9, nv_E22, nv_E27, nv_E94]) (cj rfl (cj (spec_l08Copy_ok l r1 h1) (cj rfl (cj (cap1 (capN (by simp) h2)) (cj (cap2 (capN (by simp) h2) (by decide)) (cj (Fn.flag 0 (congrArg (fun z => [(false, V.sl true 94 z)]) (flag_app E94 (fun _ => rfl) r1 rfl)) (spec_l08Copy_ok (r1 ++ [s_]) r2 h3)) (cj (by simp [V.nv, nvL, nvL_all, nv_E5, nv_E9, nv_E22, nv_E27, nv_E94]) (cj rfl (cj (spec_SlotsOk_ok r2 r3 h4) (cj (by simp [V.nv, nvL, nvL_all, nv_E4]) (cj1 (nt h5))))))))))))))))))))))) (fun h2 =>
   Pn.none))
def spec_l08Draw_l0  : Nat → (List Int) → Int → Int → Int → (List Slot) → Option ((List Int) × Int × Int × (List Slot))
  | 0, _, _, _, _, _ => none
  | fuel + 1, v1, v2, v3, v4, v5 =>
   if (decide (0 < v4)) = true then
   (spec_l08Slot (l01Cur.mk v1 v2 v3)).bind fun r2 =>
   (spec_SlotPut v5 r2.1).bind fun r3 =>
   if r3.2 = true then
   spec_l08Draw_l0 fuel r2.2.b r2.2.i r2.2.h (i64 (v4 - 1)) r3.1
   else
   spec_l08Draw_l0 fuel r2.2.b r2.2.i r2.2.h (i64 (v4 - 1)) v5
   else
   some (v1, v2, v3, v5)
theorem spec_l08Draw_l0_ok  : ∀ (fuel : Nat) (v1 : List Int) (v2 : Int) (v3 : Int) (v4 : Int) (v5 : List Slot), Pn (LpO Try.prog (sub (codeOf Try.prog 56) [1, 1, 0, 1, 0, 0]) (st 24 [(0, V.ptr 0 0), (3, V.ow 1), (4, vI v4)] [Blk.box 52 [V.sl false 5 (List.map E5 v1), vI v2, vI v3], Blk.row 94 (List.map E94 v5) []] [some 0]) (fun (y : (List Int) × Int × Int × (List Slot)) => (X.out 0, st 24 [(3, V.ow 1)] [Blk.box 52 [V.sl false 5 (List.map E5 y.1), vI y.2.1, vI y.2.2.1], Blk.row 94 (List.map E94 y.2.2.2) []] [some 0]))) (spec_l08Draw_l0 fuel v1 v2 v3 v4 v5)
  | 0, _, _, _, _, _ => Pn.none
  | fuel + 1, v1, v2, v3, v4, v5 => by
    unfold spec_l08Draw_l0
    exact
     Pn.ite (fun h2 =>
     Pn.bind (fun r2 h3 =>
     Pn.bind (fun r3 h4 =>
     Pn.ite (fun h5 =>
     LpO.go [.bit true, .call [true] (E94 r2.1) [V.bx 52 [V.sl false 5 (List.map E5 r2.2.b), vI r2.2.i, vI r2.2.h]], .call [] (V.tup [E27 r3.1, E4 r3.2]) [], .bit true, .wait 5, .mask [0, 3, 4], .ren [0, 3]] (p := [(decide (0 < v4)) = true,Fn Try.prog 89 [(true, V.bx 52 [V.sl false 5 (List.map E5 ((l01Cur.mk v1 v2 v3).b)), vI ((l01Cur.mk v1 v2 v3).i), vI ((l01Cur.mk v1 v2 v3).h)])] (E94 r2.1) [V.bx 52 [V.sl false 5 (List.map E5 r2.2.b), vI r2.2.i, vI r2.2.h]],(true || ((E94 r2.1).nv && nvL [V.bx 52 [V.sl false 5 (List.map E5 r2.2.b), vI r2.2.i, vI r2.2.h]])) = true,Fn Try.prog 88 [(false, E27 v5), (false, E94 r2.1)] (V.tup [E27 r3.1, E4 r3.2]) [],(false || ((V.tup [E27 r3.1, E4 r3.2]).nv && nvL [])) = true,r3.2 = true]) (by kernel_rfl) (cj h2 (cj (spec_l08Slot_ok (l01Cur.mk v1 v2 v3) r2 h3) (cj rfl (cj (spec_SlotPut_ok v5 r2.1 r3 h4) (cj (by simp [V.nv, nvL, nvL_all, nv_E4, nv_E5, nv_E9, nv_E22, nv_E27, nv_E94]) (cj1 h5)))))) (spec_l08Draw_l0_ok fuel r2.2.b r2.2.i r2.2.h (i64 (v4 - 1)) r3.1)) (fun h5 =>
     LpO.go [.bit true, .call [true] (E94 r2.1) [V.bx 52 [V.sl false 5 (List.map E5 r2.2.b), vI r2.2.i, vI r2.2.h]], .call [] (V.tup [E27 r3.1, E4 r3.2]) [], .bit false, .wait 3, .mask [0, 3, 4], .ren [0, 1]] (p := [(decide (0 < v4)) = true,Fn Try.prog 89 [(true, V.bx 52 [V.sl false 5 (List.map E5 ((l01Cur.mk v1 v2 v3).b)), vI ((l01Cur.mk v1 v2 v3).i), vI ((l01Cur.mk v1 v2 v3).h)])] (E94 r2.1) [V.bx 52 [V.sl false 5 (List.map E5 r2.2.b), vI r2.2.i, vI r2.2.h]],(true || ((E94 r2.1).nv && nvL [V.bx 52 [V.sl false 5 (List.map E5 r2.2.b), vI r2.2.i, vI r2.2.h]])) = true,Fn Try.prog 88 [(false, E27 v5), (false, E94 r2.1)] (V.tup [E27 r3.1, E4 r3.2]) [],(false || ((V.tup [E27 r3.1, E4 r3.2]).nv && nvL [])) = true,r3.2 = false]) (by kernel_rfl) (cj h2 (cj (spec_l08Slot_ok (l01Cur.mk v1 v2 v3) r2 h3) (cj rfl (cj (spec_SlotPut_ok v5 r2.1 r3 h4) (cj (by simp [V.nv, nvL, nvL_all, nv_E4, nv_E5, nv_E9, nv_E22, nv_E27, nv_E94]) (cj1 h5)))))) (spec_l08Draw_l0_ok fuel r2.2.b r2.2.i r2.2.h (i64 (v4 - 1)) v5))))) (fun h2 =>
     Pn.some (LpO.out [.bit false, .mask [3], .ren [0, 1]] (p := [(decide (0 < v4)) = false]) (by kernel_rfl) (show X.out 0 ≠ X.go from nofun) (cj1 h2)))
def spec_l08Draw (c : l01Cur) : Option ((List Slot) × l01Cur) :=
 (spec_l01Below c 5).bind fun r1 =>
 (spec_l08Draw_l0 FUEL r1.2.b r1.2.i r1.2.h r1.1 []).bind fun r4 =>
 some (r4.2.2.2, (l01Cur.mk r4.1 r4.2.1 r4.2.2.1))
theorem spec_l08Draw_ok (c : l01Cur) : Pn (fun y => Fn Try.prog 56 [(true, V.bx 52 [V.sl false 5 (List.map E5 c.b), vI c.i, vI c.h])] (E27 y.1) [V.bx 52 [V.sl false 5 (List.map E5 y.2.b), vI y.2.i, vI y.2.h]]) (spec_l08Draw c) := by
  unfold spec_l08Draw
  exact
   Pn.bind (fun r1 h1 =>
   Pn.bind (fun r4 h6 =>
   Pn.some (Fn.of [.call [true, false] (E3 r1.1) [V.bx 52 [V.sl false 5 (List.map E5 r1.2.b), vI r1.2.i, vI r1.2.h]], .wait 2, .mask [0, 3, 4], .ren [0, 1], .loop (X.out 0) (st 24 [(3, V.ow 1)] [Blk.box 52 [V.sl false 5 (List.map E5 r4.1), vI r4.2.1, vI r4.2.2.1], Blk.row 94 (List.map E94 r4.2.2.2) []] [some 0])] (p := [Fn Try.prog 22 [(true, V.bx 52 [V.sl false 5 (List.map E5 c.b), vI c.i, vI c.h]), (false, E3 5)] (E3 r1.1) [V.bx 52 [V.sl false 5 (List.map E5 r1.2.b), vI r1.2.i, vI r1.2.h]],(true || ((E3 r1.1).nv && nvL [V.bx 52 [V.sl false 5 (List.map E5 r1.2.b), vI r1.2.i, vI r1.2.h]])) = true,Loop Try.prog (sub (codeOf Try.prog 56) [1, 1, 0, 1, 0, 0]) (st 24 [(0, V.ptr 0 0), (3, V.ow 1), (4, vI r1.1)] [Blk.box 52 [V.sl false 5 (List.map E5 r1.2.b), vI r1.2.i, vI r1.2.h], Blk.row 94 ([] : List V) []] [some 0]) (X.out 0) (st 24 [(3, V.ow 1)] [Blk.box 52 [V.sl false 5 (List.map E5 r4.1), vI r4.2.1, vI r4.2.2.1], Blk.row 94 (List.map E94 r4.2.2.2) []] [some 0])]) (by kernel_rfl) (cj (spec_l01Below_ok c 5 r1 h1) (cj rfl (cj1 (spec_l08Draw_l0_ok FUEL r1.2.b r1.2.i r1.2.h r1.1 [] r4 h6)))))))
end Go.Proofs.YtlkkfamdlicaeaaM
