/- Printed by gen.py: functions on plain data, and that the program computes them. No condition. -/
import Derived.Test.YtbophjkjmlenpaaDoorX2
import Derived.Test.YtbophjkjmlenpaaDoorProg
namespace Go.Proofs.YtbophjkjmlenpaaDoorM
set_option linter.unusedVariables false
set_option linter.unusedSimpArgs false
open Go.RowKit
set_option maxRecDepth 100000

structure Field where
  No : Int
  Text : ByteArray
structure Msg where
  Mti : ByteArray
  List : List Field
structure l01Cur where
  b : List Int
  i : Int
  h : Int
structure fieldRow where
  no : Int
  kind : Int
  size : Int
def E5 (x : Int) : V := V.sc (.int .u8 x)
def E22 (x : List Int) : V := V.sl true 5 (List.map E5 x)
def E4 (x : Bool) : V := V.sc (.bool x)
def E9 (x : ByteArray) : V := V.sc (.string x)
def E3 (x : Int) : V := V.sc (.int .i64 x)
def E48 (x : Field) : V := V.agg [V.sc (.int .i64 x.No), V.sc (.string x.Text)]
def E23 (x : List Field) : V := V.sl true 48 (List.map E48 x)
def E25 (x : Msg) : V := V.agg [V.sc (.string x.Mti), V.sl true 48 (List.map E48 x.List)]
def E43 (x : l01Cur) : V := V.agg [V.sl true 5 (List.map E5 x.b), V.sc (.int .i64 x.i), V.sc (.int .i64 x.h)]
def E59 (x : List ByteArray) : V := V.sl true 9 (List.map E9 x)
def E35 (x : List Int) : V := V.sl true 3 (List.map E3 x)
def E78 (x : fieldRow) : V := V.agg [V.sc (.int .i64 x.no), V.sc (.int .i64 x.kind), V.sc (.int .i64 x.size)]
def E97 (x : List fieldRow) : V := V.sl true 78 (List.map E78 x)
theorem nv_E5 (x : Int) : (E5 x).nv = true := by
  simp [E5, V.nv, nvL, nvL_all]
theorem nv_E22 (x : List Int) : (E22 x).nv = true := by
  simp [E22, V.nv, nvL, nvL_all, nv_E5]
theorem nv_E4 (x : Bool) : (E4 x).nv = true := by
  simp [E4, V.nv, nvL, nvL_all]
theorem nv_E9 (x : ByteArray) : (E9 x).nv = true := by
  simp [E9, V.nv, nvL, nvL_all]
theorem nv_E3 (x : Int) : (E3 x).nv = true := by
  simp [E3, V.nv, nvL, nvL_all]
theorem nv_E48 (x : Field) : (E48 x).nv = true := by
  simp [E48, V.nv, nvL, nvL_all]
theorem nv_E23 (x : List Field) : (E23 x).nv = true := by
  simp [E23, V.nv, nvL, nvL_all, nv_E48]
theorem nv_E25 (x : Msg) : (E25 x).nv = true := by
  simp [E25, V.nv, nvL, nvL_all, nv_E48]
theorem nv_E43 (x : l01Cur) : (E43 x).nv = true := by
  simp [E43, V.nv, nvL, nvL_all, nv_E5]
theorem nv_E59 (x : List ByteArray) : (E59 x).nv = true := by
  simp [E59, V.nv, nvL, nvL_all, nv_E9]
theorem nv_E35 (x : List Int) : (E35 x).nv = true := by
  simp [E35, V.nv, nvL, nvL_all, nv_E3]
theorem nv_E78 (x : fieldRow) : (E78 x).nv = true := by
  simp [E78, V.nv, nvL, nvL_all]
theorem nv_E97 (x : List fieldRow) : (E97 x).nv = true := by
  simp [E97, V.nv, nvL, nvL_all, nv_E78]
def spec_l01New_l0 (code : List Int) : List Int → List Int → Int → Option (Int)
  | [], p1, v1 =>
   some v1
  | x1 :: t1, p1, v1 =>
   if (decide ((p1.length : Int) < 4000)) = true then
   spec_l01New_l0 code t1 (p1 ++ [x1]) (band .i64 (i64 ((i64 ((i64 (v1 * 31)) + (i64 x1))) + 7)) 1073741823)
   else
   some v1
theorem spec_l01New_l0_ok (code : List Int) (h2 : capOk code.length = true) : ∀ (t1 p1 : List Int) (_ : code = p1 ++ t1) (v1 : Int), Pn (LpO Tryd.prog (sub (codeOf Tryd.prog 11) [1, 1, 0, 1, 0, 0]) (st 32 [(0, V.sl false 5 (List.map E5 code)), (3, V.sc (.int .i64 v1)), (4, V.sc (.int .i64 (p1.length : Int)))] [] []) (fun (y : Int) => (X.out 0, st 32 [(0, V.sl false 5 (List.map E5 code)), (3, V.sc (.int .i64 y))] [] []))) (spec_l01New_l0 code t1 p1 v1)
  | [], p1, h1, v1 => by
    unfold spec_l01New_l0
    exact
     Pn.some (LpO.out [.wait 3, .nm 10 (V.sc (.int .i64 (code.length : Int))), .bit false, .bit false, .bit false, .bit false, .mask [0, 3], .ren []] (p := [V.sc (.int .i64 ((List.map E5 code).length : Int)) = V.sc (.int .i64 (code.length : Int)),
      (decide ((p1.length : Int) < (code.length : Int))) = false,
      (decide ((p1.length : Int) < (code.length : Int))) = false,
      (decide ((p1.length : Int) < (code.length : Int))) = false,
      false = false]) (by kernel_rfl) (show X.out 0 ≠ X.go from nofun) (cj (len_nm _ _) (cj (rng_end h1) (cj (rng_end h1) (cj (rng_end h1) (cj1 rfl))))))
  | x1 :: t1, p1, h1, v1 => by
    unfold spec_l01New_l0
    exact
     Pn.ite (fun h3 =>
     LpO.go [.wait 3, .nm 10 (V.sc (.int .i64 (code.length : Int))), .bit true, .bit true, .bit true, .bit true, .el (E5 x1), .wait 10, .mask [0, 3, 4], .ren [], .nm 4 (V.sc (.int .i64 ((p1 ++ [x1]).length : Int)))] (p := [V.sc (.int .i64 ((List.map E5 code).length : Int)) = V.sc (.int .i64 (code.length : Int)),
      (decide ((p1.length : Int) < (code.length : Int))) = true,
      (decide ((p1.length : Int) < (code.length : Int))) = true,
      (decide ((p1.length : Int) < (code.length : Int))) = true,
      (decide ((p1.length : Int) < 4000)) = true,
      (0 : Int) ≤ (p1.length : Int),
      (List.map E5 code)[(p1.length : Int).toNat]? = some (E5 x1),
      V.sc (.int .i64 (i64 ((p1.length : Int) + 1))) = V.sc (.int .i64 ((p1 ++ [x1]).length : Int))]) (by kernel_rfl) (cj (len_nm _ _) (cj (rng_lt h1) (cj (rng_lt h1) (cj (rng_lt h1) (cj h3 (cj (by omega) (cj (rng_get _ h1) (cj1 (rng_next h1 h2))))))))) (spec_l01New_l0_ok code h2 t1 (p1 ++ [x1]) (rng_step h1) (band .i64 (i64 ((i64 ((i64 (v1 * 31)) + (i64 x1))) + 7)) 1073741823))) (fun h3 =>
     Pn.some (LpO.out [.wait 3, .nm 10 (V.sc (.int .i64 (code.length : Int))), .bit true, .bit true, .bit true, .bit false, .mask [0, 3], .ren []] (p := [V.sc (.int .i64 ((List.map E5 code).length : Int)) = V.sc (.int .i64 (code.length : Int)),
      (decide ((p1.length : Int) < (code.length : Int))) = true,
      (decide ((p1.length : Int) < (code.length : Int))) = true,
      (decide ((p1.length : Int) < (code.length : Int))) = true,
      (decide ((p1.length : Int) < 4000)) = false]) (by kernel_rfl) (show X.out 0 ≠ X.go from nofun) (cj (len_nm _ _) (cj (rng_lt h1) (cj (rng_lt h1) (cj (rng_lt h1) (cj1 h3)))))))
def spec_l01New (code : List Int) : Option (l01Cur) :=
 if (capOk code.length) = true then
 (spec_l01New_l0 code code [] (i64 (1539 + (code.length : Int)))).bind fun r1 =>
 some (l01Cur.mk code 0 r1)
 else none
theorem spec_l01New_ok (code : List Int) : Pn (fun y => Fn Tryd.prog 11 [(false, E22 code)] (V.bx 43 [V.sl false 5 (List.map E5 y.b), V.sc (.int .i64 y.i), V.sc (.int .i64 y.h)]) []) (spec_l01New code) := by
  unfold spec_l01New
  exact
   Pn.ite (fun h4 =>
   Pn.bind (fun r1 h5 =>
   Pn.some (Fn.of [.wait 3, .nm 6 (V.sc (.int .i64 (code.length : Int))), .wait 4, .mask [0, 3, 4], .ren [], .loop (X.out 0) (st 32 [(0, V.sl false 5 (List.map E5 code)), (3, V.sc (.int .i64 r1))] [] [])] (p := [V.sc (.int .i64 ((List.map E5 code).length : Int)) = V.sc (.int .i64 (code.length : Int)),
    Loop Tryd.prog (sub (codeOf Tryd.prog 11) [1, 1, 0, 1, 0, 0]) (st 32 [(0, V.sl false 5 (List.map E5 code)), (3, V.sc (.int .i64 (i64 (1539 + (code.length : Int))))), (4, V.sc (.int .i64 0))] [] []) (X.out 0) (st 32 [(0, V.sl false 5 (List.map E5 code)), (3, V.sc (.int .i64 r1))] [] [])]) (by kernel_rfl) (cj (len_nm _ _) (cj1 (spec_l01New_l0_ok code h4 code [] rfl (i64 (1539 + (code.length : Int))) r1 h5)))))) (fun h4 =>
   Pn.none)
def spec_l01Byte (c : l01Cur) : Option (Int × l01Cur) :=
 if (decide (c.i < (c.b.length : Int))) = true then
 if (decide (0 ≤ c.i)) = true then
 (c.b[c.i.toNat]?).bind fun x1 =>
 some (band .i64 (i64 ((band .i64 (bxor .i64 (bshr .i64 (i64 ((i64 (c.h * 6364136223846793005)) + 1442695040888963407)) 33) (bshr .i64 (i64 ((i64 (c.h * 6364136223846793005)) + 1442695040888963407)) 45)) 255) + (i64 x1))) 255, (l01Cur.mk c.b (i64 (c.i + 1)) (i64 ((i64 (c.h * 6364136223846793005)) + 1442695040888963407))))
 else none
 else
 some (band .i64 (bxor .i64 (bshr .i64 (i64 ((i64 (c.h * 6364136223846793005)) + 1442695040888963407)) 33) (bshr .i64 (i64 ((i64 (c.h * 6364136223846793005)) + 1442695040888963407)) 45)) 255, (l01Cur.mk c.b c.i (i64 ((i64 (c.h * 6364136223846793005)) + 1442695040888963407))))
theorem spec_l01Byte_ok (c : l01Cur) : Pn (fun y => Fn Tryd.prog 29 [(true, V.bx 43 [V.sl false 5 (List.map E5 c.b), V.sc (.int .i64 c.i), V.sc (.int .i64 c.h)])] (E3 y.1) [V.bx 43 [V.sl false 5 (List.map E5 y.2.b), V.sc (.int .i64 y.2.i), V.sc (.int .i64 y.2.h)]]) (spec_l01Byte c) := by
  unfold spec_l01Byte
  exact
   Pn.ite (fun h1 =>
   Pn.ite (fun h2 =>
   Pn.bind (fun x1 h3 =>
   Pn.some (Fn.of [.draw [], .draw [], .wait 8, .nm 33 (V.sc (.int .i64 (c.b.length : Int))), .bit true, .draw [], .el (E5 x1)] (p := [¬ (33 : Int) < 0,
    ¬ (45 : Int) < 0,
    V.sc (.int .i64 ((List.map E5 c.b).length : Int)) = V.sc (.int .i64 (c.b.length : Int)),
    (decide (c.i < (c.b.length : Int))) = true,
    (0 : Int) ≤ c.i,
    (List.map E5 c.b)[c.i.toNat]? = some (E5 x1)]) (by kernel_rfl) (cj (by decide) (cj (by decide) (cj (len_nm _ _) (cj h1 (cj (od h2) (cj1 (map_get h3)))))))))) (fun h2 =>
   Pn.none)) (fun h1 =>
   Pn.some (Fn.of [.draw [], .draw [], .wait 8, .nm 33 (V.sc (.int .i64 (c.b.length : Int))), .bit false] (p := [¬ (33 : Int) < 0,
    ¬ (45 : Int) < 0,
    V.sc (.int .i64 ((List.map E5 c.b).length : Int)) = V.sc (.int .i64 (c.b.length : Int)),
    (decide (c.i < (c.b.length : Int))) = false]) (by kernel_rfl) (cj (by decide) (cj (by decide) (cj (len_nm _ _) (cj1 h1))))))
def spec_l01Below (c : l01Cur) (n : Int) : Option (Int × l01Cur) :=
 if (decide (n ≤ 0)) = true then
 some (0, c)
 else
 if (decide (n ≤ 256)) = true then
 (spec_l01Byte c).bind fun r1 =>
 if (decide (n ≠ 0)) = true then
 some (Int.tmod r1.1 n, r1.2)
 else none
 else
 (spec_l01Byte c).bind fun r2 =>
 (spec_l01Byte r2.2).bind fun r3 =>
 (spec_l01Byte r3.2).bind fun r4 =>
 (spec_l01Byte r4.2).bind fun r5 =>
 if (decide (n ≠ 0)) = true then
 some (Int.tmod (i64 ((i64 ((i64 ((i64 (r2.1 * 16777216)) + (i64 (r3.1 * 65536)))) + (i64 (r4.1 * 256)))) + r5.1)) n, r5.2)
 else none
theorem spec_l01Below_ok (c : l01Cur) (n : Int) : Pn (fun y => Fn Tryd.prog 13 [(true, V.bx 43 [V.sl false 5 (List.map E5 c.b), V.sc (.int .i64 c.i), V.sc (.int .i64 c.h)]), (false, E3 n)] (E3 y.1) [V.bx 43 [V.sl false 5 (List.map E5 y.2.b), V.sc (.int .i64 y.2.i), V.sc (.int .i64 y.2.h)]]) (spec_l01Below c n) := by
  unfold spec_l01Below
  exact
   Pn.ite (fun h1 =>
   Pn.some (Fn.of [.bit true] (p := [(decide (n ≤ 0)) = true]) (by kernel_rfl) (cj1 h1))) (fun h1 =>
   Pn.ite (fun h2 =>
   Pn.bind (fun r1 h3 =>
   Pn.ite (fun h4 =>
   Pn.some (Fn.of [.bit false, .bit true, .call [true] (E3 r1.1) [V.bx 43 [V.sl false 5 (List.map E5 r1.2.b), V.sc (.int .i64 r1.2.i), V.sc (.int .i64 r1.2.h)]]] (p := [(decide (n ≤ 0)) = false,
    (decide (n ≤ 256)) = true,
    Fn Tryd.prog 29 [(true, V.bx 43 [V.sl false 5 (List.map E5 c.b), V.sc (.int .i64 c.i), V.sc (.int .i64 c.h)])] (E3 r1.1) [V.bx 43 [V.sl false 5 (List.map E5 r1.2.b), V.sc (.int .i64 r1.2.i), V.sc (.int .i64 r1.2.h)]],
    (true || ((E3 r1.1).nv && nvL [V.bx 43 [V.sl false 5 (List.map E5 r1.2.b), V.sc (.int .i64 r1.2.i), V.sc (.int .i64 r1.2.h)]])) = true,
    (n : Int) ≠ 0]) (by kernel_rfl) (cj h1 (cj h2 (cj (spec_l01Byte_ok c r1 h3) (cj rfl (cj1 (od h4)))))))) (fun h4 =>
   Pn.none))) (fun h2 =>
   Pn.bind (fun r2 h5 =>
   Pn.bind (fun r3 h6 =>
   Pn.bind (fun r4 h7 =>
   Pn.bind (fun r5 h8 =>
   Pn.ite (fun h9 =>
   Pn.some (Fn.of [.bit false, .bit false, .call [true] (E3 r2.1) [V.bx 43 [V.sl false 5 (List.map E5 r2.2.b), V.sc (.int .i64 r2.2.i), V.sc (.int .i64 r2.2.h)]], .call [true] (E3 r3.1) [V.bx 43 [V.sl false 5 (List.map E5 r3.2.b), V.sc (.int .i64 r3.2.i), V.sc (.int .i64 r3.2.h)]], .call [true] (E3 r4.1) [V.bx 43 [V.sl false 5 (List.map E5 r4.2.b), V.sc (.int .i64 r4.2.i), V.sc (.int .i64 r4.2.h)]], .call [true] (E3 r5.1) [V.bx 43 [V.sl false 5 (List.map E5 r5.2.b), V.sc (.int .i64 r5.2.i), V.sc (.int .i64 r5.2.h)]]] (p := [(decide (n ≤ 0)) = false,
    (decide (n ≤ 256)) = false,
    Fn Tryd.prog 29 [(true, V.bx 43 [V.sl false 5 (List.map E5 c.b), V.sc (.int .i64 c.i), V.sc (.int .i64 c.h)])] (E3 r2.1) [V.bx 43 [V.sl false 5 (List.map E5 r2.2.b), V.sc (.int .i64 r2.2.i), V.sc (.int .i64 r2.2.h)]],
    (true || ((E3 r2.1).nv && nvL [V.bx 43 [V.sl false 5 (List.map E5 r2.2.b), V.sc (.int .i64 r2.2.i), V.sc (.int .i64 r2.2.h)]])) = true,
    Fn Tryd.prog 29 [(true, V.bx 43 [V.sl false 5 (List.map E5 r2.2.b), V.sc (.int .i64 r2.2.i), V.sc (.int .i64 r2.2.h)])] (E3 r3.1) [V.bx 43 [V.sl false 5 (List.map E5 r3.2.b), V.sc (.int .i64 r3.2.i), V.sc (.int .i64 r3.2.h)]],
    (true || ((E3 r3.1).nv && nvL [V.bx 43 [V.sl false 5 (List.map E5 r3.2.b), V.sc (.int .i64 r3.2.i), V.sc (.int .i64 r3.2.h)]])) = true,
    Fn Tryd.prog 29 [(true, V.bx 43 [V.sl false 5 (List.map E5 r3.2.b), V.sc (.int .i64 r3.2.i), V.sc (.int .i64 r3.2.h)])] (E3 r4.1) [V.bx 43 [V.sl false 5 (List.map E5 r4.2.b), V.sc (.int .i64 r4.2.i), V.sc (.int .i64 r4.2.h)]],
    (true || ((E3 r4.1).nv && nvL [V.bx 43 [V.sl false 5 (List.map E5 r4.2.b), V.sc (.int .i64 r4.2.i), V.sc (.int .i64 r4.2.h)]])) = true,
    Fn Tryd.prog 29 [(true, V.bx 43 [V.sl false 5 (List.map E5 r4.2.b), V.sc (.int .i64 r4.2.i), V.sc (.int .i64 r4.2.h)])] (E3 r5.1) [V.bx 43 [V.sl false 5 (List.map E5 r5.2.b), V.sc (.int .i64 r5.2.i), V.sc (.int .i64 r5.2.h)]],
    (true || ((E3 r5.1).nv && nvL [V.bx 43 [V.sl false 5 (List.map E5 r5.2.b), V.sc (.int .i64 r5.2.i), V.sc (.int .i64 r5.2.h)]])) = true,
    (n : Int) ≠ 0]) (by kernel_rfl) (cj h1 (cj h2 (cj (spec_l01Byte_ok c r2 h5) (cj rfl (cj (spec_l01Byte_ok r2.2 r3 h6) (cj rfl (cj (spec_l01Byte_ok r3.2 r4 h7) (cj rfl (cj (spec_l01Byte_ok r4.2 r5 h8) (cj rfl (cj1 (od h9)))))))))))))) (fun h9 =>
   Pn.none)))))))
def spec_l01Str (c : l01Cur) (l : List ByteArray) : Option (ByteArray × l01Cur × (List ByteArray)) :=
 (spec_l01Below c (l.length : Int)).bind fun r1 =>
 if (decide (0 ≤ r1.1)) = true then
 (l[r1.1.toNat]?).bind fun x1 =>
 some (x1, r1.2, l)
 else none
theorem spec_l01Str_ok (c : l01Cur) (l : List ByteArray) : Pn (fun y => Fn Tryd.prog 25 [(true, V.bx 43 [V.sl false 5 (List.map E5 c.b), V.sc (.int .i64 c.i), V.sc (.int .i64 c.h)]), (true, E59 l)] (E9 y.1) [V.bx 43 [V.sl false 5 (List.map E5 y.2.1.b), V.sc (.int .i64 y.2.1.i), V.sc (.int .i64 y.2.1.h)], V.sl true 9 (List.map E9 y.2.2)]) (spec_l01Str c l) := by
  unfold spec_l01Str
  exact
   Pn.bind (fun r1 h1 =>
   Pn.ite (fun h2 =>
   Pn.bind (fun x1 h3 =>
   Pn.some (Fn.of [.wait 5, .nm 8 (V.sc (.int .i64 (l.length : Int))), .call [true, false] (E3 r1.1) [V.bx 43 [V.sl false 5 (List.map E5 r1.2.b), V.sc (.int .i64 r1.2.i), V.sc (.int .i64 r1.2.h)]], .el (E9 x1)] (p := [V.sc (.int .i64 ((List.map E9 l).length : Int)) = V.sc (.int .i64 (l.length : Int)),
    Fn Tryd.prog 13 [(true, V.bx 43 [V.sl false 5 (List.map E5 c.b), V.sc (.int .i64 c.i), V.sc (.int .i64 c.h)]), (false, E3 (l.length : Int))] (E3 r1.1) [V.bx 43 [V.sl false 5 (List.map E5 r1.2.b), V.sc (.int .i64 r1.2.i), V.sc (.int .i64 r1.2.h)]],
    (true || ((E3 r1.1).nv && nvL [V.bx 43 [V.sl false 5 (List.map E5 r1.2.b), V.sc (.int .i64 r1.2.i), V.sc (.int .i64 r1.2.h)]])) = true,
    (0 : Int) ≤ r1.1,
    (r1.1 : Int) < ((List.map E9 l).length : Int),
    look [] r1.1.toNat = none,
    (List.map E9 l)[r1.1.toNat]? = some (E9 x1)]) (by kernel_rfl) (cj (len_nm _ _) (cj (spec_l01Below_ok c (l.length : Int) r1 h1) (cj rfl (cj (od h2) (cj (map_ltN (od h2) h3) (cj rfl (cj1 (map_get h3))))))))))) (fun h2 =>
   Pn.none))
def spec_FieldKind (no : Int) : Option (Int) :=
 if (no == 3) = true then
 some 1
 else
 if (no == 4) = true then
 some 1
 else
 if (no == 7) = true then
 some 1
 else
 if (no == 11) = true then
 some 1
 else
 if (no == 14) = true then
 some 1
 else
 if (no == 49) = true then
 some 1
 else
 if (no == 37) = true then
 some 2
 else
 if (no == 38) = true then
 some 2
 else
 if (no == 39) = true then
 some 2
 else
 if (no == 41) = true then
 some 2
 else
 if (no == 95) = true then
 some 2
 else
 if (no == 2) = true then
 some 3
 else
 if (no == 102) = true then
 some 4
 else
 if (no == 103) = true then
 some 4
 else
 if (no == 48) = true then
 some 5
 else
 if (no == 54) = true then
 some 5
 else
 some 0
theorem spec_FieldKind_ok (no : Int) : Pn (fun y => Fn Tryd.prog 44 [(false, E3 no)] (E3 y) []) (spec_FieldKind no) := by
  unfold spec_FieldKind
  exact
   Pn.ite (fun h1 =>
   Pn.some (Fn.of [.bit true, .bit true] (p := [(no == 3) = true,
    (no == 3) = true]) (by kernel_rfl) (cj h1 (cj1 h1)))) (fun h1 =>
   Pn.ite (fun h2 =>
   Pn.some (Fn.of [.bit false, .bit true, .bit true] (p := [(no == 3) = false,
    (no == 4) = true,
    (no == 4) = true]) (by kernel_rfl) (cj h1 (cj h2 (cj1 h2))))) (fun h2 =>
   Pn.ite (fun h3 =>
   Pn.some (Fn.of [.bit false, .bit false, .bit true, .bit true] (p := [(no == 3) = false,
    (no == 4) = false,
    (no == 7) = true,
    (no == 7) = true]) (by kernel_rfl) (cj h1 (cj h2 (cj h3 (cj1 h3)))))) (fun h3 =>
   Pn.ite (fun h4 =>
   Pn.some (Fn.of [.bit false, .bit false, .bit false, .bit true, .bit true] (p := [(no == 3) = false,
    (no == 4) = false,
    (no == 7) = false,
    (no == 11) = true,
    (no == 11) = true]) (by kernel_rfl) (cj h1 (cj h2 (cj h3 (cj h4 (cj1 h4))))))) (fun h4 =>
   Pn.ite (fun h5 =>
   Pn.some (Fn.of [.bit false, .bit false, .bit false, .bit false, .bit true, .bit true] (p := [(no == 3) = false,
    (no == 4) = false,
    (no == 7) = false,
    (no == 11) = false,
    (no == 14) = true,
    (no == 14) = true]) (by kernel_rfl) (cj h1 (cj h2 (cj h3 (cj h4 (cj h5 (cj1 h5)))))))) (fun h5 =>
   Pn.ite (fun h6 =>
   Pn.some (Fn.of [.bit false, .bit false, .bit false, .bit false, .bit false, .bit true] (p := [(no == 3) = false,
    (no == 4) = false,
    (no == 7) = false,
    (no == 11) = false,
    (no == 14) = false,
    (no == 49) = true]) (by kernel_rfl) (cj h1 (cj h2 (cj h3 (cj h4 (cj h5 (cj1 h6)))))))) (fun h6 =>
   Pn.ite (fun h7 =>
   Pn.some (Fn.of [.bit false, .bit false, .bit false, .bit false, .bit false, .bit false, .bit true, .bit true] (p := [(no == 3) = false,
    (no == 4) = false,
    (no == 7) = false,
    (no == 11) = false,
    (no == 14) = false,
    (no == 49) = false,
    (no == 37) = true,
    (no == 37) = true]) (by kernel_rfl) (cj h1 (cj h2 (cj h3 (cj h4 (cj h5 (cj h6 (cj h7 (cj1 h7)))))))))) (fun h7 =>
   Pn.ite (fun h8 =>
   Pn.some (Fn.of [.bit false, .bit false, .bit false, .bit false, .bit false, .bit false, .bit false, .bit true, .bit true] (p := [(no == 3) = false,
    (no == 4) = false,
    (no == 7) = false,
    (no == 11) = false,
    (no == 14) = false,
    (no == 49) = false,
    (no == 37) = false,
    (no == 38) = true,
    (no == 38) = true]) (by kernel_rfl) (cj h1 (cj h2 (cj h3 (cj h4 (cj h5 (cj h6 (cj h7 (cj h8 (cj1 h8))))))))))) (fun h8 =>
   Pn.ite (fun h9 =>
   Pn.some (Fn.of [.bit false, .bit false, .bit false, .bit false, .bit false, .bit false, .bit false, .bit false, .bit true, .bit true] (p := [(no == 3) = false,
    (no == 4) = false,
    (no == 7) = false,
    (no == 11) = false,
    (no == 14) = false,
    (no == 49) = false,
    (no == 37) = false,
    (no == 38) = false,
    (no == 39) = true,
    (no == 39) = true]) (by kernel_rfl) (cj h1 (cj h2 (cj h3 (cj h4 (cj h5 (cj h6 (cj h7 (cj h8 (cj h9 (cj1 h9)))))))))))) (fun h9 =>
   Pn.ite (fun h10 =>
   Pn.some (Fn.of [.bit false, .bit false, .bit false, .bit false, .bit false, .bit false, .bit false, .bit false, .bit false, .bit true, .bit true] (p := [(no == 3) = false,
    (no == 4) = false,
    (no == 7) = false,
    (no == 11) = false,
    (no == 14) = false,
    (no == 49) = false,
    (no == 37) = false,
    (no == 38) = false,
    (no == 39) = false,
    (no == 41) = true,
    (no == 41) = true]) (by kernel_rfl) (cj h1 (cj h2 (cj h3 (cj h4 (cj h5 (cj h6 (cj h7 (cj h8 (cj h9 (cj h10 (cj1 h10))))))))))))) (fun h10 =>
   Pn.ite (fun h11 =>
   Pn.some (Fn.of [.bit false, .bit false, .bit false, .bit false, .bit false, .bit false, .bit false, .bit false, .bit false, .bit false, .bit true] (p := [(no == 3) = false,
    (no == 4) = false,
    (no == 7) = false,
    (no == 11) = false,
    (no == 14) = false,
    (no == 49) = false,
    (no == 37) = false,
    (no == 38) = false,
    (no == 39) = false,
    (no == 41) = false,
    (no == 95) = true]) (by kernel_rfl) (cj h1 (cj h2 (cj h3 (cj h4 (cj h5 (cj h6 (cj h7 (cj h8 (cj h9 (cj h10 (cj1 h11))))))))))))) (fun h11 =>
   Pn.ite (fun h12 =>
   Pn.some (Fn.of [.bit false, .bit false, .bit false, .bit false, .bit false, .bit false, .bit false, .bit false, .bit false, .bit false, .bit false, .bit true] (p := [(no == 3) = false,
    (no == 4) = false,
    (no == 7) = false,
    (no == 11) = false,
    (no == 14) = false,
    (no == 49) = false,
    (no == 37) = false,
    (no == 38) = false,
    (no == 39) = false,
    (no == 41) = false,
    (no == 95) = false,
    (no == 2) = true]) (by kernel_rfl) (cj h1 (cj h2 (cj h3 (cj h4 (cj h5 (cj h6 (cj h7 (cj h8 (cj h9 (cj h10 (cj h11 (cj1 h12)))))))))))))) (fun h12 =>
   Pn.ite (fun h13 =>
   Pn.some (Fn.of [.bit false, .bit false, .bit false, .bit false, .bit false, .bit false, .bit false, .bit false, .bit false, .bit false, .bit false, .bit false, .bit true, .bit true] (p := [(no == 3) = false,
    (no == 4) = false,
    (no == 7) = false,
    (no == 11) = false,
    (no == 14) = false,
    (no == 49) = false,
    (no == 37) = false,
    (no == 38) = false,
    (no == 39) = false,
    (no == 41) = false,
    (no == 95) = false,
    (no == 2) = false,
    (no == 102) = true,
    (no == 102) = true]) (by kernel_rfl) (cj h1 (cj h2 (cj h3 (cj h4 (cj h5 (cj h6 (cj h7 (cj h8 (cj h9 (cj h10 (cj h11 (cj h12 (cj h13 (cj1 h13)))))))))))))))) (fun h13 =>
   Pn.ite (fun h14 =>
   Pn.some (Fn.of [.bit false, .bit false, .bit false, .bit false, .bit false, .bit false, .bit false, .bit false, .bit false, .bit false, .bit false, .bit false, .bit false, .bit true] (p := [(no == 3) = false,
    (no == 4) = false,
    (no == 7) = false,
    (no == 11) = false,
    (no == 14) = false,
    (no == 49) = false,
    (no == 37) = false,
    (no == 38) = false,
    (no == 39) = false,
    (no == 41) = false,
    (no == 95) = false,
    (no == 2) = false,
    (no == 102) = false,
    (no == 103) = true]) (by kernel_rfl) (cj h1 (cj h2 (cj h3 (cj h4 (cj h5 (cj h6 (cj h7 (cj h8 (cj h9 (cj h10 (cj h11 (cj h12 (cj h13 (cj1 h14)))))))))))))))) (fun h14 =>
   Pn.ite (fun h15 =>
   Pn.some (Fn.of [.bit false, .bit false, .bit false, .bit false, .bit false, .bit false, .bit false, .bit false, .bit false, .bit false, .bit false, .bit false, .bit false, .bit false, .bit true, .bit true] (p := [(no == 3) = false,
    (no == 4) = false,
    (no == 7) = false,
    (no == 11) = false,
    (no == 14) = false,
    (no == 49) = false,
    (no == 37) = false,
    (no == 38) = false,
    (no == 39) = false,
    (no == 41) = false,
    (no == 95) = false,
    (no == 2) = false,
    (no == 102) = false,
    (no == 103) = false,
    (no == 48) = true,
    (no == 48) = true]) (by kernel_rfl) (cj h1 (cj h2 (cj h3 (cj h4 (cj h5 (cj h6 (cj h7 (cj h8 (cj h9 (cj h10 (cj h11 (cj h12 (cj h13 (cj h14 (cj h15 (cj1 h15)))))))))))))))))) (fun h15 =>
   Pn.ite (fun h16 =>
   Pn.some (Fn.of [.bit false, .bit false, .bit false, .bit false, .bit false, .bit false, .bit false, .bit false, .bit false, .bit false, .bit false, .bit false, .bit false, .bit false, .bit false, .bit true] (p := [(no == 3) = false,
    (no == 4) = false,
    (no == 7) = false,
    (no == 11) = false,
    (no == 14) = false,
    (no == 49) = false,
    (no == 37) = false,
    (no == 38) = false,
    (no == 39) = false,
    (no == 41) = false,
    (no == 95) = false,
    (no == 2) = false,
    (no == 102) = false,
    (no == 103) = false,
    (no == 48) = false,
    (no == 54) = true]) (by kernel_rfl) (cj h1 (cj h2 (cj h3 (cj h4 (cj h5 (cj h6 (cj h7 (cj h8 (cj h9 (cj h10 (cj h11 (cj h12 (cj h13 (cj h14 (cj h15 (cj1 h16)))))))))))))))))) (fun h16 =>
   Pn.some (Fn.of [.bit false, .bit false, .bit false, .bit false, .bit false, .bit false, .bit false, .bit false, .bit false, .bit false, .bit false, .bit false, .bit false, .bit false, .bit false, .bit false] (p := [(no == 3) = false,
    (no == 4) = false,
    (no == 7) = false,
    (no == 11) = false,
    (no == 14) = false,
    (no == 49) = false,
    (no == 37) = false,
    (no == 38) = false,
    (no == 39) = false,
    (no == 41) = false,
    (no == 95) = false,
    (no == 2) = false,
    (no == 102) = false,
    (no == 103) = false,
    (no == 48) = false,
    (no == 54) = false]) (by kernel_rfl) (cj h1 (cj h2 (cj h3 (cj h4 (cj h5 (cj h6 (cj h7 (cj h8 (cj h9 (cj h10 (cj h11 (cj h12 (cj h13 (cj h14 (cj h15 (cj1 h16)))))))))))))))))))))))))))))))))
def spec_FieldNos_l0  : Nat → Int → (List Int) → Option ((List Int))
  | 0, _, _ => none
  | fuel + 1, v1, v2 =>
   if (decide (v1 ≤ 128)) = true then
   (spec_FieldKind v1).bind fun r1 =>
   if (r1 != 0) = true then
   if (capOk (v2.length + 1)) = true then
   spec_FieldNos_l0 fuel (i64 (v1 + 1)) (v2 ++ [v1])
   else none
   else
   spec_FieldNos_l0 fuel (i64 (v1 + 1)) v2
   else
   some v2
theorem spec_FieldNos_l0_ok  : ∀ (fuel : Nat) (v1 : Int) (v2 : List Int), Pn (LpO Tryd.prog (sub (codeOf Tryd.prog 26) [1, 1, 0, 1, 0, 0]) (st 16 [(1, V.ow 0), (2, V.sc (.int .i64 v1))] [Blk.row 3 (List.map E3 v2) []] []) (fun (y : (List Int)) => (X.out 0, st 16 [(1, V.ow 0)] [Blk.row 3 (List.map E3 y) []] []))) (spec_FieldNos_l0 fuel v1 v2)
  | 0, _, _ => Pn.none
  | fuel + 1, v1, v2 => by
    unfold spec_FieldNos_l0
    exact
     Pn.ite (fun h1 =>
     Pn.bind (fun r1 h2 =>
     Pn.ite (fun h3 =>
     Pn.ite (fun h4 =>
     LpO.go [.bit true, .call [] (E3 r1) [], .bit true, .cp [V.sc (.int .i64 v1)], .nb 2 (.row 3 (List.map E3 (v2 ++ [v1])) []), .wait 5, .mask [1, 2], .ren [2]] (p := [(decide (v1 ≤ 128)) = true,
      Fn Tryd.prog 44 [(false, E3 v1)] (E3 r1) [],
      (true || ((E3 r1).nv && nvL [])) = true,
      (r1 != 0) = true,
      [V.sc (.int .i64 v1)] = [V.sc (.int .i64 v1)],
      [V.sc (.int .i64 v1)].all V.flatE = true,
      (List.map E3 v2).length + [V.sc (.int .i64 v1)].length ≤ 9223372036854775807,
      ((List.map E3 v2).length + [V.sc (.int .i64 v1)].length) * 8 ≤ 140737488355328,
      Blk.row 3 ((List.map E3 v2) ++ [V.sc (.int .i64 v1)]) [] = Blk.row 3 (List.map E3 (v2 ++ [v1])) []]) (by kernel_rfl) (cj h1 (cj (spec_FieldKind_ok v1 r1 h2) (cj rfl (cj h3 (cj rfl (cj rfl (cj (cap1 (capN (by simp) h4)) (cj (cap2 (capN (by simp) h4) (by decide)) (cj1 (nb_app E3 v2 [v1])))))))))) (spec_FieldNos_l0_ok fuel (i64 (v1 + 1)) (v2 ++ [v1]))) (fun h4 =>
     Pn.none)) (fun h3 =>
     LpO.go [.bit true, .call [] (E3 r1) [], .bit false, .wait 3, .mask [1, 2], .ren [0]] (p := [(decide (v1 ≤ 128)) = true,
      Fn Tryd.prog 44 [(false, E3 v1)] (E3 r1) [],
      (true || ((E3 r1).nv && nvL [])) = true,
      (r1 != 0) = false]) (by kernel_rfl) (cj h1 (cj (spec_FieldKind_ok v1 r1 h2) (cj rfl (cj1 h3)))) (spec_FieldNos_l0_ok fuel (i64 (v1 + 1)) v2)))) (fun h1 =>
     Pn.some (LpO.out [.bit false, .mask [1], .ren [0]] (p := [(decide (v1 ≤ 128)) = false]) (by kernel_rfl) (show X.out 0 ≠ X.go from nofun) (cj1 h1)))
def spec_FieldNos  : Option ((List Int)) :=
 (spec_FieldNos_l0 FUEL 1 []).bind fun r2 =>
 some r2
theorem spec_FieldNos_ok  : Pn (fun y => Fn Tryd.prog 26 [] (E35 y) []) (spec_FieldNos) := by
  unfold spec_FieldNos
  exact
   Pn.bind (fun r2 h5 =>
   Pn.some (Fn.of [.wait 5, .mask [1, 2], .ren [0], .loop (X.out 0) (st 16 [(1, V.ow 0)] [Blk.row 3 (List.map E3 r2) []] [])] (p := [Loop Tryd.prog (sub (codeOf Tryd.prog 26) [1, 1, 0, 1, 0, 0]) (st 16 [(1, V.ow 0), (2, V.sc (.int .i64 1))] [Blk.row 3 ([] : List V) []] []) (X.out 0) (st 16 [(1, V.ow 0)] [Blk.row 3 (List.map E3 r2) []] [])]) (by kernel_rfl) (cj1 (spec_FieldNos_l0_ok FUEL 1 [] r2 h5))))
def spec_l01Once (c : l01Cur) (n : Int) : Option (Bool × l01Cur) :=
 (spec_l01Below c n).bind fun r1 =>
 some ((r1.1 == 0), r1.2)
theorem spec_l01Once_ok (c : l01Cur) (n : Int) : Pn (fun y => Fn Tryd.prog 27 [(true, V.bx 43 [V.sl false 5 (List.map E5 c.b), V.sc (.int .i64 c.i), V.sc (.int .i64 c.h)]), (false, E3 n)] (E4 y.1) [V.bx 43 [V.sl false 5 (List.map E5 y.2.b), V.sc (.int .i64 y.2.i), V.sc (.int .i64 y.2.h)]]) (spec_l01Once c n) := by
  unfold spec_l01Once
  exact
   Pn.bind (fun r1 h1 =>
   Pn.some (Fn.of [.call [true, false] (E3 r1.1) [V.bx 43 [V.sl false 5 (List.map E5 r1.2.b), V.sc (.int .i64 r1.2.i), V.sc (.int .i64 r1.2.h)]]] (p := [Fn Tryd.prog 13 [(true, V.bx 43 [V.sl false 5 (List.map E5 c.b), V.sc (.int .i64 c.i), V.sc (.int .i64 c.h)]), (false, E3 n)] (E3 r1.1) [V.bx 43 [V.sl false 5 (List.map E5 r1.2.b), V.sc (.int .i64 r1.2.i), V.sc (.int .i64 r1.2.h)]],
    (true || ((E3 r1.1).nv && nvL [V.bx 43 [V.sl false 5 (List.map E5 r1.2.b), V.sc (.int .i64 r1.2.i), V.sc (.int .i64 r1.2.h)]])) = true]) (by kernel_rfl) (cj (spec_l01Below_ok c n r1 h1) (cj1 rfl))))
def spec_FieldSize (no : Int) : Option (Int) :=
 if (no == 2) = true then
 some 19
 else
 if (no == 3) = true then
 some 6
 else
 if (no == 11) = true then
 some 6
 else
 if (no == 38) = true then
 some 6
 else
 if (no == 4) = true then
 some 12
 else
 if (no == 37) = true then
 some 12
 else
 if (no == 95) = true then
 some 12
 else
 if (no == 7) = true then
 some 10
 else
 if (no == 14) = true then
 some 4
 else
 if (no == 39) = true then
 some 2
 else
 if (no == 41) = true then
 some 8
 else
 if (no == 49) = true then
 some 3
 else
 if (no == 102) = true then
 some 20
 else
 if (no == 103) = true then
 some 20
 else
 if (no == 48) = true then
 some 60
 else
 if (no == 54) = true then
 some 60
 else
 some 0
theorem spec_FieldSize_ok (no : Int) : Pn (fun y => Fn Tryd.prog 45 [(false, E3 no)] (E3 y) []) (spec_FieldSize no) := by
  unfold spec_FieldSize
  exact
   Pn.ite (fun h1 =>
   Pn.some (Fn.of [.bit true] (p := [(no == 2) = true]) (by kernel_rfl) (cj1 h1))) (fun h1 =>
   Pn.ite (fun h2 =>
   Pn.some (Fn.of [.bit false, .bit true, .bit true] (p := [(no == 2) = false,
    (no == 3) = true,
    (no == 3) = true]) (by kernel_rfl) (cj h1 (cj h2 (cj1 h2))))) (fun h2 =>
   Pn.ite (fun h3 =>
   Pn.some (Fn.of [.bit false, .bit false, .bit true, .bit true] (p := [(no == 2) = false,
    (no == 3) = false,
    (no == 11) = true,
    (no == 11) = true]) (by kernel_rfl) (cj h1 (cj h2 (cj h3 (cj1 h3)))))) (fun h3 =>
   Pn.ite (fun h4 =>
   Pn.some (Fn.of [.bit false, .bit false, .bit false, .bit true] (p := [(no == 2) = false,
    (no == 3) = false,
    (no == 11) = false,
    (no == 38) = true]) (by kernel_rfl) (cj h1 (cj h2 (cj h3 (cj1 h4)))))) (fun h4 =>
   Pn.ite (fun h5 =>
   Pn.some (Fn.of [.bit false, .bit false, .bit false, .bit false, .bit true, .bit true] (p := [(no == 2) = false,
    (no == 3) = false,
    (no == 11) = false,
    (no == 38) = false,
    (no == 4) = true,
    (no == 4) = true]) (by kernel_rfl) (cj h1 (cj h2 (cj h3 (cj h4 (cj h5 (cj1 h5)))))))) (fun h5 =>
   Pn.ite (fun h6 =>
   Pn.some (Fn.of [.bit false, .bit false, .bit false, .bit false, .bit false, .bit true, .bit true] (p := [(no == 2) = false,
    (no == 3) = false,
    (no == 11) = false,
    (no == 38) = false,
    (no == 4) = false,
    (no == 37) = true,
    (no == 37) = true]) (by kernel_rfl) (cj h1 (cj h2 (cj h3 (cj h4 (cj h5 (cj h6 (cj1 h6))))))))) (fun h6 =>
   Pn.ite (fun h7 =>
   Pn.some (Fn.of [.bit false, .bit false, .bit false, .bit false, .bit false, .bit false, .bit true] (p := [(no == 2) = false,
    (no == 3) = false,
    (no == 11) = false,
    (no == 38) = false,
    (no == 4) = false,
    (no == 37) = false,
    (no == 95) = true]) (by kernel_rfl) (cj h1 (cj h2 (cj h3 (cj h4 (cj h5 (cj h6 (cj1 h7))))))))) (fun h7 =>
   Pn.ite (fun h8 =>
   Pn.some (Fn.of [.bit false, .bit false, .bit false, .bit false, .bit false, .bit false, .bit false, .bit true] (p := [(no == 2) = false,
    (no == 3) = false,
    (no == 11) = false,
    (no == 38) = false,
    (no == 4) = false,
    (no == 37) = false,
    (no == 95) = false,
    (no == 7) = true]) (by kernel_rfl) (cj h1 (cj h2 (cj h3 (cj h4 (cj h5 (cj h6 (cj h7 (cj1 h8)))))))))) (fun h8 =>
   Pn.ite (fun h9 =>
   Pn.some (Fn.of [.bit false, .bit false, .bit false, .bit false, .bit false, .bit false, .bit false, .bit false, .bit true] (p := [(no == 2) = false,
    (no == 3) = false,
    (no == 11) = false,
    (no == 38) = false,
    (no == 4) = false,
    (no == 37) = false,
    (no == 95) = false,
    (no == 7) = false,
    (no == 14) = true]) (by kernel_rfl) (cj h1 (cj h2 (cj h3 (cj h4 (cj h5 (cj h6 (cj h7 (cj h8 (cj1 h9))))))))))) (fun h9 =>
   Pn.ite (fun h10 =>
   Pn.some (Fn.of [.bit false, .bit false, .bit false, .bit false, .bit false, .bit false, .bit false, .bit false, .bit false, .bit true] (p := [(no == 2) = false,
    (no == 3) = false,
    (no == 11) = false,
    (no == 38) = false,
    (no == 4) = false,
    (no == 37) = false,
    (no == 95) = false,
    (no == 7) = false,
    (no == 14) = false,
    (no == 39) = true]) (by kernel_rfl) (cj h1 (cj h2 (cj h3 (cj h4 (cj h5 (cj h6 (cj h7 (cj h8 (cj h9 (cj1 h10)))))))))))) (fun h10 =>
   Pn.ite (fun h11 =>
   Pn.some (Fn.of [.bit false, .bit false, .bit false, .bit false, .bit false, .bit false, .bit false, .bit false, .bit false, .bit false, .bit true] (p := [(no == 2) = false,
    (no == 3) = false,
    (no == 11) = false,
    (no == 38) = false,
    (no == 4) = false,
    (no == 37) = false,
    (no == 95) = false,
    (no == 7) = false,
    (no == 14) = false,
    (no == 39) = false,
    (no == 41) = true]) (by kernel_rfl) (cj h1 (cj h2 (cj h3 (cj h4 (cj h5 (cj h6 (cj h7 (cj h8 (cj h9 (cj h10 (cj1 h11))))))))))))) (fun h11 =>
   Pn.ite (fun h12 =>
   Pn.some (Fn.of [.bit false, .bit false, .bit false, .bit false, .bit false, .bit false, .bit false, .bit false, .bit false, .bit false, .bit false, .bit true] (p := [(no == 2) = false,
    (no == 3) = false,
    (no == 11) = false,
    (no == 38) = false,
    (no == 4) = false,
    (no == 37) = false,
    (no == 95) = false,
    (no == 7) = false,
    (no == 14) = false,
    (no == 39) = false,
    (no == 41) = false,
    (no == 49) = true]) (by kernel_rfl) (cj h1 (cj h2 (cj h3 (cj h4 (cj h5 (cj h6 (cj h7 (cj h8 (cj h9 (cj h10 (cj h11 (cj1 h12)))))))))))))) (fun h12 =>
   Pn.ite (fun h13 =>
   Pn.some (Fn.of [.bit false, .bit false, .bit false, .bit false, .bit false, .bit false, .bit false, .bit false, .bit false, .bit false, .bit false, .bit false, .bit true, .bit true] (p := [(no == 2) = false,
    (no == 3) = false,
    (no == 11) = false,
    (no == 38) = false,
    (no == 4) = false,
    (no == 37) = false,
    (no == 95) = false,
    (no == 7) = false,
    (no == 14) = false,
    (no == 39) = false,
    (no == 41) = false,
    (no == 49) = false,
    (no == 102) = true,
    (no == 102) = true]) (by kernel_rfl) (cj h1 (cj h2 (cj h3 (cj h4 (cj h5 (cj h6 (cj h7 (cj h8 (cj h9 (cj h10 (cj h11 (cj h12 (cj h13 (cj1 h13)))))))))))))))) (fun h13 =>
   Pn.ite (fun h14 =>
   Pn.some (Fn.of [.bit false, .bit false, .bit false, .bit false, .bit false, .bit false, .bit false, .bit false, .bit false, .bit false, .bit false, .bit false, .bit false, .bit true] (p := [(no == 2) = false,
    (no == 3) = false,
    (no == 11) = false,
    (no == 38) = false,
    (no == 4) = false,
    (no == 37) = false,
    (no == 95) = false,
    (no == 7) = false,
    (no == 14) = false,
    (no == 39) = false,
    (no == 41) = false,
    (no == 49) = false,
    (no == 102) = false,
    (no == 103) = true]) (by kernel_rfl) (cj h1 (cj h2 (cj h3 (cj h4 (cj h5 (cj h6 (cj h7 (cj h8 (cj h9 (cj h10 (cj h11 (cj h12 (cj h13 (cj1 h14)))))))))))))))) (fun h14 =>
   Pn.ite (fun h15 =>
   Pn.some (Fn.of [.bit false, .bit false, .bit false, .bit false, .bit false, .bit false, .bit false, .bit false, .bit false, .bit false, .bit false, .bit false, .bit false, .bit false, .bit true, .bit true] (p := [(no == 2) = false,
    (no == 3) = false,
    (no == 11) = false,
    (no == 38) = false,
    (no == 4) = false,
    (no == 37) = false,
    (no == 95) = false,
    (no == 7) = false,
    (no == 14) = false,
    (no == 39) = false,
    (no == 41) = false,
    (no == 49) = false,
    (no == 102) = false,
    (no == 103) = false,
    (no == 48) = true,
    (no == 48) = true]) (by kernel_rfl) (cj h1 (cj h2 (cj h3 (cj h4 (cj h5 (cj h6 (cj h7 (cj h8 (cj h9 (cj h10 (cj h11 (cj h12 (cj h13 (cj h14 (cj h15 (cj1 h15)))))))))))))))))) (fun h15 =>
   Pn.ite (fun h16 =>
   Pn.some (Fn.of [.bit false, .bit false, .bit false, .bit false, .bit false, .bit false, .bit false, .bit false, .bit false, .bit false, .bit false, .bit false, .bit false, .bit false, .bit false, .bit true] (p := [(no == 2) = false,
    (no == 3) = false,
    (no == 11) = false,
    (no == 38) = false,
    (no == 4) = false,
    (no == 37) = false,
    (no == 95) = false,
    (no == 7) = false,
    (no == 14) = false,
    (no == 39) = false,
    (no == 41) = false,
    (no == 49) = false,
    (no == 102) = false,
    (no == 103) = false,
    (no == 48) = false,
    (no == 54) = true]) (by kernel_rfl) (cj h1 (cj h2 (cj h3 (cj h4 (cj h5 (cj h6 (cj h7 (cj h8 (cj h9 (cj h10 (cj h11 (cj h12 (cj h13 (cj h14 (cj h15 (cj1 h16)))))))))))))))))) (fun h16 =>
   Pn.some (Fn.of [.bit false, .bit false, .bit false, .bit false, .bit false, .bit false, .bit false, .bit false, .bit false, .bit false, .bit false, .bit false, .bit false, .bit false, .bit false, .bit false] (p := [(no == 2) = false,
    (no == 3) = false,
    (no == 11) = false,
    (no == 38) = false,
    (no == 4) = false,
    (no == 37) = false,
    (no == 95) = false,
    (no == 7) = false,
    (no == 14) = false,
    (no == 39) = false,
    (no == 41) = false,
    (no == 49) = false,
    (no == 102) = false,
    (no == 103) = false,
    (no == 48) = false,
    (no == 54) = false]) (by kernel_rfl) (cj h1 (cj h2 (cj h3 (cj h4 (cj h5 (cj h6 (cj h7 (cj h8 (cj h9 (cj h10 (cj h11 (cj h12 (cj h13 (cj h14 (cj h15 (cj1 h16)))))))))))))))))))))))))))))))))
def spec_l03Width (kind : Int) : Option (Int) :=
 if (kind == 3) = true then
 some 2
 else
 if (kind == 4) = true then
 some 2
 else
 if (kind == 5) = true then
 some 3
 else
 some 0
theorem spec_l03Width_ok (kind : Int) : Pn (fun y => Fn Tryd.prog 46 [(false, E3 kind)] (E3 y) []) (spec_l03Width kind) := by
  unfold spec_l03Width
  exact
   Pn.ite (fun h1 =>
   Pn.some (Fn.of [.bit true, .bit true] (p := [(kind == 3) = true,
    (kind == 3) = true]) (by kernel_rfl) (cj h1 (cj1 h1)))) (fun h1 =>
   Pn.ite (fun h2 =>
   Pn.some (Fn.of [.bit false, .bit true] (p := [(kind == 3) = false,
    (kind == 4) = true]) (by kernel_rfl) (cj h1 (cj1 h2)))) (fun h2 =>
   Pn.ite (fun h3 =>
   Pn.some (Fn.of [.bit false, .bit false, .bit true] (p := [(kind == 3) = false,
    (kind == 4) = false,
    (kind == 5) = true]) (by kernel_rfl) (cj h1 (cj h2 (cj1 h3))))) (fun h3 =>
   Pn.some (Fn.of [.bit false, .bit false, .bit false] (p := [(kind == 3) = false,
    (kind == 4) = false,
    (kind == 5) = false]) (by kernel_rfl) (cj h1 (cj h2 (cj1 h3)))))))
def spec_l03Text_l0 (r2 : Int) (r4 : Int × l01Cur) : Nat → (List Int) → Int → Int → ByteArray → Option (ByteArray × (List Int) × Int × Int)
  | 0, _, _, _, _ => none
  | fuel + 1, v1, v2, v3, v4 =>
   if (decide ((v4.size : Int) < (i64 (1 + r4.1)))) = true then
   if (r2 == 1) = true then
   (spec_l01Below (l01Cur.mk v1 v2 v3) 10).bind fun r5 =>
   if (decide (v4.size + (bstr [u8 (i64 (48 + r5.1))]).size ≤ 9223372036854775807)) = true then
   spec_l03Text_l0 r2 r4 fuel r5.2.b r5.2.i r5.2.h (v4 ++ (bstr [u8 (i64 (48 + r5.1))]))
   else none
   else
   if (r2 == 3) = true then
   (spec_l01Below (l01Cur.mk v1 v2 v3) 10).bind fun r6 =>
   if (decide (v4.size + (bstr [u8 (i64 (48 + r6.1))]).size ≤ 9223372036854775807)) = true then
   spec_l03Text_l0 r2 r4 fuel r6.2.b r6.2.i r6.2.h (v4 ++ (bstr [u8 (i64 (48 + r6.1))]))
   else none
   else
   (spec_l01Str (l01Cur.mk v1 v2 v3) [bs [97], bs [98], bs [55], bs [32], bs [126]]).bind fun r7 =>
   if (decide (v4.size + r7.1.size ≤ 9223372036854775807)) = true then
   spec_l03Text_l0 r2 r4 fuel r7.2.1.b r7.2.1.i r7.2.1.h (v4 ++ r7.1)
   else none
   else
   some (v4, v1, v2, v3)
theorem spec_l03Text_l0_ok (r2 : Int) (r4 : Int × l01Cur) : ∀ (fuel : Nat) (v1 : List Int) (v2 : Int) (v3 : Int) (v4 : ByteArray), Pn (LpO Tryd.prog (sub (codeOf Tryd.prog 28) [1, 1, 1, 1, 1, 0, 0, 0]) (st 43 [(0, V.ptr 0 0), (5, V.sc (.int .i64 (i64 (1 + r4.1)))), (6, V.sc (.int .i64 r2)), (7, V.sc (.string v4))] [Blk.box 43 [V.sl false 5 (List.map E5 v1), V.sc (.int .i64 v2), V.sc (.int .i64 v3)]] [some 0]) (fun (y : ByteArray × (List Int) × Int × Int) => (X.out 0, st 43 [(7, V.sc (.string y.1))] [Blk.box 43 [V.sl false 5 (List.map E5 y.2.1), V.sc (.int .i64 y.2.2.1), V.sc (.int .i64 y.2.2.2)]] [some 0]))) (spec_l03Text_l0 r2 r4 fuel v1 v2 v3 v4)
  | 0, _, _, _, _ => Pn.none
  | fuel + 1, v1, v2, v3, v4 => by
    unfold spec_l03Text_l0
    exact
     Pn.ite (fun h6 =>
     Pn.ite (fun h7 =>
     Pn.bind (fun r5 h8 =>
     Pn.ite (fun h9 =>
     LpO.go [.bit true, .bit true, .bit true, .bit true, .bit true, .call [true, false] (E3 r5.1) [V.bx 43 [V.sl false 5 (List.map E5 r5.2.b), V.sc (.int .i64 r5.2.i), V.sc (.int .i64 r5.2.h)]], .ints [u8 (i64 (48 + r5.1))], .wait 3, .mask [0, 5, 6, 7], .ren [0]] (p := [(decide ((v4.size : Int) < (i64 (1 + r4.1)))) = true,
      (r2 == 1) = true,
      (r2 == 1) = true,
      (r2 == 1) = true,
      true = true,
      Fn Tryd.prog 13 [(true, V.bx 43 [V.sl false 5 (List.map E5 ((l01Cur.mk v1 v2 v3).b)), V.sc (.int .i64 ((l01Cur.mk v1 v2 v3).i)), V.sc (.int .i64 ((l01Cur.mk v1 v2 v3).h))]), (false, E3 10)] (E3 r5.1) [V.bx 43 [V.sl false 5 (List.map E5 r5.2.b), V.sc (.int .i64 r5.2.i), V.sc (.int .i64 r5.2.h)]],
      (true || ((E3 r5.1).nv && nvL [V.bx 43 [V.sl false 5 (List.map E5 r5.2.b), V.sc (.int .i64 r5.2.i), V.sc (.int .i64 r5.2.h)]])) = true,
      [V.sc (.int .u8 (u8 (i64 (48 + r5.1))))] = [u8 (i64 (48 + r5.1))].map fun n => V.sc (.int .u8 n),
      v4.size + (bstr [u8 (i64 (48 + r5.1))]).size ≤ 9223372036854775807]) (by kernel_rfl) (cj h6 (cj h7 (cj h7 (cj h7 (cj rfl (cj (spec_l01Below_ok (l01Cur.mk v1 v2 v3) 10 r5 h8) (cj rfl (cj rfl (cj1 (od h9)))))))))) (spec_l03Text_l0_ok r2 r4 fuel r5.2.b r5.2.i r5.2.h (v4 ++ (bstr [u8 (i64 (48 + r5.1))])))) (fun h9 =>
     Pn.none))) (fun h7 =>
     Pn.ite (fun h10 =>
     Pn.bind (fun r6 h11 =>
     Pn.ite (fun h12 =>
     LpO.go [.bit true, .bit false, .bit false, .bit false, .bit true, .call [true, false] (E3 r6.1) [V.bx 43 [V.sl false 5 (List.map E5 r6.2.b), V.sc (.int .i64 r6.2.i), V.sc (.int .i64 r6.2.h)]], .ints [u8 (i64 (48 + r6.1))], .wait 3, .mask [0, 5, 6, 7], .ren [0]] (p := [(decide ((v4.size : Int) < (i64 (1 + r4.1)))) = true,
      (r2 == 1) = false,
      (r2 == 1) = false,
      (r2 == 1) = false,
      (r2 == 3) = true,
      Fn Tryd.prog 13 [(true, V.bx 43 [V.sl false 5 (List.map E5 ((l01Cur.mk v1 v2 v3).b)), V.sc (.int .i64 ((l01Cur.mk v1 v2 v3).i)), V.sc (.int .i64 ((l01Cur.mk v1 v2 v3).h))]), (false, E3 10)] (E3 r6.1) [V.bx 43 [V.sl false 5 (List.map E5 r6.2.b), V.sc (.int .i64 r6.2.i), V.sc (.int .i64 r6.2.h)]],
      (true || ((E3 r6.1).nv && nvL [V.bx 43 [V.sl false 5 (List.map E5 r6.2.b), V.sc (.int .i64 r6.2.i), V.sc (.int .i64 r6.2.h)]])) = true,
      [V.sc (.int .u8 (u8 (i64 (48 + r6.1))))] = [u8 (i64 (48 + r6.1))].map fun n => V.sc (.int .u8 n),
      v4.size + (bstr [u8 (i64 (48 + r6.1))]).size ≤ 9223372036854775807]) (by kernel_rfl) (cj h6 (cj h7 (cj h7 (cj h7 (cj h10 (cj (spec_l01Below_ok (l01Cur.mk v1 v2 v3) 10 r6 h11) (cj rfl (cj rfl (cj1 (od h12)))))))))) (spec_l03Text_l0_ok r2 r4 fuel r6.2.b r6.2.i r6.2.h (v4 ++ (bstr [u8 (i64 (48 + r6.1))])))) (fun h12 =>
     Pn.none))) (fun h10 =>
     Pn.bind (fun r7 h13 =>
     Pn.ite (fun h14 =>
     LpO.go [.bit true, .bit false, .bit false, .bit false, .bit false, .call [true, true] (E9 r7.1) [V.bx 43 [V.sl false 5 (List.map E5 r7.2.1.b), V.sc (.int .i64 r7.2.1.i), V.sc (.int .i64 r7.2.1.h)], V.sl true 9 (List.map E9 r7.2.2)], .wait 3, .mask [0, 5, 6, 7], .ren [0]] (p := [(decide ((v4.size : Int) < (i64 (1 + r4.1)))) = true,
      (r2 == 1) = false,
      (r2 == 1) = false,
      (r2 == 1) = false,
      (r2 == 3) = false,
      Fn Tryd.prog 25 [(true, V.bx 43 [V.sl false 5 (List.map E5 ((l01Cur.mk v1 v2 v3).b)), V.sc (.int .i64 ((l01Cur.mk v1 v2 v3).i)), V.sc (.int .i64 ((l01Cur.mk v1 v2 v3).h))]), (true, E59 [bs [97], bs [98], bs [55], bs [32], bs [126]])] (E9 r7.1) [V.bx 43 [V.sl false 5 (List.map E5 r7.2.1.b), V.sc (.int .i64 r7.2.1.i), V.sc (.int .i64 r7.2.1.h)], V.sl true 9 (List.map E9 r7.2.2)],
      (true || ((E9 r7.1).nv && nvL [V.bx 43 [V.sl false 5 (List.map E5 r7.2.1.b), V.sc (.int .i64 r7.2.1.i), V.sc (.int .i64 r7.2.1.h)], V.sl true 9 (List.map E9 r7.2.2)])) = true,
      v4.size + r7.1.size ≤ 9223372036854775807]) (by kernel_rfl) (cj h6 (cj h7 (cj h7 (cj h7 (cj h10 (cj (spec_l01Str_ok (l01Cur.mk v1 v2 v3) [bs [97], bs [98], bs [55], bs [32], bs [126]] r7 h13) (cj rfl (cj1 (od h14))))))))) (spec_l03Text_l0_ok r2 r4 fuel r7.2.1.b r7.2.1.i r7.2.1.h (v4 ++ r7.1))) (fun h14 =>
     Pn.none))))) (fun h6 =>
     Pn.some (LpO.out [.bit false, .mask [7], .ren [0]] (p := [(decide ((v4.size : Int) < (i64 (1 + r4.1)))) = false]) (by kernel_rfl) (show X.out 0 ≠ X.go from nofun) (cj1 h6)))
def spec_l03Text_l1 (r1 : Int) (r2 : Int) : Nat → (List Int) → Int → Int → ByteArray → Option (ByteArray × (List Int) × Int × Int)
  | 0, _, _, _, _ => none
  | fuel + 1, v5, v6, v7, v8 =>
   if (decide ((v8.size : Int) < r1)) = true then
   if (r2 == 1) = true then
   (spec_l01Below (l01Cur.mk v5 v6 v7) 10).bind fun r9 =>
   if (decide (v8.size + (bstr [u8 (i64 (48 + r9.1))]).size ≤ 9223372036854775807)) = true then
   spec_l03Text_l1 r1 r2 fuel r9.2.b r9.2.i r9.2.h (v8 ++ (bstr [u8 (i64 (48 + r9.1))]))
   else none
   else
   if (r2 == 3) = true then
   (spec_l01Below (l01Cur.mk v5 v6 v7) 10).bind fun r10 =>
   if (decide (v8.size + (bstr [u8 (i64 (48 + r10.1))]).size ≤ 9223372036854775807)) = true then
   spec_l03Text_l1 r1 r2 fuel r10.2.b r10.2.i r10.2.h (v8 ++ (bstr [u8 (i64 (48 + r10.1))]))
   else none
   else
   (spec_l01Str (l01Cur.mk v5 v6 v7) [bs [97], bs [98], bs [55], bs [32], bs [126]]).bind fun r11 =>
   if (decide (v8.size + r11.1.size ≤ 9223372036854775807)) = true then
   spec_l03Text_l1 r1 r2 fuel r11.2.1.b r11.2.1.i r11.2.1.h (v8 ++ r11.1)
   else none
   else
   some (v8, v5, v6, v7)
theorem spec_l03Text_l1_ok (r1 : Int) (r2 : Int) : ∀ (fuel : Nat) (v5 : List Int) (v6 : Int) (v7 : Int) (v8 : ByteArray), Pn (LpO Tryd.prog (sub (codeOf Tryd.prog 28) [1, 1, 1, 1, 1, 0, 0, 0]) (st 43 [(0, V.ptr 0 0), (5, V.sc (.int .i64 r1)), (6, V.sc (.int .i64 r2)), (7, V.sc (.string v8))] [Blk.box 43 [V.sl false 5 (List.map E5 v5), V.sc (.int .i64 v6), V.sc (.int .i64 v7)]] [some 0]) (fun (y : ByteArray × (List Int) × Int × Int) => (X.out 0, st 43 [(7, V.sc (.string y.1))] [Blk.box 43 [V.sl false 5 (List.map E5 y.2.1), V.sc (.int .i64 y.2.2.1), V.sc (.int .i64 y.2.2.2)]] [some 0]))) (spec_l03Text_l1 r1 r2 fuel v5 v6 v7 v8)
  | 0, _, _, _, _ => Pn.none
  | fuel + 1, v5, v6, v7, v8 => by
    unfold spec_l03Text_l1
    exact
     Pn.ite (fun h16 =>
     Pn.ite (fun h17 =>
     Pn.bind (fun r9 h18 =>
     Pn.ite (fun h19 =>
     LpO.go [.bit true, .bit true, .bit true, .bit true, .bit true, .call [true, false] (E3 r9.1) [V.bx 43 [V.sl false 5 (List.map E5 r9.2.b), V.sc (.int .i64 r9.2.i), V.sc (.int .i64 r9.2.h)]], .ints [u8 (i64 (48 + r9.1))], .wait 3, .mask [0, 5, 6, 7], .ren [0]] (p := [(decide ((v8.size : Int) < r1)) = true,
      (r2 == 1) = true,
      (r2 == 1) = true,
      (r2 == 1) = true,
      true = true,
      Fn Tryd.prog 13 [(true, V.bx 43 [V.sl false 5 (List.map E5 ((l01Cur.mk v5 v6 v7).b)), V.sc (.int .i64 ((l01Cur.mk v5 v6 v7).i)), V.sc (.int .i64 ((l01Cur.mk v5 v6 v7).h))]), (false, E3 10)] (E3 r9.1) [V.bx 43 [V.sl false 5 (List.map E5 r9.2.b), V.sc (.int .i64 r9.2.i), V.sc (.int .i64 r9.2.h)]],
      (true || ((E3 r9.1).nv && nvL [V.bx 43 [V.sl false 5 (List.map E5 r9.2.b), V.sc (.int .i64 r9.2.i), V.sc (.int .i64 r9.2.h)]])) = true,
      [V.sc (.int .u8 (u8 (i64 (48 + r9.1))))] = [u8 (i64 (48 + r9.1))].map fun n => V.sc (.int .u8 n),
      v8.size + (bstr [u8 (i64 (48 + r9.1))]).size ≤ 9223372036854775807]) (by kernel_rfl) (cj h16 (cj h17 (cj h17 (cj h17 (cj rfl (cj (spec_l01Below_ok (l01Cur.mk v5 v6 v7) 10 r9 h18) (cj rfl (cj rfl (cj1 (od h19)))))))))) (spec_l03Text_l1_ok r1 r2 fuel r9.2.b r9.2.i r9.2.h (v8 ++ (bstr [u8 (i64 (48 + r9.1))])))) (fun h19 =>
     Pn.none))) (fun h17 =>
     Pn.ite (fun h20 =>
     Pn.bind (fun r10 h21 =>
     Pn.ite (fun h22 =>
     LpO.go [.bit true, .bit false, .bit false, .bit false, .bit true, .call [true, false] (E3 r10.1) [V.bx 43 [V.sl false 5 (List.map E5 r10.2.b), V.sc (.int .i64 r10.2.i), V.sc (.int .i64 r10.2.h)]], .ints [u8 (i64 (48 + r10.1))], .wait 3, .mask [0, 5, 6, 7], .ren [0]] (p := [(decide ((v8.size : Int) < r1)) = true,
      (r2 == 1) = false,
      (r2 == 1) = false,
      (r2 == 1) = false,
      (r2 == 3) = true,
      Fn Tryd.prog 13 [(true, V.bx 43 [V.sl false 5 (List.map E5 ((l01Cur.mk v5 v6 v7).b)), V.sc (.int .i64 ((l01Cur.mk v5 v6 v7).i)), V.sc (.int .i64 ((l01Cur.mk v5 v6 v7).h))]), (false, E3 10)] (E3 r10.1) [V.bx 43 [V.sl false 5 (List.map E5 r10.2.b), V.sc (.int .i64 r10.2.i), V.sc (.int .i64 r10.2.h)]],
      (true || ((E3 r10.1).nv && nvL [V.bx 43 [V.sl false 5 (List.map E5 r10.2.b), V.sc (.int .i64 r10.2.i), V.sc (.int .i64 r10.2.h)]])) = true,
      [V.sc (.int .u8 (u8 (i64 (48 + r10.1))))] = [u8 (i64 (48 + r10.1))].map fun n => V.sc (.int .u8 n),
      v8.size + (bstr [u8 (i64 (48 + r10.1))]).size ≤ 9223372036854775807]) (by kernel_rfl) (cj h16 (cj h17 (cj h17 (cj h17 (cj h20 (cj (spec_l01Below_ok (l01Cur.mk v5 v6 v7) 10 r10 h21) (cj rfl (cj rfl (cj1 (od h22)))))))))) (spec_l03Text_l1_ok r1 r2 fuel r10.2.b r10.2.i r10.2.h (v8 ++ (bstr [u8 (i64 (48 + r10.1))])))) (fun h22 =>
     Pn.none))) (fun h20 =>
     Pn.bind (fun r11 h23 =>
     Pn.ite (fun h24 =>
     LpO.go [.bit true, .bit false, .bit false, .bit false, .bit false, .call [true, true] (E9 r11.1) [V.bx 43 [V.sl false 5 (List.map E5 r11.2.1.b), V.sc (.int .i64 r11.2.1.i), V.sc (.int .i64 r11.2.1.h)], V.sl true 9 (List.map E9 r11.2.2)], .wait 3, .mask [0, 5, 6, 7], .ren [0]] (p := [(decide ((v8.size : Int) < r1)) = true,
      (r2 == 1) = false,
      (r2 == 1) = false,
      (r2 == 1) = false,
      (r2 == 3) = false,
      Fn Tryd.prog 25 [(true, V.bx 43 [V.sl false 5 (List.map E5 ((l01Cur.mk v5 v6 v7).b)), V.sc (.int .i64 ((l01Cur.mk v5 v6 v7).i)), V.sc (.int .i64 ((l01Cur.mk v5 v6 v7).h))]), (true, E59 [bs [97], bs [98], bs [55], bs [32], bs [126]])] (E9 r11.1) [V.bx 43 [V.sl false 5 (List.map E5 r11.2.1.b), V.sc (.int .i64 r11.2.1.i), V.sc (.int .i64 r11.2.1.h)], V.sl true 9 (List.map E9 r11.2.2)],
      (true || ((E9 r11.1).nv && nvL [V.bx 43 [V.sl false 5 (List.map E5 r11.2.1.b), V.sc (.int .i64 r11.2.1.i), V.sc (.int .i64 r11.2.1.h)], V.sl true 9 (List.map E9 r11.2.2)])) = true,
      v8.size + r11.1.size ≤ 9223372036854775807]) (by kernel_rfl) (cj h16 (cj h17 (cj h17 (cj h17 (cj h20 (cj (spec_l01Str_ok (l01Cur.mk v5 v6 v7) [bs [97], bs [98], bs [55], bs [32], bs [126]] r11 h23) (cj rfl (cj1 (od h24))))))))) (spec_l03Text_l1_ok r1 r2 fuel r11.2.1.b r11.2.1.i r11.2.1.h (v8 ++ r11.1))) (fun h24 =>
     Pn.none))))) (fun h16 =>
     Pn.some (LpO.out [.bit false, .mask [7], .ren [0]] (p := [(decide ((v8.size : Int) < r1)) = false]) (by kernel_rfl) (show X.out 0 ≠ X.go from nofun) (cj1 h16)))
def spec_l03Text (c : l01Cur) (no : Int) : Option (ByteArray × l01Cur) :=
 (spec_FieldSize no).bind fun r1 =>
 (spec_FieldKind no).bind fun r2 =>
 (spec_l03Width r2).bind fun r3 =>
 if (decide (0 < r3)) = true then
 (spec_l01Below c r1).bind fun r4 =>
 (spec_l03Text_l0 r2 r4 FUEL r4.2.b r4.2.i r4.2.h (bs [])).bind fun r8 =>
 some (r8.1, (l01Cur.mk r8.2.1 r8.2.2.1 r8.2.2.2))
 else
 (spec_l03Text_l1 r1 r2 FUEL c.b c.i c.h (bs [])).bind fun r12 =>
 some (r12.1, (l01Cur.mk r12.2.1 r12.2.2.1 r12.2.2.2))
theorem spec_l03Text_ok (c : l01Cur) (no : Int) : Pn (fun y => Fn Tryd.prog 28 [(true, V.bx 43 [V.sl false 5 (List.map E5 c.b), V.sc (.int .i64 c.i), V.sc (.int .i64 c.h)]), (false, E3 no)] (E9 y.1) [V.bx 43 [V.sl false 5 (List.map E5 y.2.b), V.sc (.int .i64 y.2.i), V.sc (.int .i64 y.2.h)]]) (spec_l03Text c no) := by
  unfold spec_l03Text
  exact
   Pn.bind (fun r1 h1 =>
   Pn.bind (fun r2 h2 =>
   Pn.bind (fun r3 h3 =>
   Pn.ite (fun h4 =>
   Pn.bind (fun r4 h5 =>
   Pn.bind (fun r8 h15 =>
   Pn.some (Fn.of [.call [] (E3 r1) [], .call [] (E3 r2) [], .call [] (E3 r3) [], .bit true, .call [true, false] (E3 r4.1) [V.bx 43 [V.sl false 5 (List.map E5 r4.2.b), V.sc (.int .i64 r4.2.i), V.sc (.int .i64 r4.2.h)]], .wait 4, .mask [0, 5, 6, 7], .ren [0], .loop (X.out 0) (st 43 [(7, V.sc (.string r8.1))] [Blk.box 43 [V.sl false 5 (List.map E5 r8.2.1), V.sc (.int .i64 r8.2.2.1), V.sc (.int .i64 r8.2.2.2)]] [some 0])] (p := [Fn Tryd.prog 45 [(false, E3 no)] (E3 r1) [],
    (true || ((E3 r1).nv && nvL [])) = true,
    Fn Tryd.prog 44 [(false, E3 no)] (E3 r2) [],
    (true || ((E3 r2).nv && nvL [])) = true,
    Fn Tryd.prog 46 [(false, E3 r2)] (E3 r3) [],
    (true || ((E3 r3).nv && nvL [])) = true,
    (decide (0 < r3)) = true,
    Fn Tryd.prog 13 [(true, V.bx 43 [V.sl false 5 (List.map E5 c.b), V.sc (.int .i64 c.i), V.sc (.int .i64 c.h)]), (false, E3 r1)] (E3 r4.1) [V.bx 43 [V.sl false 5 (List.map E5 r4.2.b), V.sc (.int .i64 r4.2.i), V.sc (.int .i64 r4.2.h)]],
    (true || ((E3 r4.1).nv && nvL [V.bx 43 [V.sl false 5 (List.map E5 r4.2.b), V.sc (.int .i64 r4.2.i), V.sc (.int .i64 r4.2.h)]])) = true,
    Loop Tryd.prog (sub (codeOf Tryd.prog 28) [1, 1, 1, 1, 1, 0, 0, 0]) (st 43 [(0, V.ptr 0 0), (5, V.sc (.int .i64 (i64 (1 + r4.1)))), (6, V.sc (.int .i64 r2)), (7, V.sc (.string (bs [])))] [Blk.box 43 [V.sl false 5 (List.map E5 r4.2.b), V.sc (.int .i64 r4.2.i), V.sc (.int .i64 r4.2.h)]] [some 0]) (X.out 0) (st 43 [(7, V.sc (.string r8.1))] [Blk.box 43 [V.sl false 5 (List.map E5 r8.2.1), V.sc (.int .i64 r8.2.2.1), V.sc (.int .i64 r8.2.2.2)]] [some 0])]) (by kernel_rfl) (cj (spec_FieldSize_ok no r1 h1) (cj rfl (cj (spec_FieldKind_ok no r2 h2) (cj rfl (cj (spec_l03Width_ok r2 r3 h3) (cj rfl (cj h4 (cj (spec_l01Below_ok c r1 r4 h5) (cj rfl (cj1 (spec_l03Text_l0_ok r2 r4 FUEL r4.2.b r4.2.i r4.2.h (bs []) r8 h15))))))))))))))) (fun h4 =>
   Pn.bind (fun r12 h25 =>
   Pn.some (Fn.of [.call [] (E3 r1) [], .call [] (E3 r2) [], .call [] (E3 r3) [], .bit false, .wait 1, .mask [0, 5, 6, 7], .ren [0], .loop (X.out 0) (st 43 [(7, V.sc (.string r12.1))] [Blk.box 43 [V.sl false 5 (List.map E5 r12.2.1), V.sc (.int .i64 r12.2.2.1), V.sc (.int .i64 r12.2.2.2)]] [some 0])] (p := [Fn Tryd.prog 45 [(false, E3 no)] (E3 r1) [],
    (true || ((E3 r1).nv && nvL [])) = true,
    Fn Tryd.prog 44 [(false, E3 no)] (E3 r2) [],
    (true || ((E3 r2).nv && nvL [])) = true,
    Fn Tryd.prog 46 [(false, E3 r2)] (E3 r3) [],
    (true || ((E3 r3).nv && nvL [])) = true,
    (decide (0 < r3)) = false,
    Loop Tryd.prog (sub (codeOf Tryd.prog 28) [1, 1, 1, 1, 1, 0, 0, 0]) (st 43 [(0, V.ptr 0 0), (5, V.sc (.int .i64 r1)), (6, V.sc (.int .i64 r2)), (7, V.sc (.string (bs [])))] [Blk.box 43 [V.sl false 5 (List.map E5 c.b), V.sc (.int .i64 c.i), V.sc (.int .i64 c.h)]] [some 0]) (X.out 0) (st 43 [(7, V.sc (.string r12.1))] [Blk.box 43 [V.sl false 5 (List.map E5 r12.2.1), V.sc (.int .i64 r12.2.2.1), V.sc (.int .i64 r12.2.2.2)]] [some 0])]) (by kernel_rfl) (cj (spec_FieldSize_ok no r1 h1) (cj rfl (cj (spec_FieldKind_ok no r2 h2) (cj rfl (cj (spec_l03Width_ok r2 r3 h3) (cj rfl (cj h4 (cj1 (spec_l03Text_l1_ok r1 r2 FUEL c.b c.i c.h (bs []) r12 h25)))))))))))))))
def spec_l04Draw_s4 (x1 : Int) (r2 : (List Int)) (p1 : List Int) (r3 : Bool × l01Cur) (r4 : ByteArray × l01Cur) (r1 : ByteArray × l01Cur × (List ByteArray)) (v4 : List Field) : St := st 30 [(0, V.ptr 0 0), (2, V.ptr 1 0), (3, V.ptr 2 0), (5, V.sc (.int .i64 x1)), (10, V.ow 4), (11, V.sc (.int .i64 (r2.length : Int))), (12, V.sc (.int .i64 (p1.length : Int))), (13, V.sc (.bool (decide ((p1.length : Int) < (r2.length : Int))))), (14, V.ep 4 1 ((p1.length : Int).toNat) 0), (15, V.sc (.int .i64 x1)), (16, V.ptr 0 0), (17, V.sc (.bool r3.1)), (18, V.ptr 2 1), (20, V.sc (.int .i64 x1)), (21, V.ptr 0 0), (22, V.sc (.int .i64 x1)), (23, V.sc (.string r4.1)), (24, V.agg [V.sc (.int .i64 x1), V.sc (.string r4.1)]), (25, V.ow 5), (26, V.ow 3), (27, V.ptr 2 1)] [Blk.box 43 [V.sl false 5 (List.map E5 r4.2.b), V.sc (.int .i64 r4.2.i), V.sc (.int .i64 r4.2.h)], Blk.box 25 [V.sc (.string ByteArray.empty), V.nl 48], Blk.box 25 [V.sc (.string r1.1), V.ow 3], Blk.row 48 (List.map E48 (v4 ++ [(Field.mk x1 r4.1)])) [], Blk.row 3 (List.map E3 r2) [], Blk.row 48 [V.agg [V.sc (.int .i64 x1), V.sc (.string r4.1)]] []] [some 0]
def spec_l04Draw_l0 (r1 : ByteArray × l01Cur × (List ByteArray)) (r2 : (List Int)) : List Int → (List Int) → Int → Int → (List Field) → Option ((List Int) × Int × Int × (List Field))
  | [], v1, v2, v3, v4 =>
   some (v1, v2, v3, v4)
  | x1 :: t1, v1, v2, v3, v4 =>
   (spec_l01Once (l01Cur.mk v1 v2 v3) 3).bind fun r3 =>
   if r3.1 = true then
   (spec_l03Text r3.2 x1).bind fun r4 =>
   if (capOk (v4.length + 1)) = true then
   spec_l04Draw_l0 r1 r2 t1 r4.2.b r4.2.i r4.2.h (v4 ++ [(Field.mk x1 r4.1)])
   else none
   else
   spec_l04Draw_l0 r1 r2 t1 r3.2.b r3.2.i r3.2.h v4
theorem spec_l04Draw_l0_ok (r1 : ByteArray × l01Cur × (List ByteArray)) (r2 : (List Int)) (h4 : capOk r2.length = true) : ∀ (t1 p1 : List Int) (_ : r2 = p1 ++ t1) (v1 : List Int) (v2 : Int) (v3 : Int) (v4 : List Field), Pn (LpO Tryd.prog (sub (codeOf Tryd.prog 12) [1, 1, 0, 1, 0, 0]) (st 30 [(0, V.ptr 0 0), (2, V.ptr 1 0), (3, V.ptr 2 0), (10, V.ow 4), (11, V.sc (.int .i64 (r2.length : Int))), (12, V.sc (.int .i64 (p1.length : Int)))] [Blk.box 43 [V.sl false 5 (List.map E5 v1), V.sc (.int .i64 v2), V.sc (.int .i64 v3)], Blk.box 25 [V.sc (.string ByteArray.empty), V.nl 48], Blk.box 25 [V.sc (.string r1.1), V.ow 3], Blk.row 48 (List.map E48 v4) [], Blk.row 3 (List.map E3 r2) []] [some 0]) (fun (y : (List Int) × Int × Int × (List Field)) => (X.out 0, st 30 [(2, V.ptr 1 0), (3, V.ptr 2 0)] [Blk.box 43 [V.sl false 5 (List.map E5 y.1), V.sc (.int .i64 y.2.1), V.sc (.int .i64 y.2.2.1)], Blk.box 25 [V.sc (.string ByteArray.empty), V.nl 48], Blk.box 25 [V.sc (.string r1.1), V.ow 3], Blk.row 48 (List.map E48 y.2.2.2) []] [some 0]))) (spec_l04Draw_l0 r1 r2 t1 v1 v2 v3 v4)
  | [], p1, h3, v1, v2, v3, v4 => by
    unfold spec_l04Draw_l0
    exact
     Pn.some (LpO.out [.bit false, .mask [2, 3], .ren [0, 1, 2, 3]] (p := [(decide ((p1.length : Int) < (r2.length : Int))) = false]) (by kernel_rfl) (show X.out 0 ≠ X.go from nofun) (cj1 (rng_end h3)))
  | x1 :: t1, p1, h3, v1, v2, v3, v4 => by
    unfold spec_l04Draw_l0
    exact
     Pn.bind (fun r3 h5 =>
     Pn.ite (fun h6 =>
     Pn.bind (fun r4 h7 =>
     Pn.ite (fun h8 =>
     LpO.go [.bit true, .el (E3 x1), .call [true, false] (E4 r3.1) [V.bx 43 [V.sl false 5 (List.map E5 r3.2.b), V.sc (.int .i64 r3.2.i), V.sc (.int .i64 r3.2.h)]], .bit true, .draw [5, 8, 10], .loop .go ((spec_l04Draw_s4 x1 r2 p1 r3 r4 r1 v4)), .loop .go ((spec_l04Draw_s4 x1 r2 p1 r3 r4 r1 v4)), .loop .go ((spec_l04Draw_s4 x1 r2 p1 r3 r4 r1 v4)), .call [true, false] (E9 r4.1) [V.bx 43 [V.sl false 5 (List.map E5 r4.2.b), V.sc (.int .i64 r4.2.i), V.sc (.int .i64 r4.2.h)]], .cp [V.agg [V.sc (.int .i64 x1), V.sc (.string r4.1)]], .nb 6 (.row 48 (List.map E48 (v4 ++ [(Field.mk x1 r4.1)])) []), .wait 2, .ren [0, 1, 2, 6, 4, 5], .call [true, false] (E9 r4.1) [V.bx 43 [V.sl false 5 (List.map E5 r4.2.b), V.sc (.int .i64 r4.2.i), V.sc (.int .i64 r4.2.h)]], .cp [V.agg [V.sc (.int .i64 x1), V.sc (.string r4.1)]], .nb 6 (.row 48 (List.map E48 (v4 ++ [(Field.mk x1 r4.1)])) []), .wait 2, .ren [0, 1, 2, 6, 4, 5], .ren [0, 1, 2, 3, 4, 5], .loop .go ((spec_l04Draw_s4 x1 r2 p1 r3 r4 r1 v4)), .call [true, false] (E9 r4.1) [V.bx 43 [V.sl false 5 (List.map E5 r4.2.b), V.sc (.int .i64 r4.2.i), V.sc (.int .i64 r4.2.h)]], .cp [V.agg [V.sc (.int .i64 x1), V.sc (.string r4.1)]], .nb 6 (.row 48 (List.map E48 (v4 ++ [(Field.mk x1 r4.1)])) []), .wait 2, .ren [0, 1, 2, 6, 4, 5], .call [true, false] (E9 r4.1) [V.bx 43 [V.sl false 5 (List.map E5 r4.2.b), V.sc (.int .i64 r4.2.i), V.sc (.int .i64 r4.2.h)]], .cp [V.agg [V.sc (.int .i64 x1), V.sc (.string r4.1)]], .nb 6 (.row 48 (List.map E48 (v4 ++ [(Field.mk x1 r4.1)])) []), .wait 2, .ren [0, 1, 2, 6, 4, 5], .ren [0, 1, 2, 3, 4, 5], .call [true, false] (E9 r4.1) [V.bx 43 [V.sl false 5 (List.map E5 r4.2.b), V.sc (.int .i64 r4.2.i), V.sc (.int .i64 r4.2.h)]], .cp [V.agg [V.sc (.int .i64 x1), V.sc (.string r4.1)]], .nb 6 (.row 48 (List.map E48 (v4 ++ [(Field.mk x1 r4.1)])) []), .wait 2, .ren [0, 1, 2, 6, 4, 5], .ren [0, 1, 2, 3, 4, 5], .loop .go ((spec_l04Draw_s4 x1 r2 p1 r3 r4 r1 v4)), .loop .go ((spec_l04Draw_s4 x1 r2 p1 r3 r4 r1 v4)), .call [true, false] (E9 r4.1) [V.bx 43 [V.sl false 5 (List.map E5 r4.2.b), V.sc (.int .i64 r4.2.i), V.sc (.int .i64 r4.2.h)]], .cp [V.agg [V.sc (.int .i64 x1), V.sc (.string r4.1)]], .nb 6 (.row 48 (List.map E48 (v4 ++ [(Field.mk x1 r4.1)])) []), .wait 2, .ren [0, 1, 2, 6, 4, 5], .call [true, false] (E9 r4.1) [V.bx 43 [V.sl false 5 (List.map E5 r4.2.b), V.sc (.int .i64 r4.2.i), V.sc (.int .i64 r4.2.h)]], .cp [V.agg [V.sc (.int .i64 x1), V.sc (.string r4.1)]], .nb 6 (.row 48 (List.map E48 (v4 ++ [(Field.mk x1 r4.1)])) []), .wait 2, .ren [0, 1, 2, 6, 4, 5], .ren [0, 1, 2, 3, 4, 5], .call [true, false] (E9 r4.1) [V.bx 43 [V.sl false 5 (List.map E5 r4.2.b), V.sc (.int .i64 r4.2.i), V.sc (.int .i64 r4.2.h)]], .cp [V.agg [V.sc (.int .i64 x1), V.sc (.string r4.1)]], .nb 6 (.row 48 (List.map E48 (v4 ++ [(Field.mk x1 r4.1)])) []), .wait 2, .ren [0, 1, 2, 6, 4, 5], .ren [0, 1, 2, 3, 4, 5], .call [true, false] (E9 r4.1) [V.bx 43 [V.sl false 5 (List.map E5 r4.2.b), V.sc (.int .i64 r4.2.i), V.sc (.int .i64 r4.2.h)]], .cp [V.agg [V.sc (.int .i64 x1), V.sc (.string r4.1)]], .nb 6 (.row 48 (List.map E48 (v4 ++ [(Field.mk x1 r4.1)])) []), .wait 2, .ren [0, 1, 2, 6, 4, 5], .wait 3, .mask [0, 2, 3, 10, 11, 12], .ren [0, 1, 2, 3, 4], .nm 12 (V.sc (.int .i64 ((p1 ++ [x1]).length : Int)))] (p := [(decide ((p1.length : Int) < (r2.length : Int))) = true,
      (0 : Int) ≤ (p1.length : Int),
      ((p1.length : Int) : Int) < ((List.map E3 r2).length : Int),
      look [] ((p1.length : Int).toNat) = none,
      (List.map E3 r2)[(p1.length : Int).toNat]? = some (E3 x1),
      Fn Tryd.prog 27 [(true, V.bx 43 [V.sl false 5 (List.map E5 ((l01Cur.mk v1 v2 v3).b)), V.sc (.int .i64 ((l01Cur.mk v1 v2 v3).i)), V.sc (.int .i64 ((l01Cur.mk v1 v2 v3).h))]), (false, E3 3)] (E4 r3.1) [V.bx 43 [V.sl false 5 (List.map E5 r3.2.b), V.sc (.int .i64 r3.2.i), V.sc (.int .i64 r3.2.h)]],
      (true || ((E4 r3.1).nv && nvL [V.bx 43 [V.sl false 5 (List.map E5 r3.2.b), V.sc (.int .i64 r3.2.i), V.sc (.int .i64 r3.2.h)]])) = true,
      r3.1 = true,
      Fn Tryd.prog 28 [(true, V.bx 43 [V.sl false 5 (List.map E5 r3.2.b), V.sc (.int .i64 r3.2.i), V.sc (.int .i64 r3.2.h)]), (false, E3 x1)] (E9 r4.1) [V.bx 43 [V.sl false 5 (List.map E5 r4.2.b), V.sc (.int .i64 r4.2.i), V.sc (.int .i64 r4.2.h)]],
      (true || ((E9 r4.1).nv && nvL [V.bx 43 [V.sl false 5 (List.map E5 r4.2.b), V.sc (.int .i64 r4.2.i), V.sc (.int .i64 r4.2.h)]])) = true,
      [V.agg [V.sc (.int .i64 x1), V.sc (.string r4.1)]] = [V.agg [V.sc (.int .i64 x1), V.sc (.string r4.1)]],
      [V.agg [V.sc (.int .i64 x1), V.sc (.string r4.1)]].all V.flatE = true,
      (List.map E48 v4).length + [V.agg [V.sc (.int .i64 x1), V.sc (.string r4.1)]].length ≤ 9223372036854775807,
      ((List.map E48 v4).length + [V.agg [V.sc (.int .i64 x1), V.sc (.string r4.1)]].length) * 24 ≤ 140737488355328,
      Blk.row 48 ((List.map E48 v4) ++ [V.agg [V.sc (.int .i64 x1), V.sc (.string r4.1)]]) [] = Blk.row 48 (List.map E48 (v4 ++ [(Field.mk x1 r4.1)])) [],
      (spec_l04Draw_s4 x1 r2 p1 r3 r4 r1 v4) = (spec_l04Draw_s4 x1 r2 p1 r3 r4 r1 v4),
      Fn Tryd.prog 28 [(true, V.bx 43 [V.sl false 5 (List.map E5 r3.2.b), V.sc (.int .i64 r3.2.i), V.sc (.int .i64 r3.2.h)]), (false, E3 x1)] (E9 r4.1) [V.bx 43 [V.sl false 5 (List.map E5 r4.2.b), V.sc (.int .i64 r4.2.i), V.sc (.int .i64 r4.2.h)]],
      (true || ((E9 r4.1).nv && nvL [V.bx 43 [V.sl false 5 (List.map E5 r4.2.b), V.sc (.int .i64 r4.2.i), V.sc (.int .i64 r4.2.h)]])) = true,
      [V.agg [V.sc (.int .i64 x1), V.sc (.string r4.1)]] = [V.agg [V.sc (.int .i64 x1), V.sc (.string r4.1)]],
      [V.agg [V.sc (.int .i64 x1), V.sc (.string r4.1)]].all V.flatE = true,
      (List.map E48 v4).length + [V.agg [V.sc (.int .i64 x1), V.sc (.string r4.1)]].length ≤ 9223372036854775807,
      ((List.map E48 v4).length + [V.agg [V.sc (.int .i64 x1), V.sc (.string r4.1)]].length) * 24 ≤ 140737488355328,
      Blk.row 48 ((List.map E48 v4) ++ [V.agg [V.sc (.int .i64 x1), V.sc (.string r4.1)]]) [] = Blk.row 48 (List.map E48 (v4 ++ [(Field.mk x1 r4.1)])) [],
      (spec_l04Draw_s4 x1 r2 p1 r3 r4 r1 v4) = (spec_l04Draw_s4 x1 r2 p1 r3 r4 r1 v4),
      (spec_l04Draw_s4 x1 r2 p1 r3 r4 r1 v4) = (spec_l04Draw_s4 x1 r2 p1 r3 r4 r1 v4),
      Fn Tryd.prog 28 [(true, V.bx 43 [V.sl false 5 (List.map E5 r3.2.b), V.sc (.int .i64 r3.2.i), V.sc (.int .i64 r3.2.h)]), (false, E3 x1)] (E9 r4.1) [V.bx 43 [V.sl false 5 (List.map E5 r4.2.b), V.sc (.int .i64 r4.2.i), V.sc (.int .i64 r4.2.h)]],
      (true || ((E9 r4.1).nv && nvL [V.bx 43 [V.sl false 5 (List.map E5 r4.2.b), V.sc (.int .i64 r4.2.i), V.sc (.int .i64 r4.2.h)]])) = true,
      [V.agg [V.sc (.int .i64 x1), V.sc (.string r4.1)]] = [V.agg [V.sc (.int .i64 x1), V.sc (.string r4.1)]],
      [V.agg [V.sc (.int .i64 x1), V.sc (.string r4.1)]].all V.flatE = true,
      (List.map E48 v4).length + [V.agg [V.sc (.int .i64 x1), V.sc (.string r4.1)]].length ≤ 9223372036854775807,
      ((List.map E48 v4).length + [V.agg [V.sc (.int .i64 x1), V.sc (.string r4.1)]].length) * 24 ≤ 140737488355328,
      Blk.row 48 ((List.map E48 v4) ++ [V.agg [V.sc (.int .i64 x1), V.sc (.string r4.1)]]) [] = Blk.row 48 (List.map E48 (v4 ++ [(Field.mk x1 r4.1)])) [],
      (spec_l04Draw_s4 x1 r2 p1 r3 r4 r1 v4) = (spec_l04Draw_s4 x1 r2 p1 r3 r4 r1 v4),
      Fn Tryd.prog 28 [(true, V.bx 43 [V.sl false 5 (List.map E5 r3.2.b), V.sc (.int .i64 r3.2.i), V.sc (.int .i64 r3.2.h)]), (false, E3 x1)] (E9 r4.1) [V.bx 43 [V.sl false 5 (List.map E5 r4.2.b), V.sc (.int .i64 r4.2.i), V.sc (.int .i64 r4.2.h)]],
      (true || ((E9 r4.1).nv && nvL [V.bx 43 [V.sl false 5 (List.map E5 r4.2.b), V.sc (.int .i64 r4.2.i), V.sc (.int .i64 r4.2.h)]])) = true,
      [V.agg [V.sc (.int .i64 x1), V.sc (.string r4.1)]] = [V.agg [V.sc (.int .i64 x1), V.sc (.string r4.1)]],
      [V.agg [V.sc (.int .i64 x1), V.sc (.string r4.1)]].all V.flatE = true,
      (List.map E48 v4).length + [V.agg [V.sc (.int .i64 x1), V.sc (.string r4.1)]].length ≤ 9223372036854775807,
      ((List.map E48 v4).length + [V.agg [V.sc (.int .i64 x1), V.sc (.string r4.1)]].length) * 24 ≤ 140737488355328,
      Blk.row 48 ((List.map E48 v4) ++ [V.agg [V.sc (.int .i64 x1), V.sc (.string r4.1)]]) [] = Blk.row 48 (List.map E48 (v4 ++ [(Field.mk x1 r4.1)])) [],
      (spec_l04Draw_s4 x1 r2 p1 r3 r4 r1 v4) = (spec_l04Draw_s4 x1 r2 p1 r3 r4 r1 v4),
      (spec_l04Draw_s4 x1 r2 p1 r3 r4 r1 v4) = (spec_l04Draw_s4 x1 r2 p1 r3 r4 r1 v4),
      Fn Tryd.prog 28 [(true, V.bx 43 [V.sl false 5 (List.map E5 r3.2.b), V.sc (.int .i64 r3.2.i), V.sc (.int .i64 r3.2.h)]), (false, E3 x1)] (E9 r4.1) [V.bx 43 [V.sl false 5 (List.map E5 r4.2.b), V.sc (.int .i64 r4.2.i), V.sc (.int .i64 r4.2.h)]],
      (true || ((E9 r4.1).nv && nvL [V.bx 43 [V.sl false 5 (List.map E5 r4.2.b), V.sc (.int .i64 r4.2.i), V.sc (.int .i64 r4.2.h)]])) = true,
      [V.agg [V.sc (.int .i64 x1), V.sc (.string r4.1)]] = [V.agg [V.sc (.int .i64 x1), V.sc (.string r4.1)]],
      [V.agg [V.sc (.int .i64 x1), V.sc (.string r4.1)]].all V.flatE = true,
      (List.map E48 v4).length + [V.agg [V.sc (.int .i64 x1), V.sc (.string r4.1)]].length ≤ 9223372036854775807,
      ((List.map E48 v4).length + [V.agg [V.sc (.int .i64 x1), V.sc (.string r4.1)]].length) * 24 ≤ 140737488355328,
      Blk.row 48 ((List.map E48 v4) ++ [V.agg [V.sc (.int .i64 x1), V.sc (.string r4.1)]]) [] = Blk.row 48 (List.map E48 (v4 ++ [(Field.mk x1 r4.1)])) [],
      (spec_l04Draw_s4 x1 r2 p1 r3 r4 r1 v4) = (spec_l04Draw_s4 x1 r2 p1 r3 r4 r1 v4),
      (spec_l04Draw_s4 x1 r2 p1 r3 r4 r1 v4) = (spec_l04Draw_s4 x1 r2 p1 r3 r4 r1 v4),
      Fn Tryd.prog 28 [(true, V.bx 43 [V.sl false 5 (List.map E5 r3.2.b), V.sc (.int .i64 r3.2.i), V.sc (.int .i64 r3.2.h)]), (false, E3 x1)] (E9 r4.1) [V.bx 43 [V.sl false 5 (List.map E5 r4.2.b), V.sc (.int .i64 r4.2.i), V.sc (.int .i64 r4.2.h)]],
      (true || ((E9 r4.1).nv && nvL [V.bx 43 [V.sl false 5 (List.map E5 r4.2.b), V.sc (.int .i64 r4.2.i), V.sc (.int .i64 r4.2.h)]])) = true,
      [V.agg [V.sc (.int .i64 x1), V.sc (.string r4.1)]] = [V.agg [V.sc (.int .i64 x1), V.sc (.string r4.1)]],
      [V.agg [V.sc (.int .i64 x1), V.sc (.string r4.1)]].all V.flatE = true,
      (List.map E48 v4).length + [V.agg [V.sc (.int .i64 x1), V.sc (.string r4.1)]].length ≤ 9223372036854775807,
      ((List.map E48 v4).length + [V.agg [V.sc (.int .i64 x1), V.sc (.string r4.1)]].length) * 24 ≤ 140737488355328,
      Blk.row 48 ((List.map E48 v4) ++ [V.agg [V.sc (.int .i64 x1), V.sc (.string r4.1)]]) [] = Blk.row 48 (List.map E48 (v4 ++ [(Field.mk x1 r4.1)])) [],
      (spec_l04Draw_s4 x1 r2 p1 r3 r4 r1 v4) = (spec_l04Draw_s4 x1 r2 p1 r3 r4 r1 v4),
      Fn Tryd.prog 28 [(true, V.bx 43 [V.sl false 5 (List.map E5 r3.2.b), V.sc (.int .i64 r3.2.i), V.sc (.int .i64 r3.2.h)]), (false, E3 x1)] (E9 r4.1) [V.bx 43 [V.sl false 5 (List.map E5 r4.2.b), V.sc (.int .i64 r4.2.i), V.sc (.int .i64 r4.2.h)]],
      (true || ((E9 r4.1).nv && nvL [V.bx 43 [V.sl false 5 (List.map E5 r4.2.b), V.sc (.int .i64 r4.2.i), V.sc (.int .i64 r4.2.h)]])) = true,
      [V.agg [V.sc (.int .i64 x1), V.sc (.string r4.1)]] = [V.agg [V.sc (.int .i64 x1), V.sc (.string r4.1)]],
      [V.agg [V.sc (.int .i64 x1), V.sc (.string r4.1)]].all V.flatE = true,
      (List.map E48 v4).length + [V.agg [V.sc (.int .i64 x1), V.sc (.string r4.1)]].length ≤ 9223372036854775807,
      ((List.map E48 v4).length + [V.agg [V.sc (.int .i64 x1), V.sc (.string r4.1)]].length) * 24 ≤ 140737488355328,
      Blk.row 48 ((List.map E48 v4) ++ [V.agg [V.sc (.int .i64 x1), V.sc (.string r4.1)]]) [] = Blk.row 48 (List.map E48 (v4 ++ [(Field.mk x1 r4.1)])) [],
      (spec_l04Draw_s4 x1 r2 p1 r3 r4 r1 v4) = (spec_l04Draw_s4 x1 r2 p1 r3 r4 r1 v4),
      (spec_l04Draw_s4 x1 r2 p1 r3 r4 r1 v4) = (spec_l04Draw_s4 x1 r2 p1 r3 r4 r1 v4),
      Fn Tryd.prog 28 [(true, V.bx 43 [V.sl false 5 (List.map E5 r3.2.b), V.sc (.int .i64 r3.2.i), V.sc (.int .i64 r3.2.h)]), (false, E3 x1)] (E9 r4.1) [V.bx 43 [V.sl false 5 (List.map E5 r4.2.b), V.sc (.int .i64 r4.2.i), V.sc (.int .i64 r4.2.h)]],
      (true || ((E9 r4.1).nv && nvL [V.bx 43 [V.sl false 5 (List.map E5 r4.2.b), V.sc (.int .i64 r4.2.i), V.sc (.int .i64 r4.2.h)]])) = true,
      [V.agg [V.sc (.int .i64 x1), V.sc (.string r4.1)]] = [V.agg [V.sc (.int .i64 x1), V.sc (.string r4.1)]],
      [V.agg [V.sc (.int .i64 x1), V.sc (.string r4.1)]].all V.flatE = true,
      (List.map E48 v4).length + [V.agg [V.sc (.int .i64 x1), V.sc (.string r4.1)]].length ≤ 9223372036854775807,
      ((List.map E48 v4).length + [V.agg [V.sc (.int .i64 x1), V.sc (.string r4.1)]].length) * 24 ≤ 140737488355328,
      Blk.row 48 ((List.map E48 v4) ++ [V.agg [V.sc (.int .i64 x1), V.sc (.string r4.1)]]) [] = Blk.row 48 (List.map E48 (v4 ++ [(Field.mk x1 r4.1)])) [],
      (spec_l04Draw_s4 x1 r2 p1 r3 r4 r1 v4) = (spec_l04Draw_s4 x1 r2 p1 r3 r4 r1 v4),
      (spec_l04Draw_s4 x1 r2 p1 r3 r4 r1 v4) = (spec_l04Draw_s4 x1 r2 p1 r3 r4 r1 v4),
      Fn Tryd.prog 28 [(true, V.bx 43 [V.sl false 5 (List.map E5 r3.2.b), V.sc (.int .i64 r3.2.i), V.sc (.int .i64 r3.2.h)]), (false, E3 x1)] (E9 r4.1) [V.bx 43 [V.sl false 5 (List.map E5 r4.2.b), V.sc (.int .i64 r4.2.i), V.sc (.int .i64 r4.2.h)]],
      (true || ((E9 r4.1).nv && nvL [V.bx 43 [V.sl false 5 (List.map E5 r4.2.b), V.sc (.int .i64 r4.2.i), V.sc (.int .i64 r4.2.h)]])) = true,
      [V.agg [V.sc (.int .i64 x1), V.sc (.string r4.1)]] = [V.agg [V.sc (.int .i64 x1), V.sc (.string r4.1)]],
      [V.agg [V.sc (.int .i64 x1), V.sc (.string r4.1)]].all V.flatE = true,
      (List.map E48 v4).length + [V.agg [V.sc (.int .i64 x1), V.sc (.string r4.1)]].length ≤ 9223372036854775807,
      ((List.map E48 v4).length + [V.agg [V.sc (.int .i64 x1), V.sc (.string r4.1)]].length) * 24 ≤ 140737488355328,
      Blk.row 48 ((List.map E48 v4) ++ [V.agg [V.sc (.int .i64 x1), V.sc (.string r4.1)]]) [] = Blk.row 48 (List.map E48 (v4 ++ [(Field.mk x1 r4.1)])) [],
      (spec_l04Draw_s4 x1 r2 p1 r3 r4 r1 v4) = (spec_l04Draw_s4 x1 r2 p1 r3 r4 r1 v4),
      V.sc (.int .i64 (i64 ((p1.length : Int) + 1))) = V.sc (.int .i64 ((p1 ++ [x1]).length : Int))]) (by kernel_rfl) (cj (rng_lt h3) (cj (by omega) (cj (rng_ltI _ h3) (cj rfl (cj (rng_get _ h3) (cj (spec_l01Once_ok (l01Cur.mk v1 v2 v3) 3 r3 h5) (cj rfl (cj h6 (cj (spec_l03Text_ok r3.2 x1 r4 h7) (cj rfl (cj rfl (cj rfl (cj (cap1 (capN (by simp) h8)) (cj (cap2 (capN (by simp) h8) (by decide)) (cj (nb_app E48 v4 [(Field.mk x1 r4.1)]) (cj rfl (cj (spec_l03Text_ok r3.2 x1 r4 h7) (cj rfl (cj rfl (cj rfl (cj (cap1 (capN (by simp) h8)) (cj (cap2 (capN (by simp) h8) (by decide)) (cj (nb_app E48 v4 [(Field.mk x1 r4.1)]) (cj rfl (cj rfl (cj (spec_l03Text_ok r3.2 x1 r4 h7) (cj rfl (cj rfl (cj rfl (cj (cap1 (capN (by simp) h8)) (cj (cap2 (capN (by simp) h8) (by decide)) (cj (nb_app E48 v4 [(Field.mk x1 r4.1)]) (cj rfl (cj (spec_l03Text_ok r3.2 x1 r4 h7) (cj rfl (cj rfl (cj rfl (cj (cap1 (capN (by simp) h8)) (cj (cap2 (capN (by simp) h8) (by decide)) (cj (nb_app E48 v4 [(Field.mk x1 r4.1)]) (cj rfl (cj rfl (cj (spec_l03Text_ok r3.2 x1 r4 h7) (cj rfl (cj rfl (cj rfl (cj (cap1 (capN (by simp) h8)) (cj (cap2 (capN (by simp) h8) (by decide)) (cj (nb_app E48 v4 [(Field.mk x1 r4.1)]) (cj rfl (cj rfl (cj (spec_l03Text_ok r3.2 x1 r4 h7) (cj rfl (cj rfl (cj rfl (cj (cap1 (capN (by simp) h8)) (cj (cap2 (capN (by simp) h8) (by decide)) (cj (nb_app E48 v4 [(Field.mk x1 r4.1)]) (cj rfl (cj (spec_l03Text_ok r3.2 x1 r4 h7) (cj rfl (cj rfl (cj rfl (cj (cap1 (capN (by simp) h8)) (cj (cap2 (capN (by simp) h8) (by decide)) (cj (nb_app E48 v4 [(Field.mk x1 r4.1)]) (cj rfl (cj rfl (cj (spec_l03Text_ok r3.2 x1 r4 h7) (cj rfl (cj rfl (cj rfl (cj (cap1 (capN (by simp) h8)) (cj (cap2 (capN (by simp) h8) (by decide)) (cj (nb_app E48 v4 [(Field.mk x1 r4.1)]) (cj rfl (cj rfl (cj (spec_l03Text_ok r3.2 x1 r4 h7) (cj rfl (cj rfl (cj rfl (cj (cap1 (capN (by simp) h8)) (cj (cap2 (capN (by simp) h8) (by decide)) (cj (nb_app E48 v4 [(Field.mk x1 r4.1)]) (cj rfl (cj1 (rng_next h3 h4))))))))))))))))))))))))))))))))))))))))))))))))))))))))))))))))))))))))))))))))))))))) (spec_l04Draw_l0_ok r1 r2 h4 t1 (p1 ++ [x1]) (rng_step h3) r4.2.b r4.2.i r4.2.h (v4 ++ [(Field.mk x1 r4.1)]))) (fun h8 =>
     Pn.none))) (fun h6 =>
     LpO.go [.bit true, .el (E3 x1), .call [true, false] (E4 r3.1) [V.bx 43 [V.sl false 5 (List.map E5 r3.2.b), V.sc (.int .i64 r3.2.i), V.sc (.int .i64 r3.2.h)]], .bit false, .wait 2, .mask [0, 2, 3, 10, 11, 12], .ren [0, 1, 2, 3, 4], .nm 12 (V.sc (.int .i64 ((p1 ++ [x1]).length : Int)))] (p := [(decide ((p1.length : Int) < (r2.length : Int))) = true,
      (0 : Int) ≤ (p1.length : Int),
      ((p1.length : Int) : Int) < ((List.map E3 r2).length : Int),
      look [] ((p1.length : Int).toNat) = none,
      (List.map E3 r2)[(p1.length : Int).toNat]? = some (E3 x1),
      Fn Tryd.prog 27 [(true, V.bx 43 [V.sl false 5 (List.map E5 ((l01Cur.mk v1 v2 v3).b)), V.sc (.int .i64 ((l01Cur.mk v1 v2 v3).i)), V.sc (.int .i64 ((l01Cur.mk v1 v2 v3).h))]), (false, E3 3)] (E4 r3.1) [V.bx 43 [V.sl false 5 (List.map E5 r3.2.b), V.sc (.int .i64 r3.2.i), V.sc (.int .i64 r3.2.h)]],
      (true || ((E4 r3.1).nv && nvL [V.bx 43 [V.sl false 5 (List.map E5 r3.2.b), V.sc (.int .i64 r3.2.i), V.sc (.int .i64 r3.2.h)]])) = true,
      r3.1 = false,
      V.sc (.int .i64 (i64 ((p1.length : Int) + 1))) = V.sc (.int .i64 ((p1 ++ [x1]).length : Int))]) (by kernel_rfl) (cj (rng_lt h3) (cj (by omega) (cj (rng_ltI _ h3) (cj rfl (cj (rng_get _ h3) (cj (spec_l01Once_ok (l01Cur.mk v1 v2 v3) 3 r3 h5) (cj rfl (cj h6 (cj1 (rng_next h3 h4)))))))))) (spec_l04Draw_l0_ok r1 r2 h4 t1 (p1 ++ [x1]) (rng_step h3) r3.2.b r3.2.i r3.2.h v4)))
def spec_l04Draw (c : l01Cur) : Option (Msg × l01Cur) :=
 (spec_l01Str c [bs [48, 49, 48, 48], bs [48, 50, 48, 48], bs [48, 50, 50, 48], bs [48, 49, 49, 48], bs [48, 56, 48, 48], bs [49, 50, 51, 52], bs [48, 48, 48, 48]]).bind fun r1 =>
 (spec_FieldNos).bind fun r2 =>
 if (capOk r2.length) = true then
 (spec_l04Draw_l0 r1 r2 r2 r1.2.1.b r1.2.1.i r1.2.1.h []).bind fun r5 =>
 some ((Msg.mk r1.1 r5.2.2.2), (l01Cur.mk r5.1 r5.2.1 r5.2.2.1))
 else none
theorem spec_l04Draw_ok (c : l01Cur) : Pn (fun y => Fn Tryd.prog 12 [(true, V.bx 43 [V.sl false 5 (List.map E5 c.b), V.sc (.int .i64 c.i), V.sc (.int .i64 c.h)])] (E25 y.1) [V.bx 43 [V.sl false 5 (List.map E5 y.2.b), V.sc (.int .i64 y.2.i), V.sc (.int .i64 y.2.h)]]) (spec_l04Draw c) := by
  unfold spec_l04Draw
  exact
   Pn.bind (fun r1 h1 =>
   Pn.bind (fun r2 h2 =>
   Pn.ite (fun h9 =>
   Pn.bind (fun r5 h10 =>
   Pn.some (Fn.of [.call [true, true] (E9 r1.1) [V.bx 43 [V.sl false 5 (List.map E5 r1.2.1.b), V.sc (.int .i64 r1.2.1.i), V.sc (.int .i64 r1.2.1.h)], V.sl true 9 (List.map E9 r1.2.2)], .call [] (E35 r2) [], .wait 1, .nm 11 (V.sc (.int .i64 (r2.length : Int))), .wait 2, .mask [0, 2, 3, 10, 11, 12], .ren [0, 1, 3, 4], .ownb 2 1, .mask [0, 2, 3, 10, 11, 12], .ren [0, 1, 2, 4, 3], .loop (X.out 0) (st 30 [(2, V.ptr 1 0), (3, V.ptr 2 0)] [Blk.box 43 [V.sl false 5 (List.map E5 r5.1), V.sc (.int .i64 r5.2.1), V.sc (.int .i64 r5.2.2.1)], Blk.box 25 [V.sc (.string ByteArray.empty), V.nl 48], Blk.box 25 [V.sc (.string r1.1), V.ow 3], Blk.row 48 (List.map E48 r5.2.2.2) []] [some 0])] (p := [Fn Tryd.prog 25 [(true, V.bx 43 [V.sl false 5 (List.map E5 c.b), V.sc (.int .i64 c.i), V.sc (.int .i64 c.h)]), (true, E59 [bs [48, 49, 48, 48], bs [48, 50, 48, 48], bs [48, 50, 50, 48], bs [48, 49, 49, 48], bs [48, 56, 48, 48], bs [49, 50, 51, 52], bs [48, 48, 48, 48]])] (E9 r1.1) [V.bx 43 [V.sl false 5 (List.map E5 r1.2.1.b), V.sc (.int .i64 r1.2.1.i), V.sc (.int .i64 r1.2.1.h)], V.sl true 9 (List.map E9 r1.2.2)],
    (true || ((E9 r1.1).nv && nvL [V.bx 43 [V.sl false 5 (List.map E5 r1.2.1.b), V.sc (.int .i64 r1.2.1.i), V.sc (.int .i64 r1.2.1.h)], V.sl true 9 (List.map E9 r1.2.2)])) = true,
    Fn Tryd.prog 26 [] (E35 r2) [],
    (true || ((E35 r2).nv && nvL [])) = true,
    V.sc (.int .i64 ((List.map E3 r2).length : Int)) = V.sc (.int .i64 (r2.length : Int)),
    Loop Tryd.prog (sub (codeOf Tryd.prog 12) [1, 1, 0, 1, 0, 0]) (st 30 [(0, V.ptr 0 0), (2, V.ptr 1 0), (3, V.ptr 2 0), (10, V.ow 4), (11, V.sc (.int .i64 (r2.length : Int))), (12, V.sc (.int .i64 0))] [Blk.box 43 [V.sl false 5 (List.map E5 r1.2.1.b), V.sc (.int .i64 r1.2.1.i), V.sc (.int .i64 r1.2.1.h)], Blk.box 25 [V.sc (.string ByteArray.empty), V.nl 48], Blk.box 25 [V.sc (.string r1.1), V.ow 3], Blk.row 48 ([] : List V) [], Blk.row 3 (List.map E3 r2) []] [some 0]) (X.out 0) (st 30 [(2, V.ptr 1 0), (3, V.ptr 2 0)] [Blk.box 43 [V.sl false 5 (List.map E5 r5.1), V.sc (.int .i64 r5.2.1), V.sc (.int .i64 r5.2.2.1)], Blk.box 25 [V.sc (.string ByteArray.empty), V.nl 48], Blk.box 25 [V.sc (.string r1.1), V.ow 3], Blk.row 48 (List.map E48 r5.2.2.2) []] [some 0])]) (by kernel_rfl) (cj (spec_l01Str_ok c [bs [48, 49, 48, 48], bs [48, 50, 48, 48], bs [48, 50, 50, 48], bs [48, 49, 49, 48], bs [48, 56, 48, 48], bs [49, 50, 51, 52], bs [48, 48, 48, 48]] r1 h1) (cj rfl (cj (spec_FieldNos_ok  r2 h2) (cj rfl (cj (len_nm _ _) (cj1 (spec_l04Draw_l0_ok r1 r2 h9 r2 [] rfl r1.2.1.b r1.2.1.i r1.2.1.h [] r5 h10)))))))))) (fun h9 =>
   Pn.none)))
def spec_MakeMsg (code : List Int) : Option (Msg) :=
 (spec_l01New code).bind fun r1 =>
 (spec_l04Draw r1).bind fun r2 =>
 some r2.1
theorem spec_MakeMsg_ok (code : List Int) : Pn (fun y => Fn Tryd.prog 4 [(false, E22 code)] (E25 y) []) (spec_MakeMsg code) := by
  unfold spec_MakeMsg
  exact
   Pn.bind (fun r1 h1 =>
   Pn.bind (fun r2 h2 =>
   Pn.some (Fn.of [.call [] (V.bx 43 [V.sl false 5 (List.map E5 r1.b), V.sc (.int .i64 r1.i), V.sc (.int .i64 r1.h)]) [], .call [true] (E25 r2.1) [V.bx 43 [V.sl false 5 (List.map E5 r2.2.b), V.sc (.int .i64 r2.2.i), V.sc (.int .i64 r2.2.h)]]] (p := [Fn Tryd.prog 11 [(false, E22 code)] (V.bx 43 [V.sl false 5 (List.map E5 r1.b), V.sc (.int .i64 r1.i), V.sc (.int .i64 r1.h)]) [],
    (true || ((V.bx 43 [V.sl false 5 (List.map E5 r1.b), V.sc (.int .i64 r1.i), V.sc (.int .i64 r1.h)]).nv && nvL [])) = true,
    Fn Tryd.prog 12 [(true, V.bx 43 [V.sl false 5 (List.map E5 r1.b), V.sc (.int .i64 r1.i), V.sc (.int .i64 r1.h)])] (E25 r2.1) [V.bx 43 [V.sl false 5 (List.map E5 r2.2.b), V.sc (.int .i64 r2.2.i), V.sc (.int .i64 r2.2.h)]],
    (true || ((E25 r2.1).nv && nvL [V.bx 43 [V.sl false 5 (List.map E5 r2.2.b), V.sc (.int .i64 r2.2.i), V.sc (.int .i64 r2.2.h)]])) = true]) (by kernel_rfl) (cj (spec_l01New_ok code r1 h1) (cj rfl (cj (spec_l04Draw_ok r1 r2 h2) (cj1 rfl)))))))
def spec_MakeNum (code : List Int) (n : Int) : Option (Int) :=
 (spec_l01New code).bind fun r1 =>
 (spec_l01Below (l01Cur.mk r1.b r1.i (i64 (r1.h + 777))) n).bind fun r2 =>
 some r2.1
theorem spec_MakeNum_ok (code : List Int) (n : Int) : Pn (fun y => Fn Tryd.prog 5 [(false, E22 code), (false, E3 n)] (E3 y) []) (spec_MakeNum code n) := by
  unfold spec_MakeNum
  exact
   Pn.bind (fun r1 h1 =>
   Pn.bind (fun r2 h2 =>
   Pn.some (Fn.of [.call [] (V.bx 43 [V.sl false 5 (List.map E5 r1.b), V.sc (.int .i64 r1.i), V.sc (.int .i64 r1.h)]) [], .call [true, false] (E3 r2.1) [V.bx 43 [V.sl false 5 (List.map E5 r2.2.b), V.sc (.int .i64 r2.2.i), V.sc (.int .i64 r2.2.h)]]] (p := [Fn Tryd.prog 11 [(false, E22 code)] (V.bx 43 [V.sl false 5 (List.map E5 r1.b), V.sc (.int .i64 r1.i), V.sc (.int .i64 r1.h)]) [],
    (true || ((V.bx 43 [V.sl false 5 (List.map E5 r1.b), V.sc (.int .i64 r1.i), V.sc (.int .i64 r1.h)]).nv && nvL [])) = true,
    Fn Tryd.prog 13 [(true, V.bx 43 [V.sl false 5 (List.map E5 ((l01Cur.mk r1.b r1.i (i64 (r1.h + 777))).b)), V.sc (.int .i64 ((l01Cur.mk r1.b r1.i (i64 (r1.h + 777))).i)), V.sc (.int .i64 ((l01Cur.mk r1.b r1.i (i64 (r1.h + 777))).h))]), (false, E3 n)] (E3 r2.1) [V.bx 43 [V.sl false 5 (List.map E5 r2.2.b), V.sc (.int .i64 r2.2.i), V.sc (.int .i64 r2.2.h)]],
    (true || ((E3 r2.1).nv && nvL [V.bx 43 [V.sl false 5 (List.map E5 r2.2.b), V.sc (.int .i64 r2.2.i), V.sc (.int .i64 r2.2.h)]])) = true]) (by kernel_rfl) (cj (spec_l01New_ok code r1 h1) (cj rfl (cj (spec_l01Below_ok (l01Cur.mk r1.b r1.i (i64 (r1.h + 777))) n r2 h2) (cj1 rfl)))))))
def impl_fieldRows  : Option ((List fieldRow)) :=
 some [(fieldRow.mk 2 3 19), (fieldRow.mk 3 1 6), (fieldRow.mk 4 1 12), (fieldRow.mk 7 1 10), (fieldRow.mk 11 1 6), (fieldRow.mk 14 1 4), (fieldRow.mk 37 2 12), (fieldRow.mk 38 2 6), (fieldRow.mk 39 2 2), (fieldRow.mk 41 2 8), (fieldRow.mk 48 5 60), (fieldRow.mk 49 1 3), (fieldRow.mk 54 5 60), (fieldRow.mk 95 2 12), (fieldRow.mk 102 4 20), (fieldRow.mk 103 4 20)]
theorem impl_fieldRows_ok  : Pn (fun y => Fn Tryd.prog 58 [] (E97 y) []) (impl_fieldRows) := by
  unfold impl_fieldRows
  exact
   Pn.some (Fn.of [] (p := []) (by kernel_rfl) trivial)
def impl_rowOf_l0 (no : Int) (r1 : (List fieldRow)) : List fieldRow → Option (Lo Unit (Int × Int × Int))
  | [] =>
   some (.out ())
  | x1 :: t1 =>
   if (x1.no == no) = true then
   some (.ret (x1.no, x1.kind, x1.size))
   else
   impl_rowOf_l0 no r1 t1
theorem impl_rowOf_l0_ok (no : Int) (r1 : (List fieldRow)) (h3 : capOk r1.length = true) : ∀ (t1 p1 : List fieldRow) (_ : r1 = p1 ++ t1) , Pn (LpO Tryd.prog (sub (codeOf Tryd.prog 47) [1, 0, 1, 0, 0]) (st 18 [(0, V.sc (.int .i64 no)), (2, V.ptr 0 0), (5, V.ow 1), (6, V.sc (.int .i64 (r1.length : Int))), (7, V.sc (.int .i64 (p1.length : Int)))] [Blk.box 78 [V.sc (.int .i64 0), V.sc (.int .i64 0), V.sc (.int .i64 0)], Blk.row 78 (List.map E78 r1) []] []) (fun (y : Lo Unit (Int × Int × Int)) => Lo.elim y (fun s => (X.out 0, st 18 [(2, V.ptr 0 0)] [Blk.box 78 [V.sc (.int .i64 0), V.sc (.int .i64 0), V.sc (.int .i64 0)]] [])) (fun s => (X.ret, st 18 [(2, V.ptr 0 0)] [Blk.box 78 [V.sc (.int .i64 s.1), V.sc (.int .i64 s.2.1), V.sc (.int .i64 s.2.2)]] [])))) (impl_rowOf_l0 no r1 t1)
  | [], p1, h2 => by
    unfold impl_rowOf_l0
    exact
     Pn.some (LpO.out [.bit false, .mask [2], .ren [0]] (p := [(decide ((p1.length : Int) < (r1.length : Int))) = false]) (by kernel_rfl) (show X.out 0 ≠ X.go from nofun) (cj1 (rng_end h2)))
  | x1 :: t1, p1, h2 => by
    unfold impl_rowOf_l0
    exact
     Pn.ite (fun h4 =>
     Pn.some (LpO.out [.bit true, .el (E78 x1), .bit true, .wait 2, .mask [2], .ren [0]] (p := [(decide ((p1.length : Int) < (r1.length : Int))) = true,
      (0 : Int) ≤ (p1.length : Int),
      ((p1.length : Int) : Int) < ((List.map E78 r1).length : Int),
      look [] ((p1.length : Int).toNat) = none,
      (List.map E78 r1)[(p1.length : Int).toNat]? = some (E78 x1),
      (x1.no == no) = true]) (by kernel_rfl) (show X.ret ≠ X.go from nofun) (cj (rng_lt h2) (cj (by omega) (cj (rng_ltI _ h2) (cj rfl (cj (rng_get _ h2) (cj1 h4)))))))) (fun h4 =>
     LpO.go [.bit true, .el (E78 x1), .bit false, .wait 2, .mask [0, 2, 5, 6, 7], .ren [0, 1], .nm 7 (V.sc (.int .i64 ((p1 ++ [x1]).length : Int)))] (p := [(decide ((p1.length : Int) < (r1.length : Int))) = true,
      (0 : Int) ≤ (p1.length : Int),
      ((p1.length : Int) : Int) < ((List.map E78 r1).length : Int),
      look [] ((p1.length : Int).toNat) = none,
      (List.map E78 r1)[(p1.length : Int).toNat]? = some (E78 x1),
      (x1.no == no) = false,
      V.sc (.int .i64 (i64 ((p1.length : Int) + 1))) = V.sc (.int .i64 ((p1 ++ [x1]).length : Int))]) (by kernel_rfl) (cj (rng_lt h2) (cj (by omega) (cj (rng_ltI _ h2) (cj rfl (cj (rng_get _ h2) (cj h4 (cj1 (rng_next h2 h3)))))))) (impl_rowOf_l0_ok no r1 h3 t1 (p1 ++ [x1]) (rng_step h2)))
def impl_rowOf (no : Int) : Option (fieldRow) :=
 (impl_fieldRows).bind fun r1 =>
 if (capOk r1.length) = true then
 (impl_rowOf_l0 no r1 r1).bind fun r2 =>
 Lo.elim r2 (fun s1 =>
 some (fieldRow.mk 0 0 0)) (fun s2 =>
 some (fieldRow.mk s2.1 s2.2.1 s2.2.2))
 else none
theorem impl_rowOf_ok (no : Int) : Pn (fun y => Fn Tryd.prog 47 [(false, E3 no)] (E78 y) []) (impl_rowOf no) := by
  unfold impl_rowOf
  exact
   Pn.bind (fun r1 h1 =>
   Pn.ite (fun h5 =>
   Pn.bind (fun r2 h6 =>
   Pn.lo (fun s1 h7 =>
   Pn.some (Fn.of [.call [] (E97 r1) [], .wait 1, .nm 6 (V.sc (.int .i64 (r1.length : Int))), .wait 2, .mask [0, 2, 5, 6, 7], .ren [0, 1], .loop (X.out 0) (st 18 [(2, V.ptr 0 0)] [Blk.box 78 [V.sc (.int .i64 0), V.sc (.int .i64 0), V.sc (.int .i64 0)]] [])] (p := [Fn Tryd.prog 58 [] (E97 r1) [],
    (true || ((E97 r1).nv && nvL [])) = true,
    V.sc (.int .i64 ((List.map E78 r1).length : Int)) = V.sc (.int .i64 (r1.length : Int)),
    Loop Tryd.prog (sub (codeOf Tryd.prog 47) [1, 0, 1, 0, 0]) (st 18 [(0, V.sc (.int .i64 no)), (2, V.ptr 0 0), (5, V.ow 1), (6, V.sc (.int .i64 (r1.length : Int))), (7, V.sc (.int .i64 0))] [Blk.box 78 [V.sc (.int .i64 0), V.sc (.int .i64 0), V.sc (.int .i64 0)], Blk.row 78 (List.map E78 r1) []] []) (X.out 0) (st 18 [(2, V.ptr 0 0)] [Blk.box 78 [V.sc (.int .i64 0), V.sc (.int .i64 0), V.sc (.int .i64 0)]] [])]) (by kernel_rfl) (cj (impl_fieldRows_ok  r1 h1) (cj rfl (cj (len_nm _ _) (cj1 ((impl_rowOf_l0_ok no r1 h5 r1 [] rfl r2 h6).at h7))))))) (fun s2 h8 =>
   Pn.some (Fn.of [.call [] (E97 r1) [], .wait 1, .nm 6 (V.sc (.int .i64 (r1.length : Int))), .wait 2, .mask [0, 2, 5, 6, 7], .ren [0, 1], .loop (X.ret) (st 18 [(2, V.ptr 0 0)] [Blk.box 78 [V.sc (.int .i64 s2.1), V.sc (.int .i64 s2.2.1), V.sc (.int .i64 s2.2.2)]] [])] (p := [Fn Tryd.prog 58 [] (E97 r1) [],
    (true || ((E97 r1).nv && nvL [])) = true,
    V.sc (.int .i64 ((List.map E78 r1).length : Int)) = V.sc (.int .i64 (r1.length : Int)),
    Loop Tryd.prog (sub (codeOf Tryd.prog 47) [1, 0, 1, 0, 0]) (st 18 [(0, V.sc (.int .i64 no)), (2, V.ptr 0 0), (5, V.ow 1), (6, V.sc (.int .i64 (r1.length : Int))), (7, V.sc (.int .i64 0))] [Blk.box 78 [V.sc (.int .i64 0), V.sc (.int .i64 0), V.sc (.int .i64 0)], Blk.row 78 (List.map E78 r1) []] []) (X.ret) (st 18 [(2, V.ptr 0 0)] [Blk.box 78 [V.sc (.int .i64 s2.1), V.sc (.int .i64 s2.2.1), V.sc (.int .i64 s2.2.2)]] [])]) (by kernel_rfl) (cj (impl_fieldRows_ok  r1 h1) (cj rfl (cj (len_nm _ _) (cj1 ((impl_rowOf_l0_ok no r1 h5 r1 [] rfl r2 h6).at h8))))))))) (fun h5 =>
   Pn.none))
def impl_Digits_l0 (s_ : ByteArray) : Nat → Int → Option (Lo Unit Unit)
  | 0, _ => none
  | fuel + 1, v1 =>
   if (decide (v1 < (s_.size : Int))) = true then
   if (decide (0 ≤ v1)) = true then
   if (decide ((v1 : Int) < (s_.size : Int))) = true then
   if (decide ((sAt s_ v1) < 48)) = true then
   some (.ret ())
   else
   if (decide (57 < (sAt s_ v1))) = true then
   some (.ret ())
   else
   impl_Digits_l0 s_ fuel (i64 (v1 + 1))
   else none
   else none
   else
   some (.out ())
theorem impl_Digits_l0_ok (s_ : ByteArray) : ∀ (fuel : Nat) (v1 : Int), Pn (LpO Tryd.prog (sub (codeOf Tryd.prog 39) [1, 0, 1, 0, 0]) (st 22 [(0, V.sc (.string s_)), (5, V.sc (.int .i64 (s_.size : Int))), (6, V.sc (.int .i64 v1))] [] []) (fun (y : Lo Unit Unit) => Lo.elim y (fun s => (X.out 0, st 22 [(0, V.sc (.string s_))] [] [])) (fun s => (X.ret, st 22 [(2, V.sc (.bool false))] [] [])))) (impl_Digits_l0 s_ fuel v1)
  | 0, _ => Pn.none
  | fuel + 1, v1 => by
    unfold impl_Digits_l0
    exact
     Pn.ite (fun h1 =>
     Pn.ite (fun h2 =>
     Pn.ite (fun h3 =>
     Pn.ite (fun h4 =>
     Pn.some (LpO.out [.bit true, .bit true, .bit true, .bit true, .bit true, .bit true, .bit true, .wait 1, .mask [2], .ren []] (p := [(decide (v1 < (s_.size : Int))) = true,
      (0 : Int) ≤ v1,
      (v1 : Int) < s_.size,
      (decide ((sAt s_ v1) < 48)) = true,
      (decide ((sAt s_ v1) < 48)) = true,
      (decide ((sAt s_ v1) < 48)) = true,
      (decide ((sAt s_ v1) < 48)) = true,
      (decide ((sAt s_ v1) < 48)) = true,
      true = true]) (by kernel_rfl) (show X.ret ≠ X.go from nofun) (cj h1 (cj (od h2) (cj (od h3) (cj h4 (cj h4 (cj h4 (cj h4 (cj h4 (cj1 rfl))))))))))) (fun h4 =>
     Pn.ite (fun h5 =>
     Pn.some (LpO.out [.bit true, .bit false, .bit false, .bit false, .bit false, .bit false, .bit true, .wait 1, .mask [2], .ren []] (p := [(decide (v1 < (s_.size : Int))) = true,
      (0 : Int) ≤ v1,
      (v1 : Int) < s_.size,
      (decide ((sAt s_ v1) < 48)) = false,
      (decide ((sAt s_ v1) < 48)) = false,
      (decide ((sAt s_ v1) < 48)) = false,
      (0 : Int) ≤ v1,
      (v1 : Int) < s_.size,
      (decide ((sAt s_ v1) < 48)) = false,
      (decide ((sAt s_ v1) < 48)) = false,
      (decide (57 < (sAt s_ v1))) = true]) (by kernel_rfl) (show X.ret ≠ X.go from nofun) (cj h1 (cj (od h2) (cj (od h3) (cj h4 (cj h4 (cj h4 (cj (od h2) (cj (od h3) (cj h4 (cj h4 (cj1 h5))))))))))))) (fun h5 =>
     LpO.go [.bit true, .bit false, .bit false, .bit false, .bit false, .bit false, .bit false, .wait 2, .mask [0, 5, 6], .ren []] (p := [(decide (v1 < (s_.size : Int))) = true,
      (0 : Int) ≤ v1,
      (v1 : Int) < s_.size,
      (decide ((sAt s_ v1) < 48)) = false,
      (decide ((sAt s_ v1) < 48)) = false,
      (decide ((sAt s_ v1) < 48)) = false,
      (0 : Int) ≤ v1,
      (v1 : Int) < s_.size,
      (decide ((sAt s_ v1) < 48)) = false,
      (decide ((sAt s_ v1) < 48)) = false,
      (decide (57 < (sAt s_ v1))) = false]) (by kernel_rfl) (cj h1 (cj (od h2) (cj (od h3) (cj h4 (cj h4 (cj h4 (cj (od h2) (cj (od h3) (cj h4 (cj h4 (cj1 h5))))))))))) (impl_Digits_l0_ok s_ fuel (i64 (v1 + 1)))))) (fun h3 =>
     Pn.none)) (fun h2 =>
     Pn.none)) (fun h1 =>
     Pn.some (LpO.out [.bit false, .mask [0], .ren []] (p := [(decide (v1 < (s_.size : Int))) = false]) (by kernel_rfl) (show X.out 0 ≠ X.go from nofun) (cj1 h1)))
def impl_Digits (s_ : ByteArray) : Option (Bool) :=
 (impl_Digits_l0 s_ FUEL 0).bind fun r1 =>
 Lo.elim r1 (fun s1 =>
 some (!(s_ == (bs [])))) (fun s2 =>
 some false)
theorem impl_Digits_ok (s_ : ByteArray) : Pn (fun y => Fn Tryd.prog 39 [(false, E9 s_)] (E4 y) []) (impl_Digits s_) := by
  unfold impl_Digits
  exact
   Pn.bind (fun r1 h6 =>
   Pn.lo (fun s1 h7 =>
   Pn.some (Fn.of [.wait 5, .mask [0, 5, 6], .ren [], .loop (X.out 0) (st 22 [(0, V.sc (.string s_))] [] [])] (p := [Loop Tryd.prog (sub (codeOf Tryd.prog 39) [1, 0, 1, 0, 0]) (st 22 [(0, V.sc (.string s_)), (5, V.sc (.int .i64 (s_.size : Int))), (6, V.sc (.int .i64 0))] [] []) (X.out 0) (st 22 [(0, V.sc (.string s_))] [] [])]) (by kernel_rfl) (cj1 ((impl_Digits_l0_ok s_ FUEL 0 r1 h6).at h7)))) (fun s2 h8 =>
   Pn.some (Fn.of [.wait 5, .mask [0, 5, 6], .ren [], .loop (X.ret) (st 22 [(2, V.sc (.bool false))] [] [])] (p := [Loop Tryd.prog (sub (codeOf Tryd.prog 39) [1, 0, 1, 0, 0]) (st 22 [(0, V.sc (.string s_)), (5, V.sc (.int .i64 (s_.size : Int))), (6, V.sc (.int .i64 0))] [] []) (X.ret) (st 22 [(2, V.sc (.bool false))] [] [])]) (by kernel_rfl) (cj1 ((impl_Digits_l0_ok s_ FUEL 0 r1 h6).at h8)))))
def impl_Printable_l0 (s_ : ByteArray) : Nat → Int → Option (Lo Unit Unit)
  | 0, _ => none
  | fuel + 1, v1 =>
   if (decide (v1 < (s_.size : Int))) = true then
   if (decide (0 ≤ v1)) = true then
   if (decide ((v1 : Int) < (s_.size : Int))) = true then
   if (decide ((sAt s_ v1) < 32)) = true then
   some (.ret ())
   else
   if (decide (126 < (sAt s_ v1))) = true then
   some (.ret ())
   else
   impl_Printable_l0 s_ fuel (i64 (v1 + 1))
   else none
   else none
   else
   some (.out ())
theorem impl_Printable_l0_ok (s_ : ByteArray) : ∀ (fuel : Nat) (v1 : Int), Pn (LpO Tryd.prog (sub (codeOf Tryd.prog 48) [1, 0, 1, 0, 0]) (st 20 [(0, V.sc (.string s_)), (5, V.sc (.int .i64 (s_.size : Int))), (6, V.sc (.int .i64 v1))] [] []) (fun (y : Lo Unit Unit) => Lo.elim y (fun s => (X.out 0, st 20 [] [] [])) (fun s => (X.ret, st 20 [(2, V.sc (.bool false))] [] [])))) (impl_Printable_l0 s_ fuel v1)
  | 0, _ => Pn.none
  | fuel + 1, v1 => by
    unfold impl_Printable_l0
    exact
     Pn.ite (fun h1 =>
     Pn.ite (fun h2 =>
     Pn.ite (fun h3 =>
     Pn.ite (fun h4 =>
     Pn.some (LpO.out [.bit true, .bit true, .bit true, .bit true, .bit true, .bit true, .bit true, .wait 1, .mask [2], .ren []] (p := [(decide (v1 < (s_.size : Int))) = true,
      (0 : Int) ≤ v1,
      (v1 : Int) < s_.size,
      (decide ((sAt s_ v1) < 32)) = true,
      (decide ((sAt s_ v1) < 32)) = true,
      (decide ((sAt s_ v1) < 32)) = true,
      (decide ((sAt s_ v1) < 32)) = true,
      (decide ((sAt s_ v1) < 32)) = true,
      true = true]) (by kernel_rfl) (show X.ret ≠ X.go from nofun) (cj h1 (cj (od h2) (cj (od h3) (cj h4 (cj h4 (cj h4 (cj h4 (cj h4 (cj1 rfl))))))))))) (fun h4 =>
     Pn.ite (fun h5 =>
     Pn.some (LpO.out [.bit true, .bit false, .bit false, .bit false, .bit false, .bit false, .bit true, .wait 1, .mask [2], .ren []] (p := [(decide (v1 < (s_.size : Int))) = true,
      (0 : Int) ≤ v1,
      (v1 : Int) < s_.size,
      (decide ((sAt s_ v1) < 32)) = false,
      (decide ((sAt s_ v1) < 32)) = false,
      (decide ((sAt s_ v1) < 32)) = false,
      (0 : Int) ≤ v1,
      (v1 : Int) < s_.size,
      (decide ((sAt s_ v1) < 32)) = false,
      (decide ((sAt s_ v1) < 32)) = false,
      (decide (126 < (sAt s_ v1))) = true]) (by kernel_rfl) (show X.ret ≠ X.go from nofun) (cj h1 (cj (od h2) (cj (od h3) (cj h4 (cj h4 (cj h4 (cj (od h2) (cj (od h3) (cj h4 (cj h4 (cj1 h5))))))))))))) (fun h5 =>
     LpO.go [.bit true, .bit false, .bit false, .bit false, .bit false, .bit false, .bit false, .wait 2, .mask [0, 5, 6], .ren []] (p := [(decide (v1 < (s_.size : Int))) = true,
      (0 : Int) ≤ v1,
      (v1 : Int) < s_.size,
      (decide ((sAt s_ v1) < 32)) = false,
      (decide ((sAt s_ v1) < 32)) = false,
      (decide ((sAt s_ v1) < 32)) = false,
      (0 : Int) ≤ v1,
      (v1 : Int) < s_.size,
      (decide ((sAt s_ v1) < 32)) = false,
      (decide ((sAt s_ v1) < 32)) = false,
      (decide (126 < (sAt s_ v1))) = false]) (by kernel_rfl) (cj h1 (cj (od h2) (cj (od h3) (cj h4 (cj h4 (cj h4 (cj (od h2) (cj (od h3) (cj h4 (cj h4 (cj1 h5))))))))))) (impl_Printable_l0_ok s_ fuel (i64 (v1 + 1)))))) (fun h3 =>
     Pn.none)) (fun h2 =>
     Pn.none)) (fun h1 =>
     Pn.some (LpO.out [.bit false, .mask [], .ren []] (p := [(decide (v1 < (s_.size : Int))) = false]) (by kernel_rfl) (show X.out 0 ≠ X.go from nofun) (cj1 h1)))
def impl_Printable (s_ : ByteArray) : Option (Bool) :=
 (impl_Printable_l0 s_ FUEL 0).bind fun r1 =>
 Lo.elim r1 (fun s1 =>
 some true) (fun s2 =>
 some false)
theorem impl_Printable_ok (s_ : ByteArray) : Pn (fun y => Fn Tryd.prog 48 [(false, E9 s_)] (E4 y) []) (impl_Printable s_) := by
  unfold impl_Printable
  exact
   Pn.bind (fun r1 h6 =>
   Pn.lo (fun s1 h7 =>
   Pn.some (Fn.of [.wait 5, .mask [0, 5, 6], .ren [], .loop (X.out 0) (st 20 [] [] [])] (p := [Loop Tryd.prog (sub (codeOf Tryd.prog 48) [1, 0, 1, 0, 0]) (st 20 [(0, V.sc (.string s_)), (5, V.sc (.int .i64 (s_.size : Int))), (6, V.sc (.int .i64 0))] [] []) (X.out 0) (st 20 [] [] [])]) (by kernel_rfl) (cj1 ((impl_Printable_l0_ok s_ FUEL 0 r1 h6).at h7)))) (fun s2 h8 =>
   Pn.some (Fn.of [.wait 5, .mask [0, 5, 6], .ren [], .loop (X.ret) (st 20 [(2, V.sc (.bool false))] [] [])] (p := [Loop Tryd.prog (sub (codeOf Tryd.prog 48) [1, 0, 1, 0, 0]) (st 20 [(0, V.sc (.string s_)), (5, V.sc (.int .i64 (s_.size : Int))), (6, V.sc (.int .i64 0))] [] []) (X.ret) (st 20 [(2, V.sc (.bool false))] [] [])]) (by kernel_rfl) (cj1 ((impl_Printable_l0_ok s_ FUEL 0 r1 h6).at h8)))))
def impl_within (n : Int) (low : Int) (high : Int) : Option (Bool) :=
 if (decide (low ≤ n)) = true then
 some (decide (n ≤ high))
 else
 some false
theorem impl_within_ok (n : Int) (low : Int) (high : Int) : Pn (fun y => Fn Tryd.prog 32 [(false, E3 n), (false, E3 low), (false, E3 high)] (E4 y) []) (impl_within n low high) := by
  unfold impl_within
  exact
   Pn.ite (fun h1 =>
   Pn.some (Fn.of [.bit true, .bit true, .bit true, .bit true] (p := [(decide (low ≤ n)) = true,
    (decide (low ≤ n)) = true,
    (decide (low ≤ n)) = true,
    (decide (low ≤ n)) = true]) (by kernel_rfl) (cj h1 (cj h1 (cj h1 (cj1 h1)))))) (fun h1 =>
   Pn.some (Fn.of [.bit false, .bit false, .bit false, .bit false] (p := [(decide (low ≤ n)) = false,
    (decide (low ≤ n)) = false,
    (decide (low ≤ n)) = false,
    (decide (low ≤ n)) = false]) (by kernel_rfl) (cj h1 (cj h1 (cj h1 (cj1 h1))))))
def impl_FieldOk_c1 (s_ : ByteArray) (r1 : fieldRow) : Option (Bool) :=
 if (r1.kind == 4) = true then
 some (r1.kind == 4)
 else
 some (r1.kind == 5)
theorem impl_FieldOk_c1_ok (s_ : ByteArray) (r1 : fieldRow) : Pn (JnO Tryd.prog (sub (codeOf Tryd.prog 30) [1, 1, 0, 1, 0, 1, 1, 1, 1, 1, 1, 0]) (st 55 [(1, V.sc (.string s_)), (5, V.ptr 0 0), (9, V.sc (.int .i64 r1.kind))] [Blk.box 78 [V.sc (.int .i64 r1.no), V.sc (.int .i64 r1.kind), V.sc (.int .i64 r1.size)]] []) (fun (y : Bool) => (X.go, st 55 [(1, V.sc (.string s_)), (5, V.ptr 0 0), (43, V.sc (.bool y))] [Blk.box 78 [V.sc (.int .i64 r1.no), V.sc (.int .i64 r1.kind), V.sc (.int .i64 r1.size)]] []))) (impl_FieldOk_c1 s_ r1) := by
  unfold impl_FieldOk_c1
  exact
   Pn.ite (fun h12 =>
   Pn.some (JnO.of [.bit true, .mask [1, 5, 43], .ren [0]] (p := [(r1.kind == 4) = true]) (by kernel_rfl) (cj1 h12))) (fun h12 =>
   Pn.some (JnO.of [.bit false, .wait 2, .mask [1, 5, 43], .ren [0]] (p := [(r1.kind == 4) = false]) (by kernel_rfl) (cj1 h12)))
def impl_FieldOk_c0 (s_ : ByteArray) (r1 : fieldRow) : Option (Lo Unit Bool) :=
 if (r1.kind == 1) = true then
 (impl_Digits s_).bind fun r2 =>
 if r2 = true then
 some (.ret ((s_.size : Int) == r1.size))
 else
 some (.ret false)
 else
 if (r1.kind == 2) = true then
 (impl_Printable s_).bind fun r3 =>
 if r3 = true then
 some (.ret ((s_.size : Int) == r1.size))
 else
 some (.ret false)
 else
 if (r1.kind == 3) = true then
 (impl_Digits s_).bind fun r4 =>
 if r4 = true then
 (impl_within (s_.size : Int) 1 r1.size).bind fun r5 =>
 some (.ret r5)
 else
 some (.ret false)
 else
 (impl_FieldOk_c1 s_ r1).bind fun r6 =>
 if r6 = true then
 (impl_Printable s_).bind fun r7 =>
 if r7 = true then
 (impl_within (s_.size : Int) 1 r1.size).bind fun r8 =>
 some (.ret r8)
 else
 some (.ret false)
 else
 some (.out ())
theorem impl_FieldOk_c0_ok (s_ : ByteArray) (r1 : fieldRow) : Pn (JnO Tryd.prog (sub (codeOf Tryd.prog 30) [1, 1, 0]) (st 55 [(1, V.sc (.string s_)), (5, V.ptr 0 0)] [Blk.box 78 [V.sc (.int .i64 r1.no), V.sc (.int .i64 r1.kind), V.sc (.int .i64 r1.size)]] []) (fun (y : Lo Unit Bool) => Lo.elim y (fun s => (X.go, st 55 [] [] [])) (fun s => (X.ret, st 55 [(4, V.sc (.bool s))] [] [])))) (impl_FieldOk_c0 s_ r1) := by
  unfold impl_FieldOk_c0
  exact
   Pn.ite (fun h2 =>
   Pn.bind (fun r2 h3 =>
   Pn.ite (fun h4 =>
   Pn.some (JnO.of [.bit true, .call [] (E4 r2) [], .bit true, .bit true, .bit true, .bit true, .bit true, .bit true, .wait 2, .mask [4], .ren []] (p := [(r1.kind == 1) = true,
    Fn Tryd.prog 39 [(false, E9 s_)] (E4 r2) [],
    (true || ((E4 r2).nv && nvL [])) = true,
    r2 = true,
    r2 = true,
    r2 = true,
    r2 = true,
    r2 = true,
    r2 = true]) (by kernel_rfl) (cj h2 (cj (impl_Digits_ok s_ r2 h3) (cj rfl (cj h4 (cj h4 (cj h4 (cj h4 (cj h4 (cj1 h4))))))))))) (fun h4 =>
   Pn.some (JnO.of [.bit true, .call [] (E4 r2) [], .bit false, .bit false, .bit false, .bit false, .bit false, .bit false, .wait 2, .mask [4], .ren []] (p := [(r1.kind == 1) = true,
    Fn Tryd.prog 39 [(false, E9 s_)] (E4 r2) [],
    (true || ((E4 r2).nv && nvL [])) = true,
    r2 = false,
    r2 = false,
    r2 = false,
    r2 = false,
    r2 = false,
    r2 = false]) (by kernel_rfl) (cj h2 (cj (impl_Digits_ok s_ r2 h3) (cj rfl (cj h4 (cj h4 (cj h4 (cj h4 (cj h4 (cj1 h4))))))))))))) (fun h2 =>
   Pn.ite (fun h5 =>
   Pn.bind (fun r3 h6 =>
   Pn.ite (fun h7 =>
   Pn.some (JnO.of [.bit false, .bit true, .call [] (E4 r3) [], .bit true, .bit true, .bit true, .bit true, .bit true, .bit true, .wait 2, .mask [4], .ren []] (p := [(r1.kind == 1) = false,
    (r1.kind == 2) = true,
    Fn Tryd.prog 48 [(false, E9 s_)] (E4 r3) [],
    (true || ((E4 r3).nv && nvL [])) = true,
    r3 = true,
    r3 = true,
    r3 = true,
    r3 = true,
    r3 = true,
    r3 = true]) (by kernel_rfl) (cj h2 (cj h5 (cj (impl_Printable_ok s_ r3 h6) (cj rfl (cj h7 (cj h7 (cj h7 (cj h7 (cj h7 (cj1 h7)))))))))))) (fun h7 =>
   Pn.some (JnO.of [.bit false, .bit true, .call [] (E4 r3) [], .bit false, .bit false, .bit false, .bit false, .bit false, .bit false, .wait 2, .mask [4], .ren []] (p := [(r1.kind == 1) = false,
    (r1.kind == 2) = true,
    Fn Tryd.prog 48 [(false, E9 s_)] (E4 r3) [],
    (true || ((E4 r3).nv && nvL [])) = true,
    r3 = false,
    r3 = false,
    r3 = false,
    r3 = false,
    r3 = false,
    r3 = false]) (by kernel_rfl) (cj h2 (cj h5 (cj (impl_Printable_ok s_ r3 h6) (cj rfl (cj h7 (cj h7 (cj h7 (cj h7 (cj h7 (cj1 h7)))))))))))))) (fun h5 =>
   Pn.ite (fun h8 =>
   Pn.bind (fun r4 h9 =>
   Pn.ite (fun h10 =>
   Pn.bind (fun r5 h11 =>
   Pn.some (JnO.of [.bit false, .bit false, .bit true, .call [] (E4 r4) [], .bit true, .bit true, .bit true, .bit true, .bit true, .call [] (E4 r5) [], .bit true, .wait 2, .mask [4], .ren []] (p := [(r1.kind == 1) = false,
    (r1.kind == 2) = false,
    (r1.kind == 3) = true,
    Fn Tryd.prog 39 [(false, E9 s_)] (E4 r4) [],
    (true || ((E4 r4).nv && nvL [])) = true,
    r4 = true,
    r4 = true,
    r4 = true,
    r4 = true,
    r4 = true,
    Fn Tryd.prog 32 [(false, E3 (s_.size : Int)), (false, E3 1), (false, E3 r1.size)] (E4 r5) [],
    (true || ((E4 r5).nv && nvL [])) = true,
    r4 = true]) (by kernel_rfl) (cj h2 (cj h5 (cj h8 (cj (impl_Digits_ok s_ r4 h9) (cj rfl (cj h10 (cj h10 (cj h10 (cj h10 (cj h10 (cj (impl_within_ok (s_.size : Int) 1 r1.size r5 h11) (cj rfl (cj1 h10)))))))))))))))) (fun h10 =>
   Pn.some (JnO.of [.bit false, .bit false, .bit true, .call [] (E4 r4) [], .bit false, .bit false, .bit false, .bit false, .bit false, .bit false, .wait 2, .mask [4], .ren []] (p := [(r1.kind == 1) = false,
    (r1.kind == 2) = false,
    (r1.kind == 3) = true,
    Fn Tryd.prog 39 [(false, E9 s_)] (E4 r4) [],
    (true || ((E4 r4).nv && nvL [])) = true,
    r4 = false,
    r4 = false,
    r4 = false,
    r4 = false,
    r4 = false,
    r4 = false]) (by kernel_rfl) (cj h2 (cj h5 (cj h8 (cj (impl_Digits_ok s_ r4 h9) (cj rfl (cj h10 (cj h10 (cj h10 (cj h10 (cj h10 (cj1 h10))))))))))))))) (fun h8 =>
   Pn.bind (fun r6 h13 =>
   Pn.ite (fun h14 =>
   Pn.bind (fun r7 h15 =>
   Pn.ite (fun h16 =>
   Pn.bind (fun r8 h17 =>
   Pn.some (JnO.of [.bit false, .bit false, .bit false, .mask [1, 5, 9], .ren [0], .join 5 (X.go) (st 55 [(1, V.sc (.string s_)), (5, V.ptr 0 0), (43, V.sc (.bool r6))] [Blk.box 78 [V.sc (.int .i64 r1.no), V.sc (.int .i64 r1.kind), V.sc (.int .i64 r1.size)]] []), .bit true, .call [] (E4 r7) [], .bit true, .bit true, .bit true, .bit true, .bit true, .call [] (E4 r8) [], .bit true, .wait 2, .mask [4], .ren []] (p := [(r1.kind == 1) = false,
    (r1.kind == 2) = false,
    (r1.kind == 3) = false,
    HT Tryd.prog (sub (codeOf Tryd.prog 30) [1, 1, 0, 1, 0, 1, 1, 1, 1, 1, 1, 0]) (st 55 [(1, V.sc (.string s_)), (5, V.ptr 0 0), (9, V.sc (.int .i64 r1.kind))] [Blk.box 78 [V.sc (.int .i64 r1.no), V.sc (.int .i64 r1.kind), V.sc (.int .i64 r1.size)]] []) (X.go) (st 55 [(1, V.sc (.string s_)), (5, V.ptr 0 0), (43, V.sc (.bool r6))] [Blk.box 78 [V.sc (.int .i64 r1.no), V.sc (.int .i64 r1.kind), V.sc (.int .i64 r1.size)]] []),
    r6 = true,
    Fn Tryd.prog 48 [(false, E9 s_)] (E4 r7) [],
    (true || ((E4 r7).nv && nvL [])) = true,
    r7 = true,
    r7 = true,
    r7 = true,
    r7 = true,
    r7 = true,
    Fn Tryd.prog 32 [(false, E3 (s_.size : Int)), (false, E3 1), (false, E3 r1.size)] (E4 r8) [],
    (true || ((E4 r8).nv && nvL [])) = true,
    r7 = true]) (by kernel_rfl) (cj h2 (cj h5 (cj h8 (cj (impl_FieldOk_c1_ok s_ r1 r6 h13) (cj h14 (cj (impl_Printable_ok s_ r7 h15) (cj rfl (cj h16 (cj h16 (cj h16 (cj h16 (cj h16 (cj (impl_within_ok (s_.size : Int) 1 r1.size r8 h17) (cj rfl (cj1 h16)))))))))))))))))) (fun h16 =>
   Pn.some (JnO.of [.bit false, .bit false, .bit false, .mask [1, 5, 9], .ren [0], .join 5 (X.go) (st 55 [(1, V.sc (.string s_)), (5, V.ptr 0 0), (43, V.sc (.bool r6))] [Blk.box 78 [V.sc (.int .i64 r1.no), V.sc (.int .i64 r1.kind), V.sc (.int .i64 r1.size)]] []), .bit true, .call [] (E4 r7) [], .bit false, .bit false, .bit false, .bit false, .bit false, .bit false, .wait 2, .mask [4], .ren []] (p := [(r1.kind == 1) = false,
    (r1.kind == 2) = false,
    (r1.kind == 3) = false,
    HT Tryd.prog (sub (codeOf Tryd.prog 30) [1, 1, 0, 1, 0, 1, 1, 1, 1, 1, 1, 0]) (st 55 [(1, V.sc (.string s_)), (5, V.ptr 0 0), (9, V.sc (.int .i64 r1.kind))] [Blk.box 78 [V.sc (.int .i64 r1.no), V.sc (.int .i64 r1.kind), V.sc (.int .i64 r1.size)]] []) (X.go) (st 55 [(1, V.sc (.string s_)), (5, V.ptr 0 0), (43, V.sc (.bool r6))] [Blk.box 78 [V.sc (.int .i64 r1.no), V.sc (.int .i64 r1.kind), V.sc (.int .i64 r1.size)]] []),
    r6 = true,
    Fn Tryd.prog 48 [(false, E9 s_)] (E4 r7) [],
    (true || ((E4 r7).nv && nvL [])) = true,
    r7 = false,
    r7 = false,
    r7 = false,
    r7 = false,
    r7 = false,
    r7 = false]) (by kernel_rfl) (cj h2 (cj h5 (cj h8 (cj (impl_FieldOk_c1_ok s_ r1 r6 h13) (cj h14 (cj (impl_Printable_ok s_ r7 h15) (cj rfl (cj h16 (cj h16 (cj h16 (cj h16 (cj h16 (cj1 h16))))))))))))))))) (fun h14 =>
   Pn.some (JnO.of [.bit false, .bit false, .bit false, .mask [1, 5, 9], .ren [0], .join 5 (X.go) (st 55 [(1, V.sc (.string s_)), (5, V.ptr 0 0), (43, V.sc (.bool r6))] [Blk.box 78 [V.sc (.int .i64 r1.no), V.sc (.int .i64 r1.kind), V.sc (.int .i64 r1.size)]] []), .bit false, .mask [], .ren []] (p := [(r1.kind == 1) = false,
    (r1.kind == 2) = false,
    (r1.kind == 3) = false,
    HT Tryd.prog (sub (codeOf Tryd.prog 30) [1, 1, 0, 1, 0, 1, 1, 1, 1, 1, 1, 0]) (st 55 [(1, V.sc (.string s_)), (5, V.ptr 0 0), (9, V.sc (.int .i64 r1.kind))] [Blk.box 78 [V.sc (.int .i64 r1.no), V.sc (.int .i64 r1.kind), V.sc (.int .i64 r1.size)]] []) (X.go) (st 55 [(1, V.sc (.string s_)), (5, V.ptr 0 0), (43, V.sc (.bool r6))] [Blk.box 78 [V.sc (.int .i64 r1.no), V.sc (.int .i64 r1.kind), V.sc (.int .i64 r1.size)]] []),
    r6 = false]) (by kernel_rfl) (cj h2 (cj h5 (cj h8 (cj (impl_FieldOk_c1_ok s_ r1 r6 h13) (cj1 h14)))))))))))
def impl_FieldOk (no : Int) (s_ : ByteArray) : Option (Bool) :=
 (impl_rowOf no).bind fun r1 =>
 (impl_FieldOk_c0 s_ r1).bind fun r9 =>
 Lo.elim r9 (fun s1 =>
 some false) (fun s2 =>
 some s2)
theorem impl_FieldOk_ok (no : Int) (s_ : ByteArray) : Pn (fun y => Fn Tryd.prog 30 [(false, E3 no), (false, E9 s_)] (E4 y) []) (impl_FieldOk no s_) := by
  unfold impl_FieldOk
  exact
   Pn.bind (fun r1 h1 =>
   Pn.bind (fun r9 h18 =>
   Pn.lo (fun s1 h19 =>
   Pn.some (Fn.of [.call [] (E78 r1) [], .wait 3, .mask [1, 5], .ren [0], .join 32 (X.go) (st 55 [] [] [])] (p := [Fn Tryd.prog 47 [(false, E3 no)] (E78 r1) [],
    (true || ((E78 r1).nv && nvL [])) = true,
    HT Tryd.prog (sub (codeOf Tryd.prog 30) [1, 1, 0]) (st 55 [(1, V.sc (.string s_)), (5, V.ptr 0 0)] [Blk.box 78 [V.sc (.int .i64 r1.no), V.sc (.int .i64 r1.kind), V.sc (.int .i64 r1.size)]] []) (X.go) (st 55 [] [] [])]) (by kernel_rfl) (cj (impl_rowOf_ok no r1 h1) (cj rfl (cj1 ((impl_FieldOk_c0_ok s_ r1 r9 h18).at h19)))))) (fun s2 h20 =>
   Pn.some (Fn.of [.call [] (E78 r1) [], .wait 3, .mask [1, 5], .ren [0], .join 32 (X.ret) (st 55 [(4, V.sc (.bool s2))] [] [])] (p := [Fn Tryd.prog 47 [(false, E3 no)] (E78 r1) [],
    (true || ((E78 r1).nv && nvL [])) = true,
    HT Tryd.prog (sub (codeOf Tryd.prog 30) [1, 1, 0]) (st 55 [(1, V.sc (.string s_)), (5, V.ptr 0 0)] [Blk.box 78 [V.sc (.int .i64 r1.no), V.sc (.int .i64 r1.kind), V.sc (.int .i64 r1.size)]] []) (X.ret) (st 55 [(4, V.sc (.bool s2))] [] [])]) (by kernel_rfl) (cj (impl_rowOf_ok no r1 h1) (cj rfl (cj1 ((impl_FieldOk_c0_ok s_ r1 r9 h18).at h20))))))))
def impl_isWide (s_ : ByteArray) (n : Int) : Option (Bool) :=
 (impl_Digits s_).bind fun r1 =>
 if r1 = true then
 some ((s_.size : Int) == n)
 else
 some false
theorem impl_isWide_ok (s_ : ByteArray) (n : Int) : Pn (fun y => Fn Tryd.prog 31 [(false, E9 s_), (false, E3 n)] (E4 y) []) (impl_isWide s_ n) := by
  unfold impl_isWide
  exact
   Pn.bind (fun r1 h1 =>
   Pn.ite (fun h2 =>
   Pn.some (Fn.of [.call [] (E4 r1) [], .bit true, .bit true, .bit true, .bit true, .bit true] (p := [Fn Tryd.prog 39 [(false, E9 s_)] (E4 r1) [],
    (true || ((E4 r1).nv && nvL [])) = true,
    r1 = true,
    r1 = true,
    r1 = true,
    r1 = true,
    r1 = true]) (by kernel_rfl) (cj (impl_Digits_ok s_ r1 h1) (cj rfl (cj h2 (cj h2 (cj h2 (cj h2 (cj1 h2))))))))) (fun h2 =>
   Pn.some (Fn.of [.call [] (E4 r1) [], .bit false, .bit false, .bit false, .bit false, .bit false] (p := [Fn Tryd.prog 39 [(false, E9 s_)] (E4 r1) [],
    (true || ((E4 r1).nv && nvL [])) = true,
    r1 = false,
    r1 = false,
    r1 = false,
    r1 = false,
    r1 = false]) (by kernel_rfl) (cj (impl_Digits_ok s_ r1 h1) (cj rfl (cj h2 (cj h2 (cj h2 (cj h2 (cj1 h2))))))))))
def impl_MsgOk_c2 (m : Msg) (v1 : Int) : Option (Lo Unit Unit) :=
 if (decide (v1 < (m.List.length : Int))) = true then
 some (.out ())
 else
 some (.ret ())
theorem impl_MsgOk_c2_ok (m : Msg) (v1 : Int) : Pn (JnO Tryd.prog (sub (codeOf Tryd.prog 14) [1, 0, 1, 0, 0, 1, 0]) (st 39 [(1, V.ptr 0 0), (6, V.sl false 48 (List.map E48 m.List)), (7, V.sc (.int .i64 (m.List.length : Int))), (8, V.sc (.int .i64 v1)), (9, V.sc (.bool (decide (v1 < (m.List.length : Int)))))] [Blk.box 25 [V.sc (.string m.Mti), V.sl false 48 (List.map E48 m.List)]] []) (fun (y : Lo Unit Unit) => Lo.elim y (fun s => (X.go, st 39 [(1, V.ptr 0 0), (6, V.sl false 48 (List.map E48 m.List)), (7, V.sc (.int .i64 (m.List.length : Int))), (8, V.sc (.int .i64 v1))] [Blk.box 25 [V.sc (.string m.Mti), V.sl false 48 (List.map E48 m.List)]] [])) (fun s => (X.out 0, st 39 [(1, V.ptr 0 0)] [Blk.box 25 [V.sc (.string m.Mti), V.sl false 48 (List.map E48 m.List)]] [])))) (impl_MsgOk_c2 m v1) := by
  unfold impl_MsgOk_c2
  exact
   Pn.ite (fun h1 =>
   Pn.some (JnO.of [.bit true, .mask [1, 6, 7, 8], .ren [0]] (p := [(decide (v1 < (m.List.length : Int))) = true]) (by kernel_rfl) (cj1 h1))) (fun h1 =>
   Pn.some (JnO.of [.bit false, .mask [1], .ren [0]] (p := [(decide (v1 < (m.List.length : Int))) = false]) (by kernel_rfl) (cj1 h1)))
def impl_MsgOk_c3 (m : Msg) (v1 : Int) : Option (Lo Unit Unit) :=
 if (decide (0 ≤ v1)) = true then
 (m.List[v1.toNat]?).bind fun x1 =>
 (impl_FieldOk x1.No x1.Text).bind fun r2 =>
 if r2 = true then
 if (decide (0 < v1)) = true then
 if (decide (0 ≤ (i64 (v1 - 1)))) = true then
 (m.List[(i64 (v1 - 1)).toNat]?).bind fun x2 =>
 if (decide (x1.No ≤ x2.No)) = true then
 some (.ret ())
 else
 some (.out ())
 else none
 else
 some (.out ())
 else
 some (.ret ())
 else none
theorem impl_MsgOk_c3_ok (m : Msg) (v1 : Int) : Pn (JnO Tryd.prog (sub (codeOf Tryd.prog 14) [1, 0, 1, 0, 0, 1, 1, 0]) (st 39 [(1, V.ptr 0 0), (6, V.sl false 48 (List.map E48 m.List)), (7, V.sc (.int .i64 (m.List.length : Int))), (8, V.sc (.int .i64 v1))] [Blk.box 25 [V.sc (.string m.Mti), V.sl false 48 (List.map E48 m.List)]] []) (fun (y : Lo Unit Unit) => Lo.elim y (fun s => (X.go, st 39 [(1, V.ptr 0 0), (6, V.sl false 48 (List.map E48 m.List)), (7, V.sc (.int .i64 (m.List.length : Int))), (8, V.sc (.int .i64 v1))] [Blk.box 25 [V.sc (.string m.Mti), V.sl false 48 (List.map E48 m.List)]] [])) (fun s => (X.ret, st 39 [(2, V.sc (.bool false))] [] [])))) (impl_MsgOk_c3 m v1) := by
  unfold impl_MsgOk_c3
  exact
   Pn.ite (fun h5 =>
   Pn.bind (fun x1 h6 =>
   Pn.bind (fun r2 h7 =>
   Pn.ite (fun h8 =>
   Pn.ite (fun h9 =>
   Pn.ite (fun h10 =>
   Pn.bind (fun x2 h11 =>
   Pn.ite (fun h12 =>
   Pn.some (JnO.of [.el (E48 x1), .draw [], .call [] (E4 r2) [], .bit false, .bit false, .bit false, .bit true, .bit true, .bit true, .bit true, .bit true, .bit true, .bit true, .el (E48 x2), .bit true, .bit true, .bit true, .bit false, .bit true, .bit false, .bit true, .wait 1, .mask [2], .ren []] (p := [(0 : Int) ≤ v1,
    (List.map E48 m.List)[v1.toNat]? = some (E48 x1),
    Fn Tryd.prog 30 [(false, E3 x1.No), (false, E9 x1.Text)] (E4 r2) [],
    (true || ((E4 r2).nv && nvL [])) = true,
    (!r2) = false,
    (!r2) = false,
    (!r2) = false,
    (decide (0 < v1)) = true,
    (decide (0 < v1)) = true,
    (decide (0 < v1)) = true,
    (decide (0 < v1)) = true,
    (decide (0 < v1)) = true,
    (decide (0 < v1)) = true,
    (decide (0 < v1)) = true,
    (0 : Int) ≤ (i64 (v1 - 1)),
    (List.map E48 m.List)[(i64 (v1 - 1)).toNat]? = some (E48 x2),
    (decide (0 < v1)) = true,
    (decide (0 < v1)) = true,
    (decide (0 < v1)) = true,
    (!r2) = false,
    (decide (0 < v1)) = true,
    (!r2) = false,
    (decide (x1.No ≤ x2.No)) = true]) (by kernel_rfl) (cj (od h5) (cj (map_get h6) (cj (impl_FieldOk_ok x1.No x1.Text r2 h7) (cj rfl (cj (nf h8) (cj (nf h8) (cj (nf h8) (cj h9 (cj h9 (cj h9 (cj h9 (cj h9 (cj h9 (cj h9 (cj (od h10) (cj (map_get h11) (cj h9 (cj h9 (cj h9 (cj (nf h8) (cj h9 (cj (nf h8) (cj1 h12))))))))))))))))))))))))) (fun h12 =>
   Pn.some (JnO.of [.el (E48 x1), .draw [], .call [] (E4 r2) [], .bit false, .bit false, .bit false, .bit true, .bit true, .bit true, .bit true, .bit true, .bit true, .bit true, .el (E48 x2), .bit true, .bit true, .bit true, .bit false, .bit true, .bit false, .bit false, .mask [1, 6, 7, 8], .ren [0]] (p := [(0 : Int) ≤ v1,
    (List.map E48 m.List)[v1.toNat]? = some (E48 x1),
    Fn Tryd.prog 30 [(false, E3 x1.No), (false, E9 x1.Text)] (E4 r2) [],
    (true || ((E4 r2).nv && nvL [])) = true,
    (!r2) = false,
    (!r2) = false,
    (!r2) = false,
    (decide (0 < v1)) = true,
    (decide (0 < v1)) = true,
    (decide (0 < v1)) = true,
    (decide (0 < v1)) = true,
    (decide (0 < v1)) = true,
    (decide (0 < v1)) = true,
    (decide (0 < v1)) = true,
    (0 : Int) ≤ (i64 (v1 - 1)),
    (List.map E48 m.List)[(i64 (v1 - 1)).toNat]? = some (E48 x2),
    (decide (0 < v1)) = true,
    (decide (0 < v1)) = true,
    (decide (0 < v1)) = true,
    (!r2) = false,
    (decide (0 < v1)) = true,
    (!r2) = false,
    (decide (x1.No ≤ x2.No)) = false]) (by kernel_rfl) (cj (od h5) (cj (map_get h6) (cj (impl_FieldOk_ok x1.No x1.Text r2 h7) (cj rfl (cj (nf h8) (cj (nf h8) (cj (nf h8) (cj h9 (cj h9 (cj h9 (cj h9 (cj h9 (cj h9 (cj h9 (cj (od h10) (cj (map_get h11) (cj h9 (cj h9 (cj h9 (cj (nf h8) (cj h9 (cj (nf h8) (cj1 h12))))))))))))))))))))))))))) (fun h10 =>
   Pn.none)) (fun h9 =>
   Pn.some (JnO.of [.el (E48 x1), .draw [], .call [] (E4 r2) [], .bit false, .bit false, .bit false, .bit false, .bit false, .bit false, .bit false, .bit false, .bit false, .bit false, .bit false, .bit false, .bit false, .bit false, .bit false, .bit false, .bit false, .mask [1, 6, 7, 8], .ren [0]] (p := [(0 : Int) ≤ v1,
    (List.map E48 m.List)[v1.toNat]? = some (E48 x1),
    Fn Tryd.prog 30 [(false, E3 x1.No), (false, E9 x1.Text)] (E4 r2) [],
    (true || ((E4 r2).nv && nvL [])) = true,
    (!r2) = false,
    (!r2) = false,
    (!r2) = false,
    (decide (0 < v1)) = false,
    (decide (0 < v1)) = false,
    (decide (0 < v1)) = false,
    (decide (0 < v1)) = false,
    (decide (0 < v1)) = false,
    (decide (0 < v1)) = false,
    (decide (0 < v1)) = false,
    (decide (0 < v1)) = false,
    (decide (0 < v1)) = false,
    (decide (0 < v1)) = false,
    (!r2) = false,
    (decide (0 < v1)) = false,
    (!r2) = false,
    false = false]) (by kernel_rfl) (cj (od h5) (cj (map_get h6) (cj (impl_FieldOk_ok x1.No x1.Text r2 h7) (cj rfl (cj (nf h8) (cj (nf h8) (cj (nf h8) (cj h9 (cj h9 (cj h9 (cj h9 (cj h9 (cj h9 (cj h9 (cj h9 (cj h9 (cj h9 (cj (nf h8) (cj h9 (cj (nf h8) (cj1 rfl)))))))))))))))))))))))) (fun h8 =>
   Pn.some (JnO.of [.el (E48 x1), .draw [], .call [] (E4 r2) [], .bit true, .bit true, .bit true, .bit true, .bit true, .bit true, .wait 1, .mask [2], .ren []] (p := [(0 : Int) ≤ v1,
    (List.map E48 m.List)[v1.toNat]? = some (E48 x1),
    Fn Tryd.prog 30 [(false, E3 x1.No), (false, E9 x1.Text)] (E4 r2) [],
    (true || ((E4 r2).nv && nvL [])) = true,
    (!r2) = true,
    (!r2) = true,
    (!r2) = true,
    (!r2) = true,
    (!r2) = true,
    true = true]) (by kernel_rfl) (cj (od h5) (cj (map_get h6) (cj (impl_FieldOk_ok x1.No x1.Text r2 h7) (cj rfl (cj (nt h8) (cj (nt h8) (cj (nt h8) (cj (nt h8) (cj (nt h8) (cj1 rfl))))))))))))))) (fun h5 =>
   Pn.none)
def impl_MsgOk_l0 (m : Msg) : Nat → Int → Option (Lo Unit Unit)
  | 0, _ => none
  | fuel + 1, v1 =>
   (impl_MsgOk_c2 m v1).bind fun r1 =>
   Lo.elim r1 (fun s1 =>
   (impl_MsgOk_c3 m v1).bind fun r3 =>
   Lo.elim r3 (fun s3 =>
   impl_MsgOk_l0 m fuel (i64 (v1 + 1))) (fun s4 =>
   some (.ret ()))) (fun s2 =>
   some (.out ()))
theorem impl_MsgOk_l0_ok (m : Msg) : ∀ (fuel : Nat) (v1 : Int), Pn (LpO Tryd.prog (sub (codeOf Tryd.prog 14) [1, 0, 1, 0, 0]) (st 39 [(1, V.ptr 0 0), (6, V.sl false 48 (List.map E48 m.List)), (7, V.sc (.int .i64 (m.List.length : Int))), (8, V.sc (.int .i64 v1))] [Blk.box 25 [V.sc (.string m.Mti), V.sl false 48 (List.map E48 m.List)]] []) (fun (y : Lo Unit Unit) => Lo.elim y (fun s => (X.out 0, st 39 [(1, V.ptr 0 0)] [Blk.box 25 [V.sc (.string m.Mti), V.sl false 48 (List.map E48 m.List)]] [])) (fun s => (X.ret, st 39 [(2, V.sc (.bool false))] [] [])))) (impl_MsgOk_l0 m fuel v1)
  | 0, _ => Pn.none
  | fuel + 1, v1 => by
    unfold impl_MsgOk_l0
    exact
     Pn.bind (fun r1 h2 =>
     Pn.lo (fun s1 h3 =>
     Pn.bind (fun r3 h13 =>
     Pn.lo (fun s3 h14 =>
     LpO.go [.wait 2, .mask [1, 6, 7, 8, 9], .ren [0], .join 3 (X.go) (st 39 [(1, V.ptr 0 0), (6, V.sl false 48 (List.map E48 m.List)), (7, V.sc (.int .i64 (m.List.length : Int))), (8, V.sc (.int .i64 v1))] [Blk.box 25 [V.sc (.string m.Mti), V.sl false 48 (List.map E48 m.List)]] []), .wait 1, .mask [1, 6, 7, 8], .ren [0], .join 10 (X.go) (st 39 [(1, V.ptr 0 0), (6, V.sl false 48 (List.map E48 m.List)), (7, V.sc (.int .i64 (m.List.length : Int))), (8, V.sc (.int .i64 v1))] [Blk.box 25 [V.sc (.string m.Mti), V.sl false 48 (List.map E48 m.List)]] []), .wait 3, .mask [1, 6, 7, 8], .ren [0]] (p := [HT Tryd.prog (sub (codeOf Tryd.prog 14) [1, 0, 1, 0, 0, 1, 0]) (st 39 [(1, V.ptr 0 0), (6, V.sl false 48 (List.map E48 m.List)), (7, V.sc (.int .i64 (m.List.length : Int))), (8, V.sc (.int .i64 v1)), (9, V.sc (.bool (decide (v1 < (m.List.length : Int)))))] [Blk.box 25 [V.sc (.string m.Mti), V.sl false 48 (List.map E48 m.List)]] []) (X.go) (st 39 [(1, V.ptr 0 0), (6, V.sl false 48 (List.map E48 m.List)), (7, V.sc (.int .i64 (m.List.length : Int))), (8, V.sc (.int .i64 v1))] [Blk.box 25 [V.sc (.string m.Mti), V.sl false 48 (List.map E48 m.List)]] []),
      HT Tryd.prog (sub (codeOf Tryd.prog 14) [1, 0, 1, 0, 0, 1, 1, 0]) (st 39 [(1, V.ptr 0 0), (6, V.sl false 48 (List.map E48 m.List)), (7, V.sc (.int .i64 (m.List.length : Int))), (8, V.sc (.int .i64 v1))] [Blk.box 25 [V.sc (.string m.Mti), V.sl false 48 (List.map E48 m.List)]] []) (X.go) (st 39 [(1, V.ptr 0 0), (6, V.sl false 48 (List.map E48 m.List)), (7, V.sc (.int .i64 (m.List.length : Int))), (8, V.sc (.int .i64 v1))] [Blk.box 25 [V.sc (.string m.Mti), V.sl false 48 (List.map E48 m.List)]] [])]) (by kernel_rfl) (cj ((impl_MsgOk_c2_ok m v1 r1 h2).at h3) (cj1 ((impl_MsgOk_c3_ok m v1 r3 h13).at h14))) (impl_MsgOk_l0_ok m fuel (i64 (v1 + 1)))) (fun s4 h15 =>
     Pn.some (LpO.out [.wait 2, .mask [1, 6, 7, 8, 9], .ren [0], .join 3 (X.go) (st 39 [(1, V.ptr 0 0), (6, V.sl false 48 (List.map E48 m.List)), (7, V.sc (.int .i64 (m.List.length : Int))), (8, V.sc (.int .i64 v1))] [Blk.box 25 [V.sc (.string m.Mti), V.sl false 48 (List.map E48 m.List)]] []), .wait 1, .mask [1, 6, 7, 8], .ren [0], .join 10 (X.ret) (st 39 [(2, V.sc (.bool false))] [] []), .wait 1, .mask [2], .ren []] (p := [HT Tryd.prog (sub (codeOf Tryd.prog 14) [1, 0, 1, 0, 0, 1, 0]) (st 39 [(1, V.ptr 0 0), (6, V.sl false 48 (List.map E48 m.List)), (7, V.sc (.int .i64 (m.List.length : Int))), (8, V.sc (.int .i64 v1)), (9, V.sc (.bool (decide (v1 < (m.List.length : Int)))))] [Blk.box 25 [V.sc (.string m.Mti), V.sl false 48 (List.map E48 m.List)]] []) (X.go) (st 39 [(1, V.ptr 0 0), (6, V.sl false 48 (List.map E48 m.List)), (7, V.sc (.int .i64 (m.List.length : Int))), (8, V.sc (.int .i64 v1))] [Blk.box 25 [V.sc (.string m.Mti), V.sl false 48 (List.map E48 m.List)]] []),
      HT Tryd.prog (sub (codeOf Tryd.prog 14) [1, 0, 1, 0, 0, 1, 1, 0]) (st 39 [(1, V.ptr 0 0), (6, V.sl false 48 (List.map E48 m.List)), (7, V.sc (.int .i64 (m.List.length : Int))), (8, V.sc (.int .i64 v1))] [Blk.box 25 [V.sc (.string m.Mti), V.sl false 48 (List.map E48 m.List)]] []) (X.ret) (st 39 [(2, V.sc (.bool false))] [] [])]) (by kernel_rfl) (show X.ret ≠ X.go from nofun) (cj ((impl_MsgOk_c2_ok m v1 r1 h2).at h3) (cj1 ((impl_MsgOk_c3_ok m v1 r3 h13).at h15))))))) (fun s2 h4 =>
     Pn.some (LpO.out [.wait 2, .mask [1, 6, 7, 8, 9], .ren [0], .join 3 (X.out 0) (st 39 [(1, V.ptr 0 0)] [Blk.box 25 [V.sc (.string m.Mti), V.sl false 48 (List.map E48 m.List)]] []), .wait 1, .mask [1], .ren [0]] (p := [HT Tryd.prog (sub (codeOf Tryd.prog 14) [1, 0, 1, 0, 0, 1, 0]) (st 39 [(1, V.ptr 0 0), (6, V.sl false 48 (List.map E48 m.List)), (7, V.sc (.int .i64 (m.List.length : Int))), (8, V.sc (.int .i64 v1)), (9, V.sc (.bool (decide (v1 < (m.List.length : Int)))))] [Blk.box 25 [V.sc (.string m.Mti), V.sl false 48 (List.map E48 m.List)]] []) (X.out 0) (st 39 [(1, V.ptr 0 0)] [Blk.box 25 [V.sc (.string m.Mti), V.sl false 48 (List.map E48 m.List)]] [])]) (by kernel_rfl) (show X.out 0 ≠ X.go from nofun) (cj1 ((impl_MsgOk_c2_ok m v1 r1 h2).at h4)))))
def impl_MsgOk (m : Msg) : Option (Bool) :=
 (impl_MsgOk_l0 m FUEL 0).bind fun r4 =>
 Lo.elim r4 (fun s5 =>
 (impl_isWide m.Mti 4).bind fun r5 =>
 some r5) (fun s6 =>
 some false)
theorem impl_MsgOk_ok (m : Msg) : Pn (fun y => Fn Tryd.prog 14 [(false, E25 m)] (E4 y) []) (impl_MsgOk m) := by
  unfold impl_MsgOk
  exact
   Pn.bind (fun r4 h16 =>
   Pn.lo (fun s5 h17 =>
   Pn.bind (fun r5 h19 =>
   Pn.some (Fn.of [.wait 5, .nm 7 (V.sc (.int .i64 (m.List.length : Int))), .wait 2, .mask [1, 6, 7, 8], .ren [0], .loop (X.out 0) (st 39 [(1, V.ptr 0 0)] [Blk.box 25 [V.sc (.string m.Mti), V.sl false 48 (List.map E48 m.List)]] []), .call [] (E4 r5) []] (p := [V.sc (.int .i64 ((List.map E48 m.List).length : Int)) = V.sc (.int .i64 (m.List.length : Int)),
    Loop Tryd.prog (sub (codeOf Tryd.prog 14) [1, 0, 1, 0, 0]) (st 39 [(1, V.ptr 0 0), (6, V.sl false 48 (List.map E48 m.List)), (7, V.sc (.int .i64 (m.List.length : Int))), (8, V.sc (.int .i64 0))] [Blk.box 25 [V.sc (.string m.Mti), V.sl false 48 (List.map E48 m.List)]] []) (X.out 0) (st 39 [(1, V.ptr 0 0)] [Blk.box 25 [V.sc (.string m.Mti), V.sl false 48 (List.map E48 m.List)]] []),
    Fn Tryd.prog 31 [(false, E9 m.Mti), (false, E3 4)] (E4 r5) [],
    (true || ((E4 r5).nv && nvL [])) = true]) (by kernel_rfl) (cj (len_nm _ _) (cj ((impl_MsgOk_l0_ok m FUEL 0 r4 h16).at h17) (cj (impl_isWide_ok m.Mti 4 r5 h19) (cj1 rfl))))))) (fun s6 h18 =>
   Pn.some (Fn.of [.wait 5, .nm 7 (V.sc (.int .i64 (m.List.length : Int))), .wait 2, .mask [1, 6, 7, 8], .ren [0], .loop (X.ret) (st 39 [(2, V.sc (.bool false))] [] [])] (p := [V.sc (.int .i64 ((List.map E48 m.List).length : Int)) = V.sc (.int .i64 (m.List.length : Int)),
    Loop Tryd.prog (sub (codeOf Tryd.prog 14) [1, 0, 1, 0, 0]) (st 39 [(1, V.ptr 0 0), (6, V.sl false 48 (List.map E48 m.List)), (7, V.sc (.int .i64 (m.List.length : Int))), (8, V.sc (.int .i64 0))] [Blk.box 25 [V.sc (.string m.Mti), V.sl false 48 (List.map E48 m.List)]] []) (X.ret) (st 39 [(2, V.sc (.bool false))] [] [])]) (by kernel_rfl) (cj (len_nm _ _) (cj1 ((impl_MsgOk_l0_ok m FUEL 0 r4 h16).at h18))))))
def impl_ReplyMti (mti : ByteArray) : Option (ByteArray) :=
 (impl_isWide mti 4).bind fun r1 =>
 if r1 = true then
 if (decide (0 ≤ 2)) = true then
 if (decide ((2 : Int) < (mti.size : Int))) = true then
 if ((Int.tmod (u8 ((sAt mti 2) - 48)) 2) == 1) = true then
 some (bs [])
 else
 if (decide (2 ≤ (mti.size : Int))) = true then
 if (decide ((mti.extract 0 2).size + (Utf8.encode (i32 (u8 ((sAt mti 2) + 1)))).size ≤ 9223372036854775807)) = true then
 if (decide (3 ≤ (mti.size : Int))) = true then
 if (decide (((mti.extract 0 2) ++ (Utf8.encode (i32 (u8 ((sAt mti 2) + 1))))).size + (mti.extract 3 (mti.size : Int).toNat).size ≤ 9223372036854775807)) = true then
 some (((mti.extract 0 2) ++ (Utf8.encode (i32 (u8 ((sAt mti 2) + 1))))) ++ (mti.extract 3 (mti.size : Int).toNat))
 else none
 else none
 else none
 else none
 else none
 else none
 else
 some (bs [])
theorem impl_ReplyMti_ok (mti : ByteArray) : Pn (fun y => Fn Tryd.prog 15 [(false, E9 mti)] (E9 y) []) (impl_ReplyMti mti) := by
  unfold impl_ReplyMti
  exact
   Pn.bind (fun r1 h1 =>
   Pn.ite (fun h2 =>
   Pn.ite (fun h3 =>
   Pn.ite (fun h4 =>
   Pn.ite (fun h5 =>
   Pn.some (Fn.of [.call [] (E4 r1) [], .bit false, .bit false, .bit false, .bit false, .bit false, .bit false, .bit true] (p := [Fn Tryd.prog 31 [(false, E9 mti), (false, E3 4)] (E4 r1) [],
    (true || ((E4 r1).nv && nvL [])) = true,
    (!r1) = false,
    (!r1) = false,
    (0 : Int) ≤ 2,
    (2 : Int) < mti.size,
    (!r1) = false,
    (!r1) = false,
    (2 : Int) ≠ 0,
    (!r1) = false,
    (!r1) = false,
    ((Int.tmod (u8 ((sAt mti 2) - 48)) 2) == 1) = true]) (by kernel_rfl) (cj (impl_isWide_ok mti 4 r1 h1) (cj rfl (cj (nf h2) (cj (nf h2) (cj (od h3) (cj (od h4) (cj (nf h2) (cj (nf h2) (cj (by decide) (cj (nf h2) (cj (nf h2) (cj1 h5)))))))))))))) (fun h5 =>
   Pn.ite (fun h6 =>
   Pn.ite (fun h7 =>
   Pn.ite (fun h8 =>
   Pn.ite (fun h9 =>
   Pn.some (Fn.of [.call [] (E4 r1) [], .bit false, .bit false, .bit false, .bit false, .bit false, .bit false, .bit false, .draw []] (p := [Fn Tryd.prog 31 [(false, E9 mti), (false, E3 4)] (E4 r1) [],
    (true || ((E4 r1).nv && nvL [])) = true,
    (!r1) = false,
    (!r1) = false,
    (0 : Int) ≤ 2,
    (2 : Int) < mti.size,
    (!r1) = false,
    (!r1) = false,
    (2 : Int) ≠ 0,
    (!r1) = false,
    (!r1) = false,
    ((Int.tmod (u8 ((sAt mti 2) - 48)) 2) == 1) = false,
    (0 : Int) ≤ 0,
    (0 : Int) ≤ 2,
    (2 : Int) ≤ (mti.size : Int),
    (0 : Int) ≤ 2,
    (2 : Int) < mti.size,
    (mti.extract 0 2).size + (Utf8.encode (i32 (u8 ((sAt mti 2) + 1)))).size ≤ 9223372036854775807,
    (0 : Int) ≤ 3,
    (3 : Int) ≤ (mti.size : Int),
    ((mti.size : Int) : Int) ≤ (mti.size : Int),
    ((mti.extract 0 2) ++ (Utf8.encode (i32 (u8 ((sAt mti 2) + 1))))).size + (mti.extract 3 (mti.size : Int).toNat).size ≤ 9223372036854775807]) (by kernel_rfl) (cj (impl_isWide_ok mti 4 r1 h1) (cj rfl (cj (nf h2) (cj (nf h2) (cj (od h3) (cj (od h4) (cj (nf h2) (cj (nf h2) (cj (by decide) (cj (nf h2) (cj (nf h2) (cj h5 (cj (by decide) (cj (od h3) (cj (od h6) (cj (od h3) (cj (od h4) (cj (od h7) (cj (by decide) (cj (od h8) (cj (by omega) (cj1 (od h9))))))))))))))))))))))))) (fun h9 =>
   Pn.none)) (fun h8 =>
   Pn.none)) (fun h7 =>
   Pn.none)) (fun h6 =>
   Pn.none))) (fun h4 =>
   Pn.none)) (fun h3 =>
   Pn.none)) (fun h2 =>
   Pn.some (Fn.of [.call [] (E4 r1) [], .bit true, .bit true, .bit true, .bit true, .bit true, .bit true, .bit true] (p := [Fn Tryd.prog 31 [(false, E9 mti), (false, E3 4)] (E4 r1) [],
    (true || ((E4 r1).nv && nvL [])) = true,
    (!r1) = true,
    (!r1) = true,
    (!r1) = true,
    (!r1) = true,
    (!r1) = true,
    (!r1) = true,
    true = true]) (by kernel_rfl) (cj (impl_isWide_ok mti 4 r1 h1) (cj rfl (cj (nt h2) (cj (nt h2) (cj (nt h2) (cj (nt h2) (cj (nt h2) (cj (nt h2) (cj1 rfl))))))))))))
def impl_rsTexts  : Option ((List ByteArray)) :=
 some [bs [48, 48], bs [51, 48], bs [49, 50], bs [49, 52], bs [49, 51], bs [50, 53], bs [57, 52], bs [53, 49], bs [54, 53], bs [54, 49], bs [57, 54]]
theorem impl_rsTexts_ok  : Pn (fun y => Fn Tryd.prog 33 [] (E59 y) []) (impl_rsTexts) := by
  unfold impl_rsTexts
  exact
   Pn.some (Fn.of [] (p := []) (by kernel_rfl) trivial)
def impl_RsText (code : Int) : Option (ByteArray) :=
 (impl_within code 0 10).bind fun r1 =>
 if r1 = true then
 (impl_rsTexts).bind fun r2 =>
 if (decide (0 ≤ code)) = true then
 (r2[code.toNat]?).bind fun x1 =>
 some x1
 else none
 else
 some (bs [])
theorem impl_RsText_ok (code : Int) : Pn (fun y => Fn Tryd.prog 16 [(false, E3 code)] (E9 y) []) (impl_RsText code) := by
  unfold impl_RsText
  exact
   Pn.bind (fun r1 h1 =>
   Pn.ite (fun h2 =>
   Pn.bind (fun r2 h3 =>
   Pn.ite (fun h4 =>
   Pn.bind (fun x1 h5 =>
   Pn.some (Fn.of [.call [] (E4 r1) [], .bit false, .call [] (E59 r2) [], .el (E9 x1)] (p := [Fn Tryd.prog 32 [(false, E3 code), (false, E3 0), (false, E3 10)] (E4 r1) [],
    (true || ((E4 r1).nv && nvL [])) = true,
    (!r1) = false,
    Fn Tryd.prog 33 [] (E59 r2) [],
    (true || ((E59 r2).nv && nvL [])) = true,
    (0 : Int) ≤ code,
    (code : Int) < ((List.map E9 r2).length : Int),
    look [] code.toNat = none,
    (List.map E9 r2)[code.toNat]? = some (E9 x1)]) (by kernel_rfl) (cj (impl_within_ok code 0 10 r1 h1) (cj rfl (cj (nf h2) (cj (impl_rsTexts_ok  r2 h3) (cj rfl (cj (od h4) (cj (map_ltN (od h4) h5) (cj rfl (cj1 (map_get h5))))))))))))) (fun h4 =>
   Pn.none))) (fun h2 =>
   Pn.some (Fn.of [.call [] (E4 r1) [], .bit true] (p := [Fn Tryd.prog 32 [(false, E3 code), (false, E3 0), (false, E3 10)] (E4 r1) [],
    (true || ((E4 r1).nv && nvL [])) = true,
    (!r1) = true]) (by kernel_rfl) (cj (impl_within_ok code 0 10 r1 h1) (cj rfl (cj1 (nt h2)))))))
def impl_FieldOf_l0 (m : Msg) (no : Int) : List Field → Option (Lo Unit ByteArray)
  | [] =>
   some (.out ())
  | x1 :: t1 =>
   if (x1.No == no) = true then
   some (.ret x1.Text)
   else
   impl_FieldOf_l0 m no t1
theorem impl_FieldOf_l0_ok (m : Msg) (no : Int) (h2 : capOk m.List.length = true) : ∀ (t1 p1 : List Field) (_ : m.List = p1 ++ t1) , Pn (LpO Tryd.prog (sub (codeOf Tryd.prog 10) [1, 0, 1, 0, 0]) (st 22 [(1, V.sc (.int .i64 no)), (9, V.sl false 48 (List.map E48 m.List)), (10, V.sc (.int .i64 (m.List.length : Int))), (11, V.sc (.int .i64 (p1.length : Int)))] [] []) (fun (y : Lo Unit ByteArray) => Lo.elim y (fun s => (X.out 0, st 22 [] [] [])) (fun s => (X.ret, st 22 [(4, V.sc (.string s)), (5, V.sc (.bool true))] [] [])))) (impl_FieldOf_l0 m no t1)
  | [], p1, h1 => by
    unfold impl_FieldOf_l0
    exact
     Pn.some (LpO.out [.bit false, .mask [], .ren []] (p := [(decide ((p1.length : Int) < (m.List.length : Int))) = false]) (by kernel_rfl) (show X.out 0 ≠ X.go from nofun) (cj1 (rng_end h1)))
  | x1 :: t1, p1, h1 => by
    unfold impl_FieldOf_l0
    exact
     Pn.ite (fun h3 =>
     Pn.some (LpO.out [.bit true, .el (E48 x1), .bit true, .wait 4, .mask [4, 5], .ren []] (p := [(decide ((p1.length : Int) < (m.List.length : Int))) = true,
      (0 : Int) ≤ (p1.length : Int),
      (List.map E48 m.List)[(p1.length : Int).toNat]? = some (E48 x1),
      (x1.No == no) = true]) (by kernel_rfl) (show X.ret ≠ X.go from nofun) (cj (rng_lt h1) (cj (by omega) (cj (rng_get _ h1) (cj1 h3)))))) (fun h3 =>
     LpO.go [.bit true, .el (E48 x1), .bit false, .wait 2, .mask [1, 9, 10, 11], .ren [], .nm 11 (V.sc (.int .i64 ((p1 ++ [x1]).length : Int)))] (p := [(decide ((p1.length : Int) < (m.List.length : Int))) = true,
      (0 : Int) ≤ (p1.length : Int),
      (List.map E48 m.List)[(p1.length : Int).toNat]? = some (E48 x1),
      (x1.No == no) = false,
      V.sc (.int .i64 (i64 ((p1.length : Int) + 1))) = V.sc (.int .i64 ((p1 ++ [x1]).length : Int))]) (by kernel_rfl) (cj (rng_lt h1) (cj (by omega) (cj (rng_get _ h1) (cj h3 (cj1 (rng_next h1 h2)))))) (impl_FieldOf_l0_ok m no h2 t1 (p1 ++ [x1]) (rng_step h1)))
def impl_FieldOf (m : Msg) (no : Int) : Option (ByteArray × Bool) :=
 if (capOk m.List.length) = true then
 (impl_FieldOf_l0 m no m.List).bind fun r1 =>
 Lo.elim r1 (fun s1 =>
 some (bs [], false)) (fun s2 =>
 some (s2, true))
 else none
theorem impl_FieldOf_ok (m : Msg) (no : Int) : Pn (fun y => Fn Tryd.prog 10 [(false, E25 m), (false, E3 no)] (V.tup [E9 y.1, E4 y.2]) []) (impl_FieldOf m no) := by
  unfold impl_FieldOf
  exact
   Pn.ite (fun h4 =>
   Pn.bind (fun r1 h5 =>
   Pn.lo (fun s1 h6 =>
   Pn.some (Fn.of [.wait 6, .nm 10 (V.sc (.int .i64 (m.List.length : Int))), .wait 2, .mask [1, 9, 10, 11], .ren [], .loop (X.out 0) (st 22 [] [] [])] (p := [V.sc (.int .i64 ((List.map E48 m.List).length : Int)) = V.sc (.int .i64 (m.List.length : Int)),
    Loop Tryd.prog (sub (codeOf Tryd.prog 10) [1, 0, 1, 0, 0]) (st 22 [(1, V.sc (.int .i64 no)), (9, V.sl false 48 (List.map E48 m.List)), (10, V.sc (.int .i64 (m.List.length : Int))), (11, V.sc (.int .i64 0))] [] []) (X.out 0) (st 22 [] [] [])]) (by kernel_rfl) (cj (len_nm _ _) (cj1 ((impl_FieldOf_l0_ok m no h4 m.List [] rfl r1 h5).at h6))))) (fun s2 h7 =>
   Pn.some (Fn.of [.wait 6, .nm 10 (V.sc (.int .i64 (m.List.length : Int))), .wait 2, .mask [1, 9, 10, 11], .ren [], .loop (X.ret) (st 22 [(4, V.sc (.string s2)), (5, V.sc (.bool true))] [] [])] (p := [V.sc (.int .i64 ((List.map E48 m.List).length : Int)) = V.sc (.int .i64 (m.List.length : Int)),
    Loop Tryd.prog (sub (codeOf Tryd.prog 10) [1, 0, 1, 0, 0]) (st 22 [(1, V.sc (.int .i64 no)), (9, V.sl false 48 (List.map E48 m.List)), (10, V.sc (.int .i64 (m.List.length : Int))), (11, V.sc (.int .i64 0))] [] []) (X.ret) (st 22 [(4, V.sc (.string s2)), (5, V.sc (.bool true))] [] [])]) (by kernel_rfl) (cj (len_nm _ _) (cj1 ((impl_FieldOf_l0_ok m no h4 m.List [] rfl r1 h5).at h7))))))) (fun h4 =>
   Pn.none)
def impl_Reply_1 (no : Int) (s_ : ByteArray) (c0 : Msg) : Option (Msg) :=
 if (capOk (c0.List.length + 1)) = true then
 some (Msg.mk c0.Mti (c0.List ++ [(Field.mk no s_)]))
 else none
theorem impl_Reply_1_ok (no : Int) (s_ : ByteArray) (c0 : Msg) : Pn (fun y => Fn Tryd.prog 17 [(false, E3 no), (false, E9 s_), (true, V.bx 25 [V.sc (.string c0.Mti), V.sl true 48 (List.map E48 c0.List)])] (V.tup []) [V.bx 25 [V.sc (.string y.Mti), V.sl true 48 (List.map E48 y.List)]]) (impl_Reply_1 no s_ c0) := by
  unfold impl_Reply_1
  exact
   Pn.ite (fun h1 =>
   Pn.some (Fn.of [.cp [V.agg [V.sc (.int .i64 no), V.sc (.string s_)]], .nb 3 (.row 48 (List.map E48 (c0.List ++ [(Field.mk no s_)])) [])] (p := [[V.agg [V.sc (.int .i64 no), V.sc (.string s_)]] = [V.agg [V.sc (.int .i64 no), V.sc (.string s_)]],
    [V.agg [V.sc (.int .i64 no), V.sc (.string s_)]].all V.flatE = true,
    (List.map E48 c0.List).length + [V.agg [V.sc (.int .i64 no), V.sc (.string s_)]].length ≤ 9223372036854775807,
    ((List.map E48 c0.List).length + [V.agg [V.sc (.int .i64 no), V.sc (.string s_)]].length) * 24 ≤ 140737488355328,
    Blk.row 48 ((List.map E48 c0.List) ++ [V.agg [V.sc (.int .i64 no), V.sc (.string s_)]]) [] = Blk.row 48 (List.map E48 (c0.List ++ [(Field.mk no s_)])) []]) (by kernel_rfl) (cj rfl (cj rfl (cj (cap1 (capN (by simp) h1)) (cj (cap2 (capN (by simp) h1) (by decide)) (cj1 (nb_app E48 c0.List [(Field.mk no s_)])))))))) (fun h1 =>
   Pn.none)
def impl_FieldSize (no : Int) : Option (Int) :=
 (impl_rowOf no).bind fun r1 =>
 some r1.size
theorem impl_FieldSize_ok (no : Int) : Pn (fun y => Fn Tryd.prog 34 [(false, E3 no)] (E3 y) []) (impl_FieldSize no) := by
  unfold impl_FieldSize
  exact
   Pn.bind (fun r1 h1 =>
   Pn.some (Fn.of [.call [] (E78 r1) []] (p := [Fn Tryd.prog 47 [(false, E3 no)] (E78 r1) [],
    (true || ((E78 r1).nv && nvL [])) = true]) (by kernel_rfl) (cj (impl_rowOf_ok no r1 h1) (cj1 rfl))))
def impl_FieldKind (no : Int) : Option (Int) :=
 (impl_rowOf no).bind fun r1 =>
 some r1.kind
theorem impl_FieldKind_ok (no : Int) : Pn (fun y => Fn Tryd.prog 35 [(false, E3 no)] (E3 y) []) (impl_FieldKind no) := by
  unfold impl_FieldKind
  exact
   Pn.bind (fun r1 h1 =>
   Pn.some (Fn.of [.call [] (E78 r1) []] (p := [Fn Tryd.prog 47 [(false, E3 no)] (E78 r1) [],
    (true || ((E78 r1).nv && nvL [])) = true]) (by kernel_rfl) (cj (impl_rowOf_ok no r1 h1) (cj1 rfl))))
def strings_Repeat (o : ByteArray) (o_ : Int) : Option (ByteArray) := if (decide (0 ≤ o_) && decide (o_ ≤ 9223372036854775807) && decide (o.size * o_.toNat ≤ 140737488355328)) = true then some (repP o o_) else none
theorem strings_Repeat_ok (o : ByteArray) (o_ : Int) : Pn (fun y => Fn Tryd.prog 36 [(false, E9 o), (false, E3 o_)] (E9 y) []) (strings_Repeat o o_) := by
  unfold strings_Repeat
  exact Pn.ite (fun h => Pn.some (by
    simp only [Bool.and_eq_true, decide_eq_true_eq] at h
    exact Fn.flat [(.string o), (.int .i64 o_)] (by kernel_rfl) rfl (fun w hw => by
      have e : (o_.toNat : Int) = o_ := Int.toNat_of_nonneg h.1.1
      have := Go.Proofs.Any.strings_Repeat Tryd.lays105 Tryd.Builder_Extra_105 o o_.toNat w (by omega) h.2
      rw [e] at this
      exact this))) (fun _ => Pn.none)
def impl_FieldFit (no : Int) (s_ : ByteArray) : Option (ByteArray) :=
 (impl_FieldSize no).bind fun r1 =>
 (impl_FieldKind no).bind fun r2 =>
 if (r2 == 1) = true then
 (strings_Repeat (bs [48]) (imax (i64 (r1 - (s_.size : Int))) 0)).bind fun r3 =>
 if (decide (r3.size + s_.size ≤ 9223372036854775807)) = true then
 (impl_FieldOk no (r3 ++ s_)).bind fun r4 =>
 if r4 = true then
 some (r3 ++ s_)
 else
 some (bs [])
 else none
 else
 if (r2 == 2) = true then
 (strings_Repeat (bs [32]) (imax (i64 (r1 - (s_.size : Int))) 0)).bind fun r5 =>
 if (decide (s_.size + r5.size ≤ 9223372036854775807)) = true then
 (impl_FieldOk no (s_ ++ r5)).bind fun r6 =>
 if r6 = true then
 some (s_ ++ r5)
 else
 some (bs [])
 else none
 else
 (impl_FieldOk no s_).bind fun r7 =>
 if r7 = true then
 some s_
 else
 some (bs [])
theorem impl_FieldFit_ok (no : Int) (s_ : ByteArray) : Pn (fun y => Fn Tryd.prog 18 [(false, E3 no), (false, E9 s_)] (E9 y) []) (impl_FieldFit no s_) := by
  unfold impl_FieldFit
  exact
   Pn.bind (fun r1 h1 =>
   Pn.bind (fun r2 h2 =>
   Pn.ite (fun h3 =>
   Pn.bind (fun r3 h4 =>
   Pn.ite (fun h5 =>
   Pn.bind (fun r4 h6 =>
   Pn.ite (fun h7 =>
   Pn.some (Fn.of [.call [] (E3 r1) [], .call [] (E3 r2) [], .bit true, .call [] (E9 r3) [], .call [] (E4 r4) [], .bit false] (p := [Fn Tryd.prog 34 [(false, E3 no)] (E3 r1) [],
    (true || ((E3 r1).nv && nvL [])) = true,
    Fn Tryd.prog 35 [(false, E3 no)] (E3 r2) [],
    (true || ((E3 r2).nv && nvL [])) = true,
    (r2 == 1) = true,
    Fn Tryd.prog 36 [(false, E9 (bs [48])), (false, E3 (imax (i64 (r1 - (s_.size : Int))) 0))] (E9 r3) [],
    (true || ((E9 r3).nv && nvL [])) = true,
    r3.size + s_.size ≤ 9223372036854775807,
    Fn Tryd.prog 30 [(false, E3 no), (false, E9 (r3 ++ s_))] (E4 r4) [],
    (true || ((E4 r4).nv && nvL [])) = true,
    (!r4) = false]) (by kernel_rfl) (cj (impl_FieldSize_ok no r1 h1) (cj rfl (cj (impl_FieldKind_ok no r2 h2) (cj rfl (cj h3 (cj (strings_Repeat_ok (bs [48]) (imax (i64 (r1 - (s_.size : Int))) 0) r3 h4) (cj rfl (cj (od h5) (cj (impl_FieldOk_ok no (r3 ++ s_) r4 h6) (cj rfl (cj1 (nf h7)))))))))))))) (fun h7 =>
   Pn.some (Fn.of [.call [] (E3 r1) [], .call [] (E3 r2) [], .bit true, .call [] (E9 r3) [], .call [] (E4 r4) [], .bit true] (p := [Fn Tryd.prog 34 [(false, E3 no)] (E3 r1) [],
    (true || ((E3 r1).nv && nvL [])) = true,
    Fn Tryd.prog 35 [(false, E3 no)] (E3 r2) [],
    (true || ((E3 r2).nv && nvL [])) = true,
    (r2 == 1) = true,
    Fn Tryd.prog 36 [(false, E9 (bs [48])), (false, E3 (imax (i64 (r1 - (s_.size : Int))) 0))] (E9 r3) [],
    (true || ((E9 r3).nv && nvL [])) = true,
    r3.size + s_.size ≤ 9223372036854775807,
    Fn Tryd.prog 30 [(false, E3 no), (false, E9 (r3 ++ s_))] (E4 r4) [],
    (true || ((E4 r4).nv && nvL [])) = true,
    (!r4) = true]) (by kernel_rfl) (cj (impl_FieldSize_ok no r1 h1) (cj rfl (cj (impl_FieldKind_ok no r2 h2) (cj rfl (cj h3 (cj (strings_Repeat_ok (bs [48]) (imax (i64 (r1 - (s_.size : Int))) 0) r3 h4) (cj rfl (cj (od h5) (cj (impl_FieldOk_ok no (r3 ++ s_) r4 h6) (cj rfl (cj1 (nt h7)))))))))))))))) (fun h5 =>
   Pn.none))) (fun h3 =>
   Pn.ite (fun h8 =>
   Pn.bind (fun r5 h9 =>
   Pn.ite (fun h10 =>
   Pn.bind (fun r6 h11 =>
   Pn.ite (fun h12 =>
   Pn.some (Fn.of [.call [] (E3 r1) [], .call [] (E3 r2) [], .bit false, .bit true, .call [] (E9 r5) [], .call [] (E4 r6) [], .bit false] (p := [Fn Tryd.prog 34 [(false, E3 no)] (E3 r1) [],
    (true || ((E3 r1).nv && nvL [])) = true,
    Fn Tryd.prog 35 [(false, E3 no)] (E3 r2) [],
    (true || ((E3 r2).nv && nvL [])) = true,
    (r2 == 1) = false,
    (r2 == 2) = true,
    Fn Tryd.prog 36 [(false, E9 (bs [32])), (false, E3 (imax (i64 (r1 - (s_.size : Int))) 0))] (E9 r5) [],
    (true || ((E9 r5).nv && nvL [])) = true,
    s_.size + r5.size ≤ 9223372036854775807,
    Fn Tryd.prog 30 [(false, E3 no), (false, E9 (s_ ++ r5))] (E4 r6) [],
    (true || ((E4 r6).nv && nvL [])) = true,
    (!r6) = false]) (by kernel_rfl) (cj (impl_FieldSize_ok no r1 h1) (cj rfl (cj (impl_FieldKind_ok no r2 h2) (cj rfl (cj h3 (cj h8 (cj (strings_Repeat_ok (bs [32]) (imax (i64 (r1 - (s_.size : Int))) 0) r5 h9) (cj rfl (cj (od h10) (cj (impl_FieldOk_ok no (s_ ++ r5) r6 h11) (cj rfl (cj1 (nf h12))))))))))))))) (fun h12 =>
   Pn.some (Fn.of [.call [] (E3 r1) [], .call [] (E3 r2) [], .bit false, .bit true, .call [] (E9 r5) [], .call [] (E4 r6) [], .bit true] (p := [Fn Tryd.prog 34 [(false, E3 no)] (E3 r1) [],
    (true || ((E3 r1).nv && nvL [])) = true,
    Fn Tryd.prog 35 [(false, E3 no)] (E3 r2) [],
    (true || ((E3 r2).nv && nvL [])) = true,
    (r2 == 1) = false,
    (r2 == 2) = true,
    Fn Tryd.prog 36 [(false, E9 (bs [32])), (false, E3 (imax (i64 (r1 - (s_.size : Int))) 0))] (E9 r5) [],
    (true || ((E9 r5).nv && nvL [])) = true,
    s_.size + r5.size ≤ 9223372036854775807,
    Fn Tryd.prog 30 [(false, E3 no), (false, E9 (s_ ++ r5))] (E4 r6) [],
    (true || ((E4 r6).nv && nvL [])) = true,
    (!r6) = true]) (by kernel_rfl) (cj (impl_FieldSize_ok no r1 h1) (cj rfl (cj (impl_FieldKind_ok no r2 h2) (cj rfl (cj h3 (cj h8 (cj (strings_Repeat_ok (bs [32]) (imax (i64 (r1 - (s_.size : Int))) 0) r5 h9) (cj rfl (cj (od h10) (cj (impl_FieldOk_ok no (s_ ++ r5) r6 h11) (cj rfl (cj1 (nt h12))))))))))))))))) (fun h10 =>
   Pn.none))) (fun h8 =>
   Pn.bind (fun r7 h13 =>
   Pn.ite (fun h14 =>
   Pn.some (Fn.of [.call [] (E3 r1) [], .call [] (E3 r2) [], .bit false, .bit false, .call [] (E4 r7) [], .bit false] (p := [Fn Tryd.prog 34 [(false, E3 no)] (E3 r1) [],
    (true || ((E3 r1).nv && nvL [])) = true,
    Fn Tryd.prog 35 [(false, E3 no)] (E3 r2) [],
    (true || ((E3 r2).nv && nvL [])) = true,
    (r2 == 1) = false,
    (r2 == 2) = false,
    Fn Tryd.prog 30 [(false, E3 no), (false, E9 s_)] (E4 r7) [],
    (true || ((E4 r7).nv && nvL [])) = true,
    (!r7) = false]) (by kernel_rfl) (cj (impl_FieldSize_ok no r1 h1) (cj rfl (cj (impl_FieldKind_ok no r2 h2) (cj rfl (cj h3 (cj h8 (cj (impl_FieldOk_ok no s_ r7 h13) (cj rfl (cj1 (nf h14)))))))))))) (fun h14 =>
   Pn.some (Fn.of [.call [] (E3 r1) [], .call [] (E3 r2) [], .bit false, .bit false, .call [] (E4 r7) [], .bit true] (p := [Fn Tryd.prog 34 [(false, E3 no)] (E3 r1) [],
    (true || ((E3 r1).nv && nvL [])) = true,
    Fn Tryd.prog 35 [(false, E3 no)] (E3 r2) [],
    (true || ((E3 r2).nv && nvL [])) = true,
    (r2 == 1) = false,
    (r2 == 2) = false,
    Fn Tryd.prog 30 [(false, E3 no), (false, E9 s_)] (E4 r7) [],
    (true || ((E4 r7).nv && nvL [])) = true,
    (!r7) = true]) (by kernel_rfl) (cj (impl_FieldSize_ok no r1 h1) (cj rfl (cj (impl_FieldKind_ok no r2 h2) (cj rfl (cj h3 (cj h8 (cj (impl_FieldOk_ok no s_ r7 h13) (cj rfl (cj1 (nt h14)))))))))))))))))
def impl_Reply_l0 (o : Msg) (o_ : Int) (a2 : ByteArray) (a3 : ByteArray) : Nat → ByteArray → Int → (List Field) → Option (ByteArray × (List Field))
  | 0, _, _, _ => none
  | fuel + 1, v4, v5, v6 =>
   if (decide (v5 < 13)) = true then
   if (decide (0 ≤ v5)) = true then
   ([2, 3, 4, 7, 11, 37, 38, 39, 41, 49, 54, 102, 103][v5.toNat]?).bind fun x1 =>
   (impl_FieldOf o x1).bind fun r5 =>
   if (x1 == 38) = true then
   if (o_ == 0) = true then
   if (a2 == (bs [])) = true then
   impl_Reply_l0 o o_ a2 a3 fuel v4 (i64 (v5 + 1)) v6
   else
   (impl_FieldFit 38 a2).bind fun r6 =>
   (impl_Reply_1 38 r6 (Msg.mk v4 v6)).bind fun r7 =>
   impl_Reply_l0 o o_ a2 a3 fuel r7.Mti (i64 (v5 + 1)) r7.List
   else
   impl_Reply_l0 o o_ a2 a3 fuel v4 (i64 (v5 + 1)) v6
   else
   if (x1 == 39) = true then
   (impl_RsText o_).bind fun r8 =>
   (impl_Reply_1 39 r8 (Msg.mk v4 v6)).bind fun r9 =>
   impl_Reply_l0 o o_ a2 a3 fuel r9.Mti (i64 (v5 + 1)) r9.List
   else
   if (x1 == 54) = true then
   if (a3 == (bs [])) = true then
   impl_Reply_l0 o o_ a2 a3 fuel v4 (i64 (v5 + 1)) v6
   else
   (impl_Reply_1 54 a3 (Msg.mk v4 v6)).bind fun r10 =>
   impl_Reply_l0 o o_ a2 a3 fuel r10.Mti (i64 (v5 + 1)) r10.List
   else
   if r5.2 = true then
   (impl_Reply_1 x1 r5.1 (Msg.mk v4 v6)).bind fun r11 =>
   impl_Reply_l0 o o_ a2 a3 fuel r11.Mti (i64 (v5 + 1)) r11.List
   else
   impl_Reply_l0 o o_ a2 a3 fuel v4 (i64 (v5 + 1)) v6
   else none
   else
   some (v4, v6)
theorem impl_Reply_l0_ok (o : Msg) (o_ : Int) (a2 : ByteArray) (a3 : ByteArray) : ∀ (fuel : Nat) (v4 : ByteArray) (v5 : Int) (v6 : List Field), Pn (LpO Tryd.prog (sub (codeOf Tryd.prog 6) [1, 1, 1, 1, 0, 1, 0, 0]) (st 88 [(1, V.sc (.int .i64 o_)), (2, V.sc (.string a2)), (3, V.sc (.string a3)), (4, V.ptr 0 0), (8, V.ptr 1 0), (10, V.ptr 2 0), (11, V.fn 17 [V.ptr 2 0]), (36, V.ow 4), (37, V.sc (.int .i64 13)), (38, V.sc (.int .i64 v5))] [Blk.box 25 [V.sc (.string o.Mti), V.sl false 48 (List.map E48 o.List)], Blk.box 25 [V.sc (.string ByteArray.empty), V.nl 48], Blk.box 25 [V.sc (.string v4), V.ow 3], Blk.row 48 (List.map E48 v6) [], Blk.row 3 (List.map E3 [2, 3, 4, 7, 11, 37, 38, 39, 41, 49, 54, 102, 103]) []] []) (fun (y : ByteArray × (List Field)) => (X.out 0, st 88 [(8, V.ptr 0 0), (10, V.ptr 1 0)] [Blk.box 25 [V.sc (.string ByteArray.empty), V.nl 48], Blk.box 25 [V.sc (.string y.1), V.ow 2], Blk.row 48 (List.map E48 y.2) []] []))) (impl_Reply_l0 o o_ a2 a3 fuel v4 v5 v6)
  | 0, _, _, _ => Pn.none
  | fuel + 1, v4, v5, v6 => by
    unfold impl_Reply_l0
    exact
     Pn.ite (fun h10 =>
     Pn.ite (fun h11 =>
     Pn.bind (fun x1 h12 =>
     Pn.bind (fun r5 h13 =>
     Pn.ite (fun h14 =>
     Pn.ite (fun h15 =>
     Pn.ite (fun h16 =>
     LpO.go [.bit true, .el (E3 x1), .call [] (V.tup [E9 r5.1, E4 r5.2]) [], .bit true, .bit true, .bit true, .bit true, .bit false, .wait 2, .mask [1, 2, 3, 4, 8, 10, 11, 36, 37, 38], .ren [0, 1, 2, 3, 4]] (p := [(decide (v5 < 13)) = true,
      (0 : Int) ≤ v5,
      (v5 : Int) < ((List.map E3 [2, 3, 4, 7, 11, 37, 38, 39, 41, 49, 54, 102, 103]).length : Int),
      look [] v5.toNat = none,
      (List.map E3 [2, 3, 4, 7, 11, 37, 38, 39, 41, 49, 54, 102, 103])[v5.toNat]? = some (E3 x1),
      Fn Tryd.prog 10 [(false, E25 o), (false, E3 x1)] (V.tup [E9 r5.1, E4 r5.2]) [],
      (true || ((V.tup [E9 r5.1, E4 r5.2]).nv && nvL [])) = true,
      (x1 == 38) = true,
      (o_ == 0) = true,
      (o_ == 0) = true,
      (o_ == 0) = true,
      (!(a2 == (bs []))) = false]) (by kernel_rfl) (cj h10 (cj (od h11) (cj (map_ltN (od h11) h12) (cj rfl (cj (map_get h12) (cj (impl_FieldOf_ok o x1 r5 h13) (cj rfl (cj h14 (cj h15 (cj h15 (cj h15 (cj1 (nf h16))))))))))))) (impl_Reply_l0_ok o o_ a2 a3 fuel v4 (i64 (v5 + 1)) v6)) (fun h16 =>
     Pn.bind (fun r6 h17 =>
     Pn.bind (fun r7 h18 =>
     LpO.go [.bit true, .el (E3 x1), .call [] (V.tup [E9 r5.1, E4 r5.2]) [], .bit true, .bit true, .bit true, .bit true, .bit true, .call [] (E9 r6) [], .call [false, false, true] (V.tup []) [V.bx 25 [V.sc (.string r7.Mti), V.sl true 48 (List.map E48 r7.List)]], .wait 3, .mask [1, 2, 3, 4, 8, 10, 11, 36, 37, 38], .ren [0, 1, 2, 5, 4]] (p := [(decide (v5 < 13)) = true,
      (0 : Int) ≤ v5,
      (v5 : Int) < ((List.map E3 [2, 3, 4, 7, 11, 37, 38, 39, 41, 49, 54, 102, 103]).length : Int),
      look [] v5.toNat = none,
      (List.map E3 [2, 3, 4, 7, 11, 37, 38, 39, 41, 49, 54, 102, 103])[v5.toNat]? = some (E3 x1),
      Fn Tryd.prog 10 [(false, E25 o), (false, E3 x1)] (V.tup [E9 r5.1, E4 r5.2]) [],
      (true || ((V.tup [E9 r5.1, E4 r5.2]).nv && nvL [])) = true,
      (x1 == 38) = true,
      (o_ == 0) = true,
      (o_ == 0) = true,
      (o_ == 0) = true,
      (!(a2 == (bs []))) = true,
      Fn Tryd.prog 18 [(false, E3 38), (false, E9 a2)] (E9 r6) [],
      (true || ((E9 r6).nv && nvL [])) = true,
      Fn Tryd.prog 17 [(false, E3 38), (false, E9 r6), (true, V.bx 25 [V.sc (.string ((Msg.mk v4 v6).Mti)), V.sl true 48 (List.map E48 ((Msg.mk v4 v6).List))])] (V.tup []) [V.bx 25 [V.sc (.string r7.Mti), V.sl true 48 (List.map E48 r7.List)]],
      (true || ((V.tup []).nv && nvL [V.bx 25 [V.sc (.string r7.Mti), V.sl true 48 (List.map E48 r7.List)]])) = true]) (by kernel_rfl) (cj h10 (cj (od h11) (cj (map_ltN (od h11) h12) (cj rfl (cj (map_get h12) (cj (impl_FieldOf_ok o x1 r5 h13) (cj rfl (cj h14 (cj h15 (cj h15 (cj h15 (cj (nt h16) (cj (impl_FieldFit_ok 38 a2 r6 h17) (cj rfl (cj (impl_Reply_1_ok 38 r6 (Msg.mk v4 v6) r7 h18) (cj1 rfl)))))))))))))))) (impl_Reply_l0_ok o o_ a2 a3 fuel r7.Mti (i64 (v5 + 1)) r7.List))))) (fun h15 =>
     LpO.go [.bit true, .el (E3 x1), .call [] (V.tup [E9 r5.1, E4 r5.2]) [], .bit true, .bit false, .bit false, .bit false, .bit false, .wait 2, .mask [1, 2, 3, 4, 8, 10, 11, 36, 37, 38], .ren [0, 1, 2, 3, 4]] (p := [(decide (v5 < 13)) = true,
      (0 : Int) ≤ v5,
      (v5 : Int) < ((List.map E3 [2, 3, 4, 7, 11, 37, 38, 39, 41, 49, 54, 102, 103]).length : Int),
      look [] v5.toNat = none,
      (List.map E3 [2, 3, 4, 7, 11, 37, 38, 39, 41, 49, 54, 102, 103])[v5.toNat]? = some (E3 x1),
      Fn Tryd.prog 10 [(false, E25 o), (false, E3 x1)] (V.tup [E9 r5.1, E4 r5.2]) [],
      (true || ((V.tup [E9 r5.1, E4 r5.2]).nv && nvL [])) = true,
      (x1 == 38) = true,
      (o_ == 0) = false,
      (o_ == 0) = false,
      (o_ == 0) = false,
      false = false]) (by kernel_rfl) (cj h10 (cj (od h11) (cj (map_ltN (od h11) h12) (cj rfl (cj (map_get h12) (cj (impl_FieldOf_ok o x1 r5 h13) (cj rfl (cj h14 (cj h15 (cj h15 (cj h15 (cj1 rfl)))))))))))) (impl_Reply_l0_ok o o_ a2 a3 fuel v4 (i64 (v5 + 1)) v6))) (fun h14 =>
     Pn.ite (fun h19 =>
     Pn.bind (fun r8 h20 =>
     Pn.bind (fun r9 h21 =>
     LpO.go [.bit true, .el (E3 x1), .call [] (V.tup [E9 r5.1, E4 r5.2]) [], .bit false, .bit true, .call [] (E9 r8) [], .call [false, false, true] (V.tup []) [V.bx 25 [V.sc (.string r9.Mti), V.sl true 48 (List.map E48 r9.List)]], .wait 3, .mask [1, 2, 3, 4, 8, 10, 11, 36, 37, 38], .ren [0, 1, 2, 5, 4]] (p := [(decide (v5 < 13)) = true,
      (0 : Int) ≤ v5,
      (v5 : Int) < ((List.map E3 [2, 3, 4, 7, 11, 37, 38, 39, 41, 49, 54, 102, 103]).length : Int),
      look [] v5.toNat = none,
      (List.map E3 [2, 3, 4, 7, 11, 37, 38, 39, 41, 49, 54, 102, 103])[v5.toNat]? = some (E3 x1),
      Fn Tryd.prog 10 [(false, E25 o), (false, E3 x1)] (V.tup [E9 r5.1, E4 r5.2]) [],
      (true || ((V.tup [E9 r5.1, E4 r5.2]).nv && nvL [])) = true,
      (x1 == 38) = false,
      (x1 == 39) = true,
      Fn Tryd.prog 16 [(false, E3 o_)] (E9 r8) [],
      (true || ((E9 r8).nv && nvL [])) = true,
      Fn Tryd.prog 17 [(false, E3 39), (false, E9 r8), (true, V.bx 25 [V.sc (.string ((Msg.mk v4 v6).Mti)), V.sl true 48 (List.map E48 ((Msg.mk v4 v6).List))])] (V.tup []) [V.bx 25 [V.sc (.string r9.Mti), V.sl true 48 (List.map E48 r9.List)]],
      (true || ((V.tup []).nv && nvL [V.bx 25 [V.sc (.string r9.Mti), V.sl true 48 (List.map E48 r9.List)]])) = true]) (by kernel_rfl) (cj h10 (cj (od h11) (cj (map_ltN (od h11) h12) (cj rfl (cj (map_get h12) (cj (impl_FieldOf_ok o x1 r5 h13) (cj rfl (cj h14 (cj h19 (cj (impl_RsText_ok o_ r8 h20) (cj rfl (cj (impl_Reply_1_ok 39 r8 (Msg.mk v4 v6) r9 h21) (cj1 rfl))))))))))))) (impl_Reply_l0_ok o o_ a2 a3 fuel r9.Mti (i64 (v5 + 1)) r9.List)))) (fun h19 =>
     Pn.ite (fun h22 =>
     Pn.ite (fun h23 =>
     LpO.go [.bit true, .el (E3 x1), .call [] (V.tup [E9 r5.1, E4 r5.2]) [], .bit false, .bit false, .bit true, .bit false, .wait 2, .mask [1, 2, 3, 4, 8, 10, 11, 36, 37, 38], .ren [0, 1, 2, 3, 4]] (p := [(decide (v5 < 13)) = true,
      (0 : Int) ≤ v5,
      (v5 : Int) < ((List.map E3 [2, 3, 4, 7, 11, 37, 38, 39, 41, 49, 54, 102, 103]).length : Int),
      look [] v5.toNat = none,
      (List.map E3 [2, 3, 4, 7, 11, 37, 38, 39, 41, 49, 54, 102, 103])[v5.toNat]? = some (E3 x1),
      Fn Tryd.prog 10 [(false, E25 o), (false, E3 x1)] (V.tup [E9 r5.1, E4 r5.2]) [],
      (true || ((V.tup [E9 r5.1, E4 r5.2]).nv && nvL [])) = true,
      (x1 == 38) = false,
      (x1 == 39) = false,
      (x1 == 54) = true,
      (!(a3 == (bs []))) = false]) (by kernel_rfl) (cj h10 (cj (od h11) (cj (map_ltN (od h11) h12) (cj rfl (cj (map_get h12) (cj (impl_FieldOf_ok o x1 r5 h13) (cj rfl (cj h14 (cj h19 (cj h22 (cj1 (nf h23)))))))))))) (impl_Reply_l0_ok o o_ a2 a3 fuel v4 (i64 (v5 + 1)) v6)) (fun h23 =>
     Pn.bind (fun r10 h24 =>
     LpO.go [.bit true, .el (E3 x1), .call [] (V.tup [E9 r5.1, E4 r5.2]) [], .bit false, .bit false, .bit true, .bit true, .call [false, false, true] (V.tup []) [V.bx 25 [V.sc (.string r10.Mti), V.sl true 48 (List.map E48 r10.List)]], .wait 3, .mask [1, 2, 3, 4, 8, 10, 11, 36, 37, 38], .ren [0, 1, 2, 5, 4]] (p := [(decide (v5 < 13)) = true,
      (0 : Int) ≤ v5,
      (v5 : Int) < ((List.map E3 [2, 3, 4, 7, 11, 37, 38, 39, 41, 49, 54, 102, 103]).length : Int),
      look [] v5.toNat = none,
      (List.map E3 [2, 3, 4, 7, 11, 37, 38, 39, 41, 49, 54, 102, 103])[v5.toNat]? = some (E3 x1),
      Fn Tryd.prog 10 [(false, E25 o), (false, E3 x1)] (V.tup [E9 r5.1, E4 r5.2]) [],
      (true || ((V.tup [E9 r5.1, E4 r5.2]).nv && nvL [])) = true,
      (x1 == 38) = false,
      (x1 == 39) = false,
      (x1 == 54) = true,
      (!(a3 == (bs []))) = true,
      Fn Tryd.prog 17 [(false, E3 54), (false, E9 a3), (true, V.bx 25 [V.sc (.string ((Msg.mk v4 v6).Mti)), V.sl true 48 (List.map E48 ((Msg.mk v4 v6).List))])] (V.tup []) [V.bx 25 [V.sc (.string r10.Mti), V.sl true 48 (List.map E48 r10.List)]],
      (true || ((V.tup []).nv && nvL [V.bx 25 [V.sc (.string r10.Mti), V.sl true 48 (List.map E48 r10.List)]])) = true]) (by kernel_rfl) (cj h10 (cj (od h11) (cj (map_ltN (od h11) h12) (cj rfl (cj (map_get h12) (cj (impl_FieldOf_ok o x1 r5 h13) (cj rfl (cj h14 (cj h19 (cj h22 (cj (nt h23) (cj (impl_Reply_1_ok 54 a3 (Msg.mk v4 v6) r10 h24) (cj1 rfl))))))))))))) (impl_Reply_l0_ok o o_ a2 a3 fuel r10.Mti (i64 (v5 + 1)) r10.List)))) (fun h22 =>
     Pn.ite (fun h25 =>
     Pn.bind (fun r11 h26 =>
     LpO.go [.bit true, .el (E3 x1), .call [] (V.tup [E9 r5.1, E4 r5.2]) [], .bit false, .bit false, .bit false, .bit true, .call [false, false, true] (V.tup []) [V.bx 25 [V.sc (.string r11.Mti), V.sl true 48 (List.map E48 r11.List)]], .wait 3, .mask [1, 2, 3, 4, 8, 10, 11, 36, 37, 38], .ren [0, 1, 2, 5, 4]] (p := [(decide (v5 < 13)) = true,
      (0 : Int) ≤ v5,
      (v5 : Int) < ((List.map E3 [2, 3, 4, 7, 11, 37, 38, 39, 41, 49, 54, 102, 103]).length : Int),
      look [] v5.toNat = none,
      (List.map E3 [2, 3, 4, 7, 11, 37, 38, 39, 41, 49, 54, 102, 103])[v5.toNat]? = some (E3 x1),
      Fn Tryd.prog 10 [(false, E25 o), (false, E3 x1)] (V.tup [E9 r5.1, E4 r5.2]) [],
      (true || ((V.tup [E9 r5.1, E4 r5.2]).nv && nvL [])) = true,
      (x1 == 38) = false,
      (x1 == 39) = false,
      (x1 == 54) = false,
      r5.2 = true,
      Fn Tryd.prog 17 [(false, E3 x1), (false, E9 r5.1), (true, V.bx 25 [V.sc (.string ((Msg.mk v4 v6).Mti)), V.sl true 48 (List.map E48 ((Msg.mk v4 v6).List))])] (V.tup []) [V.bx 25 [V.sc (.string r11.Mti), V.sl true 48 (List.map E48 r11.List)]],
      (true || ((V.tup []).nv && nvL [V.bx 25 [V.sc (.string r11.Mti), V.sl true 48 (List.map E48 r11.List)]])) = true]) (by kernel_rfl) (cj h10 (cj (od h11) (cj (map_ltN (od h11) h12) (cj rfl (cj (map_get h12) (cj (impl_FieldOf_ok o x1 r5 h13) (cj rfl (cj h14 (cj h19 (cj h22 (cj h25 (cj (impl_Reply_1_ok x1 r5.1 (Msg.mk v4 v6) r11 h26) (cj1 rfl))))))))))))) (impl_Reply_l0_ok o o_ a2 a3 fuel r11.Mti (i64 (v5 + 1)) r11.List))) (fun h25 =>
     LpO.go [.bit true, .el (E3 x1), .call [] (V.tup [E9 r5.1, E4 r5.2]) [], .bit false, .bit false, .bit false, .bit false, .wait 2, .mask [1, 2, 3, 4, 8, 10, 11, 36, 37, 38], .ren [0, 1, 2, 3, 4]] (p := [(decide (v5 < 13)) = true,
      (0 : Int) ≤ v5,
      (v5 : Int) < ((List.map E3 [2, 3, 4, 7, 11, 37, 38, 39, 41, 49, 54, 102, 103]).length : Int),
      look [] v5.toNat = none,
      (List.map E3 [2, 3, 4, 7, 11, 37, 38, 39, 41, 49, 54, 102, 103])[v5.toNat]? = some (E3 x1),
      Fn Tryd.prog 10 [(false, E25 o), (false, E3 x1)] (V.tup [E9 r5.1, E4 r5.2]) [],
      (true || ((V.tup [E9 r5.1, E4 r5.2]).nv && nvL [])) = true,
      (x1 == 38) = false,
      (x1 == 39) = false,
      (x1 == 54) = false,
      r5.2 = false]) (by kernel_rfl) (cj h10 (cj (od h11) (cj (map_ltN (od h11) h12) (cj rfl (cj (map_get h12) (cj (impl_FieldOf_ok o x1 r5 h13) (cj rfl (cj h14 (cj h19 (cj h22 (cj1 h25))))))))))) (impl_Reply_l0_ok o o_ a2 a3 fuel v4 (i64 (v5 + 1)) v6)))))))) (fun h11 =>
     Pn.none)) (fun h10 =>
     Pn.some (LpO.out [.bit false, .mask [8, 10], .ren [1, 2, 3]] (p := [(decide (v5 < 13)) = false]) (by kernel_rfl) (show X.out 0 ≠ X.go from nofun) (cj1 h10)))
def impl_Reply (o : Msg) (o_ : Int) (a2 : ByteArray) (a3 : ByteArray) : Option (Msg × Bool) :=
 (impl_MsgOk o).bind fun r1 =>
 if r1 = true then
 (impl_ReplyMti o.Mti).bind fun r2 =>
 if (r2 == (bs [])) = true then
 some ((Msg.mk ByteArray.empty []), false)
 else
 (impl_RsText o_).bind fun r3 =>
 if (r3 == (bs [])) = true then
 some ((Msg.mk ByteArray.empty []), false)
 else
 (impl_ReplyMti o.Mti).bind fun r4 =>
 (impl_Reply_l0 o o_ a2 a3 FUEL r4 0 []).bind fun r12 =>
 (impl_MsgOk (Msg.mk r12.1 r12.2)).bind fun r13 =>
 if r13 = true then
 some ((Msg.mk r12.1 r12.2), true)
 else
 some ((Msg.mk ByteArray.empty []), false)
 else
 some ((Msg.mk ByteArray.empty []), false)
theorem impl_Reply_ok (o : Msg) (o_ : Int) (a2 : ByteArray) (a3 : ByteArray) : Pn (fun y => Fn Tryd.prog 6 [(false, E25 o), (false, E3 o_), (false, E9 a2), (false, E9 a3)] (V.tup [E25 y.1, E4 y.2]) []) (impl_Reply o o_ a2 a3) := by
  unfold impl_Reply
  exact
   Pn.bind (fun r1 h1 =>
   Pn.ite (fun h2 =>
   Pn.bind (fun r2 h3 =>
   Pn.ite (fun h4 =>
   Pn.some (Fn.of [.call [] (E4 r1) [], .bit false, .bit false, .bit false, .call [] (E9 r2) [], .bit false, .bit false, .bit true, .bit true, .bit true, .bit true, .bit true] (p := [Fn Tryd.prog 14 [(false, E25 o)] (E4 r1) [],
    (true || ((E4 r1).nv && nvL [])) = true,
    (!r1) = false,
    (!r1) = false,
    (!r1) = false,
    Fn Tryd.prog 15 [(false, E9 o.Mti)] (E9 r2) [],
    (true || ((E9 r2).nv && nvL [])) = true,
    (!r1) = false,
    (!r1) = false,
    (r2 == (bs [])) = true,
    (r2 == (bs [])) = true,
    (r2 == (bs [])) = true,
    (r2 == (bs [])) = true,
    true = true]) (by kernel_rfl) (cj (impl_MsgOk_ok o r1 h1) (cj rfl (cj (nf h2) (cj (nf h2) (cj (nf h2) (cj (impl_ReplyMti_ok o.Mti r2 h3) (cj rfl (cj (nf h2) (cj (nf h2) (cj h4 (cj h4 (cj h4 (cj h4 (cj1 rfl)))))))))))))))) (fun h4 =>
   Pn.bind (fun r3 h5 =>
   Pn.ite (fun h6 =>
   Pn.some (Fn.of [.call [] (E4 r1) [], .bit false, .bit false, .bit false, .call [] (E9 r2) [], .bit false, .bit false, .bit false, .bit false, .call [] (E9 r3) [], .bit false, .bit false, .bit true] (p := [Fn Tryd.prog 14 [(false, E25 o)] (E4 r1) [],
    (true || ((E4 r1).nv && nvL [])) = true,
    (!r1) = false,
    (!r1) = false,
    (!r1) = false,
    Fn Tryd.prog 15 [(false, E9 o.Mti)] (E9 r2) [],
    (true || ((E9 r2).nv && nvL [])) = true,
    (!r1) = false,
    (!r1) = false,
    (r2 == (bs [])) = false,
    (r2 == (bs [])) = false,
    Fn Tryd.prog 16 [(false, E3 o_)] (E9 r3) [],
    (true || ((E9 r3).nv && nvL [])) = true,
    (r2 == (bs [])) = false,
    (r2 == (bs [])) = false,
    (r3 == (bs [])) = true]) (by kernel_rfl) (cj (impl_MsgOk_ok o r1 h1) (cj rfl (cj (nf h2) (cj (nf h2) (cj (nf h2) (cj (impl_ReplyMti_ok o.Mti r2 h3) (cj rfl (cj (nf h2) (cj (nf h2) (cj h4 (cj h4 (cj (impl_RsText_ok o_ r3 h5) (cj rfl (cj h4 (cj h4 (cj1 h6)))))))))))))))))) (fun h6 =>
   Pn.bind (fun r4 h7 =>
   Pn.bind (fun r12 h27 =>
   Pn.bind (fun r13 h28 =>
   Pn.ite (fun h29 =>
   Pn.some (Fn.of [.call [] (E4 r1) [], .bit false, .bit false, .bit false, .call [] (E9 r2) [], .bit false, .bit false, .bit false, .bit false, .call [] (E9 r3) [], .bit false, .bit false, .bit false, .call [] (E9 r4) [], .wait 9, .mask [1, 2, 3, 4, 8, 10, 11, 36, 37, 38], .ren [0, 1, 2, 3], .ownb 2 1, .mask [1, 2, 3, 4, 8, 10, 11, 36, 37, 38], .ren [0, 1, 2, 4, 3], .nb 4 (.row 3 (List.map E3 [2, 3, 4, 7, 11, 37, 38, 39, 41, 49, 54, 102, 103]) []), .mask [1, 2, 3, 4, 8, 10, 11, 36, 37, 38], .ren [0, 1, 2, 3, 4], .loop (X.out 0) (st 88 [(8, V.ptr 0 0), (10, V.ptr 1 0)] [Blk.box 25 [V.sc (.string ByteArray.empty), V.nl 48], Blk.box 25 [V.sc (.string r12.1), V.ow 2], Blk.row 48 (List.map E48 r12.2) []] []), .call [] (E4 r13) [], .bit false] (p := [Fn Tryd.prog 14 [(false, E25 o)] (E4 r1) [],
    (true || ((E4 r1).nv && nvL [])) = true,
    (!r1) = false,
    (!r1) = false,
    (!r1) = false,
    Fn Tryd.prog 15 [(false, E9 o.Mti)] (E9 r2) [],
    (true || ((E9 r2).nv && nvL [])) = true,
    (!r1) = false,
    (!r1) = false,
    (r2 == (bs [])) = false,
    (r2 == (bs [])) = false,
    Fn Tryd.prog 16 [(false, E3 o_)] (E9 r3) [],
    (true || ((E9 r3).nv && nvL [])) = true,
    (r2 == (bs [])) = false,
    (r2 == (bs [])) = false,
    (r3 == (bs [])) = false,
    Fn Tryd.prog 15 [(false, E9 o.Mti)] (E9 r4) [],
    (true || ((E9 r4).nv && nvL [])) = true,
    Blk.row 3 [V.sc (.int .i64 2), V.sc (.int .i64 3), V.sc (.int .i64 4), V.sc (.int .i64 7), V.sc (.int .i64 11), V.sc (.int .i64 37), V.sc (.int .i64 38), V.sc (.int .i64 39), V.sc (.int .i64 41), V.sc (.int .i64 49), V.sc (.int .i64 54), V.sc (.int .i64 102), V.sc (.int .i64 103)] [] = Blk.row 3 (List.map E3 [2, 3, 4, 7, 11, 37, 38, 39, 41, 49, 54, 102, 103]) [],
    Loop Tryd.prog (sub (codeOf Tryd.prog 6) [1, 1, 1, 1, 0, 1, 0, 0]) (st 88 [(1, V.sc (.int .i64 o_)), (2, V.sc (.string a2)), (3, V.sc (.string a3)), (4, V.ptr 0 0), (8, V.ptr 1 0), (10, V.ptr 2 0), (11, V.fn 17 [V.ptr 2 0]), (36, V.ow 4), (37, V.sc (.int .i64 13)), (38, V.sc (.int .i64 0))] [Blk.box 25 [V.sc (.string o.Mti), V.sl false 48 (List.map E48 o.List)], Blk.box 25 [V.sc (.string ByteArray.empty), V.nl 48], Blk.box 25 [V.sc (.string r4), V.ow 3], Blk.row 48 ([] : List V) [], Blk.row 3 (List.map E3 [2, 3, 4, 7, 11, 37, 38, 39, 41, 49, 54, 102, 103]) []] []) (X.out 0) (st 88 [(8, V.ptr 0 0), (10, V.ptr 1 0)] [Blk.box 25 [V.sc (.string ByteArray.empty), V.nl 48], Blk.box 25 [V.sc (.string r12.1), V.ow 2], Blk.row 48 (List.map E48 r12.2) []] []),
    Fn Tryd.prog 14 [(false, E25 (Msg.mk r12.1 r12.2))] (E4 r13) [],
    (false || ((E4 r13).nv && nvL [])) = true,
    (!r13) = false]) (by kernel_rfl) (cj (impl_MsgOk_ok o r1 h1) (cj rfl (cj (nf h2) (cj (nf h2) (cj (nf h2) (cj (impl_ReplyMti_ok o.Mti r2 h3) (cj rfl (cj (nf h2) (cj (nf h2) (cj h4 (cj h4 (cj (impl_RsText_ok o_ r3 h5) (cj rfl (cj h4 (cj h4 (cj h6 (cj (impl_ReplyMti_ok o.Mti r4 h7) (cj rfl (cj rfl (cj (impl_Reply_l0_ok o o_ a2 a3 FUEL r4 0 [] r12 h27) (cj (impl_MsgOk_ok (Msg.mk r12.1 r12.2) r13 h28) (cj (by simp [V.nv, nvL, nvL_all, nv_E4]) (cj1 (nf h29)))))))))))))))))))))))))) (fun h29 =>
   Pn.some (Fn.of [.call [] (E4 r1) [], .bit false, .bit false, .bit false, .call [] (E9 r2) [], .bit false, .bit false, .bit false, .bit false, .call [] (E9 r3) [], .bit false, .bit false, .bit false, .call [] (E9 r4) [], .wait 9, .mask [1, 2, 3, 4, 8, 10, 11, 36, 37, 38], .ren [0, 1, 2, 3], .ownb 2 1, .mask [1, 2, 3, 4, 8, 10, 11, 36, 37, 38], .ren [0, 1, 2, 4, 3], .nb 4 (.row 3 (List.map E3 [2, 3, 4, 7, 11, 37, 38, 39, 41, 49, 54, 102, 103]) []), .mask [1, 2, 3, 4, 8, 10, 11, 36, 37, 38], .ren [0, 1, 2, 3, 4], .loop (X.out 0) (st 88 [(8, V.ptr 0 0), (10, V.ptr 1 0)] [Blk.box 25 [V.sc (.string ByteArray.empty), V.nl 48], Blk.box 25 [V.sc (.string r12.1), V.ow 2], Blk.row 48 (List.map E48 r12.2) []] []), .call [] (E4 r13) [], .bit true] (p := [Fn Tryd.prog 14 [(false, E25 o)] (E4 r1) [],
    (true || ((E4 r1).nv && nvL [])) = true,
    (!r1) = false,
    (!r1) = false,
    (!r1) = false,
    Fn Tryd.prog 15 [(false, E9 o.Mti)] (E9 r2) [],
    (true || ((E9 r2).nv && nvL [])) = true,
    (!r1) = false,
    (!r1) = false,
    (r2 == (bs [])) = false,
    (r2 == (bs [])) = false,
    Fn Tryd.prog 16 [(false, E3 o_)] (E9 r3) [],
    (true || ((E9 r3).nv && nvL [])) = true,
    (r2 == (bs [])) = false,
    (r2 == (bs [])) = false,
    (r3 == (bs [])) = false,
    Fn Tryd.prog 15 [(false, E9 o.Mti)] (E9 r4) [],
    (true || ((E9 r4).nv && nvL [])) = true,
    Blk.row 3 [V.sc (.int .i64 2), V.sc (.int .i64 3), V.sc (.int .i64 4), V.sc (.int .i64 7), V.sc (.int .i64 11), V.sc (.int .i64 37), V.sc (.int .i64 38), V.sc (.int .i64 39), V.sc (.int .i64 41), V.sc (.int .i64 49), V.sc (.int .i64 54), V.sc (.int .i64 102), V.sc (.int .i64 103)] [] = Blk.row 3 (List.map E3 [2, 3, 4, 7, 11, 37, 38, 39, 41, 49, 54, 102, 103]) [],
    Loop Tryd.prog (sub (codeOf Tryd.prog 6) [1, 1, 1, 1, 0, 1, 0, 0]) (st 88 [(1, V.sc (.int .i64 o_)), (2, V.sc (.string a2)), (3, V.sc (.string a3)), (4, V.ptr 0 0), (8, V.ptr 1 0), (10, V.ptr 2 0), (11, V.fn 17 [V.ptr 2 0]), (36, V.ow 4), (37, V.sc (.int .i64 13)), (38, V.sc (.int .i64 0))] [Blk.box 25 [V.sc (.string o.Mti), V.sl false 48 (List.map E48 o.List)], Blk.box 25 [V.sc (.string ByteArray.empty), V.nl 48], Blk.box 25 [V.sc (.string r4), V.ow 3], Blk.row 48 ([] : List V) [], Blk.row 3 (List.map E3 [2, 3, 4, 7, 11, 37, 38, 39, 41, 49, 54, 102, 103]) []] []) (X.out 0) (st 88 [(8, V.ptr 0 0), (10, V.ptr 1 0)] [Blk.box 25 [V.sc (.string ByteArray.empty), V.nl 48], Blk.box 25 [V.sc (.string r12.1), V.ow 2], Blk.row 48 (List.map E48 r12.2) []] []),
    Fn Tryd.prog 14 [(false, E25 (Msg.mk r12.1 r12.2))] (E4 r13) [],
    (false || ((E4 r13).nv && nvL [])) = true,
    (!r13) = true]) (by kernel_rfl) (cj (impl_MsgOk_ok o r1 h1) (cj rfl (cj (nf h2) (cj (nf h2) (cj (nf h2) (cj (impl_ReplyMti_ok o.Mti r2 h3) (cj rfl (cj (nf h2) (cj (nf h2) (cj h4 (cj h4 (cj (impl_RsText_ok o_ r3 h5) (cj rfl (cj h4 (cj h4 (cj h6 (cj (impl_ReplyMti_ok o.Mti r4 h7) (cj rfl (cj rfl (cj (impl_Reply_l0_ok o o_ a2 a3 FUEL r4 0 [] r12 h27) (cj (impl_MsgOk_ok (Msg.mk r12.1 r12.2) r13 h28) (cj (by simp [V.nv, nvL, nvL_all, nv_E4]) (cj1 (nt h29)))))))))))))))))))))))))))))))))) (fun h2 =>
   Pn.some (Fn.of [.call [] (E4 r1) [], .bit true, .bit true, .bit true, .bit true, .bit true, .bit true, .bit true, .bit true, .bit true, .bit true] (p := [Fn Tryd.prog 14 [(false, E25 o)] (E4 r1) [],
    (true || ((E4 r1).nv && nvL [])) = true,
    (!r1) = true,
    (!r1) = true,
    (!r1) = true,
    (!r1) = true,
    (!r1) = true,
    true = true,
    true = true,
    true = true,
    true = true,
    true = true]) (by kernel_rfl) (cj (impl_MsgOk_ok o r1 h1) (cj rfl (cj (nt h2) (cj (nt h2) (cj (nt h2) (cj (nt h2) (cj (nt h2) (cj rfl (cj rfl (cj rfl (cj rfl (cj1 rfl)))))))))))))))
def spec_Digits_l0 (s_ : ByteArray) : Nat → Int → Option (Lo Unit Unit)
  | 0, _ => none
  | fuel + 1, v1 =>
   if (decide (v1 < (s_.size : Int))) = true then
   if (decide (0 ≤ v1)) = true then
   if (decide ((v1 : Int) < (s_.size : Int))) = true then
   if (decide ((sAt s_ v1) < 48)) = true then
   some (.ret ())
   else
   if (decide (57 < (sAt s_ v1))) = true then
   some (.ret ())
   else
   spec_Digits_l0 s_ fuel (i64 (v1 + 1))
   else none
   else none
   else
   some (.out ())
theorem spec_Digits_l0_ok (s_ : ByteArray) : ∀ (fuel : Nat) (v1 : Int), Pn (LpO Tryd.prog (sub (codeOf Tryd.prog 19) [1, 0, 1, 0, 0]) (st 23 [(0, V.sc (.string s_)), (3, V.sc (.int .i64 v1))] [] []) (fun (y : Lo Unit Unit) => Lo.elim y (fun s => (X.out 0, st 23 [(0, V.sc (.string s_))] [] [])) (fun s => (X.ret, st 23 [(2, V.sc (.bool false))] [] [])))) (spec_Digits_l0 s_ fuel v1)
  | 0, _ => Pn.none
  | fuel + 1, v1 => by
    unfold spec_Digits_l0
    exact
     Pn.ite (fun h1 =>
     Pn.ite (fun h2 =>
     Pn.ite (fun h3 =>
     Pn.ite (fun h4 =>
     Pn.some (LpO.out [.bit true, .bit true, .bit true, .bit true, .bit true, .bit true, .bit true, .wait 1, .mask [2], .ren []] (p := [(decide (v1 < (s_.size : Int))) = true,
      (0 : Int) ≤ v1,
      (v1 : Int) < s_.size,
      (decide ((sAt s_ v1) < 48)) = true,
      (decide ((sAt s_ v1) < 48)) = true,
      (decide ((sAt s_ v1) < 48)) = true,
      (decide ((sAt s_ v1) < 48)) = true,
      (decide ((sAt s_ v1) < 48)) = true,
      true = true]) (by kernel_rfl) (show X.ret ≠ X.go from nofun) (cj h1 (cj (od h2) (cj (od h3) (cj h4 (cj h4 (cj h4 (cj h4 (cj h4 (cj1 rfl))))))))))) (fun h4 =>
     Pn.ite (fun h5 =>
     Pn.some (LpO.out [.bit true, .bit false, .bit false, .bit false, .bit false, .bit false, .bit true, .wait 1, .mask [2], .ren []] (p := [(decide (v1 < (s_.size : Int))) = true,
      (0 : Int) ≤ v1,
      (v1 : Int) < s_.size,
      (decide ((sAt s_ v1) < 48)) = false,
      (decide ((sAt s_ v1) < 48)) = false,
      (decide ((sAt s_ v1) < 48)) = false,
      (0 : Int) ≤ v1,
      (v1 : Int) < s_.size,
      (decide ((sAt s_ v1) < 48)) = false,
      (decide ((sAt s_ v1) < 48)) = false,
      (decide (57 < (sAt s_ v1))) = true]) (by kernel_rfl) (show X.ret ≠ X.go from nofun) (cj h1 (cj (od h2) (cj (od h3) (cj h4 (cj h4 (cj h4 (cj (od h2) (cj (od h3) (cj h4 (cj h4 (cj1 h5))))))))))))) (fun h5 =>
     LpO.go [.bit true, .bit false, .bit false, .bit false, .bit false, .bit false, .bit false, .wait 3, .mask [0, 3], .ren []] (p := [(decide (v1 < (s_.size : Int))) = true,
      (0 : Int) ≤ v1,
      (v1 : Int) < s_.size,
      (decide ((sAt s_ v1) < 48)) = false,
      (decide ((sAt s_ v1) < 48)) = false,
      (decide ((sAt s_ v1) < 48)) = false,
      (0 : Int) ≤ v1,
      (v1 : Int) < s_.size,
      (decide ((sAt s_ v1) < 48)) = false,
      (decide ((sAt s_ v1) < 48)) = false,
      (decide (57 < (sAt s_ v1))) = false]) (by kernel_rfl) (cj h1 (cj (od h2) (cj (od h3) (cj h4 (cj h4 (cj h4 (cj (od h2) (cj (od h3) (cj h4 (cj h4 (cj1 h5))))))))))) (spec_Digits_l0_ok s_ fuel (i64 (v1 + 1)))))) (fun h3 =>
     Pn.none)) (fun h2 =>
     Pn.none)) (fun h1 =>
     Pn.some (LpO.out [.bit false, .mask [0], .ren []] (p := [(decide (v1 < (s_.size : Int))) = false]) (by kernel_rfl) (show X.out 0 ≠ X.go from nofun) (cj1 h1)))
def spec_Digits (s_ : ByteArray) : Option (Bool) :=
 (spec_Digits_l0 s_ FUEL 0).bind fun r1 =>
 Lo.elim r1 (fun s1 =>
 some (decide (0 < (s_.size : Int)))) (fun s2 =>
 some false)
theorem spec_Digits_ok (s_ : ByteArray) : Pn (fun y => Fn Tryd.prog 19 [(false, E9 s_)] (E4 y) []) (spec_Digits s_) := by
  unfold spec_Digits
  exact
   Pn.bind (fun r1 h6 =>
   Pn.lo (fun s1 h7 =>
   Pn.some (Fn.of [.wait 3, .mask [0, 3], .ren [], .loop (X.out 0) (st 23 [(0, V.sc (.string s_))] [] [])] (p := [Loop Tryd.prog (sub (codeOf Tryd.prog 19) [1, 0, 1, 0, 0]) (st 23 [(0, V.sc (.string s_)), (3, V.sc (.int .i64 0))] [] []) (X.out 0) (st 23 [(0, V.sc (.string s_))] [] [])]) (by kernel_rfl) (cj1 ((spec_Digits_l0_ok s_ FUEL 0 r1 h6).at h7)))) (fun s2 h8 =>
   Pn.some (Fn.of [.wait 3, .mask [0, 3], .ren [], .loop (X.ret) (st 23 [(2, V.sc (.bool false))] [] [])] (p := [Loop Tryd.prog (sub (codeOf Tryd.prog 19) [1, 0, 1, 0, 0]) (st 23 [(0, V.sc (.string s_)), (3, V.sc (.int .i64 0))] [] []) (X.ret) (st 23 [(2, V.sc (.bool false))] [] [])]) (by kernel_rfl) (cj1 ((spec_Digits_l0_ok s_ FUEL 0 r1 h6).at h8)))))
def spec_ReplyMti (mti : ByteArray) : Option (ByteArray) :=
 (spec_Digits mti).bind fun r1 =>
 if r1 = true then
 if ((mti.size : Int) != 4) = true then
 some (bs [])
 else
 if (decide (0 ≤ 2)) = true then
 if (decide ((2 : Int) < (mti.size : Int))) = true then
 if ((Int.tmod (sAt mti 2) 2) == 1) = true then
 some (bs [])
 else
 if (decide (2 ≤ (mti.size : Int))) = true then
 if (decide (3 ≤ (mti.size : Int))) = true then
 if (decide ((mti.extract 0 2).size + (bstr [u8 ((sAt mti 2) + 1)]).size ≤ 9223372036854775807)) = true then
 if (decide (((mti.extract 0 2) ++ (bstr [u8 ((sAt mti 2) + 1)])).size + (mti.extract 3 (mti.size : Int).toNat).size ≤ 9223372036854775807)) = true then
 some (((mti.extract 0 2) ++ (bstr [u8 ((sAt mti 2) + 1)])) ++ (mti.extract 3 (mti.size : Int).toNat))
 else none
 else none
 else none
 else none
 else none
 else none
 else
 some (bs [])
theorem spec_ReplyMti_ok (mti : ByteArray) : Pn (fun y => Fn Tryd.prog 7 [(false, E9 mti)] (E9 y) []) (spec_ReplyMti mti) := by
  unfold spec_ReplyMti
  exact
   Pn.bind (fun r1 h1 =>
   Pn.ite (fun h2 =>
   Pn.ite (fun h3 =>
   Pn.some (Fn.of [.call [] (E4 r1) [], .bit false, .bit false, .bit false, .bit false, .bit true, .bit true, .bit true, .bit true, .bit true, .bit true] (p := [Fn Tryd.prog 19 [(false, E9 mti)] (E4 r1) [],
    (true || ((E4 r1).nv && nvL [])) = true,
    (!r1) = false,
    (!r1) = false,
    (!r1) = false,
    (!r1) = false,
    ((mti.size : Int) != 4) = true,
    ((mti.size : Int) != 4) = true,
    ((mti.size : Int) != 4) = true,
    ((mti.size : Int) != 4) = true,
    ((mti.size : Int) != 4) = true,
    true = true]) (by kernel_rfl) (cj (spec_Digits_ok mti r1 h1) (cj rfl (cj (nf h2) (cj (nf h2) (cj (nf h2) (cj (nf h2) (cj h3 (cj h3 (cj h3 (cj h3 (cj h3 (cj1 rfl)))))))))))))) (fun h3 =>
   Pn.ite (fun h4 =>
   Pn.ite (fun h5 =>
   Pn.ite (fun h6 =>
   Pn.some (Fn.of [.call [] (E4 r1) [], .bit false, .bit false, .bit false, .bit false, .bit false, .bit false, .bit false, .bit false, .bit false, .bit true] (p := [Fn Tryd.prog 19 [(false, E9 mti)] (E4 r1) [],
    (true || ((E4 r1).nv && nvL [])) = true,
    (!r1) = false,
    (!r1) = false,
    (!r1) = false,
    (!r1) = false,
    ((mti.size : Int) != 4) = false,
    ((mti.size : Int) != 4) = false,
    (0 : Int) ≤ 2,
    (2 : Int) < mti.size,
    ((mti.size : Int) != 4) = false,
    (2 : Int) ≠ 0,
    ((mti.size : Int) != 4) = false,
    ((mti.size : Int) != 4) = false,
    ((Int.tmod (sAt mti 2) 2) == 1) = true]) (by kernel_rfl) (cj (spec_Digits_ok mti r1 h1) (cj rfl (cj (nf h2) (cj (nf h2) (cj (nf h2) (cj (nf h2) (cj h3 (cj h3 (cj (od h4) (cj (od h5) (cj h3 (cj (by decide) (cj h3 (cj h3 (cj1 h6))))))))))))))))) (fun h6 =>
   Pn.ite (fun h7 =>
   Pn.ite (fun h8 =>
   Pn.ite (fun h9 =>
   Pn.ite (fun h10 =>
   Pn.some (Fn.of [.call [] (E4 r1) [], .bit false, .bit false, .bit false, .bit false, .bit false, .bit false, .bit false, .bit false, .bit false, .bit false, .draw [], .ints [u8 ((sAt mti 2) + 1)]] (p := [Fn Tryd.prog 19 [(false, E9 mti)] (E4 r1) [],
    (true || ((E4 r1).nv && nvL [])) = true,
    (!r1) = false,
    (!r1) = false,
    (!r1) = false,
    (!r1) = false,
    ((mti.size : Int) != 4) = false,
    ((mti.size : Int) != 4) = false,
    (0 : Int) ≤ 2,
    (2 : Int) < mti.size,
    ((mti.size : Int) != 4) = false,
    (2 : Int) ≠ 0,
    ((mti.size : Int) != 4) = false,
    ((mti.size : Int) != 4) = false,
    ((Int.tmod (sAt mti 2) 2) == 1) = false,
    (0 : Int) ≤ 0,
    (0 : Int) ≤ 2,
    (2 : Int) ≤ (mti.size : Int),
    (0 : Int) ≤ 2,
    (2 : Int) < mti.size,
    (0 : Int) ≤ 3,
    (3 : Int) ≤ (mti.size : Int),
    ((mti.size : Int) : Int) ≤ (mti.size : Int),
    [V.sc (.int .u8 (u8 ((sAt mti 2) + 1)))] = [u8 ((sAt mti 2) + 1)].map fun n => V.sc (.int .u8 n),
    (mti.extract 0 2).size + (bstr [u8 ((sAt mti 2) + 1)]).size ≤ 9223372036854775807,
    ((mti.extract 0 2) ++ (bstr [u8 ((sAt mti 2) + 1)])).size + (mti.extract 3 (mti.size : Int).toNat).size ≤ 9223372036854775807]) (by kernel_rfl) (cj (spec_Digits_ok mti r1 h1) (cj rfl (cj (nf h2) (cj (nf h2) (cj (nf h2) (cj (nf h2) (cj h3 (cj h3 (cj (od h4) (cj (od h5) (cj h3 (cj (by decide) (cj h3 (cj h3 (cj h6 (cj (by decide) (cj (od h4) (cj (od h7) (cj (od h4) (cj (od h5) (cj (by decide) (cj (od h8) (cj (by omega) (cj rfl (cj (od h9) (cj1 (od h10))))))))))))))))))))))))))))) (fun h10 =>
   Pn.none)) (fun h9 =>
   Pn.none)) (fun h8 =>
   Pn.none)) (fun h7 =>
   Pn.none))) (fun h5 =>
   Pn.none)) (fun h4 =>
   Pn.none))) (fun h2 =>
   Pn.some (Fn.of [.call [] (E4 r1) [], .bit true, .bit true, .bit true, .bit true, .bit true, .bit true, .bit true, .bit true, .bit true, .bit true] (p := [Fn Tryd.prog 19 [(false, E9 mti)] (E4 r1) [],
    (true || ((E4 r1).nv && nvL [])) = true,
    (!r1) = true,
    (!r1) = true,
    (!r1) = true,
    (!r1) = true,
    true = true,
    true = true,
    true = true,
    true = true,
    true = true,
    true = true]) (by kernel_rfl) (cj (spec_Digits_ok mti r1 h1) (cj rfl (cj (nt h2) (cj (nt h2) (cj (nt h2) (cj (nt h2) (cj rfl (cj rfl (cj rfl (cj rfl (cj rfl (cj1 rfl)))))))))))))))
def impl_PutBcd_l0 (s_ : ByteArray) : Nat → Int → (List Int) → Option ((List Int))
  | 0, _, _ => none
  | fuel + 1, v1, v2 =>
   if (decide (v1 < (((bs [48]) ++ s_).size : Int))) = true then
   if (decide (0 ≤ v1)) = true then
   if (decide ((v1 : Int) < (((bs [48]) ++ s_).size : Int))) = true then
   if (decide (0 ≤ i64 (v1 + 1))) = true then
   if (decide ((i64 (v1 + 1) : Int) < (((bs [48]) ++ s_).size : Int))) = true then
   if (capOk (v2.length + 1)) = true then
   impl_PutBcd_l0 s_ fuel (i64 (v1 + 2)) (v2 ++ [bor .u8 (bshl .u8 (u8 ((sAt ((bs [48]) ++ s_) v1) - 48)) 4) (u8 ((sAt ((bs [48]) ++ s_) (i64 (v1 + 1))) - 48))])
   else none
   else none
   else none
   else none
   else none
   else
   some v2
theorem impl_PutBcd_l0_ok (s_ : ByteArray) : ∀ (fuel : Nat) (v1 : Int) (v2 : List Int), Pn (LpO Tryd.prog (sub (codeOf Tryd.prog 21) [1, 1, 1, 1, 0, 1, 0, 0]) (st 42 [(0, V.sc (.string ((bs [48]) ++ s_))), (4, V.ow 0), (5, V.sc (.int .i64 v1))] [Blk.row 5 (List.map E5 v2) []] []) (fun (y : (List Int)) => (X.out 0, st 42 [(4, V.ow 0)] [Blk.row 5 (List.map E5 y) []] []))) (impl_PutBcd_l0 s_ fuel v1 v2)
  | 0, _, _ => Pn.none
  | fuel + 1, v1, v2 => by
    unfold impl_PutBcd_l0
    exact
     Pn.ite (fun h6 =>
     Pn.ite (fun h7 =>
     Pn.ite (fun h8 =>
     Pn.ite (fun h9 =>
     Pn.ite (fun h10 =>
     Pn.ite (fun h11 =>
     LpO.go [.bit true, .draw [13], .cp [V.sc (.int .u8 (bor .u8 (bshl .u8 (u8 ((sAt ((bs [48]) ++ s_) v1) - 48)) 4) (u8 ((sAt ((bs [48]) ++ s_) (i64 (v1 + 1))) - 48))))], .nb 2 (.row 5 (List.map E5 (v2 ++ [bor .u8 (bshl .u8 (u8 ((sAt ((bs [48]) ++ s_) v1) - 48)) 4) (u8 ((sAt ((bs [48]) ++ s_) (i64 (v1 + 1))) - 48))])) []), .wait 5, .mask [0, 4, 5], .ren [2]] (p := [(decide (v1 < (((bs [48]) ++ s_).size : Int))) = true,
      (0 : Int) ≤ v1,
      (v1 : Int) < ((bs [48]) ++ s_).size,
      ¬ (4 : Int) < 0,
      (0 : Int) ≤ i64 (v1 + 1),
      (i64 (v1 + 1) : Int) < ((bs [48]) ++ s_).size,
      [V.sc (.int .u8 (bor .u8 (bshl .u8 (u8 ((sAt ((bs [48]) ++ s_) v1) - 48)) 4) (u8 ((sAt ((bs [48]) ++ s_) (i64 (v1 + 1))) - 48))))] = [V.sc (.int .u8 (bor .u8 (bshl .u8 (u8 ((sAt ((bs [48]) ++ s_) v1) - 48)) 4) (u8 ((sAt ((bs [48]) ++ s_) (i64 (v1 + 1))) - 48))))],
      [V.sc (.int .u8 (bor .u8 (bshl .u8 (u8 ((sAt ((bs [48]) ++ s_) v1) - 48)) 4) (u8 ((sAt ((bs [48]) ++ s_) (i64 (v1 + 1))) - 48))))].all V.flatE = true,
      (List.map E5 v2).length + [V.sc (.int .u8 (bor .u8 (bshl .u8 (u8 ((sAt ((bs [48]) ++ s_) v1) - 48)) 4) (u8 ((sAt ((bs [48]) ++ s_) (i64 (v1 + 1))) - 48))))].length ≤ 9223372036854775807,
      ((List.map E5 v2).length + [V.sc (.int .u8 (bor .u8 (bshl .u8 (u8 ((sAt ((bs [48]) ++ s_) v1) - 48)) 4) (u8 ((sAt ((bs [48]) ++ s_) (i64 (v1 + 1))) - 48))))].length) * 1 ≤ 140737488355328,
      Blk.row 5 ((List.map E5 v2) ++ [V.sc (.int .u8 (bor .u8 (bshl .u8 (u8 ((sAt ((bs [48]) ++ s_) v1) - 48)) 4) (u8 ((sAt ((bs [48]) ++ s_) (i64 (v1 + 1))) - 48))))]) [] = Blk.row 5 (List.map E5 (v2 ++ [bor .u8 (bshl .u8 (u8 ((sAt ((bs [48]) ++ s_) v1) - 48)) 4) (u8 ((sAt ((bs [48]) ++ s_) (i64 (v1 + 1))) - 48))])) []]) (by kernel_rfl) (cj h6 (cj (od h7) (cj (od h8) (cj (by decide) (cj (od h9) (cj (od h10) (cj rfl (cj rfl (cj (cap1 (capN (by simp) h11)) (cj (cap2 (capN (by simp) h11) (by decide)) (cj1 (nb_app E5 v2 [bor .u8 (bshl .u8 (u8 ((sAt ((bs [48]) ++ s_) v1) - 48)) 4) (u8 ((sAt ((bs [48]) ++ s_) (i64 (v1 + 1))) - 48))])))))))))))) (impl_PutBcd_l0_ok s_ fuel (i64 (v1 + 2)) (v2 ++ [bor .u8 (bshl .u8 (u8 ((sAt ((bs [48]) ++ s_) v1) - 48)) 4) (u8 ((sAt ((bs [48]) ++ s_) (i64 (v1 + 1))) - 48))]))) (fun h11 =>
     Pn.none)) (fun h10 =>
     Pn.none)) (fun h9 =>
     Pn.none)) (fun h8 =>
     Pn.none)) (fun h7 =>
     Pn.none)) (fun h6 =>
     Pn.some (LpO.out [.bit false, .mask [4], .ren [0]] (p := [(decide (v1 < (((bs [48]) ++ s_).size : Int))) = false]) (by kernel_rfl) (show X.out 0 ≠ X.go from nofun) (cj1 h6)))
def impl_PutBcd_l1 (s_ : ByteArray) : Nat → Int → (List Int) → Option ((List Int))
  | 0, _, _ => none
  | fuel + 1, v3, v4 =>
   if (decide (v3 < (s_.size : Int))) = true then
   if (decide (0 ≤ v3)) = true then
   if (decide ((v3 : Int) < (s_.size : Int))) = true then
   if (decide (0 ≤ i64 (v3 + 1))) = true then
   if (decide ((i64 (v3 + 1) : Int) < (s_.size : Int))) = true then
   if (capOk (v4.length + 1)) = true then
   impl_PutBcd_l1 s_ fuel (i64 (v3 + 2)) (v4 ++ [bor .u8 (bshl .u8 (u8 ((sAt s_ v3) - 48)) 4) (u8 ((sAt s_ (i64 (v3 + 1))) - 48))])
   else none
   else none
   else none
   else none
   else none
   else
   some v4
theorem impl_PutBcd_l1_ok (s_ : ByteArray) : ∀ (fuel : Nat) (v3 : Int) (v4 : List Int), Pn (LpO Tryd.prog (sub (codeOf Tryd.prog 21) [1, 1, 1, 1, 0, 1, 0, 0]) (st 42 [(0, V.sc (.string s_)), (4, V.ow 0), (5, V.sc (.int .i64 v3))] [Blk.row 5 (List.map E5 v4) []] []) (fun (y : (List Int)) => (X.out 0, st 42 [(4, V.ow 0)] [Blk.row 5 (List.map E5 y) []] []))) (impl_PutBcd_l1 s_ fuel v3 v4)
  | 0, _, _ => Pn.none
  | fuel + 1, v3, v4 => by
    unfold impl_PutBcd_l1
    exact
     Pn.ite (fun h13 =>
     Pn.ite (fun h14 =>
     Pn.ite (fun h15 =>
     Pn.ite (fun h16 =>
     Pn.ite (fun h17 =>
     Pn.ite (fun h18 =>
     LpO.go [.bit true, .draw [13], .cp [V.sc (.int .u8 (bor .u8 (bshl .u8 (u8 ((sAt s_ v3) - 48)) 4) (u8 ((sAt s_ (i64 (v3 + 1))) - 48))))], .nb 2 (.row 5 (List.map E5 (v4 ++ [bor .u8 (bshl .u8 (u8 ((sAt s_ v3) - 48)) 4) (u8 ((sAt s_ (i64 (v3 + 1))) - 48))])) []), .wait 5, .mask [0, 4, 5], .ren [2]] (p := [(decide (v3 < (s_.size : Int))) = true,
      (0 : Int) ≤ v3,
      (v3 : Int) < s_.size,
      ¬ (4 : Int) < 0,
      (0 : Int) ≤ i64 (v3 + 1),
      (i64 (v3 + 1) : Int) < s_.size,
      [V.sc (.int .u8 (bor .u8 (bshl .u8 (u8 ((sAt s_ v3) - 48)) 4) (u8 ((sAt s_ (i64 (v3 + 1))) - 48))))] = [V.sc (.int .u8 (bor .u8 (bshl .u8 (u8 ((sAt s_ v3) - 48)) 4) (u8 ((sAt s_ (i64 (v3 + 1))) - 48))))],
      [V.sc (.int .u8 (bor .u8 (bshl .u8 (u8 ((sAt s_ v3) - 48)) 4) (u8 ((sAt s_ (i64 (v3 + 1))) - 48))))].all V.flatE = true,
      (List.map E5 v4).length + [V.sc (.int .u8 (bor .u8 (bshl .u8 (u8 ((sAt s_ v3) - 48)) 4) (u8 ((sAt s_ (i64 (v3 + 1))) - 48))))].length ≤ 9223372036854775807,
      ((List.map E5 v4).length + [V.sc (.int .u8 (bor .u8 (bshl .u8 (u8 ((sAt s_ v3) - 48)) 4) (u8 ((sAt s_ (i64 (v3 + 1))) - 48))))].length) * 1 ≤ 140737488355328,
      Blk.row 5 ((List.map E5 v4) ++ [V.sc (.int .u8 (bor .u8 (bshl .u8 (u8 ((sAt s_ v3) - 48)) 4) (u8 ((sAt s_ (i64 (v3 + 1))) - 48))))]) [] = Blk.row 5 (List.map E5 (v4 ++ [bor .u8 (bshl .u8 (u8 ((sAt s_ v3) - 48)) 4) (u8 ((sAt s_ (i64 (v3 + 1))) - 48))])) []]) (by kernel_rfl) (cj h13 (cj (od h14) (cj (od h15) (cj (by decide) (cj (od h16) (cj (od h17) (cj rfl (cj rfl (cj (cap1 (capN (by simp) h18)) (cj (cap2 (capN (by simp) h18) (by decide)) (cj1 (nb_app E5 v4 [bor .u8 (bshl .u8 (u8 ((sAt s_ v3) - 48)) 4) (u8 ((sAt s_ (i64 (v3 + 1))) - 48))])))))))))))) (impl_PutBcd_l1_ok s_ fuel (i64 (v3 + 2)) (v4 ++ [bor .u8 (bshl .u8 (u8 ((sAt s_ v3) - 48)) 4) (u8 ((sAt s_ (i64 (v3 + 1))) - 48))]))) (fun h18 =>
     Pn.none)) (fun h17 =>
     Pn.none)) (fun h16 =>
     Pn.none)) (fun h15 =>
     Pn.none)) (fun h14 =>
     Pn.none)) (fun h13 =>
     Pn.some (LpO.out [.bit false, .mask [4], .ren [0]] (p := [(decide (v3 < (s_.size : Int))) = false]) (by kernel_rfl) (show X.out 0 ≠ X.go from nofun) (cj1 h13)))
def impl_PutBcd (s_ : ByteArray) : Option ((List Int) × Bool) :=
 (impl_Digits s_).bind fun r1 =>
 if r1 = true then
 if (decide (38 < (s_.size : Int))) = true then
 some ([], false)
 else
 if ((Int.tmod (s_.size : Int) 2) == 1) = true then
 if (decide ((bs [48]).size + s_.size ≤ 9223372036854775807)) = true then
 (impl_PutBcd_l0 s_ FUEL 0 []).bind fun r2 =>
 some (r2, true)
 else none
 else
 (impl_PutBcd_l1 s_ FUEL 0 []).bind fun r3 =>
 some (r3, true)
 else
 some ([], false)
theorem impl_PutBcd_ok (s_ : ByteArray) : Pn (fun y => Fn Tryd.prog 21 [(false, E9 s_)] (V.tup [E22 y.1, E4 y.2]) []) (impl_PutBcd s_) := by
  unfold impl_PutBcd
  exact
   Pn.bind (fun r1 h1 =>
   Pn.ite (fun h2 =>
   Pn.ite (fun h3 =>
   Pn.some (Fn.of [.call [] (E4 r1) [], .bit false, .bit false, .bit false, .bit false, .bit true] (p := [Fn Tryd.prog 39 [(false, E9 s_)] (E4 r1) [],
    (true || ((E4 r1).nv && nvL [])) = true,
    (!r1) = false,
    (!r1) = false,
    (!r1) = false,
    (!r1) = false,
    (decide (38 < (s_.size : Int))) = true]) (by kernel_rfl) (cj (impl_Digits_ok s_ r1 h1) (cj rfl (cj (nf h2) (cj (nf h2) (cj (nf h2) (cj (nf h2) (cj1 h3))))))))) (fun h3 =>
   Pn.ite (fun h4 =>
   Pn.ite (fun h5 =>
   Pn.bind (fun r2 h12 =>
   Pn.some (Fn.of [.call [] (E4 r1) [], .bit false, .bit false, .bit false, .bit false, .bit false, .bit true, .wait 6, .mask [0, 4, 5], .ren [0], .loop (X.out 0) (st 42 [(4, V.ow 0)] [Blk.row 5 (List.map E5 r2) []] [])] (p := [Fn Tryd.prog 39 [(false, E9 s_)] (E4 r1) [],
    (true || ((E4 r1).nv && nvL [])) = true,
    (!r1) = false,
    (!r1) = false,
    (!r1) = false,
    (!r1) = false,
    (decide (38 < (s_.size : Int))) = false,
    (2 : Int) ≠ 0,
    ((Int.tmod (s_.size : Int) 2) == 1) = true,
    (bs [48]).size + s_.size ≤ 9223372036854775807,
    Loop Tryd.prog (sub (codeOf Tryd.prog 21) [1, 1, 1, 1, 0, 1, 0, 0]) (st 42 [(0, V.sc (.string ((bs [48]) ++ s_))), (4, V.ow 0), (5, V.sc (.int .i64 0))] [Blk.row 5 ([] : List V) []] []) (X.out 0) (st 42 [(4, V.ow 0)] [Blk.row 5 (List.map E5 r2) []] [])]) (by kernel_rfl) (cj (impl_Digits_ok s_ r1 h1) (cj rfl (cj (nf h2) (cj (nf h2) (cj (nf h2) (cj (nf h2) (cj h3 (cj (by decide) (cj h4 (cj (od h5) (cj1 (impl_PutBcd_l0_ok s_ FUEL 0 [] r2 h12))))))))))))))) (fun h5 =>
   Pn.none)) (fun h4 =>
   Pn.bind (fun r3 h19 =>
   Pn.some (Fn.of [.call [] (E4 r1) [], .bit false, .bit false, .bit false, .bit false, .bit false, .bit false, .wait 3, .mask [0, 4, 5], .ren [0], .loop (X.out 0) (st 42 [(4, V.ow 0)] [Blk.row 5 (List.map E5 r3) []] [])] (p := [Fn Tryd.prog 39 [(false, E9 s_)] (E4 r1) [],
    (true || ((E4 r1).nv && nvL [])) = true,
    (!r1) = false,
    (!r1) = false,
    (!r1) = false,
    (!r1) = false,
    (decide (38 < (s_.size : Int))) = false,
    (2 : Int) ≠ 0,
    ((Int.tmod (s_.size : Int) 2) == 1) = false,
    Loop Tryd.prog (sub (codeOf Tryd.prog 21) [1, 1, 1, 1, 0, 1, 0, 0]) (st 42 [(0, V.sc (.string s_)), (4, V.ow 0), (5, V.sc (.int .i64 0))] [Blk.row 5 ([] : List V) []] []) (X.out 0) (st 42 [(4, V.ow 0)] [Blk.row 5 (List.map E5 r3) []] [])]) (by kernel_rfl) (cj (impl_Digits_ok s_ r1 h1) (cj rfl (cj (nf h2) (cj (nf h2) (cj (nf h2) (cj (nf h2) (cj h3 (cj (by decide) (cj h4 (cj1 (impl_PutBcd_l1_ok s_ FUEL 0 [] r3 h19)))))))))))))))) (fun h2 =>
   Pn.some (Fn.of [.call [] (E4 r1) [], .bit true, .bit true, .bit true, .bit true, .bit true] (p := [Fn Tryd.prog 39 [(false, E9 s_)] (E4 r1) [],
    (true || ((E4 r1).nv && nvL [])) = true,
    (!r1) = true,
    (!r1) = true,
    (!r1) = true,
    (!r1) = true,
    true = true]) (by kernel_rfl) (cj (impl_Digits_ok s_ r1 h1) (cj rfl (cj (nt h2) (cj (nt h2) (cj (nt h2) (cj (nt h2) (cj1 rfl))))))))))
def impl_lenDigits (no : Int) : Option (Int) :=
 (impl_FieldKind no).bind fun r1 =>
 if (r1 == 5) = true then
 some 3
 else
 some 2
theorem impl_lenDigits_ok (no : Int) : Pn (fun y => Fn Tryd.prog 38 [(false, E3 no)] (E3 y) []) (impl_lenDigits no) := by
  unfold impl_lenDigits
  exact
   Pn.bind (fun r1 h1 =>
   Pn.ite (fun h2 =>
   Pn.some (Fn.of [.call [] (E3 r1) [], .bit true] (p := [Fn Tryd.prog 35 [(false, E3 no)] (E3 r1) [],
    (true || ((E3 r1).nv && nvL [])) = true,
    (r1 == 5) = true]) (by kernel_rfl) (cj (impl_FieldKind_ok no r1 h1) (cj rfl (cj1 h2))))) (fun h2 =>
   Pn.some (Fn.of [.call [] (E3 r1) [], .bit false] (p := [Fn Tryd.prog 35 [(false, E3 no)] (E3 r1) [],
    (true || ((E3 r1).nv && nvL [])) = true,
    (r1 == 5) = false]) (by kernel_rfl) (cj (impl_FieldKind_ok no r1 h1) (cj rfl (cj1 h2))))))
def strconv_Itoa (i : Int) : Option ByteArray := if (decide (-9223372036854775808 ≤ i) && decide (i ≤ 9223372036854775807)) = true then some ⟨(Lib.itoa i).toArray⟩ else none
theorem strconv_Itoa_ok (i : Int) : Pn (fun y => Fn Tryd.prog 64 [(false, E3 i)] (E9 y) []) (strconv_Itoa i) := by
  unfold strconv_Itoa
  exact Pn.ite (fun h => Pn.some (Fn.flat [.int .i64 i] (by kernel_rfl) rfl fun w hw => by
    simp only [Bool.and_eq_true, decide_eq_true_eq] at h
    obtain ⟨cs, t, z, e1, e2⟩ := hw _ (List.Mem.head _)
    exact (Go.Proofs.Any.strconv_Itoa Tryd.laysM171 i h.1 h.2 w (tab_of (by kernel_rfl) e1 e2)).mono fun e w2 ⟨h1, k, os, h2⟩ => ⟨h1, h2 ▸ Lib.below_grow _ w (Nat.le_refl _) k os⟩)) (fun _ => Pn.none)
def impl_Wide (n : Int) (w : Int) : Option (ByteArray) :=
 (strconv_Itoa n).bind fun r1 =>
 if (decide (n < 0)) = true then
 some (bs [])
 else
 (impl_within w 1 18).bind fun r2 =>
 if r2 = true then
 if (decide (w < (r1.size : Int))) = true then
 some (bs [])
 else
 (strings_Repeat (bs [48]) (i64 (w - (r1.size : Int)))).bind fun r3 =>
 if (decide (r3.size + r1.size ≤ 9223372036854775807)) = true then
 some (r3 ++ r1)
 else none
 else
 some (bs [])
theorem impl_Wide_ok (n : Int) (w : Int) : Pn (fun y => Fn Tryd.prog 55 [(false, E3 n), (false, E3 w)] (E9 y) []) (impl_Wide n w) := by
  unfold impl_Wide
  exact
   Pn.bind (fun r1 h1 =>
   Pn.ite (fun h2 =>
   Pn.some (Fn.of [.call [] (E9 r1) [], .bit true, .bit true, .bit true, .bit true, .bit true, .bit true, .bit true, .bit true, .bit true, .bit true] (p := [Fn Tryd.prog 64 [(false, E3 n)] (E9 r1) [],
    (true || ((E9 r1).nv && nvL [])) = true,
    (decide (n < 0)) = true,
    (decide (n < 0)) = true,
    (decide (n < 0)) = true,
    (decide (n < 0)) = true,
    true = true,
    true = true,
    true = true,
    true = true,
    true = true,
    true = true]) (by kernel_rfl) (cj (strconv_Itoa_ok n r1 h1) (cj rfl (cj h2 (cj h2 (cj h2 (cj h2 (cj rfl (cj rfl (cj rfl (cj rfl (cj rfl (cj1 rfl)))))))))))))) (fun h2 =>
   Pn.bind (fun r2 h3 =>
   Pn.ite (fun h4 =>
   Pn.ite (fun h5 =>
   Pn.some (Fn.of [.call [] (E9 r1) [], .bit false, .bit false, .call [] (E4 r2) [], .bit false, .bit false, .bit false, .bit false, .bit false, .bit false, .bit false, .bit true] (p := [Fn Tryd.prog 64 [(false, E3 n)] (E9 r1) [],
    (true || ((E9 r1).nv && nvL [])) = true,
    (decide (n < 0)) = false,
    (decide (n < 0)) = false,
    Fn Tryd.prog 32 [(false, E3 w), (false, E3 1), (false, E3 18)] (E4 r2) [],
    (true || ((E4 r2).nv && nvL [])) = true,
    (decide (n < 0)) = false,
    (decide (n < 0)) = false,
    (!r2) = false,
    (!r2) = false,
    (!r2) = false,
    (!r2) = false,
    (!r2) = false,
    (decide (w < (r1.size : Int))) = true]) (by kernel_rfl) (cj (strconv_Itoa_ok n r1 h1) (cj rfl (cj h2 (cj h2 (cj (impl_within_ok w 1 18 r2 h3) (cj rfl (cj h2 (cj h2 (cj (nf h4) (cj (nf h4) (cj (nf h4) (cj (nf h4) (cj (nf h4) (cj1 h5)))))))))))))))) (fun h5 =>
   Pn.bind (fun r3 h6 =>
   Pn.ite (fun h7 =>
   Pn.some (Fn.of [.call [] (E9 r1) [], .bit false, .bit false, .call [] (E4 r2) [], .bit false, .bit false, .bit false, .bit false, .bit false, .bit false, .bit false, .bit false, .call [] (E9 r3) []] (p := [Fn Tryd.prog 64 [(false, E3 n)] (E9 r1) [],
    (true || ((E9 r1).nv && nvL [])) = true,
    (decide (n < 0)) = false,
    (decide (n < 0)) = false,
    Fn Tryd.prog 32 [(false, E3 w), (false, E3 1), (false, E3 18)] (E4 r2) [],
    (true || ((E4 r2).nv && nvL [])) = true,
    (decide (n < 0)) = false,
    (decide (n < 0)) = false,
    (!r2) = false,
    (!r2) = false,
    (!r2) = false,
    (!r2) = false,
    (!r2) = false,
    (decide (w < (r1.size : Int))) = false,
    Fn Tryd.prog 36 [(false, E9 (bs [48])), (false, E3 (i64 (w - (r1.size : Int))))] (E9 r3) [],
    (true || ((E9 r3).nv && nvL [])) = true,
    r3.size + r1.size ≤ 9223372036854775807]) (by kernel_rfl) (cj (strconv_Itoa_ok n r1 h1) (cj rfl (cj h2 (cj h2 (cj (impl_within_ok w 1 18 r2 h3) (cj rfl (cj h2 (cj h2 (cj (nf h4) (cj (nf h4) (cj (nf h4) (cj (nf h4) (cj (nf h4) (cj h5 (cj (strings_Repeat_ok (bs [48]) (i64 (w - (r1.size : Int))) r3 h6) (cj rfl (cj1 (od h7)))))))))))))))))))) (fun h7 =>
   Pn.none)))) (fun h4 =>
   Pn.some (Fn.of [.call [] (E9 r1) [], .bit false, .bit false, .call [] (E4 r2) [], .bit false, .bit false, .bit true, .bit true, .bit true, .bit true, .bit true, .bit true] (p := [Fn Tryd.prog 64 [(false, E3 n)] (E9 r1) [],
    (true || ((E9 r1).nv && nvL [])) = true,
    (decide (n < 0)) = false,
    (decide (n < 0)) = false,
    Fn Tryd.prog 32 [(false, E3 w), (false, E3 1), (false, E3 18)] (E4 r2) [],
    (true || ((E4 r2).nv && nvL [])) = true,
    (decide (n < 0)) = false,
    (decide (n < 0)) = false,
    (!r2) = true,
    (!r2) = true,
    (!r2) = true,
    (!r2) = true,
    (!r2) = true,
    true = true]) (by kernel_rfl) (cj (strconv_Itoa_ok n r1 h1) (cj rfl (cj h2 (cj h2 (cj (impl_within_ok w 1 18 r2 h3) (cj rfl (cj h2 (cj h2 (cj (nt h4) (cj (nt h4) (cj (nt h4) (cj (nt h4) (cj (nt h4) (cj1 rfl)))))))))))))))))))
def impl_PutLen (n : Int) (digits : Int) : Option ((List Int) × Bool) :=
 (impl_within digits 2 3).bind fun r1 =>
 if r1 = true then
 (impl_Wide n digits).bind fun r2 =>
 (impl_PutBcd r2).bind fun r3 =>
 some (r3.1, r3.2)
 else
 some ([], false)
theorem impl_PutLen_ok (n : Int) (digits : Int) : Pn (fun y => Fn Tryd.prog 37 [(false, E3 n), (false, E3 digits)] (V.tup [E22 y.1, E4 y.2]) []) (impl_PutLen n digits) := by
  unfold impl_PutLen
  exact
   Pn.bind (fun r1 h1 =>
   Pn.ite (fun h2 =>
   Pn.bind (fun r2 h3 =>
   Pn.bind (fun r3 h4 =>
   Pn.some (Fn.of [.call [] (E4 r1) [], .bit false, .call [] (E9 r2) [], .call [] (V.tup [E22 r3.1, E4 r3.2]) []] (p := [Fn Tryd.prog 32 [(false, E3 digits), (false, E3 2), (false, E3 3)] (E4 r1) [],
    (true || ((E4 r1).nv && nvL [])) = true,
    (!r1) = false,
    Fn Tryd.prog 55 [(false, E3 n), (false, E3 digits)] (E9 r2) [],
    (true || ((E9 r2).nv && nvL [])) = true,
    Fn Tryd.prog 21 [(false, E9 r2)] (V.tup [E22 r3.1, E4 r3.2]) [],
    (true || ((V.tup [E22 r3.1, E4 r3.2]).nv && nvL [])) = true]) (by kernel_rfl) (cj (impl_within_ok digits 2 3 r1 h1) (cj rfl (cj (nf h2) (cj (impl_Wide_ok n digits r2 h3) (cj rfl (cj (impl_PutBcd_ok r2 r3 h4) (cj1 rfl))))))))))) (fun h2 =>
   Pn.some (Fn.of [.call [] (E4 r1) [], .bit true] (p := [Fn Tryd.prog 32 [(false, E3 digits), (false, E3 2), (false, E3 3)] (E4 r1) [],
    (true || ((E4 r1).nv && nvL [])) = true,
    (!r1) = true]) (by kernel_rfl) (cj (impl_within_ok digits 2 3 r1 h1) (cj rfl (cj1 (nt h2)))))))
def impl_PutField (no : Int) (s_ : ByteArray) : Option ((List Int) × Bool) :=
 (impl_FieldOk no s_).bind fun r1 =>
 if r1 = true then
 if (decide (s_.size ≤ 9223372036854775807)) = true then
 (impl_FieldKind no).bind fun r2 =>
 if (r2 == 1) = true then
 (impl_PutBcd s_).bind fun r3 =>
 some (r3.1, true)
 else
 if (r2 == 3) = true then
 (impl_PutBcd s_).bind fun r4 =>
 if (r2 == 2) = true then
 some (r4.1, true)
 else
 (impl_lenDigits no).bind fun r5 =>
 (impl_PutLen (s_.size : Int) r5).bind fun r6 =>
 if (capOk (r6.1.length + r4.1.length)) = true then
 some ((r6.1 ++ r4.1), true)
 else none
 else
 if (r2 == 2) = true then
 some (sbytes s_, true)
 else
 (impl_lenDigits no).bind fun r7 =>
 (impl_PutLen (s_.size : Int) r7).bind fun r8 =>
 if (capOk (r8.1.length + (sbytes s_).length)) = true then
 some ((r8.1 ++ sbytes s_), true)
 else none
 else none
 else
 some ([], false)
theorem impl_PutField_ok (no : Int) (s_ : ByteArray) : Pn (fun y => Fn Tryd.prog 20 [(false, E3 no), (false, E9 s_)] (V.tup [E22 y.1, E4 y.2]) []) (impl_PutField no s_) := by
  unfold impl_PutField
  exact
   Pn.bind (fun r1 h1 =>
   Pn.ite (fun h2 =>
   Pn.ite (fun h3 =>
   Pn.bind (fun r2 h4 =>
   Pn.ite (fun h5 =>
   Pn.bind (fun r3 h6 =>
   Pn.some (Fn.of [.call [] (E4 r1) [], .bit false, .call [] (E3 r2) [], .bit true, .bit true, .bit true, .bit true, .call [] (V.tup [E22 r3.1, E4 r3.2]) [], .bit true, .bit true, .bit true, .bit true] (p := [Fn Tryd.prog 30 [(false, E3 no), (false, E9 s_)] (E4 r1) [],
    (true || ((E4 r1).nv && nvL [])) = true,
    (!r1) = false,
    s_.size ≤ 9223372036854775807,
    Fn Tryd.prog 35 [(false, E3 no)] (E3 r2) [],
    (true || ((E3 r2).nv && nvL [])) = true,
    (r2 == 1) = true,
    (r2 == 1) = true,
    (r2 == 1) = true,
    true = true,
    Fn Tryd.prog 21 [(false, E9 s_)] (V.tup [E22 r3.1, E4 r3.2]) [],
    (true || ((V.tup [E22 r3.1, E4 r3.2]).nv && nvL [])) = true,
    (r2 == 1) = true,
    (r2 == 1) = true,
    (r2 == 1) = true,
    true = true]) (by kernel_rfl) (cj (impl_FieldOk_ok no s_ r1 h1) (cj rfl (cj (nf h2) (cj (od h3) (cj (impl_FieldKind_ok no r2 h4) (cj rfl (cj h5 (cj h5 (cj h5 (cj rfl (cj (impl_PutBcd_ok s_ r3 h6) (cj rfl (cj h5 (cj h5 (cj h5 (cj1 rfl))))))))))))))))))) (fun h5 =>
   Pn.ite (fun h7 =>
   Pn.bind (fun r4 h8 =>
   Pn.ite (fun h9 =>
   Pn.some (Fn.of [.call [] (E4 r1) [], .bit false, .call [] (E3 r2) [], .bit false, .bit false, .bit false, .bit true, .call [] (V.tup [E22 r4.1, E4 r4.2]) [], .bit false, .bit false, .bit false, .bit true] (p := [Fn Tryd.prog 30 [(false, E3 no), (false, E9 s_)] (E4 r1) [],
    (true || ((E4 r1).nv && nvL [])) = true,
    (!r1) = false,
    s_.size ≤ 9223372036854775807,
    Fn Tryd.prog 35 [(false, E3 no)] (E3 r2) [],
    (true || ((E3 r2).nv && nvL [])) = true,
    (r2 == 1) = false,
    (r2 == 1) = false,
    (r2 == 1) = false,
    (r2 == 3) = true,
    Fn Tryd.prog 21 [(false, E9 s_)] (V.tup [E22 r4.1, E4 r4.2]) [],
    (true || ((V.tup [E22 r4.1, E4 r4.2]).nv && nvL [])) = true,
    (r2 == 1) = false,
    (r2 == 1) = false,
    (r2 == 1) = false,
    (r2 == 2) = true]) (by kernel_rfl) (cj (impl_FieldOk_ok no s_ r1 h1) (cj rfl (cj (nf h2) (cj (od h3) (cj (impl_FieldKind_ok no r2 h4) (cj rfl (cj h5 (cj h5 (cj h5 (cj h7 (cj (impl_PutBcd_ok s_ r4 h8) (cj rfl (cj h5 (cj h5 (cj h5 (cj1 h9)))))))))))))))))) (fun h9 =>
   Pn.bind (fun r5 h10 =>
   Pn.bind (fun r6 h11 =>
   Pn.ite (fun h12 =>
   Pn.some (Fn.of [.call [] (E4 r1) [], .bit false, .call [] (E3 r2) [], .bit false, .bit false, .bit false, .bit true, .call [] (V.tup [E22 r4.1, E4 r4.2]) [], .bit false, .bit false, .bit false, .bit false, .call [] (E3 r5) [], .call [] (V.tup [E22 r6.1, E4 r6.2]) [], .cp (List.map E5 r4.1), .nb 3 (.row 5 (List.map E5 (r6.1 ++ r4.1)) [])] (p := [Fn Tryd.prog 30 [(false, E3 no), (false, E9 s_)] (E4 r1) [],
    (true || ((E4 r1).nv && nvL [])) = true,
    (!r1) = false,
    s_.size ≤ 9223372036854775807,
    Fn Tryd.prog 35 [(false, E3 no)] (E3 r2) [],
    (true || ((E3 r2).nv && nvL [])) = true,
    (r2 == 1) = false,
    (r2 == 1) = false,
    (r2 == 1) = false,
    (r2 == 3) = true,
    Fn Tryd.prog 21 [(false, E9 s_)] (V.tup [E22 r4.1, E4 r4.2]) [],
    (true || ((V.tup [E22 r4.1, E4 r4.2]).nv && nvL [])) = true,
    (r2 == 1) = false,
    (r2 == 1) = false,
    (r2 == 1) = false,
    (r2 == 2) = false,
    Fn Tryd.prog 38 [(false, E3 no)] (E3 r5) [],
    (true || ((E3 r5).nv && nvL [])) = true,
    Fn Tryd.prog 37 [(false, E3 (s_.size : Int)), (false, E3 r5)] (V.tup [E22 r6.1, E4 r6.2]) [],
    (true || ((V.tup [E22 r6.1, E4 r6.2]).nv && nvL [])) = true,
    (List.map E5 r4.1) = (List.map E5 r4.1),
    (List.map E5 r4.1).all V.flatE = true,
    (List.map E5 r6.1).length + (List.map E5 r4.1).length ≤ 9223372036854775807,
    ((List.map E5 r6.1).length + (List.map E5 r4.1).length) * 1 ≤ 140737488355328,
    Blk.row 5 ((List.map E5 r6.1) ++ (List.map E5 r4.1)) [] = Blk.row 5 (List.map E5 (r6.1 ++ r4.1)) []]) (by kernel_rfl) (cj (impl_FieldOk_ok no s_ r1 h1) (cj rfl (cj (nf h2) (cj (od h3) (cj (impl_FieldKind_ok no r2 h4) (cj rfl (cj h5 (cj h5 (cj h5 (cj h7 (cj (impl_PutBcd_ok s_ r4 h8) (cj rfl (cj h5 (cj h5 (cj h5 (cj h9 (cj (impl_lenDigits_ok no r5 h10) (cj rfl (cj (impl_PutLen_ok (s_.size : Int) r5 r6 h11) (cj rfl (cj rfl (cj (flat_map (fun _ => rfl) _) (cj (cap1 (capN (by simp) h12)) (cj (cap2 (capN (by simp) h12) (by decide)) (cj1 (nb_app E5 r6.1 r4.1)))))))))))))))))))))))))))) (fun h12 =>
   Pn.none)))))) (fun h7 =>
   Pn.ite (fun h13 =>
   Pn.some (Fn.of [.call [] (E4 r1) [], .bit false, .call [] (E3 r2) [], .bit false, .bit false, .bit false, .bit false, .bit false, .bit false, .bit false, .bit true] (p := [Fn Tryd.prog 30 [(false, E3 no), (false, E9 s_)] (E4 r1) [],
    (true || ((E4 r1).nv && nvL [])) = true,
    (!r1) = false,
    s_.size ≤ 9223372036854775807,
    Fn Tryd.prog 35 [(false, E3 no)] (E3 r2) [],
    (true || ((E3 r2).nv && nvL [])) = true,
    (r2 == 1) = false,
    (r2 == 1) = false,
    (r2 == 1) = false,
    (r2 == 3) = false,
    (r2 == 1) = false,
    (r2 == 1) = false,
    (r2 == 1) = false,
    (r2 == 2) = true]) (by kernel_rfl) (cj (impl_FieldOk_ok no s_ r1 h1) (cj rfl (cj (nf h2) (cj (od h3) (cj (impl_FieldKind_ok no r2 h4) (cj rfl (cj h5 (cj h5 (cj h5 (cj h7 (cj h5 (cj h5 (cj h5 (cj1 h13)))))))))))))))) (fun h13 =>
   Pn.bind (fun r7 h14 =>
   Pn.bind (fun r8 h15 =>
   Pn.ite (fun h16 =>
   Pn.some (Fn.of [.call [] (E4 r1) [], .bit false, .call [] (E3 r2) [], .bit false, .bit false, .bit false, .bit false, .bit false, .bit false, .bit false, .bit false, .call [] (E3 r7) [], .call [] (V.tup [E22 r8.1, E4 r8.2]) [], .cp (List.map E5 (sbytes s_)), .nb 2 (.row 5 (List.map E5 (r8.1 ++ sbytes s_)) [])] (p := [Fn Tryd.prog 30 [(false, E3 no), (false, E9 s_)] (E4 r1) [],
    (true || ((E4 r1).nv && nvL [])) = true,
    (!r1) = false,
    s_.size ≤ 9223372036854775807,
    Fn Tryd.prog 35 [(false, E3 no)] (E3 r2) [],
    (true || ((E3 r2).nv && nvL [])) = true,
    (r2 == 1) = false,
    (r2 == 1) = false,
    (r2 == 1) = false,
    (r2 == 3) = false,
    (r2 == 1) = false,
    (r2 == 1) = false,
    (r2 == 1) = false,
    (r2 == 2) = false,
    Fn Tryd.prog 38 [(false, E3 no)] (E3 r7) [],
    (true || ((E3 r7).nv && nvL [])) = true,
    Fn Tryd.prog 37 [(false, E3 (s_.size : Int)), (false, E3 r7)] (V.tup [E22 r8.1, E4 r8.2]) [],
    (true || ((V.tup [E22 r8.1, E4 r8.2]).nv && nvL [])) = true,
    (List.map E5 (sbytes s_)) = (List.map E5 (sbytes s_)),
    (List.map E5 (sbytes s_)).all V.flatE = true,
    (List.map E5 r8.1).length + (List.map E5 (sbytes s_)).length ≤ 9223372036854775807,
    ((List.map E5 r8.1).length + (List.map E5 (sbytes s_)).length) * 1 ≤ 140737488355328,
    Blk.row 5 ((List.map E5 r8.1) ++ (List.map E5 (sbytes s_))) [] = Blk.row 5 (List.map E5 (r8.1 ++ sbytes s_)) []]) (by kernel_rfl) (cj (impl_FieldOk_ok no s_ r1 h1) (cj rfl (cj (nf h2) (cj (od h3) (cj (impl_FieldKind_ok no r2 h4) (cj rfl (cj h5 (cj h5 (cj h5 (cj h7 (cj h5 (cj h5 (cj h5 (cj h13 (cj (impl_lenDigits_ok no r7 h14) (cj rfl (cj (impl_PutLen_ok (s_.size : Int) r7 r8 h15) (cj rfl (cj rfl (cj (flat_map (fun _ => rfl) _) (cj (cap1 (capN (by simp) h16)) (cj (cap2 (capN (by simp) h16) (by decide)) (cj1 (nb_app E5 r8.1 (sbytes s_))))))))))))))))))))))))))) (fun h16 =>
   Pn.none)))))))) (fun h3 =>
   Pn.none)) (fun h2 =>
   Pn.some (Fn.of [.call [] (E4 r1) [], .bit true] (p := [Fn Tryd.prog 30 [(false, E3 no), (false, E9 s_)] (E4 r1) [],
    (true || ((E4 r1).nv && nvL [])) = true,
    (!r1) = true]) (by kernel_rfl) (cj (impl_FieldOk_ok no s_ r1 h1) (cj rfl (cj1 (nt h2)))))))
def impl_PutBits_l0 (l : List Int) : List Int → (List Int) → Option ((List Int))
  | [], v1 =>
   some v1
  | x1 :: t1, v1 =>
   (impl_within x1 1 64).bind fun r1 =>
   if r1 = true then
   if (decide (0 ≤ (i64 (Int.tdiv (i64 (x1 - 1)) 8)))) = true then
   (v1[(i64 (Int.tdiv (i64 (x1 - 1)) 8)).toNat]?).bind fun x2 =>
   if (decide (¬ (Int.tmod (i64 (x1 - 1)) 8) < 0)) = true then
   impl_PutBits_l0 l t1 (v1.set ((i64 (Int.tdiv (i64 (x1 - 1)) 8)).toNat) (bor .u8 x2 (bshr .u8 128 (Int.tmod (i64 (x1 - 1)) 8))))
   else none
   else none
   else
   impl_PutBits_l0 l t1 v1
theorem impl_PutBits_l0_ok (l : List Int) (h4 : capOk l.length = true) : ∀ (t1 p1 : List Int) (_ : l = p1 ++ t1) (v1 : List Int), Pn (LpO Tryd.prog (sub (codeOf Tryd.prog 22) [1, 1, 0, 1, 0, 0]) (st 29 [(3, V.ow 0), (7, V.sl false 3 (List.map E3 l)), (8, V.sc (.int .i64 (l.length : Int))), (9, V.sc (.int .i64 (p1.length : Int)))] [Blk.row 5 (List.map E5 v1) []] []) (fun (y : (List Int)) => (X.out 0, st 29 [(3, V.ow 0)] [Blk.row 5 (List.map E5 y) []] []))) (impl_PutBits_l0 l t1 v1)
  | [], p1, h3, v1 => by
    unfold impl_PutBits_l0
    exact
     Pn.some (LpO.out [.bit false, .mask [3], .ren [0]] (p := [(decide ((p1.length : Int) < (l.length : Int))) = false]) (by kernel_rfl) (show X.out 0 ≠ X.go from nofun) (cj1 (rng_end h3)))
  | x1 :: t1, p1, h3, v1 => by
    unfold impl_PutBits_l0
    exact
     Pn.bind (fun r1 h5 =>
     Pn.ite (fun h6 =>
     Pn.ite (fun h7 =>
     Pn.bind (fun x2 h8 =>
     Pn.ite (fun h9 =>
     LpO.go [.bit true, .el (E3 x1), .call [] (E4 r1) [], .bit true, .draw [12], .el (E5 x2), .el (E5 x2), .nb 0 (.row 5 (List.map E5 (v1.set ((i64 (Int.tdiv (i64 (x1 - 1)) 8)).toNat) (bor .u8 x2 (bshr .u8 128 (Int.tmod (i64 (x1 - 1)) 8))))) []), .wait 3, .mask [3, 7, 8, 9], .ren [0], .nm 9 (V.sc (.int .i64 ((p1 ++ [x1]).length : Int)))] (p := [(decide ((p1.length : Int) < (l.length : Int))) = true,
      (0 : Int) ≤ (p1.length : Int),
      (List.map E3 l)[(p1.length : Int).toNat]? = some (E3 x1),
      Fn Tryd.prog 32 [(false, E3 x1), (false, E3 1), (false, E3 64)] (E4 r1) [],
      (true || ((E4 r1).nv && nvL [])) = true,
      r1 = true,
      (8 : Int) ≠ 0,
      (0 : Int) ≤ (i64 (Int.tdiv (i64 (x1 - 1)) 8)),
      ((i64 (Int.tdiv (i64 (x1 - 1)) 8)) : Int) < ((List.map E5 v1).length : Int),
      look [] ((i64 (Int.tdiv (i64 (x1 - 1)) 8)).toNat) = none,
      (List.map E5 v1)[(i64 (Int.tdiv (i64 (x1 - 1)) 8)).toNat]? = some (E5 x2),
      (8 : Int) ≠ 0,
      ¬ ((Int.tmod (i64 (x1 - 1)) 8) : Int) < 0,
      (0 : Int) ≤ (i64 (Int.tdiv (i64 (x1 - 1)) 8)),
      ((i64 (Int.tdiv (i64 (x1 - 1)) 8)) : Int) < ((List.map E5 v1).length : Int),
      look [] ((i64 (Int.tdiv (i64 (x1 - 1)) 8)).toNat) = none,
      (List.map E5 v1)[(i64 (Int.tdiv (i64 (x1 - 1)) 8)).toNat]? = some (E5 x2),
      Blk.row 5 ((List.map E5 v1).set ((i64 (Int.tdiv (i64 (x1 - 1)) 8)).toNat) (V.sc (.int .u8 (bor .u8 x2 (bshr .u8 128 (Int.tmod (i64 (x1 - 1)) 8)))))) [] = Blk.row 5 (List.map E5 (v1.set ((i64 (Int.tdiv (i64 (x1 - 1)) 8)).toNat) (bor .u8 x2 (bshr .u8 128 (Int.tmod (i64 (x1 - 1)) 8))))) [],
      V.sc (.int .i64 (i64 ((p1.length : Int) + 1))) = V.sc (.int .i64 ((p1 ++ [x1]).length : Int))]) (by kernel_rfl) (cj (rng_lt h3) (cj (by omega) (cj (rng_get _ h3) (cj (impl_within_ok x1 1 64 r1 h5) (cj rfl (cj h6 (cj (by decide) (cj (od h7) (cj (map_ltN (od h7) h8) (cj rfl (cj (map_get h8) (cj (by decide) (cj (od h9) (cj (od h7) (cj (map_ltN (od h7) h8) (cj rfl (cj (map_get h8) (cj (nb_set E5 _ _ (bor .u8 x2 (bshr .u8 128 (Int.tmod (i64 (x1 - 1)) 8)))) (cj1 (rng_next h3 h4)))))))))))))))))))) (impl_PutBits_l0_ok l h4 t1 (p1 ++ [x1]) (rng_step h3) (v1.set ((i64 (Int.tdiv (i64 (x1 - 1)) 8)).toNat) (bor .u8 x2 (bshr .u8 128 (Int.tmod (i64 (x1 - 1)) 8)))))) (fun h9 =>
     Pn.none))) (fun h7 =>
     Pn.none)) (fun h6 =>
     LpO.go [.bit true, .el (E3 x1), .call [] (E4 r1) [], .bit false, .wait 2, .mask [3, 7, 8, 9], .ren [0], .nm 9 (V.sc (.int .i64 ((p1 ++ [x1]).length : Int)))] (p := [(decide ((p1.length : Int) < (l.length : Int))) = true,
      (0 : Int) ≤ (p1.length : Int),
      (List.map E3 l)[(p1.length : Int).toNat]? = some (E3 x1),
      Fn Tryd.prog 32 [(false, E3 x1), (false, E3 1), (false, E3 64)] (E4 r1) [],
      (true || ((E4 r1).nv && nvL [])) = true,
      r1 = false,
      V.sc (.int .i64 (i64 ((p1.length : Int) + 1))) = V.sc (.int .i64 ((p1 ++ [x1]).length : Int))]) (by kernel_rfl) (cj (rng_lt h3) (cj (by omega) (cj (rng_get _ h3) (cj (impl_within_ok x1 1 64 r1 h5) (cj rfl (cj h6 (cj1 (rng_next h3 h4)))))))) (impl_PutBits_l0_ok l h4 t1 (p1 ++ [x1]) (rng_step h3) v1)))
def impl_PutBits (l : List Int) : Option ((List Int)) :=
 if (decide (0 ≤ 8)) = true then
 if (capOk 8) = true then
 if (capOk l.length) = true then
 (impl_PutBits_l0 l l (List.replicate 8 0)).bind fun r2 =>
 some r2
 else none
 else none
 else none
theorem impl_PutBits_ok (l : List Int) : Pn (fun y => Fn Tryd.prog 22 [(false, E35 l)] (E22 y) []) (impl_PutBits l) := by
  unfold impl_PutBits
  exact
   Pn.ite (fun h1 =>
   Pn.ite (fun h2 =>
   Pn.ite (fun h10 =>
   Pn.bind (fun r2 h11 =>
   Pn.some (Fn.of [.wait 2, .nb 0 (.row 5 (List.map E5 (List.replicate 8 0)) []), .wait 3, .nm 8 (V.sc (.int .i64 (l.length : Int))), .wait 2, .mask [3, 7, 8, 9], .ren [0], .loop (X.out 0) (st 29 [(3, V.ow 0)] [Blk.row 5 (List.map E5 r2) []] [])] (p := [(8 : Int) = 8,
    (0 : Int) ≤ 8,
    (8 : Int) ≤ 9223372036854775807,
    1 * 8 ≤ 281474976710656,
    Blk.row 5 (List.replicate 8 (V.sc (.int .u8 0))) [] = Blk.row 5 (List.map E5 (List.replicate 8 0)) [],
    V.sc (.int .i64 ((List.map E3 l).length : Int)) = V.sc (.int .i64 (l.length : Int)),
    Loop Tryd.prog (sub (codeOf Tryd.prog 22) [1, 1, 0, 1, 0, 0]) (st 29 [(3, V.ow 0), (7, V.sl false 3 (List.map E3 l)), (8, V.sc (.int .i64 (l.length : Int))), (9, V.sc (.int .i64 0))] [Blk.row 5 (List.map E5 (List.replicate 8 0)) []] []) (X.out 0) (st 29 [(3, V.ow 0)] [Blk.row 5 (List.map E5 r2) []] [])]) (by kernel_rfl) (cj rfl (cj (od h1) (cj (cap3 h1 h2) (cj (cap4 h2 (by decide)) (cj (nb_rep E5 _ 0) (cj (len_nm _ _) (cj1 (impl_PutBits_l0_ok l h10 l [] rfl (List.replicate 8 0) r2 h11))))))))))) (fun h10 =>
   Pn.none)) (fun h2 =>
   Pn.none)) (fun h1 =>
   Pn.none)
def impl_Encode_l0 (o : Msg) : List Field → (List Int) → (List Int) → (List Int) → Option ((List Int) × (List Int) × (List Int))
  | [], v1, v2, v3 =>
   some (v1, v2, v3)
  | x1 :: t1, v1, v2, v3 =>
   if (decide (64 < x1.No)) = true then
   if (capOk (v2.length + 1)) = true then
   (impl_PutField x1.No x1.Text).bind fun r2 =>
   if (capOk (v3.length + r2.1.length)) = true then
   impl_Encode_l0 o t1 v1 (v2 ++ [i64 (x1.No - 64)]) (v3 ++ r2.1)
   else none
   else none
   else
   if (capOk (v1.length + 1)) = true then
   (impl_PutField x1.No x1.Text).bind fun r3 =>
   if (capOk (v3.length + r3.1.length)) = true then
   impl_Encode_l0 o t1 (v1 ++ [x1.No]) v2 (v3 ++ r3.1)
   else none
   else none
theorem impl_Encode_l0_ok (o : Msg) (h4 : capOk o.List.length = true) : ∀ (t1 p1 : List Field) (_ : o.List = p1 ++ t1) (v1 : List Int) (v2 : List Int) (v3 : List Int), Pn (LpO Tryd.prog (sub (codeOf Tryd.prog 8) [1, 1, 1, 0, 1, 0, 0]) (st 77 [(1, V.ptr 0 0), (4, V.ow 1), (5, V.ow 2), (6, V.ow 3), (20, V.sl false 48 (List.map E48 o.List)), (21, V.sc (.int .i64 (o.List.length : Int))), (22, V.sc (.int .i64 (p1.length : Int)))] [Blk.box 25 [V.sc (.string o.Mti), V.sl false 48 (List.map E48 o.List)], Blk.row 3 (List.map E3 v1) [], Blk.row 3 (List.map E3 v2) [], Blk.row 5 (List.map E5 v3) []] []) (fun (y : (List Int) × (List Int) × (List Int)) => (X.out 0, st 77 [(1, V.ptr 0 0), (4, V.ow 1), (5, V.ow 2), (6, V.ow 3)] [Blk.box 25 [V.sc (.string o.Mti), V.sl false 48 (List.map E48 o.List)], Blk.row 3 (List.map E3 y.1) [], Blk.row 3 (List.map E3 y.2.1) [], Blk.row 5 (List.map E5 y.2.2) []] []))) (impl_Encode_l0 o t1 v1 v2 v3)
  | [], p1, h3, v1, v2, v3 => by
    unfold impl_Encode_l0
    exact
     Pn.some (LpO.out [.bit false, .mask [1, 4, 5, 6], .ren [0, 1, 2, 3]] (p := [(decide ((p1.length : Int) < (o.List.length : Int))) = false]) (by kernel_rfl) (show X.out 0 ≠ X.go from nofun) (cj1 (rng_end h3)))
  | x1 :: t1, p1, h3, v1, v2, v3 => by
    unfold impl_Encode_l0
    exact
     Pn.ite (fun h5 =>
     Pn.ite (fun h6 =>
     Pn.bind (fun r2 h7 =>
     Pn.ite (fun h8 =>
     LpO.go [.bit true, .el (E48 x1), .bit true, .cp [V.sc (.int .i64 (i64 (x1.No - 64)))], .nb 6 (.row 3 (List.map E3 (v2 ++ [i64 (x1.No - 64)])) []), .call [] (V.tup [E22 r2.1, E4 r2.2]) [], .cp (List.map E5 r2.1), .nb 8 (.row 5 (List.map E5 (v3 ++ r2.1)) []), .wait 4, .mask [1, 4, 5, 6, 20, 21, 22], .ren [0, 1, 6, 8], .nm 22 (V.sc (.int .i64 ((p1 ++ [x1]).length : Int)))] (p := [(decide ((p1.length : Int) < (o.List.length : Int))) = true,
      (0 : Int) ≤ (p1.length : Int),
      (List.map E48 o.List)[(p1.length : Int).toNat]? = some (E48 x1),
      (decide (64 < x1.No)) = true,
      [V.sc (.int .i64 (i64 (x1.No - 64)))] = [V.sc (.int .i64 (i64 (x1.No - 64)))],
      [V.sc (.int .i64 (i64 (x1.No - 64)))].all V.flatE = true,
      (List.map E3 v2).length + [V.sc (.int .i64 (i64 (x1.No - 64)))].length ≤ 9223372036854775807,
      ((List.map E3 v2).length + [V.sc (.int .i64 (i64 (x1.No - 64)))].length) * 8 ≤ 140737488355328,
      Blk.row 3 ((List.map E3 v2) ++ [V.sc (.int .i64 (i64 (x1.No - 64)))]) [] = Blk.row 3 (List.map E3 (v2 ++ [i64 (x1.No - 64)])) [],
      Fn Tryd.prog 20 [(false, E3 x1.No), (false, E9 x1.Text)] (V.tup [E22 r2.1, E4 r2.2]) [],
      (true || ((V.tup [E22 r2.1, E4 r2.2]).nv && nvL [])) = true,
      (List.map E5 r2.1) = (List.map E5 r2.1),
      (List.map E5 r2.1).all V.flatE = true,
      (List.map E5 v3).length + (List.map E5 r2.1).length ≤ 9223372036854775807,
      ((List.map E5 v3).length + (List.map E5 r2.1).length) * 1 ≤ 140737488355328,
      Blk.row 5 ((List.map E5 v3) ++ (List.map E5 r2.1)) [] = Blk.row 5 (List.map E5 (v3 ++ r2.1)) [],
      V.sc (.int .i64 (i64 ((p1.length : Int) + 1))) = V.sc (.int .i64 ((p1 ++ [x1]).length : Int))]) (by kernel_rfl) (cj (rng_lt h3) (cj (by omega) (cj (rng_get _ h3) (cj h5 (cj rfl (cj rfl (cj (cap1 (capN (by simp) h6)) (cj (cap2 (capN (by simp) h6) (by decide)) (cj (nb_app E3 v2 [i64 (x1.No - 64)]) (cj (impl_PutField_ok x1.No x1.Text r2 h7) (cj rfl (cj rfl (cj (flat_map (fun _ => rfl) _) (cj (cap1 (capN (by simp) h8)) (cj (cap2 (capN (by simp) h8) (by decide)) (cj (nb_app E5 v3 r2.1) (cj1 (rng_next h3 h4)))))))))))))))))) (impl_Encode_l0_ok o h4 t1 (p1 ++ [x1]) (rng_step h3) v1 (v2 ++ [i64 (x1.No - 64)]) (v3 ++ r2.1))) (fun h8 =>
     Pn.none))) (fun h6 =>
     Pn.none)) (fun h5 =>
     Pn.ite (fun h9 =>
     Pn.bind (fun r3 h10 =>
     Pn.ite (fun h11 =>
     LpO.go [.bit true, .el (E48 x1), .bit false, .cp [V.sc (.int .i64 x1.No)], .nb 6 (.row 3 (List.map E3 (v1 ++ [x1.No])) []), .call [] (V.tup [E22 r3.1, E4 r3.2]) [], .cp (List.map E5 r3.1), .nb 8 (.row 5 (List.map E5 (v3 ++ r3.1)) []), .wait 4, .mask [1, 4, 5, 6, 20, 21, 22], .ren [0, 6, 2, 8], .nm 22 (V.sc (.int .i64 ((p1 ++ [x1]).length : Int)))] (p := [(decide ((p1.length : Int) < (o.List.length : Int))) = true,
      (0 : Int) ≤ (p1.length : Int),
      (List.map E48 o.List)[(p1.length : Int).toNat]? = some (E48 x1),
      (decide (64 < x1.No)) = false,
      [V.sc (.int .i64 x1.No)] = [V.sc (.int .i64 x1.No)],
      [V.sc (.int .i64 x1.No)].all V.flatE = true,
      (List.map E3 v1).length + [V.sc (.int .i64 x1.No)].length ≤ 9223372036854775807,
      ((List.map E3 v1).length + [V.sc (.int .i64 x1.No)].length) * 8 ≤ 140737488355328,
      Blk.row 3 ((List.map E3 v1) ++ [V.sc (.int .i64 x1.No)]) [] = Blk.row 3 (List.map E3 (v1 ++ [x1.No])) [],
      Fn Tryd.prog 20 [(false, E3 x1.No), (false, E9 x1.Text)] (V.tup [E22 r3.1, E4 r3.2]) [],
      (true || ((V.tup [E22 r3.1, E4 r3.2]).nv && nvL [])) = true,
      (List.map E5 r3.1) = (List.map E5 r3.1),
      (List.map E5 r3.1).all V.flatE = true,
      (List.map E5 v3).length + (List.map E5 r3.1).length ≤ 9223372036854775807,
      ((List.map E5 v3).length + (List.map E5 r3.1).length) * 1 ≤ 140737488355328,
      Blk.row 5 ((List.map E5 v3) ++ (List.map E5 r3.1)) [] = Blk.row 5 (List.map E5 (v3 ++ r3.1)) [],
      V.sc (.int .i64 (i64 ((p1.length : Int) + 1))) = V.sc (.int .i64 ((p1 ++ [x1]).length : Int))]) (by kernel_rfl) (cj (rng_lt h3) (cj (by omega) (cj (rng_get _ h3) (cj h5 (cj rfl (cj rfl (cj (cap1 (capN (by simp) h9)) (cj (cap2 (capN (by simp) h9) (by decide)) (cj (nb_app E3 v1 [x1.No]) (cj (impl_PutField_ok x1.No x1.Text r3 h10) (cj rfl (cj rfl (cj (flat_map (fun _ => rfl) _) (cj (cap1 (capN (by simp) h11)) (cj (cap2 (capN (by simp) h11) (by decide)) (cj (nb_app E5 v3 r3.1) (cj1 (rng_next h3 h4)))))))))))))))))) (impl_Encode_l0_ok o h4 t1 (p1 ++ [x1]) (rng_step h3) (v1 ++ [x1.No]) v2 (v3 ++ r3.1))) (fun h11 =>
     Pn.none))) (fun h9 =>
     Pn.none))
def impl_Encode (o : Msg) : Option ((List Int) × Bool) :=
 (impl_MsgOk o).bind fun r1 =>
 if r1 = true then
 if (capOk o.List.length) = true then
 (impl_Encode_l0 o o.List [] [] []).bind fun r4 =>
 (impl_PutBcd o.Mti).bind fun r5 =>
 if (decide (0 < (r4.2.1.length : Int))) = true then
 if (capOk (r4.1.length + 1)) = true then
 (impl_PutBits (r4.1 ++ [1])).bind fun r6 =>
 if (capOk (r5.1.length + r6.length)) = true then
 (impl_PutBits r4.2.1).bind fun r7 =>
 if (capOk ((r5.1 ++ r6).length + r7.length)) = true then
 if (capOk (((r5.1 ++ r6) ++ r7).length + r4.2.2.length)) = true then
 some ((((r5.1 ++ r6) ++ r7) ++ r4.2.2), true)
 else none
 else none
 else none
 else none
 else
 (impl_PutBits r4.1).bind fun r8 =>
 if (capOk (r5.1.length + r8.length)) = true then
 if (capOk ((r5.1 ++ r8).length + r4.2.2.length)) = true then
 some (((r5.1 ++ r8) ++ r4.2.2), true)
 else none
 else none
 else none
 else
 some ([], false)
theorem impl_Encode_ok (o : Msg) : Pn (fun y => Fn Tryd.prog 8 [(false, E25 o)] (V.tup [E22 y.1, E4 y.2]) []) (impl_Encode o) := by
  unfold impl_Encode
  exact
   Pn.bind (fun r1 h1 =>
   Pn.ite (fun h2 =>
   Pn.ite (fun h12 =>
   Pn.bind (fun r4 h13 =>
   Pn.bind (fun r5 h14 =>
   Pn.ite (fun h15 =>
   Pn.ite (fun h16 =>
   Pn.bind (fun r6 h17 =>
   Pn.ite (fun h18 =>
   Pn.bind (fun r7 h19 =>
   Pn.ite (fun h20 =>
   Pn.ite (fun h21 =>
   Pn.some (Fn.of [.call [] (E4 r1) [], .bit false, .wait 8, .nm 21 (V.sc (.int .i64 (o.List.length : Int))), .wait 2, .mask [1, 4, 5, 6, 20, 21, 22], .ren [0, 1, 2, 3], .loop (X.out 0) (st 77 [(1, V.ptr 0 0), (4, V.ow 1), (5, V.ow 2), (6, V.ow 3)] [Blk.box 25 [V.sc (.string o.Mti), V.sl false 48 (List.map E48 o.List)], Blk.row 3 (List.map E3 r4.1) [], Blk.row 3 (List.map E3 r4.2.1) [], Blk.row 5 (List.map E5 r4.2.2) []] []), .call [] (V.tup [E22 r5.1, E4 r5.2]) [], .wait 7, .nm 59 (V.sc (.int .i64 (r4.2.1.length : Int))), .bit true, .cp [V.sc (.int .i64 1)], .nb 6 (.row 3 (List.map E3 (r4.1 ++ [1])) []), .call [] (E22 r6) [], .cp (List.map E5 r6), .nb 8 (.row 5 (List.map E5 (r5.1 ++ r6)) []), .call [] (E22 r7) [], .cp (List.map E5 r7), .nb 10 (.row 5 (List.map E5 ((r5.1 ++ r6) ++ r7)) []), .cp (List.map E5 r4.2.2), .nb 11 (.row 5 (List.map E5 (((r5.1 ++ r6) ++ r7) ++ r4.2.2)) [])] (p := [Fn Tryd.prog 14 [(false, E25 o)] (E4 r1) [],
    (true || ((E4 r1).nv && nvL [])) = true,
    (!r1) = false,
    V.sc (.int .i64 ((List.map E48 o.List).length : Int)) = V.sc (.int .i64 (o.List.length : Int)),
    Loop Tryd.prog (sub (codeOf Tryd.prog 8) [1, 1, 1, 0, 1, 0, 0]) (st 77 [(1, V.ptr 0 0), (4, V.ow 1), (5, V.ow 2), (6, V.ow 3), (20, V.sl false 48 (List.map E48 o.List)), (21, V.sc (.int .i64 (o.List.length : Int))), (22, V.sc (.int .i64 0))] [Blk.box 25 [V.sc (.string o.Mti), V.sl false 48 (List.map E48 o.List)], Blk.row 3 ([] : List V) [], Blk.row 3 ([] : List V) [], Blk.row 5 ([] : List V) []] []) (X.out 0) (st 77 [(1, V.ptr 0 0), (4, V.ow 1), (5, V.ow 2), (6, V.ow 3)] [Blk.box 25 [V.sc (.string o.Mti), V.sl false 48 (List.map E48 o.List)], Blk.row 3 (List.map E3 r4.1) [], Blk.row 3 (List.map E3 r4.2.1) [], Blk.row 5 (List.map E5 r4.2.2) []] []),
    Fn Tryd.prog 21 [(false, E9 o.Mti)] (V.tup [E22 r5.1, E4 r5.2]) [],
    (true || ((V.tup [E22 r5.1, E4 r5.2]).nv && nvL [])) = true,
    V.sc (.int .i64 ((List.map E3 r4.2.1).length : Int)) = V.sc (.int .i64 (r4.2.1.length : Int)),
    (decide (0 < (r4.2.1.length : Int))) = true,
    [V.sc (.int .i64 1)] = [V.sc (.int .i64 1)],
    [V.sc (.int .i64 1)].all V.flatE = true,
    (List.map E3 r4.1).length + [V.sc (.int .i64 1)].length ≤ 9223372036854775807,
    ((List.map E3 r4.1).length + [V.sc (.int .i64 1)].length) * 8 ≤ 140737488355328,
    Blk.row 3 ((List.map E3 r4.1) ++ [V.sc (.int .i64 1)]) [] = Blk.row 3 (List.map E3 (r4.1 ++ [1])) [],
    Fn Tryd.prog 22 [(false, E35 (r4.1 ++ [1]))] (E22 r6) [],
    (false || ((E22 r6).nv && nvL [])) = true,
    (List.map E5 r6) = (List.map E5 r6),
    (List.map E5 r6).all V.flatE = true,
    (List.map E5 r5.1).length + (List.map E5 r6).length ≤ 9223372036854775807,
    ((List.map E5 r5.1).length + (List.map E5 r6).length) * 1 ≤ 140737488355328,
    Blk.row 5 ((List.map E5 r5.1) ++ (List.map E5 r6)) [] = Blk.row 5 (List.map E5 (r5.1 ++ r6)) [],
    Fn Tryd.prog 22 [(false, E35 r4.2.1)] (E22 r7) [],
    (false || ((E22 r7).nv && nvL [])) = true,
    (List.map E5 r7) = (List.map E5 r7),
    (List.map E5 r7).all V.flatE = true,
    (List.map E5 (r5.1 ++ r6)).length + (List.map E5 r7).length ≤ 9223372036854775807,
    ((List.map E5 (r5.1 ++ r6)).length + (List.map E5 r7).length) * 1 ≤ 140737488355328,
    Blk.row 5 ((List.map E5 (r5.1 ++ r6)) ++ (List.map E5 r7)) [] = Blk.row 5 (List.map E5 ((r5.1 ++ r6) ++ r7)) [],
    (List.map E5 r4.2.2) = (List.map E5 r4.2.2),
    (List.map E5 r4.2.2).all V.flatE = true,
    (List.map E5 ((r5.1 ++ r6) ++ r7)).length + (List.map E5 r4.2.2).length ≤ 9223372036854775807,
    ((List.map E5 ((r5.1 ++ r6) ++ r7)).length + (List.map E5 r4.2.2).length) * 1 ≤ 140737488355328,
    Blk.row 5 ((List.map E5 ((r5.1 ++ r6) ++ r7)) ++ (List.map E5 r4.2.2)) [] = Blk.row 5 (List.map E5 (((r5.1 ++ r6) ++ r7) ++ r4.2.2)) []]) (by kernel_rfl) (cj (impl_MsgOk_ok o r1 h1) (cj rfl (cj (nf h2) (cj (len_nm _ _) (cj (impl_Encode_l0_ok o h12 o.List [] rfl [] [] [] r4 h13) (cj (impl_PutBcd_ok o.Mti r5 h14) (cj rfl (cj (len_nm _ _) (cj h15 (cj rfl (cj rfl (cj (cap1 (capN (by simp) h16)) (cj (cap2 (capN (by simp) h16) (by decide)) (cj (nb_app E3 r4.1 [1]) (cj (impl_PutBits_ok (r4.1 ++ [1]) r6 h17) (cj (by simp [V.nv, nvL, nvL_all, nv_E5, nv_E22]) (cj rfl (cj (flat_map (fun _ => rfl) _) (cj (cap1 (capN (by simp) h18)) (cj (cap2 (capN (by simp) h18) (by decide)) (cj (nb_app E5 r5.1 r6) (cj (impl_PutBits_ok r4.2.1 r7 h19) (cj (by simp [V.nv, nvL, nvL_all, nv_E5, nv_E22]) (cj rfl (cj (flat_map (fun _ => rfl) _) (cj (cap1 (capN (by simp) h20)) (cj (cap2 (capN (by simp) h20) (by decide)) (cj (nb_app E5 (r5.1 ++ r6) r7) (cj rfl (cj (flat_map (fun _ => rfl) _) (cj (cap1 (capN (by simp) h21)) (cj (cap2 (capN (by simp) h21) (by decide)) (cj1 (nb_app E5 ((r5.1 ++ r6) ++ r7) r4.2.2)))))))))))))))))))))))))))))))))))) (fun h21 =>
   Pn.none)) (fun h20 =>
   Pn.none))) (fun h18 =>
   Pn.none))) (fun h16 =>
   Pn.none)) (fun h15 =>
   Pn.bind (fun r8 h22 =>
   Pn.ite (fun h23 =>
   Pn.ite (fun h24 =>
   Pn.some (Fn.of [.call [] (E4 r1) [], .bit false, .wait 8, .nm 21 (V.sc (.int .i64 (o.List.length : Int))), .wait 2, .mask [1, 4, 5, 6, 20, 21, 22], .ren [0, 1, 2, 3], .loop (X.out 0) (st 77 [(1, V.ptr 0 0), (4, V.ow 1), (5, V.ow 2), (6, V.ow 3)] [Blk.box 25 [V.sc (.string o.Mti), V.sl false 48 (List.map E48 o.List)], Blk.row 3 (List.map E3 r4.1) [], Blk.row 3 (List.map E3 r4.2.1) [], Blk.row 5 (List.map E5 r4.2.2) []] []), .call [] (V.tup [E22 r5.1, E4 r5.2]) [], .wait 7, .nm 59 (V.sc (.int .i64 (r4.2.1.length : Int))), .bit false, .call [] (E22 r8) [], .cp (List.map E5 r8), .nb 6 (.row 5 (List.map E5 (r5.1 ++ r8)) []), .cp (List.map E5 r4.2.2), .nb 7 (.row 5 (List.map E5 ((r5.1 ++ r8) ++ r4.2.2)) [])] (p := [Fn Tryd.prog 14 [(false, E25 o)] (E4 r1) [],
    (true || ((E4 r1).nv && nvL [])) = true,
    (!r1) = false,
    V.sc (.int .i64 ((List.map E48 o.List).length : Int)) = V.sc (.int .i64 (o.List.length : Int)),
    Loop Tryd.prog (sub (codeOf Tryd.prog 8) [1, 1, 1, 0, 1, 0, 0]) (st 77 [(1, V.ptr 0 0), (4, V.ow 1), (5, V.ow 2), (6, V.ow 3), (20, V.sl false 48 (List.map E48 o.List)), (21, V.sc (.int .i64 (o.List.length : Int))), (22, V.sc (.int .i64 0))] [Blk.box 25 [V.sc (.string o.Mti), V.sl false 48 (List.map E48 o.List)], Blk.row 3 ([] : List V) [], Blk.row 3 ([] : List V) [], Blk.row 5 ([] : List V) []] []) (X.out 0) (st 77 [(1, V.ptr 0 0), (4, V.ow 1), (5, V.ow 2), (6, V.ow 3)] [Blk.box 25 [V.sc (.string o.Mti), V.sl false 48 (List.map E48 o.List)], Blk.row 3 (List.map E3 r4.1) [], Blk.row 3 (List.map E3 r4.2.1) [], Blk.row 5 (List.map E5 r4.2.2) []] []),
    Fn Tryd.prog 21 [(false, E9 o.Mti)] (V.tup [E22 r5.1, E4 r5.2]) [],
    (true || ((V.tup [E22 r5.1, E4 r5.2]).nv && nvL [])) = true,
    V.sc (.int .i64 ((List.map E3 r4.2.1).length : Int)) = V.sc (.int .i64 (r4.2.1.length : Int)),
    (decide (0 < (r4.2.1.length : Int))) = false,
    Fn Tryd.prog 22 [(false, E35 r4.1)] (E22 r8) [],
    (false || ((E22 r8).nv && nvL [])) = true,
    (List.map E5 r8) = (List.map E5 r8),
    (List.map E5 r8).all V.flatE = true,
    (List.map E5 r5.1).length + (List.map E5 r8).length ≤ 9223372036854775807,
    ((List.map E5 r5.1).length + (List.map E5 r8).length) * 1 ≤ 140737488355328,
    Blk.row 5 ((List.map E5 r5.1) ++ (List.map E5 r8)) [] = Blk.row 5 (List.map E5 (r5.1 ++ r8)) [],
    (List.map E5 r4.2.2) = (List.map E5 r4.2.2),
    (List.map E5 r4.2.2).all V.flatE = true,
    (List.map E5 (r5.1 ++ r8)).length + (List.map E5 r4.2.2).length ≤ 9223372036854775807,
    ((List.map E5 (r5.1 ++ r8)).length + (List.map E5 r4.2.2).length) * 1 ≤ 140737488355328,
    Blk.row 5 ((List.map E5 (r5.1 ++ r8)) ++ (List.map E5 r4.2.2)) [] = Blk.row 5 (List.map E5 ((r5.1 ++ r8) ++ r4.2.2)) []]) (by kernel_rfl) (cj (impl_MsgOk_ok o r1 h1) (cj rfl (cj (nf h2) (cj (len_nm _ _) (cj (impl_Encode_l0_ok o h12 o.List [] rfl [] [] [] r4 h13) (cj (impl_PutBcd_ok o.Mti r5 h14) (cj rfl (cj (len_nm _ _) (cj h15 (cj (impl_PutBits_ok r4.1 r8 h22) (cj (by simp [V.nv, nvL, nvL_all, nv_E5, nv_E22]) (cj rfl (cj (flat_map (fun _ => rfl) _) (cj (cap1 (capN (by simp) h23)) (cj (cap2 (capN (by simp) h23) (by decide)) (cj (nb_app E5 r5.1 r8) (cj rfl (cj (flat_map (fun _ => rfl) _) (cj (cap1 (capN (by simp) h24)) (cj (cap2 (capN (by simp) h24) (by decide)) (cj1 (nb_app E5 (r5.1 ++ r8) r4.2.2)))))))))))))))))))))))) (fun h24 =>
   Pn.none)) (fun h23 =>
   Pn.none)))))) (fun h12 =>
   Pn.none)) (fun h2 =>
   Pn.some (Fn.of [.call [] (E4 r1) [], .bit true] (p := [Fn Tryd.prog 14 [(false, E25 o)] (E4 r1) [],
    (true || ((E4 r1).nv && nvL [])) = true,
    (!r1) = true]) (by kernel_rfl) (cj (impl_MsgOk_ok o r1 h1) (cj rfl (cj1 (nt h2)))))))
def impl_piece (b : List Int) (at_ : Int) (n : Int) : Option ((List Int) × Bool) :=
 (impl_within at_ 0 (b.length : Int)).bind fun r1 =>
 if r1 = true then
 if (decide (n < 0)) = true then
 some ([], false)
 else
 if (decide ((i64 ((b.length : Int) - at_)) < n)) = true then
 some ([], false)
 else
 if (decide (0 ≤ at_)) = true then
 if (decide (at_ ≤ (i64 (at_ + n)))) = true then
 if (decide ((i64 (at_ + n)) ≤ (b.length : Int))) = true then
 some (((b.take ((i64 (at_ + n)).toNat)).drop at_.toNat), true)
 else none
 else none
 else none
 else
 some ([], false)
theorem impl_piece_ok (b : List Int) (at_ : Int) (n : Int) : Pn (fun y => Fn Tryd.prog 56 [(false, E22 b), (false, E3 at_), (false, E3 n)] (V.tup [(E22 y.1).vw, E4 y.2]) []) (impl_piece b at_ n) := by
  unfold impl_piece
  exact
   Pn.bind (fun r1 h1 =>
   Pn.ite (fun h2 =>
   Pn.ite (fun h3 =>
   Pn.some (Fn.of [.wait 5, .nm 10 (V.sc (.int .i64 (b.length : Int))), .call [] (E4 r1) [], .bit false, .bit false, .bit false, .bit true, .bit true, .bit true, .bit true, .bit true, .bit true, .bit true, .bit true, .wait 2, .view 6] (p := [V.sc (.int .i64 ((List.map E5 b).length : Int)) = V.sc (.int .i64 (b.length : Int)),
    Fn Tryd.prog 32 [(false, E3 at_), (false, E3 0), (false, E3 (b.length : Int))] (E4 r1) [],
    (true || ((E4 r1).nv && nvL [])) = true,
    (!r1) = false,
    (!r1) = false,
    (!r1) = false,
    (decide (n < 0)) = true,
    (decide (n < 0)) = true,
    (decide (n < 0)) = true,
    (decide (n < 0)) = true,
    (decide (n < 0)) = true,
    (decide (n < 0)) = true,
    (decide (n < 0)) = true,
    true = true]) (by kernel_rfl) (cj (len_nm _ _) (cj (impl_within_ok at_ 0 (b.length : Int) r1 h1) (cj rfl (cj (nf h2) (cj (nf h2) (cj (nf h2) (cj h3 (cj h3 (cj h3 (cj h3 (cj h3 (cj h3 (cj h3 (cj1 rfl)))))))))))))))) (fun h3 =>
   Pn.ite (fun h4 =>
   Pn.some (Fn.of [.wait 5, .nm 10 (V.sc (.int .i64 (b.length : Int))), .call [] (E4 r1) [], .bit false, .bit false, .bit false, .bit false, .bit false, .bit false, .nm 20 (V.sc (.int .i64 (b.length : Int))), .bit false, .bit false, .bit false, .bit false, .bit true, .wait 2, .view 6] (p := [V.sc (.int .i64 ((List.map E5 b).length : Int)) = V.sc (.int .i64 (b.length : Int)),
    Fn Tryd.prog 32 [(false, E3 at_), (false, E3 0), (false, E3 (b.length : Int))] (E4 r1) [],
    (true || ((E4 r1).nv && nvL [])) = true,
    (!r1) = false,
    (!r1) = false,
    (!r1) = false,
    (decide (n < 0)) = false,
    (decide (n < 0)) = false,
    (decide (n < 0)) = false,
    V.sc (.int .i64 ((List.map E5 b).length : Int)) = V.sc (.int .i64 (b.length : Int)),
    (decide (n < 0)) = false,
    (decide (n < 0)) = false,
    (decide (n < 0)) = false,
    (decide (n < 0)) = false,
    (decide ((i64 ((b.length : Int) - at_)) < n)) = true]) (by kernel_rfl) (cj (len_nm _ _) (cj (impl_within_ok at_ 0 (b.length : Int) r1 h1) (cj rfl (cj (nf h2) (cj (nf h2) (cj (nf h2) (cj h3 (cj h3 (cj h3 (cj (len_nm _ _) (cj h3 (cj h3 (cj h3 (cj h3 (cj1 h4))))))))))))))))) (fun h4 =>
   Pn.ite (fun h5 =>
   Pn.ite (fun h6 =>
   Pn.ite (fun h7 =>
   Pn.some (Fn.of [.wait 5, .nm 10 (V.sc (.int .i64 (b.length : Int))), .call [] (E4 r1) [], .bit false, .bit false, .bit false, .bit false, .bit false, .bit false, .nm 20 (V.sc (.int .i64 (b.length : Int))), .bit false, .bit false, .bit false, .bit false, .bit false, .wait 5, .nm 30 (V.sl false 5 (List.map E5 ((b.take ((i64 (at_ + n)).toNat)).drop at_.toNat)))] (p := [V.sc (.int .i64 ((List.map E5 b).length : Int)) = V.sc (.int .i64 (b.length : Int)),
    Fn Tryd.prog 32 [(false, E3 at_), (false, E3 0), (false, E3 (b.length : Int))] (E4 r1) [],
    (true || ((E4 r1).nv && nvL [])) = true,
    (!r1) = false,
    (!r1) = false,
    (!r1) = false,
    (decide (n < 0)) = false,
    (decide (n < 0)) = false,
    (decide (n < 0)) = false,
    V.sc (.int .i64 ((List.map E5 b).length : Int)) = V.sc (.int .i64 (b.length : Int)),
    (decide (n < 0)) = false,
    (decide (n < 0)) = false,
    (decide (n < 0)) = false,
    (decide (n < 0)) = false,
    (decide ((i64 ((b.length : Int) - at_)) < n)) = false,
    (0 : Int) ≤ at_,
    (at_ : Int) ≤ (i64 (at_ + n)),
    ((i64 (at_ + n)) : Int) ≤ ((List.map E5 b).length : Int),
    V.sl false 5 (((List.map E5 b).take ((i64 (at_ + n)).toNat)).drop at_.toNat) = V.sl false 5 (List.map E5 ((b.take ((i64 (at_ + n)).toNat)).drop at_.toNat))]) (by kernel_rfl) (cj (len_nm _ _) (cj (impl_within_ok at_ 0 (b.length : Int) r1 h1) (cj rfl (cj (nf h2) (cj (nf h2) (cj (nf h2) (cj h3 (cj h3 (cj h3 (cj (len_nm _ _) (cj h3 (cj h3 (cj h3 (cj h3 (cj h4 (cj (od h5) (cj (od h6) (cj (by rw [List.length_map]; exact (od h7)) (cj1 (nm_cut _ _ _ _ _)))))))))))))))))))))) (fun h7 =>
   Pn.none)) (fun h6 =>
   Pn.none)) (fun h5 =>
   Pn.none)))) (fun h2 =>
   Pn.some (Fn.of [.wait 5, .nm 10 (V.sc (.int .i64 (b.length : Int))), .call [] (E4 r1) [], .bit true, .bit true, .bit true, .bit true, .bit true, .bit true, .bit true, .bit true, .bit true, .bit true, .bit true, .wait 2, .view 6] (p := [V.sc (.int .i64 ((List.map E5 b).length : Int)) = V.sc (.int .i64 (b.length : Int)),
    Fn Tryd.prog 32 [(false, E3 at_), (false, E3 0), (false, E3 (b.length : Int))] (E4 r1) [],
    (true || ((E4 r1).nv && nvL [])) = true,
    (!r1) = true,
    (!r1) = true,
    (!r1) = true,
    true = true,
    true = true,
    true = true,
    true = true,
    true = true,
    true = true,
    true = true,
    true = true]) (by kernel_rfl) (cj (len_nm _ _) (cj (impl_within_ok at_ 0 (b.length : Int) r1 h1) (cj rfl (cj (nt h2) (cj (nt h2) (cj (nt h2) (cj rfl (cj rfl (cj rfl (cj rfl (cj rfl (cj rfl (cj rfl (cj1 rfl)))))))))))))))))
def impl_GetBcd_c0 (o : List Int) (o_ : Int) (a2 : Int) : Option (Lo Unit Unit) :=
 (impl_within a2 1 38).bind fun r1 =>
 if r1 = true then
 some (.out ())
 else
 some (.ret ())
theorem impl_GetBcd_c0_ok (o : List Int) (o_ : Int) (a2 : Int) : Pn (JnO Tryd.prog (sub (codeOf Tryd.prog 40) [1, 0]) (st 73 [(0, V.sl false 5 (List.map E5 o)), (1, V.sc (.int .i64 o_)), (2, V.sc (.int .i64 a2))] [] []) (fun (y : Lo Unit Unit) => Lo.elim y (fun s => (X.go, st 73 [(0, V.sl false 5 (List.map E5 o)), (1, V.sc (.int .i64 o_)), (2, V.sc (.int .i64 a2))] [] [])) (fun s => (X.ret, st 73 [(6, V.sc (.string (bs []))), (7, V.sc (.int .i64 0)), (8, V.sc (.bool false))] [] [])))) (impl_GetBcd_c0 o o_ a2) := by
  unfold impl_GetBcd_c0
  exact
   Pn.bind (fun r1 h1 =>
   Pn.ite (fun h2 =>
   Pn.some (JnO.of [.call [] (E4 r1) [], .bit false, .mask [0, 1, 2], .ren []] (p := [Fn Tryd.prog 32 [(false, E3 a2), (false, E3 1), (false, E3 38)] (E4 r1) [],
    (true || ((E4 r1).nv && nvL [])) = true,
    (!r1) = false]) (by kernel_rfl) (cj (impl_within_ok a2 1 38 r1 h1) (cj rfl (cj1 (nf h2)))))) (fun h2 =>
   Pn.some (JnO.of [.call [] (E4 r1) [], .bit true, .wait 3, .mask [6, 7, 8], .ren []] (p := [Fn Tryd.prog 32 [(false, E3 a2), (false, E3 1), (false, E3 38)] (E4 r1) [],
    (true || ((E4 r1).nv && nvL [])) = true,
    (!r1) = true]) (by kernel_rfl) (cj (impl_within_ok a2 1 38 r1 h1) (cj rfl (cj1 (nt h2)))))))
def impl_GetBcd_c2 (o_ : Int) (a2 : Int) (r3 : (List Int) × Bool) (v1 : Int) (v2 : List Int) : Option (Lo Unit Unit) :=
 if (decide (v1 < (r3.1.length : Int))) = true then
 some (.out ())
 else
 some (.ret ())
theorem impl_GetBcd_c2_ok (o_ : Int) (a2 : Int) (r3 : (List Int) × Bool) (v1 : Int) (v2 : List Int) : Pn (JnO Tryd.prog (sub (codeOf Tryd.prog 40) [1, 1, 1, 1, 0, 1, 0, 0, 1, 0]) (st 73 [(1, V.sc (.int .i64 o_)), (2, V.sc (.int .i64 a2)), (9, V.sl false 5 (List.map E5 r3.1)), (10, V.sc (.bool r3.2)), (11, V.ow 0), (27, V.sl false 5 (List.map E5 r3.1)), (28, V.sc (.int .i64 (r3.1.length : Int))), (29, V.sc (.int .i64 v1)), (30, V.sc (.bool (decide (v1 < (r3.1.length : Int)))))] [Blk.row 5 (List.map E5 v2) []] []) (fun (y : Lo Unit Unit) => Lo.elim y (fun s => (X.go, st 73 [(1, V.sc (.int .i64 o_)), (2, V.sc (.int .i64 a2)), (9, V.sl false 5 (List.map E5 r3.1)), (10, V.sc (.bool r3.2)), (11, V.ow 0), (27, V.sl false 5 (List.map E5 r3.1)), (28, V.sc (.int .i64 (r3.1.length : Int))), (29, V.sc (.int .i64 v1))] [Blk.row 5 (List.map E5 v2) []] [])) (fun s => (X.out 0, st 73 [(1, V.sc (.int .i64 o_)), (2, V.sc (.int .i64 a2)), (9, V.sl false 5 (List.map E5 r3.1)), (10, V.sc (.bool r3.2)), (11, V.ow 0)] [Blk.row 5 (List.map E5 v2) []] [])))) (impl_GetBcd_c2 o_ a2 r3 v1 v2) := by
  unfold impl_GetBcd_c2
  exact
   Pn.ite (fun h7 =>
   Pn.some (JnO.of [.bit true, .mask [1, 2, 9, 10, 11, 27, 28, 29], .ren [0]] (p := [(decide (v1 < (r3.1.length : Int))) = true]) (by kernel_rfl) (cj1 h7))) (fun h7 =>
   Pn.some (JnO.of [.bit false, .mask [1, 2, 9, 10, 11], .ren [0]] (p := [(decide (v1 < (r3.1.length : Int))) = false]) (by kernel_rfl) (cj1 h7)))
def impl_GetBcd_l0 (o_ : Int) (a2 : Int) (r3 : (List Int) × Bool) : Nat → Int → (List Int) → Option ((List Int))
  | 0, _, _ => none
  | fuel + 1, v1, v2 =>
   (impl_GetBcd_c2 o_ a2 r3 v1 v2).bind fun r4 =>
   Lo.elim r4 (fun s3 =>
   if (decide (0 ≤ v1)) = true then
   (r3.1[v1.toNat]?).bind fun x1 =>
   if (capOk (v2.length + 2)) = true then
   impl_GetBcd_l0 o_ a2 r3 fuel (i64 (v1 + 1)) (v2 ++ [u8 (48 + (bshr .u8 x1 4)), u8 (48 + (band .u8 x1 15))])
   else none
   else none) (fun s4 =>
   some v2)
theorem impl_GetBcd_l0_ok (o_ : Int) (a2 : Int) (r3 : (List Int) × Bool) : ∀ (fuel : Nat) (v1 : Int) (v2 : List Int), Pn (LpO Tryd.prog (sub (codeOf Tryd.prog 40) [1, 1, 1, 1, 0, 1, 0, 0]) (st 73 [(1, V.sc (.int .i64 o_)), (2, V.sc (.int .i64 a2)), (9, V.sl false 5 (List.map E5 r3.1)), (10, V.sc (.bool r3.2)), (11, V.ow 0), (27, V.sl false 5 (List.map E5 r3.1)), (28, V.sc (.int .i64 (r3.1.length : Int))), (29, V.sc (.int .i64 v1))] [Blk.row 5 (List.map E5 v2) []] []) (fun (y : (List Int)) => (X.out 0, st 73 [(1, V.sc (.int .i64 o_)), (2, V.sc (.int .i64 a2)), (9, V.sl false 5 (List.map E5 r3.1)), (10, V.sc (.bool r3.2)), (11, V.ow 0)] [Blk.row 5 (List.map E5 y) []] []))) (impl_GetBcd_l0 o_ a2 r3 fuel v1 v2)
  | 0, _, _ => Pn.none
  | fuel + 1, v1, v2 => by
    unfold impl_GetBcd_l0
    exact
     Pn.bind (fun r4 h8 =>
     Pn.lo (fun s3 h9 =>
     Pn.ite (fun h11 =>
     Pn.bind (fun x1 h12 =>
     Pn.ite (fun h13 =>
     LpO.go [.wait 2, .mask [1, 2, 9, 10, 11, 27, 28, 29, 30], .ren [0], .join 3 (X.go) (st 73 [(1, V.sc (.int .i64 o_)), (2, V.sc (.int .i64 a2)), (9, V.sl false 5 (List.map E5 r3.1)), (10, V.sc (.bool r3.2)), (11, V.ow 0), (27, V.sl false 5 (List.map E5 r3.1)), (28, V.sc (.int .i64 (r3.1.length : Int))), (29, V.sc (.int .i64 v1))] [Blk.row 5 (List.map E5 v2) []] []), .el (E5 x1), .cp [V.sc (.int .u8 (u8 (48 + (bshr .u8 x1 4)))), V.sc (.int .u8 (u8 (48 + (band .u8 x1 15))))], .nb 2 (.row 5 (List.map E5 (v2 ++ [u8 (48 + (bshr .u8 x1 4)), u8 (48 + (band .u8 x1 15))])) []), .wait 4, .mask [1, 2, 9, 10, 11, 27, 28, 29], .ren [2]] (p := [HT Tryd.prog (sub (codeOf Tryd.prog 40) [1, 1, 1, 1, 0, 1, 0, 0, 1, 0]) (st 73 [(1, V.sc (.int .i64 o_)), (2, V.sc (.int .i64 a2)), (9, V.sl false 5 (List.map E5 r3.1)), (10, V.sc (.bool r3.2)), (11, V.ow 0), (27, V.sl false 5 (List.map E5 r3.1)), (28, V.sc (.int .i64 (r3.1.length : Int))), (29, V.sc (.int .i64 v1)), (30, V.sc (.bool (decide (v1 < (r3.1.length : Int)))))] [Blk.row 5 (List.map E5 v2) []] []) (X.go) (st 73 [(1, V.sc (.int .i64 o_)), (2, V.sc (.int .i64 a2)), (9, V.sl false 5 (List.map E5 r3.1)), (10, V.sc (.bool r3.2)), (11, V.ow 0), (27, V.sl false 5 (List.map E5 r3.1)), (28, V.sc (.int .i64 (r3.1.length : Int))), (29, V.sc (.int .i64 v1))] [Blk.row 5 (List.map E5 v2) []] []),
      (0 : Int) ≤ v1,
      (List.map E5 r3.1)[v1.toNat]? = some (E5 x1),
      ¬ (4 : Int) < 0,
      [V.sc (.int .u8 (u8 (48 + (bshr .u8 x1 4)))), V.sc (.int .u8 (u8 (48 + (band .u8 x1 15))))] = [V.sc (.int .u8 (u8 (48 + (bshr .u8 x1 4)))), V.sc (.int .u8 (u8 (48 + (band .u8 x1 15))))],
      [V.sc (.int .u8 (u8 (48 + (bshr .u8 x1 4)))), V.sc (.int .u8 (u8 (48 + (band .u8 x1 15))))].all V.flatE = true,
      (List.map E5 v2).length + [V.sc (.int .u8 (u8 (48 + (bshr .u8 x1 4)))), V.sc (.int .u8 (u8 (48 + (band .u8 x1 15))))].length ≤ 9223372036854775807,
      ((List.map E5 v2).length + [V.sc (.int .u8 (u8 (48 + (bshr .u8 x1 4)))), V.sc (.int .u8 (u8 (48 + (band .u8 x1 15))))].length) * 1 ≤ 140737488355328,
      Blk.row 5 ((List.map E5 v2) ++ [V.sc (.int .u8 (u8 (48 + (bshr .u8 x1 4)))), V.sc (.int .u8 (u8 (48 + (band .u8 x1 15))))]) [] = Blk.row 5 (List.map E5 (v2 ++ [u8 (48 + (bshr .u8 x1 4)), u8 (48 + (band .u8 x1 15))])) []]) (by kernel_rfl) (cj ((impl_GetBcd_c2_ok o_ a2 r3 v1 v2 r4 h8).at h9) (cj (od h11) (cj (map_get h12) (cj (by decide) (cj rfl (cj rfl (cj (cap1 (capN (by simp) h13)) (cj (cap2 (capN (by simp) h13) (by decide)) (cj1 (nb_app E5 v2 [u8 (48 + (bshr .u8 x1 4)), u8 (48 + (band .u8 x1 15))])))))))))) (impl_GetBcd_l0_ok o_ a2 r3 fuel (i64 (v1 + 1)) (v2 ++ [u8 (48 + (bshr .u8 x1 4)), u8 (48 + (band .u8 x1 15))]))) (fun h13 =>
     Pn.none))) (fun h11 =>
     Pn.none)) (fun s4 h10 =>
     Pn.some (LpO.out [.wait 2, .mask [1, 2, 9, 10, 11, 27, 28, 29, 30], .ren [0], .join 3 (X.out 0) (st 73 [(1, V.sc (.int .i64 o_)), (2, V.sc (.int .i64 a2)), (9, V.sl false 5 (List.map E5 r3.1)), (10, V.sc (.bool r3.2)), (11, V.ow 0)] [Blk.row 5 (List.map E5 v2) []] []), .wait 1, .mask [1, 2, 9, 10, 11], .ren [0]] (p := [HT Tryd.prog (sub (codeOf Tryd.prog 40) [1, 1, 1, 1, 0, 1, 0, 0, 1, 0]) (st 73 [(1, V.sc (.int .i64 o_)), (2, V.sc (.int .i64 a2)), (9, V.sl false 5 (List.map E5 r3.1)), (10, V.sc (.bool r3.2)), (11, V.ow 0), (27, V.sl false 5 (List.map E5 r3.1)), (28, V.sc (.int .i64 (r3.1.length : Int))), (29, V.sc (.int .i64 v1)), (30, V.sc (.bool (decide (v1 < (r3.1.length : Int)))))] [Blk.row 5 (List.map E5 v2) []] []) (X.out 0) (st 73 [(1, V.sc (.int .i64 o_)), (2, V.sc (.int .i64 a2)), (9, V.sl false 5 (List.map E5 r3.1)), (10, V.sc (.bool r3.2)), (11, V.ow 0)] [Blk.row 5 (List.map E5 v2) []] [])]) (by kernel_rfl) (show X.out 0 ≠ X.go from nofun) (cj1 ((impl_GetBcd_c2_ok o_ a2 r3 v1 v2 r4 h8).at h10)))))
def impl_GetBcd_c3 (o_ : Int) (a2 : Int) (r3 : (List Int) × Bool) (r5 : (List Int)) : Option (Lo Unit Unit) :=
 if r3.2 = true then
 (impl_Digits (bstr r5)).bind fun r6 =>
 if r6 = true then
 if ((Int.tmod a2 2) == 1) = true then
 (r5[0]?).bind fun x2 =>
 if (x2 != 48) = true then
 some (.ret ())
 else
 some (.out ())
 else
 some (.out ())
 else
 some (.ret ())
 else
 some (.ret ())
theorem impl_GetBcd_c3_ok (o_ : Int) (a2 : Int) (r3 : (List Int) × Bool) (r5 : (List Int)) : Pn (JnO Tryd.prog (sub (codeOf Tryd.prog 40) [1, 1, 1, 1, 1, 0]) (st 73 [(1, V.sc (.int .i64 o_)), (2, V.sc (.int .i64 a2)), (9, V.sl false 5 (List.map E5 r3.1)), (10, V.sc (.bool r3.2)), (11, V.ow 0)] [Blk.row 5 (List.map E5 r5) []] []) (fun (y : Lo Unit Unit) => Lo.elim y (fun s => (X.go, st 73 [(1, V.sc (.int .i64 o_)), (2, V.sc (.int .i64 a2)), (9, V.sl false 5 (List.map E5 r3.1)), (11, V.ow 0)] [Blk.row 5 (List.map E5 r5) []] [])) (fun s => (X.ret, st 73 [(6, V.sc (.string (bs []))), (7, V.sc (.int .i64 0)), (8, V.sc (.bool false))] [] [])))) (impl_GetBcd_c3 o_ a2 r3 r5) := by
  unfold impl_GetBcd_c3
  exact
   Pn.ite (fun h15 =>
   Pn.bind (fun r6 h16 =>
   Pn.ite (fun h17 =>
   Pn.ite (fun h18 =>
   Pn.bind (fun x2 h19 =>
   Pn.ite (fun h20 =>
   Pn.some (JnO.of [.bit false, .bit false, .ints r5, .bit false, .call [] (E4 r6) [], .bit false, .bit false, .bit false, .bit false, .bit false, .bit false, .bit true, .bit true, .bit true, .el (E5 x2), .bit true, .bit false, .bit true, .bit false, .bit true, .wait 3, .mask [6, 7, 8], .ren []] (p := [(!r3.2) = false,
    (!r3.2) = false,
    (List.map E5 r5) = r5.map fun n => V.sc (.int .u8 n),
    (!r3.2) = false,
    Fn Tryd.prog 39 [(false, E9 (bstr r5))] (E4 r6) [],
    (true || ((E4 r6).nv && nvL [])) = true,
    (!r3.2) = false,
    (!r3.2) = false,
    (!r6) = false,
    (!r6) = false,
    (2 : Int) ≠ 0,
    (!r6) = false,
    (!r6) = false,
    ((Int.tmod a2 2) == 1) = true,
    ((Int.tmod a2 2) == 1) = true,
    (0 : Int) ≤ 0,
    (0 : Int) < ((List.map E5 r5).length : Int),
    ((Int.tmod a2 2) == 1) = true,
    look [] 0 = none,
    (List.map E5 r5)[0]? = some (E5 x2),
    ((Int.tmod a2 2) == 1) = true,
    (!r6) = false,
    ((Int.tmod a2 2) == 1) = true,
    (!r6) = false,
    (x2 != 48) = true]) (by kernel_rfl) (cj (nf h15) (cj (nf h15) (cj rfl (cj (nf h15) (cj (impl_Digits_ok (bstr r5) r6 h16) (cj rfl (cj (nf h15) (cj (nf h15) (cj (nf h17) (cj (nf h17) (cj (by decide) (cj (nf h17) (cj (nf h17) (cj h18 (cj h18 (cj (by decide) (cj (map_ltN (by decide) h19) (cj h18 (cj rfl (cj (map_get h19) (cj h18 (cj (nf h17) (cj h18 (cj (nf h17) (cj1 h20))))))))))))))))))))))))))) (fun h20 =>
   Pn.some (JnO.of [.bit false, .bit false, .ints r5, .bit false, .call [] (E4 r6) [], .bit false, .bit false, .bit false, .bit false, .bit false, .bit false, .bit true, .bit true, .bit true, .el (E5 x2), .bit true, .bit false, .bit true, .bit false, .bit false, .mask [1, 2, 9, 11], .ren [0]] (p := [(!r3.2) = false,
    (!r3.2) = false,
    (List.map E5 r5) = r5.map fun n => V.sc (.int .u8 n),
    (!r3.2) = false,
    Fn Tryd.prog 39 [(false, E9 (bstr r5))] (E4 r6) [],
    (true || ((E4 r6).nv && nvL [])) = true,
    (!r3.2) = false,
    (!r3.2) = false,
    (!r6) = false,
    (!r6) = false,
    (2 : Int) ≠ 0,
    (!r6) = false,
    (!r6) = false,
    ((Int.tmod a2 2) == 1) = true,
    ((Int.tmod a2 2) == 1) = true,
    (0 : Int) ≤ 0,
    (0 : Int) < ((List.map E5 r5).length : Int),
    ((Int.tmod a2 2) == 1) = true,
    look [] 0 = none,
    (List.map E5 r5)[0]? = some (E5 x2),
    ((Int.tmod a2 2) == 1) = true,
    (!r6) = false,
    ((Int.tmod a2 2) == 1) = true,
    (!r6) = false,
    (x2 != 48) = false]) (by kernel_rfl) (cj (nf h15) (cj (nf h15) (cj rfl (cj (nf h15) (cj (impl_Digits_ok (bstr r5) r6 h16) (cj rfl (cj (nf h15) (cj (nf h15) (cj (nf h17) (cj (nf h17) (cj (by decide) (cj (nf h17) (cj (nf h17) (cj h18 (cj h18 (cj (by decide) (cj (map_ltN (by decide) h19) (cj h18 (cj rfl (cj (map_get h19) (cj h18 (cj (nf h17) (cj h18 (cj (nf h17) (cj1 h20))))))))))))))))))))))))))))) (fun h18 =>
   Pn.some (JnO.of [.bit false, .bit false, .ints r5, .bit false, .call [] (E4 r6) [], .bit false, .bit false, .bit false, .bit false, .bit false, .bit false, .bit false, .bit false, .bit false, .bit false, .bit false, .bit false, .bit false, .bit false, .mask [1, 2, 9, 11], .ren [0]] (p := [(!r3.2) = false,
    (!r3.2) = false,
    (List.map E5 r5) = r5.map fun n => V.sc (.int .u8 n),
    (!r3.2) = false,
    Fn Tryd.prog 39 [(false, E9 (bstr r5))] (E4 r6) [],
    (true || ((E4 r6).nv && nvL [])) = true,
    (!r3.2) = false,
    (!r3.2) = false,
    (!r6) = false,
    (!r6) = false,
    (2 : Int) ≠ 0,
    (!r6) = false,
    (!r6) = false,
    ((Int.tmod a2 2) == 1) = false,
    ((Int.tmod a2 2) == 1) = false,
    ((Int.tmod a2 2) == 1) = false,
    ((Int.tmod a2 2) == 1) = false,
    (!r6) = false,
    ((Int.tmod a2 2) == 1) = false,
    (!r6) = false,
    false = false]) (by kernel_rfl) (cj (nf h15) (cj (nf h15) (cj rfl (cj (nf h15) (cj (impl_Digits_ok (bstr r5) r6 h16) (cj rfl (cj (nf h15) (cj (nf h15) (cj (nf h17) (cj (nf h17) (cj (by decide) (cj (nf h17) (cj (nf h17) (cj h18 (cj h18 (cj h18 (cj h18 (cj (nf h17) (cj h18 (cj (nf h17) (cj1 rfl)))))))))))))))))))))))) (fun h17 =>
   Pn.some (JnO.of [.bit false, .bit false, .ints r5, .bit false, .call [] (E4 r6) [], .bit false, .bit false, .bit true, .bit true, .bit true, .bit true, .bit true, .bit true, .bit true, .wait 3, .mask [6, 7, 8], .ren []] (p := [(!r3.2) = false,
    (!r3.2) = false,
    (List.map E5 r5) = r5.map fun n => V.sc (.int .u8 n),
    (!r3.2) = false,
    Fn Tryd.prog 39 [(false, E9 (bstr r5))] (E4 r6) [],
    (true || ((E4 r6).nv && nvL [])) = true,
    (!r3.2) = false,
    (!r3.2) = false,
    (!r6) = true,
    (!r6) = true,
    (!r6) = true,
    (!r6) = true,
    (!r6) = true,
    (!r6) = true,
    true = true]) (by kernel_rfl) (cj (nf h15) (cj (nf h15) (cj rfl (cj (nf h15) (cj (impl_Digits_ok (bstr r5) r6 h16) (cj rfl (cj (nf h15) (cj (nf h15) (cj (nt h17) (cj (nt h17) (cj (nt h17) (cj (nt h17) (cj (nt h17) (cj (nt h17) (cj1 rfl))))))))))))))))))) (fun h15 =>
   Pn.some (JnO.of [.bit true, .bit true, .bit true, .bit true, .bit true, .bit true, .bit true, .bit true, .bit true, .bit true, .bit true, .bit true, .wait 3, .mask [6, 7, 8], .ren []] (p := [(!r3.2) = true,
    (!r3.2) = true,
    (!r3.2) = true,
    (!r3.2) = true,
    (!r3.2) = true,
    true = true,
    true = true,
    true = true,
    true = true,
    true = true,
    true = true,
    true = true]) (by kernel_rfl) (cj (nt h15) (cj (nt h15) (cj (nt h15) (cj (nt h15) (cj (nt h15) (cj rfl (cj rfl (cj rfl (cj rfl (cj rfl (cj rfl (cj1 rfl))))))))))))))
def impl_GetBcd (o : List Int) (o_ : Int) (a2 : Int) : Option (ByteArray × Int × Bool) :=
 (impl_GetBcd_c0 o o_ a2).bind fun r2 =>
 Lo.elim r2 (fun s1 =>
 (impl_piece o o_ (i64 (Int.tdiv (i64 (a2 + 1)) 2))).bind fun r3 =>
 (impl_GetBcd_l0 o_ a2 r3 FUEL 0 []).bind fun r5 =>
 (impl_GetBcd_c3 o_ a2 r3 r5).bind fun r7 =>
 Lo.elim r7 (fun s5 =>
 if (decide (0 ≤ (i64 ((r5.length : Int) - a2)))) = true then
 if (decide ((i64 ((r5.length : Int) - a2)) ≤ (r5.length : Int))) = true then
 some (bstr ((r5.drop ((i64 ((r5.length : Int) - a2)).toNat)).take (r5.length - (i64 ((r5.length : Int) - a2)).toNat)), i64 (o_ + (r3.1.length : Int)), true)
 else none
 else none) (fun s6 =>
 some (bs [], 0, false))) (fun s2 =>
 some (bs [], 0, false))
theorem impl_GetBcd_ok (o : List Int) (o_ : Int) (a2 : Int) : Pn (fun y => Fn Tryd.prog 40 [(false, E22 o), (false, E3 o_), (false, E3 a2)] (V.tup [E9 y.1, E3 y.2.1, E4 y.2.2]) []) (impl_GetBcd o o_ a2) := by
  unfold impl_GetBcd
  exact
   Pn.bind (fun r2 h3 =>
   Pn.lo (fun s1 h4 =>
   Pn.bind (fun r3 h6 =>
   Pn.bind (fun r5 h14 =>
   Pn.bind (fun r7 h21 =>
   Pn.lo (fun s5 h22 =>
   Pn.ite (fun h24 =>
   Pn.ite (fun h25 =>
   Pn.some (Fn.of [.wait 4, .mask [0, 1, 2], .ren [], .join 7 (X.go) (st 73 [(0, V.sl false 5 (List.map E5 o)), (1, V.sc (.int .i64 o_)), (2, V.sc (.int .i64 a2))] [] []), .call [] (V.tup [(E22 r3.1).vw, E4 r3.2]) [], .wait 9, .nm 28 (V.sc (.int .i64 (r3.1.length : Int))), .wait 2, .mask [1, 2, 9, 10, 11, 27, 28, 29], .ren [0], .loop (X.out 0) (st 73 [(1, V.sc (.int .i64 o_)), (2, V.sc (.int .i64 a2)), (9, V.sl false 5 (List.map E5 r3.1)), (10, V.sc (.bool r3.2)), (11, V.ow 0)] [Blk.row 5 (List.map E5 r5) []] []), .wait 1, .mask [1, 2, 9, 10, 11], .ren [0], .join 7 (X.go) (st 73 [(1, V.sc (.int .i64 o_)), (2, V.sc (.int .i64 a2)), (9, V.sl false 5 (List.map E5 r3.1)), (11, V.ow 0)] [Blk.row 5 (List.map E5 r5) []] []), .wait 3, .nm 64 (V.sc (.int .i64 (r5.length : Int))), .wait 3, .nm 67 (V.sb 0 1 ((i64 ((r5.length : Int) - a2)).toNat) (r5.length - (i64 ((r5.length : Int) - a2)).toNat)), .ints ((r5.drop ((i64 ((r5.length : Int) - a2)).toNat)).take (r5.length - (i64 ((r5.length : Int) - a2)).toNat)), .wait 3, .nm 71 (V.sc (.int .i64 (r3.1.length : Int)))] (p := [HT Tryd.prog (sub (codeOf Tryd.prog 40) [1, 0]) (st 73 [(0, V.sl false 5 (List.map E5 o)), (1, V.sc (.int .i64 o_)), (2, V.sc (.int .i64 a2))] [] []) (X.go) (st 73 [(0, V.sl false 5 (List.map E5 o)), (1, V.sc (.int .i64 o_)), (2, V.sc (.int .i64 a2))] [] []),
    (2 : Int) ≠ 0,
    Fn Tryd.prog 56 [(false, E22 o), (false, E3 o_), (false, E3 (i64 (Int.tdiv (i64 (a2 + 1)) 2)))] (V.tup [(E22 r3.1).vw, E4 r3.2]) [],
    (true || ((V.tup [(E22 r3.1).vw, E4 r3.2]).nv && nvL [])) = true,
    V.sc (.int .i64 ((List.map E5 r3.1).length : Int)) = V.sc (.int .i64 (r3.1.length : Int)),
    Loop Tryd.prog (sub (codeOf Tryd.prog 40) [1, 1, 1, 1, 0, 1, 0, 0]) (st 73 [(1, V.sc (.int .i64 o_)), (2, V.sc (.int .i64 a2)), (9, V.sl false 5 (List.map E5 r3.1)), (10, V.sc (.bool r3.2)), (11, V.ow 0), (27, V.sl false 5 (List.map E5 r3.1)), (28, V.sc (.int .i64 (r3.1.length : Int))), (29, V.sc (.int .i64 0))] [Blk.row 5 ([] : List V) []] []) (X.out 0) (st 73 [(1, V.sc (.int .i64 o_)), (2, V.sc (.int .i64 a2)), (9, V.sl false 5 (List.map E5 r3.1)), (10, V.sc (.bool r3.2)), (11, V.ow 0)] [Blk.row 5 (List.map E5 r5) []] []),
    HT Tryd.prog (sub (codeOf Tryd.prog 40) [1, 1, 1, 1, 1, 0]) (st 73 [(1, V.sc (.int .i64 o_)), (2, V.sc (.int .i64 a2)), (9, V.sl false 5 (List.map E5 r3.1)), (10, V.sc (.bool r3.2)), (11, V.ow 0)] [Blk.row 5 (List.map E5 r5) []] []) (X.go) (st 73 [(1, V.sc (.int .i64 o_)), (2, V.sc (.int .i64 a2)), (9, V.sl false 5 (List.map E5 r3.1)), (11, V.ow 0)] [Blk.row 5 (List.map E5 r5) []] []),
    V.sc (.int .i64 ((List.map E5 r5).length : Int)) = V.sc (.int .i64 (r5.length : Int)),
    (0 : Int) ≤ (i64 ((r5.length : Int) - a2)),
    ((i64 ((r5.length : Int) - a2)) : Int) ≤ ((List.map E5 r5).length : Int),
    (((List.map E5 r5).length : Int) : Int) ≤ ((List.map E5 r5).length : Int),
    V.sb 0 1 ((i64 ((r5.length : Int) - a2)).toNat) ((((List.map E5 r5).length : Int).toNat) - ((i64 ((r5.length : Int) - a2)).toNat)) = V.sb 0 1 ((i64 ((r5.length : Int) - a2)).toNat) (r5.length - (i64 ((r5.length : Int) - a2)).toNat),
    ((List.map E5 r5).drop ((i64 ((r5.length : Int) - a2)).toNat)).take (r5.length - (i64 ((r5.length : Int) - a2)).toNat) = ((r5.drop ((i64 ((r5.length : Int) - a2)).toNat)).take (r5.length - (i64 ((r5.length : Int) - a2)).toNat)).map fun n => V.sc (.int .u8 n),
    V.sc (.int .i64 ((List.map E5 r3.1).length : Int)) = V.sc (.int .i64 (r3.1.length : Int))]) (by kernel_rfl) (cj ((impl_GetBcd_c0_ok o o_ a2 r2 h3).at h4) (cj (by decide) (cj (impl_piece_ok o o_ (i64 (Int.tdiv (i64 (a2 + 1)) 2)) r3 h6) (cj rfl (cj (len_nm _ _) (cj (impl_GetBcd_l0_ok o_ a2 r3 FUEL 0 [] r5 h14) (cj ((impl_GetBcd_c3_ok o_ a2 r3 r5 r7 h21).at h22) (cj (len_nm _ _) (cj (od h24) (cj (by rw [List.length_map]; exact (od h25)) (cj (Int.le_refl _) (cj (by simp) (cj (cut_map _ _ _ _) (cj1 (len_nm _ _))))))))))))))))) (fun h25 =>
   Pn.none)) (fun h24 =>
   Pn.none)) (fun s6 h23 =>
   Pn.some (Fn.of [.wait 4, .mask [0, 1, 2], .ren [], .join 7 (X.go) (st 73 [(0, V.sl false 5 (List.map E5 o)), (1, V.sc (.int .i64 o_)), (2, V.sc (.int .i64 a2))] [] []), .call [] (V.tup [(E22 r3.1).vw, E4 r3.2]) [], .wait 9, .nm 28 (V.sc (.int .i64 (r3.1.length : Int))), .wait 2, .mask [1, 2, 9, 10, 11, 27, 28, 29], .ren [0], .loop (X.out 0) (st 73 [(1, V.sc (.int .i64 o_)), (2, V.sc (.int .i64 a2)), (9, V.sl false 5 (List.map E5 r3.1)), (10, V.sc (.bool r3.2)), (11, V.ow 0)] [Blk.row 5 (List.map E5 r5) []] []), .wait 1, .mask [1, 2, 9, 10, 11], .ren [0], .join 7 (X.ret) (st 73 [(6, V.sc (.string (bs []))), (7, V.sc (.int .i64 0)), (8, V.sc (.bool false))] [] [])] (p := [HT Tryd.prog (sub (codeOf Tryd.prog 40) [1, 0]) (st 73 [(0, V.sl false 5 (List.map E5 o)), (1, V.sc (.int .i64 o_)), (2, V.sc (.int .i64 a2))] [] []) (X.go) (st 73 [(0, V.sl false 5 (List.map E5 o)), (1, V.sc (.int .i64 o_)), (2, V.sc (.int .i64 a2))] [] []),
    (2 : Int) ≠ 0,
    Fn Tryd.prog 56 [(false, E22 o), (false, E3 o_), (false, E3 (i64 (Int.tdiv (i64 (a2 + 1)) 2)))] (V.tup [(E22 r3.1).vw, E4 r3.2]) [],
    (true || ((V.tup [(E22 r3.1).vw, E4 r3.2]).nv && nvL [])) = true,
    V.sc (.int .i64 ((List.map E5 r3.1).length : Int)) = V.sc (.int .i64 (r3.1.length : Int)),
    Loop Tryd.prog (sub (codeOf Tryd.prog 40) [1, 1, 1, 1, 0, 1, 0, 0]) (st 73 [(1, V.sc (.int .i64 o_)), (2, V.sc (.int .i64 a2)), (9, V.sl false 5 (List.map E5 r3.1)), (10, V.sc (.bool r3.2)), (11, V.ow 0), (27, V.sl false 5 (List.map E5 r3.1)), (28, V.sc (.int .i64 (r3.1.length : Int))), (29, V.sc (.int .i64 0))] [Blk.row 5 ([] : List V) []] []) (X.out 0) (st 73 [(1, V.sc (.int .i64 o_)), (2, V.sc (.int .i64 a2)), (9, V.sl false 5 (List.map E5 r3.1)), (10, V.sc (.bool r3.2)), (11, V.ow 0)] [Blk.row 5 (List.map E5 r5) []] []),
    HT Tryd.prog (sub (codeOf Tryd.prog 40) [1, 1, 1, 1, 1, 0]) (st 73 [(1, V.sc (.int .i64 o_)), (2, V.sc (.int .i64 a2)), (9, V.sl false 5 (List.map E5 r3.1)), (10, V.sc (.bool r3.2)), (11, V.ow 0)] [Blk.row 5 (List.map E5 r5) []] []) (X.ret) (st 73 [(6, V.sc (.string (bs []))), (7, V.sc (.int .i64 0)), (8, V.sc (.bool false))] [] [])]) (by kernel_rfl) (cj ((impl_GetBcd_c0_ok o o_ a2 r2 h3).at h4) (cj (by decide) (cj (impl_piece_ok o o_ (i64 (Int.tdiv (i64 (a2 + 1)) 2)) r3 h6) (cj rfl (cj (len_nm _ _) (cj (impl_GetBcd_l0_ok o_ a2 r3 FUEL 0 [] r5 h14) (cj1 ((impl_GetBcd_c3_ok o_ a2 r3 r5 r7 h21).at h23)))))))))))))) (fun s2 h5 =>
   Pn.some (Fn.of [.wait 4, .mask [0, 1, 2], .ren [], .join 7 (X.ret) (st 73 [(6, V.sc (.string (bs []))), (7, V.sc (.int .i64 0)), (8, V.sc (.bool false))] [] [])] (p := [HT Tryd.prog (sub (codeOf Tryd.prog 40) [1, 0]) (st 73 [(0, V.sl false 5 (List.map E5 o)), (1, V.sc (.int .i64 o_)), (2, V.sc (.int .i64 a2))] [] []) (X.ret) (st 73 [(6, V.sc (.string (bs []))), (7, V.sc (.int .i64 0)), (8, V.sc (.bool false))] [] [])]) (by kernel_rfl) (cj1 ((impl_GetBcd_c0_ok o o_ a2 r2 h3).at h5)))))
def impl_GetBits_c0 (at_ : Int) (r1 : (List Int) × Bool) : Option (Lo Unit Unit) :=
 if r1.2 = true then
 some (.out ())
 else
 some (.ret ())
theorem impl_GetBits_c0_ok (at_ : Int) (r1 : (List Int) × Bool) : Pn (JnO Tryd.prog (sub (codeOf Tryd.prog 41) [1, 1, 0]) (st 43 [(1, V.sc (.int .i64 at_)), (7, V.sl false 5 (List.map E5 r1.1)), (8, V.sc (.bool r1.2))] [] []) (fun (y : Lo Unit Unit) => Lo.elim y (fun s => (X.go, st 43 [(1, V.sc (.int .i64 at_)), (7, V.sl false 5 (List.map E5 r1.1))] [] [])) (fun s => (X.ret, st 43 [(4, V.nl 3), (5, V.sc (.int .i64 0)), (6, V.sc (.bool false))] [] [])))) (impl_GetBits_c0 at_ r1) := by
  unfold impl_GetBits_c0
  exact
   Pn.ite (fun h2 =>
   Pn.some (JnO.of [.bit false, .mask [1, 7], .ren []] (p := [(!r1.2) = false]) (by kernel_rfl) (cj1 (nf h2)))) (fun h2 =>
   Pn.some (JnO.of [.bit true, .wait 3, .mask [4, 5, 6], .ren []] (p := [(!r1.2) = true]) (by kernel_rfl) (cj1 (nt h2))))
def impl_GetBits_c3 (at_ : Int) (r1 : (List Int) × Bool) (v1 : Int) (v2 : List Int) : Option (Lo Unit Unit) :=
 if (decide (v1 ≤ 64)) = true then
 some (.out ())
 else
 some (.ret ())
theorem impl_GetBits_c3_ok (at_ : Int) (r1 : (List Int) × Bool) (v1 : Int) (v2 : List Int) : Pn (JnO Tryd.prog (sub (codeOf Tryd.prog 41) [1, 1, 1, 1, 0, 1, 0, 0, 0]) (st 43 [(1, V.sc (.int .i64 at_)), (7, V.sl false 5 (List.map E5 r1.1)), (9, V.ow 0), (10, V.sc (.int .i64 v1))] [Blk.row 3 (List.map E3 v2) []] []) (fun (y : Lo Unit Unit) => Lo.elim y (fun s => (X.go, st 43 [(1, V.sc (.int .i64 at_)), (7, V.sl false 5 (List.map E5 r1.1)), (9, V.ow 0), (10, V.sc (.int .i64 v1))] [Blk.row 3 (List.map E3 v2) []] [])) (fun s => (X.out 0, st 43 [(1, V.sc (.int .i64 at_)), (9, V.ow 0)] [Blk.row 3 (List.map E3 v2) []] [])))) (impl_GetBits_c3 at_ r1 v1 v2) := by
  unfold impl_GetBits_c3
  exact
   Pn.ite (fun h6 =>
   Pn.some (JnO.of [.bit true, .mask [1, 7, 9, 10], .ren [0]] (p := [(decide (v1 ≤ 64)) = true]) (by kernel_rfl) (cj1 h6))) (fun h6 =>
   Pn.some (JnO.of [.bit false, .mask [1, 9], .ren [0]] (p := [(decide (v1 ≤ 64)) = false]) (by kernel_rfl) (cj1 h6)))
def impl_GetBits_c4 (at_ : Int) (r1 : (List Int) × Bool) (v1 : Int) (v2 : List Int) : Option ((List Int)) :=
 if (decide (0 ≤ (i64 (Int.tdiv (i64 (v1 - 1)) 8)))) = true then
 (r1.1[(i64 (Int.tdiv (i64 (v1 - 1)) 8)).toNat]?).bind fun x1 =>
 if (decide (¬ (Int.tmod (i64 (v1 - 1)) 8) < 0)) = true then
 if ((band .u8 x1 (bshr .u8 128 (Int.tmod (i64 (v1 - 1)) 8))) != 0) = true then
 if (capOk (v2.length + 1)) = true then
 some (v2 ++ [v1])
 else none
 else
 some v2
 else none
 else none
theorem impl_GetBits_c4_ok (at_ : Int) (r1 : (List Int) × Bool) (v1 : Int) (v2 : List Int) : Pn (JnO Tryd.prog (sub (codeOf Tryd.prog 41) [1, 1, 1, 1, 0, 1, 0, 0, 1, 0]) (st 43 [(1, V.sc (.int .i64 at_)), (7, V.sl false 5 (List.map E5 r1.1)), (9, V.ow 0), (10, V.sc (.int .i64 v1))] [Blk.row 3 (List.map E3 v2) []] []) (fun (y : (List Int)) => (X.go, st 43 [(1, V.sc (.int .i64 at_)), (7, V.sl false 5 (List.map E5 r1.1)), (9, V.ow 0), (10, V.sc (.int .i64 v1))] [Blk.row 3 (List.map E3 y) []] []))) (impl_GetBits_c4 at_ r1 v1 v2) := by
  unfold impl_GetBits_c4
  exact
   Pn.ite (fun h10 =>
   Pn.bind (fun x1 h11 =>
   Pn.ite (fun h12 =>
   Pn.ite (fun h13 =>
   Pn.ite (fun h14 =>
   Pn.some (JnO.of [.draw [], .el (E5 x1), .bit true, .cp [V.sc (.int .i64 v1)], .nb 2 (.row 3 (List.map E3 (v2 ++ [v1])) []), .wait 2, .mask [1, 7, 9, 10], .ren [2]] (p := [(8 : Int) ≠ 0,
    (0 : Int) ≤ (i64 (Int.tdiv (i64 (v1 - 1)) 8)),
    (List.map E5 r1.1)[(i64 (Int.tdiv (i64 (v1 - 1)) 8)).toNat]? = some (E5 x1),
    (8 : Int) ≠ 0,
    ¬ ((Int.tmod (i64 (v1 - 1)) 8) : Int) < 0,
    ((band .u8 x1 (bshr .u8 128 (Int.tmod (i64 (v1 - 1)) 8))) != 0) = true,
    [V.sc (.int .i64 v1)] = [V.sc (.int .i64 v1)],
    [V.sc (.int .i64 v1)].all V.flatE = true,
    (List.map E3 v2).length + [V.sc (.int .i64 v1)].length ≤ 9223372036854775807,
    ((List.map E3 v2).length + [V.sc (.int .i64 v1)].length) * 8 ≤ 140737488355328,
    Blk.row 3 ((List.map E3 v2) ++ [V.sc (.int .i64 v1)]) [] = Blk.row 3 (List.map E3 (v2 ++ [v1])) []]) (by kernel_rfl) (cj (by decide) (cj (od h10) (cj (map_get h11) (cj (by decide) (cj (od h12) (cj h13 (cj rfl (cj rfl (cj (cap1 (capN (by simp) h14)) (cj (cap2 (capN (by simp) h14) (by decide)) (cj1 (nb_app E3 v2 [v1])))))))))))))) (fun h14 =>
   Pn.none)) (fun h13 =>
   Pn.some (JnO.of [.draw [], .el (E5 x1), .bit false, .mask [1, 7, 9, 10], .ren [0]] (p := [(8 : Int) ≠ 0,
    (0 : Int) ≤ (i64 (Int.tdiv (i64 (v1 - 1)) 8)),
    (List.map E5 r1.1)[(i64 (Int.tdiv (i64 (v1 - 1)) 8)).toNat]? = some (E5 x1),
    (8 : Int) ≠ 0,
    ¬ ((Int.tmod (i64 (v1 - 1)) 8) : Int) < 0,
    ((band .u8 x1 (bshr .u8 128 (Int.tmod (i64 (v1 - 1)) 8))) != 0) = false]) (by kernel_rfl) (cj (by decide) (cj (od h10) (cj (map_get h11) (cj (by decide) (cj (od h12) (cj1 h13))))))))) (fun h12 =>
   Pn.none))) (fun h10 =>
   Pn.none)
def impl_GetBits_l0 (at_ : Int) (r1 : (List Int) × Bool) : Nat → Int → (List Int) → Option ((List Int))
  | 0, _, _ => none
  | fuel + 1, v1, v2 =>
   (impl_GetBits_c3 at_ r1 v1 v2).bind fun r3 =>
   Lo.elim r3 (fun s3 =>
   (impl_GetBits_c4 at_ r1 v1 v2).bind fun r4 =>
   impl_GetBits_l0 at_ r1 fuel (i64 (v1 + 1)) r4) (fun s4 =>
   some v2)
theorem impl_GetBits_l0_ok (at_ : Int) (r1 : (List Int) × Bool) : ∀ (fuel : Nat) (v1 : Int) (v2 : List Int), Pn (LpO Tryd.prog (sub (codeOf Tryd.prog 41) [1, 1, 1, 1, 0, 1, 0, 0]) (st 43 [(1, V.sc (.int .i64 at_)), (7, V.sl false 5 (List.map E5 r1.1)), (9, V.ow 0), (10, V.sc (.int .i64 v1))] [Blk.row 3 (List.map E3 v2) []] []) (fun (y : (List Int)) => (X.out 0, st 43 [(1, V.sc (.int .i64 at_)), (9, V.ow 0)] [Blk.row 3 (List.map E3 y) []] []))) (impl_GetBits_l0 at_ r1 fuel v1 v2)
  | 0, _, _ => Pn.none
  | fuel + 1, v1, v2 => by
    unfold impl_GetBits_l0
    exact
     Pn.bind (fun r3 h7 =>
     Pn.lo (fun s3 h8 =>
     Pn.bind (fun r4 h15 =>
     LpO.go [.wait 1, .mask [1, 7, 9, 10], .ren [0], .join 5 (X.go) (st 43 [(1, V.sc (.int .i64 at_)), (7, V.sl false 5 (List.map E5 r1.1)), (9, V.ow 0), (10, V.sc (.int .i64 v1))] [Blk.row 3 (List.map E3 v2) []] []), .wait 1, .mask [1, 7, 9, 10], .ren [0], .join 6 (X.go) (st 43 [(1, V.sc (.int .i64 at_)), (7, V.sl false 5 (List.map E5 r1.1)), (9, V.ow 0), (10, V.sc (.int .i64 v1))] [Blk.row 3 (List.map E3 r4) []] []), .wait 4, .mask [1, 7, 9, 10], .ren [0]] (p := [HT Tryd.prog (sub (codeOf Tryd.prog 41) [1, 1, 1, 1, 0, 1, 0, 0, 0]) (st 43 [(1, V.sc (.int .i64 at_)), (7, V.sl false 5 (List.map E5 r1.1)), (9, V.ow 0), (10, V.sc (.int .i64 v1))] [Blk.row 3 (List.map E3 v2) []] []) (X.go) (st 43 [(1, V.sc (.int .i64 at_)), (7, V.sl false 5 (List.map E5 r1.1)), (9, V.ow 0), (10, V.sc (.int .i64 v1))] [Blk.row 3 (List.map E3 v2) []] []),
      HT Tryd.prog (sub (codeOf Tryd.prog 41) [1, 1, 1, 1, 0, 1, 0, 0, 1, 0]) (st 43 [(1, V.sc (.int .i64 at_)), (7, V.sl false 5 (List.map E5 r1.1)), (9, V.ow 0), (10, V.sc (.int .i64 v1))] [Blk.row 3 (List.map E3 v2) []] []) (X.go) (st 43 [(1, V.sc (.int .i64 at_)), (7, V.sl false 5 (List.map E5 r1.1)), (9, V.ow 0), (10, V.sc (.int .i64 v1))] [Blk.row 3 (List.map E3 r4) []] [])]) (by kernel_rfl) (cj ((impl_GetBits_c3_ok at_ r1 v1 v2 r3 h7).at h8) (cj1 (impl_GetBits_c4_ok at_ r1 v1 v2 r4 h15))) (impl_GetBits_l0_ok at_ r1 fuel (i64 (v1 + 1)) r4))) (fun s4 h9 =>
     Pn.some (LpO.out [.wait 1, .mask [1, 7, 9, 10], .ren [0], .join 5 (X.out 0) (st 43 [(1, V.sc (.int .i64 at_)), (9, V.ow 0)] [Blk.row 3 (List.map E3 v2) []] []), .wait 1, .mask [1, 9], .ren [0]] (p := [HT Tryd.prog (sub (codeOf Tryd.prog 41) [1, 1, 1, 1, 0, 1, 0, 0, 0]) (st 43 [(1, V.sc (.int .i64 at_)), (7, V.sl false 5 (List.map E5 r1.1)), (9, V.ow 0), (10, V.sc (.int .i64 v1))] [Blk.row 3 (List.map E3 v2) []] []) (X.out 0) (st 43 [(1, V.sc (.int .i64 at_)), (9, V.ow 0)] [Blk.row 3 (List.map E3 v2) []] [])]) (by kernel_rfl) (show X.out 0 ≠ X.go from nofun) (cj1 ((impl_GetBits_c3_ok at_ r1 v1 v2 r3 h7).at h9)))))
def impl_GetBits (b : List Int) (at_ : Int) : Option ((List Int) × Int × Bool) :=
 (impl_piece b at_ 8).bind fun r1 =>
 (impl_GetBits_c0 at_ r1).bind fun r2 =>
 Lo.elim r2 (fun s1 =>
 (impl_GetBits_l0 at_ r1 FUEL 1 []).bind fun r5 =>
 some (r5, i64 (at_ + 8), true)) (fun s2 =>
 some ([], 0, false))
theorem impl_GetBits_ok (b : List Int) (at_ : Int) : Pn (fun y => Fn Tryd.prog 41 [(false, E22 b), (false, E3 at_)] (V.tup [E35 y.1, E3 y.2.1, E4 y.2.2]) []) (impl_GetBits b at_) := by
  unfold impl_GetBits
  exact
   Pn.bind (fun r1 h1 =>
   Pn.bind (fun r2 h3 =>
   Pn.lo (fun s1 h4 =>
   Pn.bind (fun r5 h16 =>
   Pn.some (Fn.of [.call [] (V.tup [(E22 r1.1).vw, E4 r1.2]) [], .wait 6, .mask [1, 7, 8], .ren [], .join 7 (X.go) (st 43 [(1, V.sc (.int .i64 at_)), (7, V.sl false 5 (List.map E5 r1.1))] [] []), .wait 4, .mask [1, 7, 9, 10], .ren [0], .loop (X.out 0) (st 43 [(1, V.sc (.int .i64 at_)), (9, V.ow 0)] [Blk.row 3 (List.map E3 r5) []] [])] (p := [Fn Tryd.prog 56 [(false, E22 b), (false, E3 at_), (false, E3 8)] (V.tup [(E22 r1.1).vw, E4 r1.2]) [],
    (true || ((V.tup [(E22 r1.1).vw, E4 r1.2]).nv && nvL [])) = true,
    HT Tryd.prog (sub (codeOf Tryd.prog 41) [1, 1, 0]) (st 43 [(1, V.sc (.int .i64 at_)), (7, V.sl false 5 (List.map E5 r1.1)), (8, V.sc (.bool r1.2))] [] []) (X.go) (st 43 [(1, V.sc (.int .i64 at_)), (7, V.sl false 5 (List.map E5 r1.1))] [] []),
    Loop Tryd.prog (sub (codeOf Tryd.prog 41) [1, 1, 1, 1, 0, 1, 0, 0]) (st 43 [(1, V.sc (.int .i64 at_)), (7, V.sl false 5 (List.map E5 r1.1)), (9, V.ow 0), (10, V.sc (.int .i64 1))] [Blk.row 3 ([] : List V) []] []) (X.out 0) (st 43 [(1, V.sc (.int .i64 at_)), (9, V.ow 0)] [Blk.row 3 (List.map E3 r5) []] [])]) (by kernel_rfl) (cj (impl_piece_ok b at_ 8 r1 h1) (cj rfl (cj ((impl_GetBits_c0_ok at_ r1 r2 h3).at h4) (cj1 (impl_GetBits_l0_ok at_ r1 FUEL 1 [] r5 h16)))))))) (fun s2 h5 =>
   Pn.some (Fn.of [.call [] (V.tup [(E22 r1.1).vw, E4 r1.2]) [], .wait 6, .mask [1, 7, 8], .ren [], .join 7 (X.ret) (st 43 [(4, V.nl 3), (5, V.sc (.int .i64 0)), (6, V.sc (.bool false))] [] [])] (p := [Fn Tryd.prog 56 [(false, E22 b), (false, E3 at_), (false, E3 8)] (V.tup [(E22 r1.1).vw, E4 r1.2]) [],
    (true || ((V.tup [(E22 r1.1).vw, E4 r1.2]).nv && nvL [])) = true,
    HT Tryd.prog (sub (codeOf Tryd.prog 41) [1, 1, 0]) (st 43 [(1, V.sc (.int .i64 at_)), (7, V.sl false 5 (List.map E5 r1.1)), (8, V.sc (.bool r1.2))] [] []) (X.ret) (st 43 [(4, V.nl 3), (5, V.sc (.int .i64 0)), (6, V.sc (.bool false))] [] [])]) (by kernel_rfl) (cj (impl_piece_ok b at_ 8 r1 h1) (cj rfl (cj1 ((impl_GetBits_c0_ok at_ r1 r2 h3).at h5))))))))
def impl_Narrow (s_ : ByteArray) : Option (Int × Bool) := (impl_Digits s_).bind fun r1 => if (r1 && decide (s_.size ≤ 18)) = true then (match Lib.atoiAll s_.data.toList with | .ok v => some (v, true) | _ => none) else (if (decide (s_.size ≤ 140737488355328)) = true then some (0, false) else none)
theorem impl_Narrow_ok (s_ : ByteArray) : Pn (fun y => Fn Tryd.prog 65 [(false, E9 s_)] (V.tup [E3 y.1, E4 y.2]) []) (impl_Narrow s_) := by
  unfold impl_Narrow
  refine Pn.bind (fun r1 h1 => ?_)
  have hD := fun w hw => Fn.calls [.string s_] (impl_Digits_ok s_ r1 h1) (r := .bool r1) rfl w hw
  rcases tfB (r1 && decide (s_.size ≤ 18)) with hr | hr
  · rw [hr, if_pos rfl]
    simp only [Bool.and_eq_true, decide_eq_true_eq] at hr
    obtain ⟨rfl, hs⟩ := hr
    have hs2 : ¬ (18 : Int) < (s_.size : Int) := by omega
    cases hv : Lib.atoiAll s_.data.toList with
    | ok v =>
      refine Pn.some (Fn.flats [.string s_] (by kernel_rfl) rfl (rs := [.int .i64 v, .bool true]) (fun w hw => ?_))
      have hA := fun w => Go.Proofs.Any.strconv_Atoi_ok Tryd.laysC172 s_ (by omega) v hv w
      go_enter Tryd.func65, Tryd.ntmps65
      go_wp2_with (go_at_call 39; refine (hD _ hw).mono ?_; rintro e w1 ⟨rfl, hb1⟩)
      go_wp2_with (go_at_call 69; refine (hA _).mono ?_; rintro e w2 ⟨rfl, hb2⟩)
      go_wp2
      go_ret2
      exact ⟨rfl, below_then hb1 (below_bytes hb2)⟩
    | «syntax» => exact Pn.none
    | range => exact Pn.none
  · rw [hr, if_neg (by simp)]
    refine Pn.ite (fun hz => ?_) (fun _ => Pn.none)
    have hz := of_decide_eq_true hz
    refine Pn.some (Fn.flats [.string s_] (by kernel_rfl) rfl (rs := [.int .i64 0, .bool false]) (fun w hw => ?_))
    cases r1 with
    | true =>
      simp only [Bool.true_and, decide_eq_false_iff_not] at hr
      have hs2 : (18 : Int) < (s_.size : Int) := by omega
      go_enter Tryd.func65, Tryd.ntmps65
      go_wp2_with (go_at_call 39; refine (hD _ hw).mono ?_; rintro e w1 ⟨rfl, hb1⟩)
      go_wp2
      go_ret2
      exact ⟨rfl, hb1⟩
    | false =>
      go_enter Tryd.func65, Tryd.ntmps65
      go_wp2_with (go_at_call 39; refine (hD _ hw).mono ?_; rintro e w1 ⟨rfl, hb1⟩)
      go_wp2
      go_ret2
      exact ⟨rfl, hb1⟩
def impl_GetLen_c0 (b : List Int) (at_ : Int) (digits : Int) : Option (Lo Unit Unit) :=
 (impl_within digits 2 3).bind fun r1 =>
 if r1 = true then
 some (.out ())
 else
 some (.ret ())
theorem impl_GetLen_c0_ok (b : List Int) (at_ : Int) (digits : Int) : Pn (JnO Tryd.prog (sub (codeOf Tryd.prog 57) [1, 0]) (st 34 [(0, V.sl false 5 (List.map E5 b)), (1, V.sc (.int .i64 at_)), (2, V.sc (.int .i64 digits))] [] []) (fun (y : Lo Unit Unit) => Lo.elim y (fun s => (X.go, st 34 [(0, V.sl false 5 (List.map E5 b)), (1, V.sc (.int .i64 at_)), (2, V.sc (.int .i64 digits))] [] [])) (fun s => (X.ret, st 34 [(6, V.sc (.int .i64 0)), (7, V.sc (.int .i64 0)), (8, V.sc (.bool false))] [] [])))) (impl_GetLen_c0 b at_ digits) := by
  unfold impl_GetLen_c0
  exact
   Pn.bind (fun r1 h1 =>
   Pn.ite (fun h2 =>
   Pn.some (JnO.of [.call [] (E4 r1) [], .bit false, .mask [0, 1, 2], .ren []] (p := [Fn Tryd.prog 32 [(false, E3 digits), (false, E3 2), (false, E3 3)] (E4 r1) [],
    (true || ((E4 r1).nv && nvL [])) = true,
    (!r1) = false]) (by kernel_rfl) (cj (impl_within_ok digits 2 3 r1 h1) (cj rfl (cj1 (nf h2)))))) (fun h2 =>
   Pn.some (JnO.of [.call [] (E4 r1) [], .bit true, .wait 3, .mask [6, 7, 8], .ren []] (p := [Fn Tryd.prog 32 [(false, E3 digits), (false, E3 2), (false, E3 3)] (E4 r1) [],
    (true || ((E4 r1).nv && nvL [])) = true,
    (!r1) = true]) (by kernel_rfl) (cj (impl_within_ok digits 2 3 r1 h1) (cj rfl (cj1 (nt h2)))))))
def impl_GetLen_c1 (r3 : ByteArray × Int × Bool) : Option (Lo Unit Unit) :=
 if r3.2.2 = true then
 some (.out ())
 else
 some (.ret ())
theorem impl_GetLen_c1_ok (r3 : ByteArray × Int × Bool) : Pn (JnO Tryd.prog (sub (codeOf Tryd.prog 57) [1, 1, 1, 0]) (st 34 [(9, V.sc (.string r3.1)), (10, V.sc (.int .i64 r3.2.1)), (11, V.sc (.bool r3.2.2))] [] []) (fun (y : Lo Unit Unit) => Lo.elim y (fun s => (X.go, st 34 [(9, V.sc (.string r3.1)), (10, V.sc (.int .i64 r3.2.1))] [] [])) (fun s => (X.ret, st 34 [(6, V.sc (.int .i64 0)), (7, V.sc (.int .i64 0)), (8, V.sc (.bool false))] [] [])))) (impl_GetLen_c1 r3) := by
  unfold impl_GetLen_c1
  exact
   Pn.ite (fun h7 =>
   Pn.some (JnO.of [.bit false, .mask [9, 10], .ren []] (p := [(!r3.2.2) = false]) (by kernel_rfl) (cj1 (nf h7)))) (fun h7 =>
   Pn.some (JnO.of [.bit true, .wait 3, .mask [6, 7, 8], .ren []] (p := [(!r3.2.2) = true]) (by kernel_rfl) (cj1 (nt h7))))
def impl_GetLen (b : List Int) (at_ : Int) (digits : Int) : Option (Int × Int × Bool) :=
 (impl_GetLen_c0 b at_ digits).bind fun r2 =>
 Lo.elim r2 (fun s1 =>
 (impl_GetBcd b at_ digits).bind fun r3 =>
 (impl_GetLen_c1 r3).bind fun r4 =>
 Lo.elim r4 (fun s3 =>
 (impl_Narrow r3.1).bind fun r5 =>
 some (r5.1, r3.2.1, true)) (fun s4 =>
 some (0, 0, false))) (fun s2 =>
 some (0, 0, false))
theorem impl_GetLen_ok (b : List Int) (at_ : Int) (digits : Int) : Pn (fun y => Fn Tryd.prog 57 [(false, E22 b), (false, E3 at_), (false, E3 digits)] (V.tup [E3 y.1, E3 y.2.1, E4 y.2.2]) []) (impl_GetLen b at_ digits) := by
  unfold impl_GetLen
  exact
   Pn.bind (fun r2 h3 =>
   Pn.lo (fun s1 h4 =>
   Pn.bind (fun r3 h6 =>
   Pn.bind (fun r4 h8 =>
   Pn.lo (fun s3 h9 =>
   Pn.bind (fun r5 h11 =>
   Pn.some (Fn.of [.wait 4, .mask [0, 1, 2], .ren [], .join 7 (X.go) (st 34 [(0, V.sl false 5 (List.map E5 b)), (1, V.sc (.int .i64 at_)), (2, V.sc (.int .i64 digits))] [] []), .call [] (V.tup [E9 r3.1, E3 r3.2.1, E4 r3.2.2]) [], .wait 8, .mask [9, 10, 11], .ren [], .join 7 (X.go) (st 34 [(9, V.sc (.string r3.1)), (10, V.sc (.int .i64 r3.2.1))] [] []), .call [] (V.tup [E3 r5.1, E4 r5.2]) []] (p := [HT Tryd.prog (sub (codeOf Tryd.prog 57) [1, 0]) (st 34 [(0, V.sl false 5 (List.map E5 b)), (1, V.sc (.int .i64 at_)), (2, V.sc (.int .i64 digits))] [] []) (X.go) (st 34 [(0, V.sl false 5 (List.map E5 b)), (1, V.sc (.int .i64 at_)), (2, V.sc (.int .i64 digits))] [] []),
    Fn Tryd.prog 40 [(false, E22 b), (false, E3 at_), (false, E3 digits)] (V.tup [E9 r3.1, E3 r3.2.1, E4 r3.2.2]) [],
    (true || ((V.tup [E9 r3.1, E3 r3.2.1, E4 r3.2.2]).nv && nvL [])) = true,
    HT Tryd.prog (sub (codeOf Tryd.prog 57) [1, 1, 1, 0]) (st 34 [(9, V.sc (.string r3.1)), (10, V.sc (.int .i64 r3.2.1)), (11, V.sc (.bool r3.2.2))] [] []) (X.go) (st 34 [(9, V.sc (.string r3.1)), (10, V.sc (.int .i64 r3.2.1))] [] []),
    Fn Tryd.prog 65 [(false, E9 r3.1)] (V.tup [E3 r5.1, E4 r5.2]) [],
    (true || ((V.tup [E3 r5.1, E4 r5.2]).nv && nvL [])) = true]) (by kernel_rfl) (cj ((impl_GetLen_c0_ok b at_ digits r2 h3).at h4) (cj (impl_GetBcd_ok b at_ digits r3 h6) (cj rfl (cj ((impl_GetLen_c1_ok r3 r4 h8).at h9) (cj (impl_Narrow_ok r3.1 r5 h11) (cj1 rfl))))))))) (fun s4 h10 =>
   Pn.some (Fn.of [.wait 4, .mask [0, 1, 2], .ren [], .join 7 (X.go) (st 34 [(0, V.sl false 5 (List.map E5 b)), (1, V.sc (.int .i64 at_)), (2, V.sc (.int .i64 digits))] [] []), .call [] (V.tup [E9 r3.1, E3 r3.2.1, E4 r3.2.2]) [], .wait 8, .mask [9, 10, 11], .ren [], .join 7 (X.ret) (st 34 [(6, V.sc (.int .i64 0)), (7, V.sc (.int .i64 0)), (8, V.sc (.bool false))] [] [])] (p := [HT Tryd.prog (sub (codeOf Tryd.prog 57) [1, 0]) (st 34 [(0, V.sl false 5 (List.map E5 b)), (1, V.sc (.int .i64 at_)), (2, V.sc (.int .i64 digits))] [] []) (X.go) (st 34 [(0, V.sl false 5 (List.map E5 b)), (1, V.sc (.int .i64 at_)), (2, V.sc (.int .i64 digits))] [] []),
    Fn Tryd.prog 40 [(false, E22 b), (false, E3 at_), (false, E3 digits)] (V.tup [E9 r3.1, E3 r3.2.1, E4 r3.2.2]) [],
    (true || ((V.tup [E9 r3.1, E3 r3.2.1, E4 r3.2.2]).nv && nvL [])) = true,
    HT Tryd.prog (sub (codeOf Tryd.prog 57) [1, 1, 1, 0]) (st 34 [(9, V.sc (.string r3.1)), (10, V.sc (.int .i64 r3.2.1)), (11, V.sc (.bool r3.2.2))] [] []) (X.ret) (st 34 [(6, V.sc (.int .i64 0)), (7, V.sc (.int .i64 0)), (8, V.sc (.bool false))] [] [])]) (by kernel_rfl) (cj ((impl_GetLen_c0_ok b at_ digits r2 h3).at h4) (cj (impl_GetBcd_ok b at_ digits r3 h6) (cj rfl (cj1 ((impl_GetLen_c1_ok r3 r4 h8).at h10)))))))))) (fun s2 h5 =>
   Pn.some (Fn.of [.wait 4, .mask [0, 1, 2], .ren [], .join 7 (X.ret) (st 34 [(6, V.sc (.int .i64 0)), (7, V.sc (.int .i64 0)), (8, V.sc (.bool false))] [] [])] (p := [HT Tryd.prog (sub (codeOf Tryd.prog 57) [1, 0]) (st 34 [(0, V.sl false 5 (List.map E5 b)), (1, V.sc (.int .i64 at_)), (2, V.sc (.int .i64 digits))] [] []) (X.ret) (st 34 [(6, V.sc (.int .i64 0)), (7, V.sc (.int .i64 0)), (8, V.sc (.bool false))] [] [])]) (by kernel_rfl) (cj1 ((impl_GetLen_c0_ok b at_ digits r2 h3).at h5)))))
end Go.Proofs.YtbophjkjmlenpaaDoorM
