/- Printed by gen.py: functions on plain data, and that the program computes them. No condition. -/
import Derived.Test.YtbophjkjmlenpaaDoorRyG0
namespace Go.Proofs.YtbophjkjmlenpaaDoorM
set_option linter.unusedVariables false
set_option linter.unusedSimpArgs false
open Go.RowKit
set_option maxRecDepth 100000

def impl_GetField_c0 (o : List Int) (o_ : Int) (a2 : Int) (r1 : Int) (r2 : Int) : Option (Int × Int × Bool) :=
 if (r2 == 3) = true then
 (impl_lenDigits a2).bind fun r3 =>
 (impl_GetLen o o_ r3).bind fun r4 =>
 some (r4.2.1, r4.1, r4.2.2)
 else
 if (r2 == 4) = true then
 (impl_lenDigits a2).bind fun r5 =>
 (impl_GetLen o o_ r5).bind fun r6 =>
 some (r6.2.1, r6.1, r6.2.2)
 else
 if (r2 == 5) = true then
 (impl_lenDigits a2).bind fun r7 =>
 (impl_GetLen o o_ r7).bind fun r8 =>
 some (r8.2.1, r8.1, r8.2.2)
 else
 some (o_, r1, true)
theorem impl_GetField_c0_ok (o : List Int) (o_ : Int) (a2 : Int) (r1 : Int) (r2 : Int) : Pn (JnO Tryd.prog (sub (codeOf Tryd.prog 42) [1, 1, 0]) (st 75 [(0, V.sl false 5 (List.map E5 o)), (1, V.sc (.int .i64 o_)), (2, V.sc (.int .i64 a2)), (9, V.sc (.int .i64 r1)), (11, V.sc (.int .i64 r2)), (12, V.sc (.bool true))] [] []) (fun (y : Int × Int × Bool) => (X.go, st 75 [(0, V.sl false 5 (List.map E5 o)), (1, V.sc (.int .i64 y.1)), (2, V.sc (.int .i64 a2)), (9, V.sc (.int .i64 y.2.1)), (11, V.sc (.int .i64 r2)), (12, V.sc (.bool y.2.2))] [] []))) (impl_GetField_c0 o o_ a2 r1 r2) := by
  unfold impl_GetField_c0
  exact
   Pn.ite (fun h3 =>
   Pn.bind (fun r3 h4 =>
   Pn.bind (fun r4 h5 =>
   Pn.some (JnO.of [.bit true, .bit true, .bit true, .bit true, .bit true, .bit true, .bit true, .call [] (E3 r3) [], .call [] (V.tup [E3 r4.1, E3 r4.2.1, E4 r4.2.2]) [], .wait 8, .mask [0, 1, 2, 9, 11, 12], .ren []] (p := [(r2 == 3) = true,
    (r2 == 3) = true,
    (r2 == 3) = true,
    true = true,
    true = true,
    true = true,
    true = true,
    Fn Tryd.prog 38 [(false, E3 a2)] (E3 r3) [],
    (true || ((E3 r3).nv && nvL [])) = true,
    Fn Tryd.prog 57 [(false, E22 o), (false, E3 o_), (false, E3 r3)] (V.tup [E3 r4.1, E3 r4.2.1, E4 r4.2.2]) [],
    (true || ((V.tup [E3 r4.1, E3 r4.2.1, E4 r4.2.2]).nv && nvL [])) = true]) (by kernel_rfl) (cj h3 (cj h3 (cj h3 (cj rfl (cj rfl (cj rfl (cj rfl (cj (impl_lenDigits_ok a2 r3 h4) (cj rfl (cj (impl_GetLen_ok o o_ r3 r4 h5) (cj1 rfl))))))))))))))) (fun h3 =>
   Pn.ite (fun h6 =>
   Pn.bind (fun r5 h7 =>
   Pn.bind (fun r6 h8 =>
   Pn.some (JnO.of [.bit false, .bit false, .bit false, .bit true, .bit true, .bit true, .bit true, .call [] (E3 r5) [], .call [] (V.tup [E3 r6.1, E3 r6.2.1, E4 r6.2.2]) [], .wait 8, .mask [0, 1, 2, 9, 11, 12], .ren []] (p := [(r2 == 3) = false,
    (r2 == 3) = false,
    (r2 == 3) = false,
    (r2 == 4) = true,
    (r2 == 4) = true,
    (r2 == 4) = true,
    true = true,
    Fn Tryd.prog 38 [(false, E3 a2)] (E3 r5) [],
    (true || ((E3 r5).nv && nvL [])) = true,
    Fn Tryd.prog 57 [(false, E22 o), (false, E3 o_), (false, E3 r5)] (V.tup [E3 r6.1, E3 r6.2.1, E4 r6.2.2]) [],
    (true || ((V.tup [E3 r6.1, E3 r6.2.1, E4 r6.2.2]).nv && nvL [])) = true]) (by kernel_rfl) (cj h3 (cj h3 (cj h3 (cj h6 (cj h6 (cj h6 (cj rfl (cj (impl_lenDigits_ok a2 r5 h7) (cj rfl (cj (impl_GetLen_ok o o_ r5 r6 h8) (cj1 rfl))))))))))))))) (fun h6 =>
   Pn.ite (fun h9 =>
   Pn.bind (fun r7 h10 =>
   Pn.bind (fun r8 h11 =>
   Pn.some (JnO.of [.bit false, .bit false, .bit false, .bit false, .bit false, .bit false, .bit true, .call [] (E3 r7) [], .call [] (V.tup [E3 r8.1, E3 r8.2.1, E4 r8.2.2]) [], .wait 8, .mask [0, 1, 2, 9, 11, 12], .ren []] (p := [(r2 == 3) = false,
    (r2 == 3) = false,
    (r2 == 3) = false,
    (r2 == 4) = false,
    (r2 == 4) = false,
    (r2 == 4) = false,
    (r2 == 5) = true,
    Fn Tryd.prog 38 [(false, E3 a2)] (E3 r7) [],
    (true || ((E3 r7).nv && nvL [])) = true,
    Fn Tryd.prog 57 [(false, E22 o), (false, E3 o_), (false, E3 r7)] (V.tup [E3 r8.1, E3 r8.2.1, E4 r8.2.2]) [],
    (true || ((V.tup [E3 r8.1, E3 r8.2.1, E4 r8.2.2]).nv && nvL [])) = true]) (by kernel_rfl) (cj h3 (cj h3 (cj h3 (cj h6 (cj h6 (cj h6 (cj h9 (cj (impl_lenDigits_ok a2 r7 h10) (cj rfl (cj (impl_GetLen_ok o o_ r7 r8 h11) (cj1 rfl))))))))))))))) (fun h9 =>
   Pn.some (JnO.of [.bit false, .bit false, .bit false, .bit false, .bit false, .bit false, .bit false, .mask [0, 1, 2, 9, 11, 12], .ren []] (p := [(r2 == 3) = false,
    (r2 == 3) = false,
    (r2 == 3) = false,
    (r2 == 4) = false,
    (r2 == 4) = false,
    (r2 == 4) = false,
    (r2 == 5) = false]) (by kernel_rfl) (cj h3 (cj h3 (cj h3 (cj h6 (cj h6 (cj h6 (cj1 h9)))))))))))
def impl_GetField_c1 (o : List Int) (a2 : Int) (r2 : Int) (r9 : Int × Int × Bool) : Option (Lo Unit Unit) :=
 if r9.2.2 = true then
 some (.out ())
 else
 some (.ret ())
theorem impl_GetField_c1_ok (o : List Int) (a2 : Int) (r2 : Int) (r9 : Int × Int × Bool) : Pn (JnO Tryd.prog (sub (codeOf Tryd.prog 42) [1, 1, 1, 0]) (st 75 [(0, V.sl false 5 (List.map E5 o)), (1, V.sc (.int .i64 r9.1)), (2, V.sc (.int .i64 a2)), (9, V.sc (.int .i64 r9.2.1)), (11, V.sc (.int .i64 r2)), (12, V.sc (.bool r9.2.2))] [] []) (fun (y : Lo Unit Unit) => Lo.elim y (fun s => (X.go, st 75 [(0, V.sl false 5 (List.map E5 o)), (1, V.sc (.int .i64 r9.1)), (2, V.sc (.int .i64 a2)), (9, V.sc (.int .i64 r9.2.1)), (11, V.sc (.int .i64 r2))] [] [])) (fun s => (X.ret, st 75 [(6, V.sc (.string (bs []))), (7, V.sc (.int .i64 0)), (8, V.sc (.bool false))] [] [])))) (impl_GetField_c1 o a2 r2 r9) := by
  unfold impl_GetField_c1
  exact
   Pn.ite (fun h13 =>
   Pn.some (JnO.of [.bit false, .mask [0, 1, 2, 9, 11], .ren []] (p := [(!r9.2.2) = false]) (by kernel_rfl) (cj1 (nf h13)))) (fun h13 =>
   Pn.some (JnO.of [.bit true, .wait 3, .mask [6, 7, 8], .ren []] (p := [(!r9.2.2) = true]) (by kernel_rfl) (cj1 (nt h13))))
def impl_GetField_c2 (o : List Int) (a2 : Int) (r2 : Int) (r9 : Int × Int × Bool) : Option (Int × ByteArray × Bool) :=
 if (r2 == 1) = true then
 (impl_GetBcd o r9.1 r9.2.1).bind fun r11 =>
 some (r11.2.1, r11.1, r11.2.2)
 else
 if (r2 == 3) = true then
 (impl_GetBcd o r9.1 r9.2.1).bind fun r12 =>
 some (r12.2.1, r12.1, r12.2.2)
 else
 (impl_piece o r9.1 r9.2.1).bind fun r13 =>
 some (i64 (r9.1 + r9.2.1), bstr r13.1, r13.2)
theorem impl_GetField_c2_ok (o : List Int) (a2 : Int) (r2 : Int) (r9 : Int × Int × Bool) : Pn (JnO Tryd.prog (sub (codeOf Tryd.prog 42) [1, 1, 1, 1, 0]) (st 75 [(0, V.sl false 5 (List.map E5 o)), (1, V.sc (.int .i64 r9.1)), (2, V.sc (.int .i64 a2)), (9, V.sc (.int .i64 r9.2.1)), (11, V.sc (.int .i64 r2))] [] []) (fun (y : Int × ByteArray × Bool) => (X.go, st 75 [(1, V.sc (.int .i64 y.1)), (2, V.sc (.int .i64 a2)), (10, V.sc (.string y.2.1)), (12, V.sc (.bool y.2.2))] [] []))) (impl_GetField_c2 o a2 r2 r9) := by
  unfold impl_GetField_c2
  exact
   Pn.ite (fun h17 =>
   Pn.bind (fun r11 h18 =>
   Pn.some (JnO.of [.bit true, .bit true, .bit true, .bit true, .call [] (V.tup [E9 r11.1, E3 r11.2.1, E4 r11.2.2]) [], .wait 8, .mask [1, 2, 10, 12], .ren []] (p := [(r2 == 1) = true,
    (r2 == 1) = true,
    (r2 == 1) = true,
    true = true,
    Fn Tryd.prog 40 [(false, E22 o), (false, E3 r9.1), (false, E3 r9.2.1)] (V.tup [E9 r11.1, E3 r11.2.1, E4 r11.2.2]) [],
    (true || ((V.tup [E9 r11.1, E3 r11.2.1, E4 r11.2.2]).nv && nvL [])) = true]) (by kernel_rfl) (cj h17 (cj h17 (cj h17 (cj rfl (cj (impl_GetBcd_ok o r9.1 r9.2.1 r11 h18) (cj1 rfl))))))))) (fun h17 =>
   Pn.ite (fun h19 =>
   Pn.bind (fun r12 h20 =>
   Pn.some (JnO.of [.bit false, .bit false, .bit false, .bit true, .call [] (V.tup [E9 r12.1, E3 r12.2.1, E4 r12.2.2]) [], .wait 8, .mask [1, 2, 10, 12], .ren []] (p := [(r2 == 1) = false,
    (r2 == 1) = false,
    (r2 == 1) = false,
    (r2 == 3) = true,
    Fn Tryd.prog 40 [(false, E22 o), (false, E3 r9.1), (false, E3 r9.2.1)] (V.tup [E9 r12.1, E3 r12.2.1, E4 r12.2.2]) [],
    (true || ((V.tup [E9 r12.1, E3 r12.2.1, E4 r12.2.2]).nv && nvL [])) = true]) (by kernel_rfl) (cj h17 (cj h17 (cj h17 (cj h19 (cj (impl_GetBcd_ok o r9.1 r9.2.1 r12 h20) (cj1 rfl))))))))) (fun h19 =>
   Pn.bind (fun r13 h21 =>
   Pn.some (JnO.of [.bit false, .bit false, .bit false, .bit false, .call [] (V.tup [(E22 r13.1).vw, E4 r13.2]) [], .ints r13.1, .wait 6, .mask [1, 2, 10, 12], .ren []] (p := [(r2 == 1) = false,
    (r2 == 1) = false,
    (r2 == 1) = false,
    (r2 == 3) = false,
    Fn Tryd.prog 56 [(false, E22 o), (false, E3 r9.1), (false, E3 r9.2.1)] (V.tup [(E22 r13.1).vw, E4 r13.2]) [],
    (true || ((V.tup [(E22 r13.1).vw, E4 r13.2]).nv && nvL [])) = true,
    (List.map E5 r13.1) = r13.1.map fun n => V.sc (.int .u8 n)]) (by kernel_rfl) (cj h17 (cj h17 (cj h17 (cj h19 (cj (impl_piece_ok o r9.1 r9.2.1 r13 h21) (cj rfl (cj1 rfl)))))))))))
def impl_GetField_c3 (a2 : Int) (r14 : Int × ByteArray × Bool) : Option (Lo Unit Unit) :=
 if r14.2.2 = true then
 (impl_FieldOk a2 r14.2.1).bind fun r15 =>
 if r15 = true then
 some (.out ())
 else
 some (.ret ())
 else
 some (.ret ())
theorem impl_GetField_c3_ok (a2 : Int) (r14 : Int × ByteArray × Bool) : Pn (JnO Tryd.prog (sub (codeOf Tryd.prog 42) [1, 1, 1, 1, 1, 0]) (st 75 [(1, V.sc (.int .i64 r14.1)), (2, V.sc (.int .i64 a2)), (10, V.sc (.string r14.2.1)), (12, V.sc (.bool r14.2.2))] [] []) (fun (y : Lo Unit Unit) => Lo.elim y (fun s => (X.go, st 75 [(1, V.sc (.int .i64 r14.1)), (10, V.sc (.string r14.2.1))] [] [])) (fun s => (X.ret, st 75 [(6, V.sc (.string (bs []))), (7, V.sc (.int .i64 0)), (8, V.sc (.bool false))] [] [])))) (impl_GetField_c3 a2 r14) := by
  unfold impl_GetField_c3
  exact
   Pn.ite (fun h23 =>
   Pn.bind (fun r15 h24 =>
   Pn.ite (fun h25 =>
   Pn.some (JnO.of [.bit false, .bit false, .bit false, .call [] (E4 r15) [], .bit false, .bit false, .bit false, .mask [1, 10], .ren []] (p := [(!r14.2.2) = false,
    (!r14.2.2) = false,
    (!r14.2.2) = false,
    Fn Tryd.prog 30 [(false, E3 a2), (false, E9 r14.2.1)] (E4 r15) [],
    (true || ((E4 r15).nv && nvL [])) = true,
    (!r14.2.2) = false,
    (!r14.2.2) = false,
    (!r15) = false]) (by kernel_rfl) (cj (nf h23) (cj (nf h23) (cj (nf h23) (cj (impl_FieldOk_ok a2 r14.2.1 r15 h24) (cj rfl (cj (nf h23) (cj (nf h23) (cj1 (nf h25))))))))))) (fun h25 =>
   Pn.some (JnO.of [.bit false, .bit false, .bit false, .call [] (E4 r15) [], .bit false, .bit false, .bit true, .wait 3, .mask [6, 7, 8], .ren []] (p := [(!r14.2.2) = false,
    (!r14.2.2) = false,
    (!r14.2.2) = false,
    Fn Tryd.prog 30 [(false, E3 a2), (false, E9 r14.2.1)] (E4 r15) [],
    (true || ((E4 r15).nv && nvL [])) = true,
    (!r14.2.2) = false,
    (!r14.2.2) = false,
    (!r15) = true]) (by kernel_rfl) (cj (nf h23) (cj (nf h23) (cj (nf h23) (cj (impl_FieldOk_ok a2 r14.2.1 r15 h24) (cj rfl (cj (nf h23) (cj (nf h23) (cj1 (nt h25))))))))))))) (fun h23 =>
   Pn.some (JnO.of [.bit true, .bit true, .bit true, .bit true, .bit true, .bit true, .wait 3, .mask [6, 7, 8], .ren []] (p := [(!r14.2.2) = true,
    (!r14.2.2) = true,
    (!r14.2.2) = true,
    (!r14.2.2) = true,
    (!r14.2.2) = true,
    true = true]) (by kernel_rfl) (cj (nt h23) (cj (nt h23) (cj (nt h23) (cj (nt h23) (cj (nt h23) (cj1 rfl))))))))
def impl_GetField (o : List Int) (o_ : Int) (a2 : Int) : Option (ByteArray × Int × Bool) :=
 (impl_FieldSize a2).bind fun r1 =>
 (impl_FieldKind a2).bind fun r2 =>
 (impl_GetField_c0 o o_ a2 r1 r2).bind fun r9 =>
 (impl_GetField_c1 o a2 r2 r9).bind fun r10 =>
 Lo.elim r10 (fun s1 =>
 (impl_GetField_c2 o a2 r2 r9).bind fun r14 =>
 (impl_GetField_c3 a2 r14).bind fun r16 =>
 Lo.elim r16 (fun s3 =>
 some (r14.2.1, r14.1, true)) (fun s4 =>
 some (bs [], 0, false))) (fun s2 =>
 some (bs [], 0, false))
theorem impl_GetField_ok (o : List Int) (o_ : Int) (a2 : Int) : Pn (fun y => Fn Tryd.prog 42 [(false, E22 o), (false, E3 o_), (false, E3 a2)] (V.tup [E9 y.1, E3 y.2.1, E4 y.2.2]) []) (impl_GetField o o_ a2) := by
  unfold impl_GetField
  exact
   Pn.bind (fun r1 h1 =>
   Pn.bind (fun r2 h2 =>
   Pn.bind (fun r9 h12 =>
   Pn.bind (fun r10 h14 =>
   Pn.lo (fun s1 h15 =>
   Pn.bind (fun r14 h22 =>
   Pn.bind (fun r16 h26 =>
   Pn.lo (fun s3 h27 =>
   Pn.some (Fn.of [.call [] (E3 r1) [], .call [] (E3 r2) [], .wait 5, .mask [0, 1, 2, 9, 11, 12], .ren [], .join 5 (X.go) (st 75 [(0, V.sl false 5 (List.map E5 o)), (1, V.sc (.int .i64 r9.1)), (2, V.sc (.int .i64 a2)), (9, V.sc (.int .i64 r9.2.1)), (11, V.sc (.int .i64 r2)), (12, V.sc (.bool r9.2.2))] [] []), .wait 1, .mask [0, 1, 2, 9, 11, 12], .ren [], .join 7 (X.go) (st 75 [(0, V.sl false 5 (List.map E5 o)), (1, V.sc (.int .i64 r9.1)), (2, V.sc (.int .i64 a2)), (9, V.sc (.int .i64 r9.2.1)), (11, V.sc (.int .i64 r2))] [] []), .wait 1, .mask [0, 1, 2, 9, 11], .ren [], .join 9 (X.go) (st 75 [(1, V.sc (.int .i64 r14.1)), (2, V.sc (.int .i64 a2)), (10, V.sc (.string r14.2.1)), (12, V.sc (.bool r14.2.2))] [] []), .wait 1, .mask [1, 2, 10, 12], .ren [], .join 7 (X.go) (st 75 [(1, V.sc (.int .i64 r14.1)), (10, V.sc (.string r14.2.1))] [] [])] (p := [Fn Tryd.prog 34 [(false, E3 a2)] (E3 r1) [],
    (true || ((E3 r1).nv && nvL [])) = true,
    Fn Tryd.prog 35 [(false, E3 a2)] (E3 r2) [],
    (true || ((E3 r2).nv && nvL [])) = true,
    HT Tryd.prog (sub (codeOf Tryd.prog 42) [1, 1, 0]) (st 75 [(0, V.sl false 5 (List.map E5 o)), (1, V.sc (.int .i64 o_)), (2, V.sc (.int .i64 a2)), (9, V.sc (.int .i64 r1)), (11, V.sc (.int .i64 r2)), (12, V.sc (.bool true))] [] []) (X.go) (st 75 [(0, V.sl false 5 (List.map E5 o)), (1, V.sc (.int .i64 r9.1)), (2, V.sc (.int .i64 a2)), (9, V.sc (.int .i64 r9.2.1)), (11, V.sc (.int .i64 r2)), (12, V.sc (.bool r9.2.2))] [] []),
    HT Tryd.prog (sub (codeOf Tryd.prog 42) [1, 1, 1, 0]) (st 75 [(0, V.sl false 5 (List.map E5 o)), (1, V.sc (.int .i64 r9.1)), (2, V.sc (.int .i64 a2)), (9, V.sc (.int .i64 r9.2.1)), (11, V.sc (.int .i64 r2)), (12, V.sc (.bool r9.2.2))] [] []) (X.go) (st 75 [(0, V.sl false 5 (List.map E5 o)), (1, V.sc (.int .i64 r9.1)), (2, V.sc (.int .i64 a2)), (9, V.sc (.int .i64 r9.2.1)), (11, V.sc (.int .i64 r2))] [] []),
    HT Tryd.prog (sub (codeOf Tryd.prog 42) [1, 1, 1, 1, 0]) (st 75 [(0, V.sl false 5 (List.map E5 o)), (1, V.sc (.int .i64 r9.1)), (2, V.sc (.int .i64 a2)), (9, V.sc (.int .i64 r9.2.1)), (11, V.sc (.int .i64 r2))] [] []) (X.go) (st 75 [(1, V.sc (.int .i64 r14.1)), (2, V.sc (.int .i64 a2)), (10, V.sc (.string r14.2.1)), (12, V.sc (.bool r14.2.2))] [] []),
    HT Tryd.prog (sub (codeOf Tryd.prog 42) [1, 1, 1, 1, 1, 0]) (st 75 [(1, V.sc (.int .i64 r14.1)), (2, V.sc (.int .i64 a2)), (10, V.sc (.string r14.2.1)), (12, V.sc (.bool r14.2.2))] [] []) (X.go) (st 75 [(1, V.sc (.int .i64 r14.1)), (10, V.sc (.string r14.2.1))] [] [])]) (by kernel_rfl) (cj (impl_FieldSize_ok a2 r1 h1) (cj rfl (cj (impl_FieldKind_ok a2 r2 h2) (cj rfl (cj (impl_GetField_c0_ok o o_ a2 r1 r2 r9 h12) (cj ((impl_GetField_c1_ok o a2 r2 r9 r10 h14).at h15) (cj (impl_GetField_c2_ok o a2 r2 r9 r14 h22) (cj1 ((impl_GetField_c3_ok a2 r14 r16 h26).at h27))))))))))) (fun s4 h28 =>
   Pn.some (Fn.of [.call [] (E3 r1) [], .call [] (E3 r2) [], .wait 5, .mask [0, 1, 2, 9, 11, 12], .ren [], .join 5 (X.go) (st 75 [(0, V.sl false 5 (List.map E5 o)), (1, V.sc (.int .i64 r9.1)), (2, V.sc (.int .i64 a2)), (9, V.sc (.int .i64 r9.2.1)), (11, V.sc (.int .i64 r2)), (12, V.sc (.bool r9.2.2))] [] []), .wait 1, .mask [0, 1, 2, 9, 11, 12], .ren [], .join 7 (X.go) (st 75 [(0, V.sl false 5 (List.map E5 o)), (1, V.sc (.int .i64 r9.1)), (2, V.sc (.int .i64 a2)), (9, V.sc (.int .i64 r9.2.1)), (11, V.sc (.int .i64 r2))] [] []), .wait 1, .mask [0, 1, 2, 9, 11], .ren [], .join 9 (X.go) (st 75 [(1, V.sc (.int .i64 r14.1)), (2, V.sc (.int .i64 a2)), (10, V.sc (.string r14.2.1)), (12, V.sc (.bool r14.2.2))] [] []), .wait 1, .mask [1, 2, 10, 12], .ren [], .join 7 (X.ret) (st 75 [(6, V.sc (.string (bs []))), (7, V.sc (.int .i64 0)), (8, V.sc (.bool false))] [] [])] (p := [Fn Tryd.prog 34 [(false, E3 a2)] (E3 r1) [],
    (true || ((E3 r1).nv && nvL [])) = true,
    Fn Tryd.prog 35 [(false, E3 a2)] (E3 r2) [],
    (true || ((E3 r2).nv && nvL [])) = true,
    HT Tryd.prog (sub (codeOf Tryd.prog 42) [1, 1, 0]) (st 75 [(0, V.sl false 5 (List.map E5 o)), (1, V.sc (.int .i64 o_)), (2, V.sc (.int .i64 a2)), (9, V.sc (.int .i64 r1)), (11, V.sc (.int .i64 r2)), (12, V.sc (.bool true))] [] []) (X.go) (st 75 [(0, V.sl false 5 (List.map E5 o)), (1, V.sc (.int .i64 r9.1)), (2, V.sc (.int .i64 a2)), (9, V.sc (.int .i64 r9.2.1)), (11, V.sc (.int .i64 r2)), (12, V.sc (.bool r9.2.2))] [] []),
    HT Tryd.prog (sub (codeOf Tryd.prog 42) [1, 1, 1, 0]) (st 75 [(0, V.sl false 5 (List.map E5 o)), (1, V.sc (.int .i64 r9.1)), (2, V.sc (.int .i64 a2)), (9, V.sc (.int .i64 r9.2.1)), (11, V.sc (.int .i64 r2)), (12, V.sc (.bool r9.2.2))] [] []) (X.go) (st 75 [(0, V.sl false 5 (List.map E5 o)), (1, V.sc (.int .i64 r9.1)), (2, V.sc (.int .i64 a2)), (9, V.sc (.int .i64 r9.2.1)), (11, V.sc (.int .i64 r2))] [] []),
    HT Tryd.prog (sub (codeOf Tryd.prog 42) [1, 1, 1, 1, 0]) (st 75 [(0, V.sl false 5 (List.map E5 o)), (1, V.sc (.int .i64 r9.1)), (2, V.sc (.int .i64 a2)), (9, V.sc (.int .i64 r9.2.1)), (11, V.sc (.int .i64 r2))] [] []) (X.go) (st 75 [(1, V.sc (.int .i64 r14.1)), (2, V.sc (.int .i64 a2)), (10, V.sc (.string r14.2.1)), (12, V.sc (.bool r14.2.2))] [] []),
    HT Tryd.prog (sub (codeOf Tryd.prog 42) [1, 1, 1, 1, 1, 0]) (st 75 [(1, V.sc (.int .i64 r14.1)), (2, V.sc (.int .i64 a2)), (10, V.sc (.string r14.2.1)), (12, V.sc (.bool r14.2.2))] [] []) (X.ret) (st 75 [(6, V.sc (.string (bs []))), (7, V.sc (.int .i64 0)), (8, V.sc (.bool false))] [] [])]) (by kernel_rfl) (cj (impl_FieldSize_ok a2 r1 h1) (cj rfl (cj (impl_FieldKind_ok a2 r2 h2) (cj rfl (cj (impl_GetField_c0_ok o o_ a2 r1 r2 r9 h12) (cj ((impl_GetField_c1_ok o a2 r2 r9 r10 h14).at h15) (cj (impl_GetField_c2_ok o a2 r2 r9 r14 h22) (cj1 ((impl_GetField_c3_ok a2 r14 r16 h26).at h28)))))))))))))) (fun s2 h16 =>
   Pn.some (Fn.of [.call [] (E3 r1) [], .call [] (E3 r2) [], .wait 5, .mask [0, 1, 2, 9, 11, 12], .ren [], .join 5 (X.go) (st 75 [(0, V.sl false 5 (List.map E5 o)), (1, V.sc (.int .i64 r9.1)), (2, V.sc (.int .i64 a2)), (9, V.sc (.int .i64 r9.2.1)), (11, V.sc (.int .i64 r2)), (12, V.sc (.bool r9.2.2))] [] []), .wait 1, .mask [0, 1, 2, 9, 11, 12], .ren [], .join 7 (X.ret) (st 75 [(6, V.sc (.string (bs []))), (7, V.sc (.int .i64 0)), (8, V.sc (.bool false))] [] [])] (p := [Fn Tryd.prog 34 [(false, E3 a2)] (E3 r1) [],
    (true || ((E3 r1).nv && nvL [])) = true,
    Fn Tryd.prog 35 [(false, E3 a2)] (E3 r2) [],
    (true || ((E3 r2).nv && nvL [])) = true,
    HT Tryd.prog (sub (codeOf Tryd.prog 42) [1, 1, 0]) (st 75 [(0, V.sl false 5 (List.map E5 o)), (1, V.sc (.int .i64 o_)), (2, V.sc (.int .i64 a2)), (9, V.sc (.int .i64 r1)), (11, V.sc (.int .i64 r2)), (12, V.sc (.bool true))] [] []) (X.go) (st 75 [(0, V.sl false 5 (List.map E5 o)), (1, V.sc (.int .i64 r9.1)), (2, V.sc (.int .i64 a2)), (9, V.sc (.int .i64 r9.2.1)), (11, V.sc (.int .i64 r2)), (12, V.sc (.bool r9.2.2))] [] []),
    HT Tryd.prog (sub (codeOf Tryd.prog 42) [1, 1, 1, 0]) (st 75 [(0, V.sl false 5 (List.map E5 o)), (1, V.sc (.int .i64 r9.1)), (2, V.sc (.int .i64 a2)), (9, V.sc (.int .i64 r9.2.1)), (11, V.sc (.int .i64 r2)), (12, V.sc (.bool r9.2.2))] [] []) (X.ret) (st 75 [(6, V.sc (.string (bs []))), (7, V.sc (.int .i64 0)), (8, V.sc (.bool false))] [] [])]) (by kernel_rfl) (cj (impl_FieldSize_ok a2 r1 h1) (cj rfl (cj (impl_FieldKind_ok a2 r2 h2) (cj rfl (cj (impl_GetField_c0_ok o o_ a2 r1 r2 r9 h12) (cj1 ((impl_GetField_c1_ok o a2 r2 r9 r10 h14).at h16)))))))))))))
def impl_Parse_c0 (o : List Int) (r1 : ByteArray × Int × Bool) : Option (Lo Unit Unit) :=
 if r1.2.2 = true then
 some (.out ())
 else
 some (.ret ())
theorem impl_Parse_c0_ok (o : List Int) (r1 : ByteArray × Int × Bool) : Pn (JnO Tryd.prog (sub (codeOf Tryd.prog 23) [1, 1, 0]) (st 128 [(0, V.sl false 5 (List.map E5 o)), (2, V.ptr 0 0), (4, V.sc (.string r1.1)), (5, V.sc (.int .i64 r1.2.1)), (6, V.sc (.bool r1.2.2))] [Blk.box 25 [V.sc (.string ByteArray.empty), V.nl 48]] []) (fun (y : Lo Unit Unit) => Lo.elim y (fun s => (X.go, st 128 [(0, V.sl false 5 (List.map E5 o)), (2, V.ptr 0 0), (4, V.sc (.string r1.1)), (5, V.sc (.int .i64 r1.2.1))] [Blk.box 25 [V.sc (.string ByteArray.empty), V.nl 48]] [])) (fun s => (X.ret, st 128 [(2, V.ptr 0 0), (3, V.sc (.int .i64 1))] [Blk.box 25 [V.sc (.string ByteArray.empty), V.nl 48]] [])))) (impl_Parse_c0 o r1) := by
  unfold impl_Parse_c0
  exact
   Pn.ite (fun h2 =>
   Pn.some (JnO.of [.bit false, .mask [0, 2, 4, 5], .ren [0]] (p := [(!r1.2.2) = false]) (by kernel_rfl) (cj1 (nf h2)))) (fun h2 =>
   Pn.some (JnO.of [.bit true, .wait 3, .mask [2, 3], .ren [0]] (p := [(!r1.2.2) = true]) (by kernel_rfl) (cj1 (nt h2))))
def impl_Parse_c1 (o : List Int) (r1 : ByteArray × Int × Bool) (r3 : (List Int) × Int × Bool) : Option (Lo Unit Unit) :=
 if r3.2.2 = true then
 some (.out ())
 else
 some (.ret ())
theorem impl_Parse_c1_ok (o : List Int) (r1 : ByteArray × Int × Bool) (r3 : (List Int) × Int × Bool) : Pn (JnO Tryd.prog (sub (codeOf Tryd.prog 23) [1, 1, 1, 1, 0]) (st 128 [(0, V.sl false 5 (List.map E5 o)), (2, V.ptr 0 0), (4, V.sc (.string r1.1)), (5, V.sc (.int .i64 r3.2.1)), (6, V.sc (.bool r3.2.2)), (7, V.ow 1)] [Blk.box 25 [V.sc (.string ByteArray.empty), V.nl 48], Blk.row 3 (List.map E3 r3.1) []] []) (fun (y : Lo Unit Unit) => Lo.elim y (fun s => (X.go, st 128 [(0, V.sl false 5 (List.map E5 o)), (2, V.ptr 0 0), (4, V.sc (.string r1.1)), (5, V.sc (.int .i64 r3.2.1)), (7, V.ow 1)] [Blk.box 25 [V.sc (.string ByteArray.empty), V.nl 48], Blk.row 3 (List.map E3 r3.1) []] [])) (fun s => (X.ret, st 128 [(2, V.ptr 0 0), (3, V.sc (.int .i64 2))] [Blk.box 25 [V.sc (.string ByteArray.empty), V.nl 48]] [])))) (impl_Parse_c1 o r1 r3) := by
  unfold impl_Parse_c1
  exact
   Pn.ite (fun h7 =>
   Pn.some (JnO.of [.bit false, .mask [0, 2, 4, 5, 7], .ren [0, 1]] (p := [(!r3.2.2) = false]) (by kernel_rfl) (cj1 (nf h7)))) (fun h7 =>
   Pn.some (JnO.of [.bit true, .wait 3, .mask [2, 3], .ren [0]] (p := [(!r3.2.2) = true]) (by kernel_rfl) (cj1 (nt h7))))
def impl_Parse_c4 (o : List Int) (r1 : ByteArray × Int × Bool) (r3 : (List Int) × Int × Bool) (v1 : Int) (v2 : Bool) (v3 : List Int) : Option (Lo Unit Unit) :=
 if (decide (v1 < (r3.1.length : Int))) = true then
 some (.out ())
 else
 some (.ret ())
theorem impl_Parse_c4_ok (o : List Int) (r1 : ByteArray × Int × Bool) (r3 : (List Int) × Int × Bool) (v1 : Int) (v2 : Bool) (v3 : List Int) : Pn (JnO Tryd.prog (sub (codeOf Tryd.prog 23) [1, 1, 1, 1, 1, 1, 0, 1, 0, 0, 1, 0]) (st 128 [(0, V.sl false 5 (List.map E5 o)), (2, V.ptr 0 0), (4, V.sc (.string r1.1)), (5, V.sc (.int .i64 r3.2.1)), (8, V.ow 1), (9, V.sc (.bool v2)), (41, V.ow 2), (42, V.sc (.int .i64 (r3.1.length : Int))), (43, V.sc (.int .i64 v1)), (44, V.sc (.bool (decide (v1 < (r3.1.length : Int)))))] [Blk.box 25 [V.sc (.string ByteArray.empty), V.nl 48], Blk.row 3 (List.map E3 v3) [], Blk.row 3 (List.map E3 r3.1) []] []) (fun (y : Lo Unit Unit) => Lo.elim y (fun s => (X.go, st 128 [(0, V.sl false 5 (List.map E5 o)), (2, V.ptr 0 0), (4, V.sc (.string r1.1)), (5, V.sc (.int .i64 r3.2.1)), (8, V.ow 1), (9, V.sc (.bool v2)), (41, V.ow 2), (42, V.sc (.int .i64 (r3.1.length : Int))), (43, V.sc (.int .i64 v1))] [Blk.box 25 [V.sc (.string ByteArray.empty), V.nl 48], Blk.row 3 (List.map E3 v3) [], Blk.row 3 (List.map E3 r3.1) []] [])) (fun s => (X.out 0, st 128 [(0, V.sl false 5 (List.map E5 o)), (2, V.ptr 0 0), (4, V.sc (.string r1.1)), (5, V.sc (.int .i64 r3.2.1)), (8, V.ow 1), (9, V.sc (.bool v2))] [Blk.box 25 [V.sc (.string ByteArray.empty), V.nl 48], Blk.row 3 (List.map E3 v3) []] [])))) (impl_Parse_c4 o r1 r3 v1 v2 v3) := by
  unfold impl_Parse_c4
  exact
   Pn.ite (fun h11 =>
   Pn.some (JnO.of [.bit true, .mask [0, 2, 4, 5, 8, 9, 41, 42, 43], .ren [0, 1, 2]] (p := [(decide (v1 < (r3.1.length : Int))) = true]) (by kernel_rfl) (cj1 h11))) (fun h11 =>
   Pn.some (JnO.of [.bit false, .mask [0, 2, 4, 5, 8, 9], .ren [0, 1]] (p := [(decide (v1 < (r3.1.length : Int))) = false]) (by kernel_rfl) (cj1 h11)))
def impl_Parse_c5 (o : List Int) (r1 : ByteArray × Int × Bool) (r3 : (List Int) × Int × Bool) (v1 : Int) (v2 : Bool) (v3 : List Int) : Option (Lo (Bool × (List Int)) Unit) :=
 if (decide (0 ≤ v1)) = true then
 (r3.1[v1.toNat]?).bind fun x1 =>
 if (x1 == 1) = true then
 some (.out (true, v3))
 else
 (impl_FieldKind x1).bind fun r6 =>
 if (r6 == 0) = true then
 some (.ret ())
 else
 if (capOk (v3.length + 1)) = true then
 some (.out (v2, (v3 ++ [x1])))
 else none
 else none
theorem impl_Parse_c5_ok (o : List Int) (r1 : ByteArray × Int × Bool) (r3 : (List Int) × Int × Bool) (v1 : Int) (v2 : Bool) (v3 : List Int) : Pn (JnO Tryd.prog (sub (codeOf Tryd.prog 23) [1, 1, 1, 1, 1, 1, 0, 1, 0, 0, 1, 1, 0]) (st 128 [(0, V.sl false 5 (List.map E5 o)), (2, V.ptr 0 0), (4, V.sc (.string r1.1)), (5, V.sc (.int .i64 r3.2.1)), (8, V.ow 1), (9, V.sc (.bool v2)), (41, V.ow 2), (42, V.sc (.int .i64 (r3.1.length : Int))), (43, V.sc (.int .i64 v1))] [Blk.box 25 [V.sc (.string ByteArray.empty), V.nl 48], Blk.row 3 (List.map E3 v3) [], Blk.row 3 (List.map E3 r3.1) []] []) (fun (y : Lo (Bool × (List Int)) Unit) => Lo.elim y (fun s => (X.go, st 128 [(0, V.sl false 5 (List.map E5 o)), (2, V.ptr 0 0), (4, V.sc (.string r1.1)), (5, V.sc (.int .i64 r3.2.1)), (8, V.ow 1), (9, V.sc (.bool s.1)), (41, V.ow 2), (42, V.sc (.int .i64 (r3.1.length : Int))), (43, V.sc (.int .i64 v1))] [Blk.box 25 [V.sc (.string ByteArray.empty), V.nl 48], Blk.row 3 (List.map E3 s.2) [], Blk.row 3 (List.map E3 r3.1) []] [])) (fun s => (X.ret, st 128 [(2, V.ptr 0 0), (3, V.sc (.int .i64 2))] [Blk.box 25 [V.sc (.string ByteArray.empty), V.nl 48]] [])))) (impl_Parse_c5 o r1 r3 v1 v2 v3) := by
  unfold impl_Parse_c5
  exact
   Pn.ite (fun h15 =>
   Pn.bind (fun x1 h16 =>
   Pn.ite (fun h17 =>
   Pn.some (JnO.of [.el (E3 x1), .bit true, .wait 1, .mask [0, 2, 4, 5, 8, 9, 41, 42, 43], .ren [0, 1, 2]] (p := [(0 : Int) ≤ v1,
    (v1 : Int) < ((List.map E3 r3.1).length : Int),
    look [] v1.toNat = none,
    (List.map E3 r3.1)[v1.toNat]? = some (E3 x1),
    (x1 == 1) = true]) (by kernel_rfl) (cj (od h15) (cj (map_ltN (od h15) h16) (cj rfl (cj (map_get h16) (cj1 h17))))))) (fun h17 =>
   Pn.bind (fun r6 h18 =>
   Pn.ite (fun h19 =>
   Pn.some (JnO.of [.el (E3 x1), .bit false, .call [] (E3 r6) [], .bit true, .wait 3, .mask [2, 3], .ren [0]] (p := [(0 : Int) ≤ v1,
    (v1 : Int) < ((List.map E3 r3.1).length : Int),
    look [] v1.toNat = none,
    (List.map E3 r3.1)[v1.toNat]? = some (E3 x1),
    (x1 == 1) = false,
    Fn Tryd.prog 35 [(false, E3 x1)] (E3 r6) [],
    (true || ((E3 r6).nv && nvL [])) = true,
    (r6 == 0) = true]) (by kernel_rfl) (cj (od h15) (cj (map_ltN (od h15) h16) (cj rfl (cj (map_get h16) (cj h17 (cj (impl_FieldKind_ok x1 r6 h18) (cj rfl (cj1 h19)))))))))) (fun h19 =>
   Pn.ite (fun h20 =>
   Pn.some (JnO.of [.el (E3 x1), .bit false, .call [] (E3 r6) [], .bit false, .cp [V.sc (.int .i64 x1)], .nb 4 (.row 3 (List.map E3 (v3 ++ [x1])) []), .wait 2, .mask [0, 2, 4, 5, 8, 9, 41, 42, 43], .ren [0, 4, 2]] (p := [(0 : Int) ≤ v1,
    (v1 : Int) < ((List.map E3 r3.1).length : Int),
    look [] v1.toNat = none,
    (List.map E3 r3.1)[v1.toNat]? = some (E3 x1),
    (x1 == 1) = false,
    Fn Tryd.prog 35 [(false, E3 x1)] (E3 r6) [],
    (true || ((E3 r6).nv && nvL [])) = true,
    (r6 == 0) = false,
    [V.sc (.int .i64 x1)] = [V.sc (.int .i64 x1)],
    [V.sc (.int .i64 x1)].all V.flatE = true,
    (List.map E3 v3).length + [V.sc (.int .i64 x1)].length ≤ 9223372036854775807,
    ((List.map E3 v3).length + [V.sc (.int .i64 x1)].length) * 8 ≤ 140737488355328,
    Blk.row 3 ((List.map E3 v3) ++ [V.sc (.int .i64 x1)]) [] = Blk.row 3 (List.map E3 (v3 ++ [x1])) []]) (by kernel_rfl) (cj (od h15) (cj (map_ltN (od h15) h16) (cj rfl (cj (map_get h16) (cj h17 (cj (impl_FieldKind_ok x1 r6 h18) (cj rfl (cj h19 (cj rfl (cj rfl (cj (cap1 (capN (by simp) h20)) (cj (cap2 (capN (by simp) h20) (by decide)) (cj1 (nb_app E3 v3 [x1])))))))))))))))) (fun h20 =>
   Pn.none)))))) (fun h15 =>
   Pn.none)
def impl_Parse_l0 (o : List Int) (r1 : ByteArray × Int × Bool) (r3 : (List Int) × Int × Bool) : Nat → Int → Bool → (List Int) → Option (Lo (Bool × (List Int)) Unit)
  | 0, _, _, _ => none
  | fuel + 1, v1, v2, v3 =>
   (impl_Parse_c4 o r1 r3 v1 v2 v3).bind fun r5 =>
   Lo.elim r5 (fun s5 =>
   (impl_Parse_c5 o r1 r3 v1 v2 v3).bind fun r7 =>
   Lo.elim r7 (fun s7 =>
   impl_Parse_l0 o r1 r3 fuel (i64 (v1 + 1)) s7.1 s7.2) (fun s8 =>
   some (.ret ()))) (fun s6 =>
   some (.out (v2, v3)))
theorem impl_Parse_l0_ok (o : List Int) (r1 : ByteArray × Int × Bool) (r3 : (List Int) × Int × Bool) : ∀ (fuel : Nat) (v1 : Int) (v2 : Bool) (v3 : List Int), Pn (LpO Tryd.prog (sub (codeOf Tryd.prog 23) [1, 1, 1, 1, 1, 1, 0, 1, 0, 0]) (st 128 [(0, V.sl false 5 (List.map E5 o)), (2, V.ptr 0 0), (4, V.sc (.string r1.1)), (5, V.sc (.int .i64 r3.2.1)), (8, V.ow 1), (9, V.sc (.bool v2)), (41, V.ow 2), (42, V.sc (.int .i64 (r3.1.length : Int))), (43, V.sc (.int .i64 v1))] [Blk.box 25 [V.sc (.string ByteArray.empty), V.nl 48], Blk.row 3 (List.map E3 v3) [], Blk.row 3 (List.map E3 r3.1) []] []) (fun (y : Lo (Bool × (List Int)) Unit) => Lo.elim y (fun s => (X.out 0, st 128 [(0, V.sl false 5 (List.map E5 o)), (2, V.ptr 0 0), (4, V.sc (.string r1.1)), (5, V.sc (.int .i64 r3.2.1)), (8, V.ow 1), (9, V.sc (.bool s.1))] [Blk.box 25 [V.sc (.string ByteArray.empty), V.nl 48], Blk.row 3 (List.map E3 s.2) []] [])) (fun s => (X.ret, st 128 [(2, V.ptr 0 0), (3, V.sc (.int .i64 2))] [Blk.box 25 [V.sc (.string ByteArray.empty), V.nl 48]] [])))) (impl_Parse_l0 o r1 r3 fuel v1 v2 v3)
  | 0, _, _, _ => Pn.none
  | fuel + 1, v1, v2, v3 => by
    unfold impl_Parse_l0
    exact
     Pn.bind (fun r5 h12 =>
     Pn.lo (fun s5 h13 =>
     Pn.bind (fun r7 h21 =>
     Pn.lo (fun s7 h22 =>
     LpO.go [.wait 2, .mask [0, 2, 4, 5, 8, 9, 41, 42, 43, 44], .ren [0, 1, 2], .join 3 (X.go) (st 128 [(0, V.sl false 5 (List.map E5 o)), (2, V.ptr 0 0), (4, V.sc (.string r1.1)), (5, V.sc (.int .i64 r3.2.1)), (8, V.ow 1), (9, V.sc (.bool v2)), (41, V.ow 2), (42, V.sc (.int .i64 (r3.1.length : Int))), (43, V.sc (.int .i64 v1))] [Blk.box 25 [V.sc (.string ByteArray.empty), V.nl 48], Blk.row 3 (List.map E3 v3) [], Blk.row 3 (List.map E3 r3.1) []] []), .wait 1, .mask [0, 2, 4, 5, 8, 9, 41, 42, 43], .ren [0, 1, 2], .join 15 (X.go) (st 128 [(0, V.sl false 5 (List.map E5 o)), (2, V.ptr 0 0), (4, V.sc (.string r1.1)), (5, V.sc (.int .i64 r3.2.1)), (8, V.ow 1), (9, V.sc (.bool s7.1)), (41, V.ow 2), (42, V.sc (.int .i64 (r3.1.length : Int))), (43, V.sc (.int .i64 v1))] [Blk.box 25 [V.sc (.string ByteArray.empty), V.nl 48], Blk.row 3 (List.map E3 s7.2) [], Blk.row 3 (List.map E3 r3.1) []] []), .wait 3, .mask [0, 2, 4, 5, 8, 9, 41, 42, 43], .ren [0, 1, 2]] (p := [HT Tryd.prog (sub (codeOf Tryd.prog 23) [1, 1, 1, 1, 1, 1, 0, 1, 0, 0, 1, 0]) (st 128 [(0, V.sl false 5 (List.map E5 o)), (2, V.ptr 0 0), (4, V.sc (.string r1.1)), (5, V.sc (.int .i64 r3.2.1)), (8, V.ow 1), (9, V.sc (.bool v2)), (41, V.ow 2), (42, V.sc (.int .i64 (r3.1.length : Int))), (43, V.sc (.int .i64 v1)), (44, V.sc (.bool (decide (v1 < (r3.1.length : Int)))))] [Blk.box 25 [V.sc (.string ByteArray.empty), V.nl 48], Blk.row 3 (List.map E3 v3) [], Blk.row 3 (List.map E3 r3.1) []] []) (X.go) (st 128 [(0, V.sl false 5 (List.map E5 o)), (2, V.ptr 0 0), (4, V.sc (.string r1.1)), (5, V.sc (.int .i64 r3.2.1)), (8, V.ow 1), (9, V.sc (.bool v2)), (41, V.ow 2), (42, V.sc (.int .i64 (r3.1.length : Int))), (43, V.sc (.int .i64 v1))] [Blk.box 25 [V.sc (.string ByteArray.empty), V.nl 48], Blk.row 3 (List.map E3 v3) [], Blk.row 3 (List.map E3 r3.1) []] []),
      HT Tryd.prog (sub (codeOf Tryd.prog 23) [1, 1, 1, 1, 1, 1, 0, 1, 0, 0, 1, 1, 0]) (st 128 [(0, V.sl false 5 (List.map E5 o)), (2, V.ptr 0 0), (4, V.sc (.string r1.1)), (5, V.sc (.int .i64 r3.2.1)), (8, V.ow 1), (9, V.sc (.bool v2)), (41, V.ow 2), (42, V.sc (.int .i64 (r3.1.length : Int))), (43, V.sc (.int .i64 v1))] [Blk.box 25 [V.sc (.string ByteArray.empty), V.nl 48], Blk.row 3 (List.map E3 v3) [], Blk.row 3 (List.map E3 r3.1) []] []) (X.go) (st 128 [(0, V.sl false 5 (List.map E5 o)), (2, V.ptr 0 0), (4, V.sc (.string r1.1)), (5, V.sc (.int .i64 r3.2.1)), (8, V.ow 1), (9, V.sc (.bool s7.1)), (41, V.ow 2), (42, V.sc (.int .i64 (r3.1.length : Int))), (43, V.sc (.int .i64 v1))] [Blk.box 25 [V.sc (.string ByteArray.empty), V.nl 48], Blk.row 3 (List.map E3 s7.2) [], Blk.row 3 (List.map E3 r3.1) []] [])]) (by kernel_rfl) (cj ((impl_Parse_c4_ok o r1 r3 v1 v2 v3 r5 h12).at h13) (cj1 ((impl_Parse_c5_ok o r1 r3 v1 v2 v3 r7 h21).at h22))) (impl_Parse_l0_ok o r1 r3 fuel (i64 (v1 + 1)) s7.1 s7.2)) (fun s8 h23 =>
     Pn.some (LpO.out [.wait 2, .mask [0, 2, 4, 5, 8, 9, 41, 42, 43, 44], .ren [0, 1, 2], .join 3 (X.go) (st 128 [(0, V.sl false 5 (List.map E5 o)), (2, V.ptr 0 0), (4, V.sc (.string r1.1)), (5, V.sc (.int .i64 r3.2.1)), (8, V.ow 1), (9, V.sc (.bool v2)), (41, V.ow 2), (42, V.sc (.int .i64 (r3.1.length : Int))), (43, V.sc (.int .i64 v1))] [Blk.box 25 [V.sc (.string ByteArray.empty), V.nl 48], Blk.row 3 (List.map E3 v3) [], Blk.row 3 (List.map E3 r3.1) []] []), .wait 1, .mask [0, 2, 4, 5, 8, 9, 41, 42, 43], .ren [0, 1, 2], .join 15 (X.ret) (st 128 [(2, V.ptr 0 0), (3, V.sc (.int .i64 2))] [Blk.box 25 [V.sc (.string ByteArray.empty), V.nl 48]] []), .wait 1, .mask [2, 3], .ren [0]] (p := [HT Tryd.prog (sub (codeOf Tryd.prog 23) [1, 1, 1, 1, 1, 1, 0, 1, 0, 0, 1, 0]) (st 128 [(0, V.sl false 5 (List.map E5 o)), (2, V.ptr 0 0), (4, V.sc (.string r1.1)), (5, V.sc (.int .i64 r3.2.1)), (8, V.ow 1), (9, V.sc (.bool v2)), (41, V.ow 2), (42, V.sc (.int .i64 (r3.1.length : Int))), (43, V.sc (.int .i64 v1)), (44, V.sc (.bool (decide (v1 < (r3.1.length : Int)))))] [Blk.box 25 [V.sc (.string ByteArray.empty), V.nl 48], Blk.row 3 (List.map E3 v3) [], Blk.row 3 (List.map E3 r3.1) []] []) (X.go) (st 128 [(0, V.sl false 5 (List.map E5 o)), (2, V.ptr 0 0), (4, V.sc (.string r1.1)), (5, V.sc (.int .i64 r3.2.1)), (8, V.ow 1), (9, V.sc (.bool v2)), (41, V.ow 2), (42, V.sc (.int .i64 (r3.1.length : Int))), (43, V.sc (.int .i64 v1))] [Blk.box 25 [V.sc (.string ByteArray.empty), V.nl 48], Blk.row 3 (List.map E3 v3) [], Blk.row 3 (List.map E3 r3.1) []] []),
      HT Tryd.prog (sub (codeOf Tryd.prog 23) [1, 1, 1, 1, 1, 1, 0, 1, 0, 0, 1, 1, 0]) (st 128 [(0, V.sl false 5 (List.map E5 o)), (2, V.ptr 0 0), (4, V.sc (.string r1.1)), (5, V.sc (.int .i64 r3.2.1)), (8, V.ow 1), (9, V.sc (.bool v2)), (41, V.ow 2), (42, V.sc (.int .i64 (r3.1.length : Int))), (43, V.sc (.int .i64 v1))] [Blk.box 25 [V.sc (.string ByteArray.empty), V.nl 48], Blk.row 3 (List.map E3 v3) [], Blk.row 3 (List.map E3 r3.1) []] []) (X.ret) (st 128 [(2, V.ptr 0 0), (3, V.sc (.int .i64 2))] [Blk.box 25 [V.sc (.string ByteArray.empty), V.nl 48]] [])]) (by kernel_rfl) (show X.ret ≠ X.go from nofun) (cj ((impl_Parse_c4_ok o r1 r3 v1 v2 v3 r5 h12).at h13) (cj1 ((impl_Parse_c5_ok o r1 r3 v1 v2 v3 r7 h21).at h23))))))) (fun s6 h14 =>
     Pn.some (LpO.out [.wait 2, .mask [0, 2, 4, 5, 8, 9, 41, 42, 43, 44], .ren [0, 1, 2], .join 3 (X.out 0) (st 128 [(0, V.sl false 5 (List.map E5 o)), (2, V.ptr 0 0), (4, V.sc (.string r1.1)), (5, V.sc (.int .i64 r3.2.1)), (8, V.ow 1), (9, V.sc (.bool v2))] [Blk.box 25 [V.sc (.string ByteArray.empty), V.nl 48], Blk.row 3 (List.map E3 v3) []] []), .wait 1, .mask [0, 2, 4, 5, 8, 9], .ren [0, 1]] (p := [HT Tryd.prog (sub (codeOf Tryd.prog 23) [1, 1, 1, 1, 1, 1, 0, 1, 0, 0, 1, 0]) (st 128 [(0, V.sl false 5 (List.map E5 o)), (2, V.ptr 0 0), (4, V.sc (.string r1.1)), (5, V.sc (.int .i64 r3.2.1)), (8, V.ow 1), (9, V.sc (.bool v2)), (41, V.ow 2), (42, V.sc (.int .i64 (r3.1.length : Int))), (43, V.sc (.int .i64 v1)), (44, V.sc (.bool (decide (v1 < (r3.1.length : Int)))))] [Blk.box 25 [V.sc (.string ByteArray.empty), V.nl 48], Blk.row 3 (List.map E3 v3) [], Blk.row 3 (List.map E3 r3.1) []] []) (X.out 0) (st 128 [(0, V.sl false 5 (List.map E5 o)), (2, V.ptr 0 0), (4, V.sc (.string r1.1)), (5, V.sc (.int .i64 r3.2.1)), (8, V.ow 1), (9, V.sc (.bool v2))] [Blk.box 25 [V.sc (.string ByteArray.empty), V.nl 48], Blk.row 3 (List.map E3 v3) []] [])]) (by kernel_rfl) (show X.out 0 ≠ X.go from nofun) (cj1 ((impl_Parse_c4_ok o r1 r3 v1 v2 v3 r5 h12).at h14)))))
def impl_Parse_c7 (o : List Int) (r1 : ByteArray × Int × Bool) (s9 : Bool × (List Int)) (r9 : (List Int) × Int × Bool) : Option (Lo Unit Unit) :=
 if r9.2.2 = true then
 if ((r9.1.length : Int) == 0) = true then
 some (.ret ())
 else
 some (.out ())
 else
 some (.ret ())
theorem impl_Parse_c7_ok (o : List Int) (r1 : ByteArray × Int × Bool) (s9 : Bool × (List Int)) (r9 : (List Int) × Int × Bool) : Pn (JnO Tryd.prog (sub (codeOf Tryd.prog 23) [1, 1, 1, 1, 1, 1, 1, 0, 1, 0, 1, 1, 0]) (st 128 [(0, V.sl false 5 (List.map E5 o)), (2, V.ptr 0 0), (4, V.sc (.string r1.1)), (5, V.sc (.int .i64 r9.2.1)), (6, V.sc (.bool r9.2.2)), (8, V.ow 1), (12, V.ow 2)] [Blk.box 25 [V.sc (.string ByteArray.empty), V.nl 48], Blk.row 3 (List.map E3 s9.2) [], Blk.row 3 (List.map E3 r9.1) []] []) (fun (y : Lo Unit Unit) => Lo.elim y (fun s => (X.go, st 128 [(0, V.sl false 5 (List.map E5 o)), (2, V.ptr 0 0), (4, V.sc (.string r1.1)), (5, V.sc (.int .i64 r9.2.1)), (8, V.ow 1), (12, V.ow 2)] [Blk.box 25 [V.sc (.string ByteArray.empty), V.nl 48], Blk.row 3 (List.map E3 s9.2) [], Blk.row 3 (List.map E3 r9.1) []] [])) (fun s => (X.ret, st 128 [(2, V.ptr 0 0), (3, V.sc (.int .i64 2))] [Blk.box 25 [V.sc (.string ByteArray.empty), V.nl 48]] [])))) (impl_Parse_c7 o r1 s9 r9) := by
  unfold impl_Parse_c7
  exact
   Pn.ite (fun h29 =>
   Pn.ite (fun h30 =>
   Pn.some (JnO.of [.bit false, .bit false, .nm 72 (V.sc (.int .i64 (r9.1.length : Int))), .bit false, .bit false, .bit true, .wait 3, .mask [2, 3], .ren [0]] (p := [(!r9.2.2) = false,
    (!r9.2.2) = false,
    V.sc (.int .i64 ((List.map E3 r9.1).length : Int)) = V.sc (.int .i64 (r9.1.length : Int)),
    (!r9.2.2) = false,
    (!r9.2.2) = false,
    ((r9.1.length : Int) == 0) = true]) (by kernel_rfl) (cj (nf h29) (cj (nf h29) (cj (len_nm _ _) (cj (nf h29) (cj (nf h29) (cj1 h30)))))))) (fun h30 =>
   Pn.some (JnO.of [.bit false, .bit false, .nm 72 (V.sc (.int .i64 (r9.1.length : Int))), .bit false, .bit false, .bit false, .mask [0, 2, 4, 5, 8, 12], .ren [0, 1, 2]] (p := [(!r9.2.2) = false,
    (!r9.2.2) = false,
    V.sc (.int .i64 ((List.map E3 r9.1).length : Int)) = V.sc (.int .i64 (r9.1.length : Int)),
    (!r9.2.2) = false,
    (!r9.2.2) = false,
    ((r9.1.length : Int) == 0) = false]) (by kernel_rfl) (cj (nf h29) (cj (nf h29) (cj (len_nm _ _) (cj (nf h29) (cj (nf h29) (cj1 h30))))))))) (fun h29 =>
   Pn.some (JnO.of [.bit true, .bit true, .bit true, .bit true, .bit true, .wait 3, .mask [2, 3], .ren [0]] (p := [(!r9.2.2) = true,
    (!r9.2.2) = true,
    (!r9.2.2) = true,
    (!r9.2.2) = true,
    true = true]) (by kernel_rfl) (cj (nt h29) (cj (nt h29) (cj (nt h29) (cj (nt h29) (cj1 rfl)))))))
def impl_Parse_c11 (o : List Int) (r1 : ByteArray × Int × Bool) (r9 : (List Int) × Int × Bool) (v4 : Int) (v5 : List Int) : Option (Lo Unit Unit) :=
 if (decide (v4 < (r9.1.length : Int))) = true then
 some (.out ())
 else
 some (.ret ())
theorem impl_Parse_c11_ok (o : List Int) (r1 : ByteArray × Int × Bool) (r9 : (List Int) × Int × Bool) (v4 : Int) (v5 : List Int) : Pn (JnO Tryd.prog (sub (codeOf Tryd.prog 23) [1, 1, 1, 1, 1, 1, 1, 0, 1, 0, 1, 1, 1, 1, 0, 0, 1, 0]) (st 128 [(0, V.sl false 5 (List.map E5 o)), (2, V.ptr 0 0), (4, V.sc (.string r1.1)), (5, V.sc (.int .i64 r9.2.1)), (8, V.ow 1), (76, V.ow 2), (77, V.sc (.int .i64 (r9.1.length : Int))), (78, V.sc (.int .i64 v4)), (79, V.sc (.bool (decide (v4 < (r9.1.length : Int)))))] [Blk.box 25 [V.sc (.string ByteArray.empty), V.nl 48], Blk.row 3 (List.map E3 v5) [], Blk.row 3 (List.map E3 r9.1) []] []) (fun (y : Lo Unit Unit) => Lo.elim y (fun s => (X.go, st 128 [(0, V.sl false 5 (List.map E5 o)), (2, V.ptr 0 0), (4, V.sc (.string r1.1)), (5, V.sc (.int .i64 r9.2.1)), (8, V.ow 1), (76, V.ow 2), (77, V.sc (.int .i64 (r9.1.length : Int))), (78, V.sc (.int .i64 v4))] [Blk.box 25 [V.sc (.string ByteArray.empty), V.nl 48], Blk.row 3 (List.map E3 v5) [], Blk.row 3 (List.map E3 r9.1) []] [])) (fun s => (X.out 3, st 128 [(0, V.sl false 5 (List.map E5 o)), (2, V.ptr 0 0), (4, V.sc (.string r1.1)), (5, V.sc (.int .i64 r9.2.1)), (8, V.ow 1)] [Blk.box 25 [V.sc (.string ByteArray.empty), V.nl 48], Blk.row 3 (List.map E3 v5) []] [])))) (impl_Parse_c11 o r1 r9 v4 v5) := by
  unfold impl_Parse_c11
  exact
   Pn.ite (fun h34 =>
   Pn.some (JnO.of [.bit true, .mask [0, 2, 4, 5, 8, 76, 77, 78], .ren [0, 1, 2]] (p := [(decide (v4 < (r9.1.length : Int))) = true]) (by kernel_rfl) (cj1 h34))) (fun h34 =>
   Pn.some (JnO.of [.bit false, .mask [0, 2, 4, 5, 8], .ren [0, 1]] (p := [(decide (v4 < (r9.1.length : Int))) = false]) (by kernel_rfl) (cj1 h34)))
def impl_Parse_c13 (o : List Int) (r1 : ByteArray × Int × Bool) (r9 : (List Int) × Int × Bool) (v4 : Int) (v5 : List Int) (x2 : Int) : Option (Lo Unit Unit) :=
 (impl_FieldKind (i64 (x2 + 64))).bind fun r12 =>
 if (r12 == 0) = true then
 some (.ret ())
 else
 some (.out ())
theorem impl_Parse_c13_ok (o : List Int) (r1 : ByteArray × Int × Bool) (r9 : (List Int) × Int × Bool) (v4 : Int) (v5 : List Int) (x2 : Int) : Pn (JnO Tryd.prog (sub (codeOf Tryd.prog 23) [1, 1, 1, 1, 1, 1, 1, 0, 1, 0, 1, 1, 1, 1, 0, 0, 1, 1, 0, 0, 1, 0]) (st 128 [(0, V.sl false 5 (List.map E5 o)), (2, V.ptr 0 0), (4, V.sc (.string r1.1)), (5, V.sc (.int .i64 r9.2.1)), (8, V.ow 1), (14, V.sc (.int .i64 x2)), (76, V.ow 2), (77, V.sc (.int .i64 (r9.1.length : Int))), (78, V.sc (.int .i64 v4))] [Blk.box 25 [V.sc (.string ByteArray.empty), V.nl 48], Blk.row 3 (List.map E3 v5) [], Blk.row 3 (List.map E3 r9.1) []] []) (fun (y : Lo Unit Unit) => Lo.elim y (fun s => (X.go, st 128 [(0, V.sl false 5 (List.map E5 o)), (2, V.ptr 0 0), (4, V.sc (.string r1.1)), (5, V.sc (.int .i64 r9.2.1)), (8, V.ow 1), (14, V.sc (.int .i64 x2)), (76, V.ow 2), (77, V.sc (.int .i64 (r9.1.length : Int))), (78, V.sc (.int .i64 v4))] [Blk.box 25 [V.sc (.string ByteArray.empty), V.nl 48], Blk.row 3 (List.map E3 v5) [], Blk.row 3 (List.map E3 r9.1) []] [])) (fun s => (X.ret, st 128 [(2, V.ptr 0 0), (3, V.sc (.int .i64 2))] [Blk.box 25 [V.sc (.string ByteArray.empty), V.nl 48]] [])))) (impl_Parse_c13 o r1 r9 v4 v5 x2) := by
  unfold impl_Parse_c13
  exact
   Pn.bind (fun r12 h40 =>
   Pn.ite (fun h41 =>
   Pn.some (JnO.of [.call [] (E3 r12) [], .bit true, .wait 3, .mask [2, 3], .ren [0]] (p := [Fn Tryd.prog 35 [(false, E3 (i64 (x2 + 64)))] (E3 r12) [],
    (true || ((E3 r12).nv && nvL [])) = true,
    (r12 == 0) = true]) (by kernel_rfl) (cj (impl_FieldKind_ok (i64 (x2 + 64)) r12 h40) (cj rfl (cj1 h41))))) (fun h41 =>
   Pn.some (JnO.of [.call [] (E3 r12) [], .bit false, .mask [0, 2, 4, 5, 8, 14, 76, 77, 78], .ren [0, 1, 2]] (p := [Fn Tryd.prog 35 [(false, E3 (i64 (x2 + 64)))] (E3 r12) [],
    (true || ((E3 r12).nv && nvL [])) = true,
    (r12 == 0) = false]) (by kernel_rfl) (cj (impl_FieldKind_ok (i64 (x2 + 64)) r12 h40) (cj rfl (cj1 h41))))))
def impl_Parse_c12 (o : List Int) (r1 : ByteArray × Int × Bool) (r9 : (List Int) × Int × Bool) (v4 : Int) (v5 : List Int) : Option (Lo ((List Int)) Unit) :=
 if (decide (0 ≤ v4)) = true then
 (r9.1[v4.toNat]?).bind fun x2 =>
 (impl_Parse_c13 o r1 r9 v4 v5 x2).bind fun r13 =>
 Lo.elim r13 (fun s15 =>
 if (capOk (v5.length + 1)) = true then
 some (.out (v5 ++ [i64 (x2 + 64)]))
 else none) (fun s16 =>
 some (.ret ()))
 else none
theorem impl_Parse_c12_ok (o : List Int) (r1 : ByteArray × Int × Bool) (r9 : (List Int) × Int × Bool) (v4 : Int) (v5 : List Int) : Pn (JnO Tryd.prog (sub (codeOf Tryd.prog 23) [1, 1, 1, 1, 1, 1, 1, 0, 1, 0, 1, 1, 1, 1, 0, 0, 1, 1, 0]) (st 128 [(0, V.sl false 5 (List.map E5 o)), (2, V.ptr 0 0), (4, V.sc (.string r1.1)), (5, V.sc (.int .i64 r9.2.1)), (8, V.ow 1), (76, V.ow 2), (77, V.sc (.int .i64 (r9.1.length : Int))), (78, V.sc (.int .i64 v4))] [Blk.box 25 [V.sc (.string ByteArray.empty), V.nl 48], Blk.row 3 (List.map E3 v5) [], Blk.row 3 (List.map E3 r9.1) []] []) (fun (y : Lo ((List Int)) Unit) => Lo.elim y (fun s => (X.go, st 128 [(0, V.sl false 5 (List.map E5 o)), (2, V.ptr 0 0), (4, V.sc (.string r1.1)), (5, V.sc (.int .i64 r9.2.1)), (8, V.ow 1), (76, V.ow 2), (77, V.sc (.int .i64 (r9.1.length : Int))), (78, V.sc (.int .i64 v4))] [Blk.box 25 [V.sc (.string ByteArray.empty), V.nl 48], Blk.row 3 (List.map E3 s) [], Blk.row 3 (List.map E3 r9.1) []] [])) (fun s => (X.ret, st 128 [(2, V.ptr 0 0), (3, V.sc (.int .i64 2))] [Blk.box 25 [V.sc (.string ByteArray.empty), V.nl 48]] [])))) (impl_Parse_c12 o r1 r9 v4 v5) := by
  unfold impl_Parse_c12
  exact
   Pn.ite (fun h38 =>
   Pn.bind (fun x2 h39 =>
   Pn.bind (fun r13 h42 =>
   Pn.lo (fun s15 h43 =>
   Pn.ite (fun h45 =>
   Pn.some (JnO.of [.el (E3 x2), .wait 2, .mask [0, 2, 4, 5, 8, 14, 76, 77, 78], .ren [0, 1, 2], .join 7 (X.go) (st 128 [(0, V.sl false 5 (List.map E5 o)), (2, V.ptr 0 0), (4, V.sc (.string r1.1)), (5, V.sc (.int .i64 r9.2.1)), (8, V.ow 1), (14, V.sc (.int .i64 x2)), (76, V.ow 2), (77, V.sc (.int .i64 (r9.1.length : Int))), (78, V.sc (.int .i64 v4))] [Blk.box 25 [V.sc (.string ByteArray.empty), V.nl 48], Blk.row 3 (List.map E3 v5) [], Blk.row 3 (List.map E3 r9.1) []] []), .cp [V.sc (.int .i64 (i64 (x2 + 64)))], .nb 4 (.row 3 (List.map E3 (v5 ++ [i64 (x2 + 64)])) []), .wait 2, .mask [0, 2, 4, 5, 8, 76, 77, 78], .ren [0, 4, 2]] (p := [(0 : Int) ≤ v4,
    (v4 : Int) < ((List.map E3 r9.1).length : Int),
    look [] v4.toNat = none,
    (List.map E3 r9.1)[v4.toNat]? = some (E3 x2),
    HT Tryd.prog (sub (codeOf Tryd.prog 23) [1, 1, 1, 1, 1, 1, 1, 0, 1, 0, 1, 1, 1, 1, 0, 0, 1, 1, 0, 0, 1, 0]) (st 128 [(0, V.sl false 5 (List.map E5 o)), (2, V.ptr 0 0), (4, V.sc (.string r1.1)), (5, V.sc (.int .i64 r9.2.1)), (8, V.ow 1), (14, V.sc (.int .i64 x2)), (76, V.ow 2), (77, V.sc (.int .i64 (r9.1.length : Int))), (78, V.sc (.int .i64 v4))] [Blk.box 25 [V.sc (.string ByteArray.empty), V.nl 48], Blk.row 3 (List.map E3 v5) [], Blk.row 3 (List.map E3 r9.1) []] []) (X.go) (st 128 [(0, V.sl false 5 (List.map E5 o)), (2, V.ptr 0 0), (4, V.sc (.string r1.1)), (5, V.sc (.int .i64 r9.2.1)), (8, V.ow 1), (14, V.sc (.int .i64 x2)), (76, V.ow 2), (77, V.sc (.int .i64 (r9.1.length : Int))), (78, V.sc (.int .i64 v4))] [Blk.box 25 [V.sc (.string ByteArray.empty), V.nl 48], Blk.row 3 (List.map E3 v5) [], Blk.row 3 (List.map E3 r9.1) []] []),
    [V.sc (.int .i64 (i64 (x2 + 64)))] = [V.sc (.int .i64 (i64 (x2 + 64)))],
    [V.sc (.int .i64 (i64 (x2 + 64)))].all V.flatE = true,
    (List.map E3 v5).length + [V.sc (.int .i64 (i64 (x2 + 64)))].length ≤ 9223372036854775807,
    ((List.map E3 v5).length + [V.sc (.int .i64 (i64 (x2 + 64)))].length) * 8 ≤ 140737488355328,
    Blk.row 3 ((List.map E3 v5) ++ [V.sc (.int .i64 (i64 (x2 + 64)))]) [] = Blk.row 3 (List.map E3 (v5 ++ [i64 (x2 + 64)])) []]) (by kernel_rfl) (cj (od h38) (cj (map_ltN (od h38) h39) (cj rfl (cj (map_get h39) (cj ((impl_Parse_c13_ok o r1 r9 v4 v5 x2 r13 h42).at h43) (cj rfl (cj rfl (cj (cap1 (capN (by simp) h45)) (cj (cap2 (capN (by simp) h45) (by decide)) (cj1 (nb_app E3 v5 [i64 (x2 + 64)]))))))))))))) (fun h45 =>
   Pn.none)) (fun s16 h44 =>
   Pn.some (JnO.of [.el (E3 x2), .wait 2, .mask [0, 2, 4, 5, 8, 14, 76, 77, 78], .ren [0, 1, 2], .join 7 (X.ret) (st 128 [(2, V.ptr 0 0), (3, V.sc (.int .i64 2))] [Blk.box 25 [V.sc (.string ByteArray.empty), V.nl 48]] []), .wait 1, .mask [2, 3], .ren [0]] (p := [(0 : Int) ≤ v4,
    (v4 : Int) < ((List.map E3 r9.1).length : Int),
    look [] v4.toNat = none,
    (List.map E3 r9.1)[v4.toNat]? = some (E3 x2),
    HT Tryd.prog (sub (codeOf Tryd.prog 23) [1, 1, 1, 1, 1, 1, 1, 0, 1, 0, 1, 1, 1, 1, 0, 0, 1, 1, 0, 0, 1, 0]) (st 128 [(0, V.sl false 5 (List.map E5 o)), (2, V.ptr 0 0), (4, V.sc (.string r1.1)), (5, V.sc (.int .i64 r9.2.1)), (8, V.ow 1), (14, V.sc (.int .i64 x2)), (76, V.ow 2), (77, V.sc (.int .i64 (r9.1.length : Int))), (78, V.sc (.int .i64 v4))] [Blk.box 25 [V.sc (.string ByteArray.empty), V.nl 48], Blk.row 3 (List.map E3 v5) [], Blk.row 3 (List.map E3 r9.1) []] []) (X.ret) (st 128 [(2, V.ptr 0 0), (3, V.sc (.int .i64 2))] [Blk.box 25 [V.sc (.string ByteArray.empty), V.nl 48]] [])]) (by kernel_rfl) (cj (od h38) (cj (map_ltN (od h38) h39) (cj rfl (cj (map_get h39) (cj1 ((impl_Parse_c13_ok o r1 r9 v4 v5 x2 r13 h42).at h44))))))))))) (fun h38 =>
   Pn.none)
def impl_Parse_l1 (o : List Int) (r1 : ByteArray × Int × Bool) (r9 : (List Int) × Int × Bool) : Nat → Int → (List Int) → Option (Lo ((List Int)) Unit)
  | 0, _, _ => none
  | fuel + 1, v4, v5 =>
   (impl_Parse_c11 o r1 r9 v4 v5).bind fun r11 =>
   Lo.elim r11 (fun s13 =>
   (impl_Parse_c12 o r1 r9 v4 v5).bind fun r14 =>
   Lo.elim r14 (fun s17 =>
   impl_Parse_l1 o r1 r9 fuel (i64 (v4 + 1)) s17) (fun s18 =>
   some (.ret ()))) (fun s14 =>
   some (.out v5))
theorem impl_Parse_l1_ok (o : List Int) (r1 : ByteArray × Int × Bool) (r9 : (List Int) × Int × Bool) : ∀ (fuel : Nat) (v4 : Int) (v5 : List Int), Pn (LpO Tryd.prog (sub (codeOf Tryd.prog 23) [1, 1, 1, 1, 1, 1, 1, 0, 1, 0, 1, 1, 1, 1, 0, 0]) (st 128 [(0, V.sl false 5 (List.map E5 o)), (2, V.ptr 0 0), (4, V.sc (.string r1.1)), (5, V.sc (.int .i64 r9.2.1)), (8, V.ow 1), (76, V.ow 2), (77, V.sc (.int .i64 (r9.1.length : Int))), (78, V.sc (.int .i64 v4))] [Blk.box 25 [V.sc (.string ByteArray.empty), V.nl 48], Blk.row 3 (List.map E3 v5) [], Blk.row 3 (List.map E3 r9.1) []] []) (fun (y : Lo ((List Int)) Unit) => Lo.elim y (fun s => (X.out 3, st 128 [(0, V.sl false 5 (List.map E5 o)), (2, V.ptr 0 0), (4, V.sc (.string r1.1)), (5, V.sc (.int .i64 r9.2.1)), (8, V.ow 1)] [Blk.box 25 [V.sc (.string ByteArray.empty), V.nl 48], Blk.row 3 (List.map E3 s) []] [])) (fun s => (X.ret, st 128 [(2, V.ptr 0 0), (3, V.sc (.int .i64 2))] [Blk.box 25 [V.sc (.string ByteArray.empty), V.nl 48]] [])))) (impl_Parse_l1 o r1 r9 fuel v4 v5)
  | 0, _, _ => Pn.none
  | fuel + 1, v4, v5 => by
    unfold impl_Parse_l1
    exact
     Pn.bind (fun r11 h35 =>
     Pn.lo (fun s13 h36 =>
     Pn.bind (fun r14 h46 =>
     Pn.lo (fun s17 h47 =>
     LpO.go [.wait 2, .mask [0, 2, 4, 5, 8, 76, 77, 78, 79], .ren [0, 1, 2], .join 3 (X.go) (st 128 [(0, V.sl false 5 (List.map E5 o)), (2, V.ptr 0 0), (4, V.sc (.string r1.1)), (5, V.sc (.int .i64 r9.2.1)), (8, V.ow 1), (76, V.ow 2), (77, V.sc (.int .i64 (r9.1.length : Int))), (78, V.sc (.int .i64 v4))] [Blk.box 25 [V.sc (.string ByteArray.empty), V.nl 48], Blk.row 3 (List.map E3 v5) [], Blk.row 3 (List.map E3 r9.1) []] []), .wait 1, .mask [0, 2, 4, 5, 8, 76, 77, 78], .ren [0, 1, 2], .join 12 (X.go) (st 128 [(0, V.sl false 5 (List.map E5 o)), (2, V.ptr 0 0), (4, V.sc (.string r1.1)), (5, V.sc (.int .i64 r9.2.1)), (8, V.ow 1), (76, V.ow 2), (77, V.sc (.int .i64 (r9.1.length : Int))), (78, V.sc (.int .i64 v4))] [Blk.box 25 [V.sc (.string ByteArray.empty), V.nl 48], Blk.row 3 (List.map E3 s17) [], Blk.row 3 (List.map E3 r9.1) []] []), .wait 3, .mask [0, 2, 4, 5, 8, 76, 77, 78], .ren [0, 1, 2]] (p := [HT Tryd.prog (sub (codeOf Tryd.prog 23) [1, 1, 1, 1, 1, 1, 1, 0, 1, 0, 1, 1, 1, 1, 0, 0, 1, 0]) (st 128 [(0, V.sl false 5 (List.map E5 o)), (2, V.ptr 0 0), (4, V.sc (.string r1.1)), (5, V.sc (.int .i64 r9.2.1)), (8, V.ow 1), (76, V.ow 2), (77, V.sc (.int .i64 (r9.1.length : Int))), (78, V.sc (.int .i64 v4)), (79, V.sc (.bool (decide (v4 < (r9.1.length : Int)))))] [Blk.box 25 [V.sc (.string ByteArray.empty), V.nl 48], Blk.row 3 (List.map E3 v5) [], Blk.row 3 (List.map E3 r9.1) []] []) (X.go) (st 128 [(0, V.sl false 5 (List.map E5 o)), (2, V.ptr 0 0), (4, V.sc (.string r1.1)), (5, V.sc (.int .i64 r9.2.1)), (8, V.ow 1), (76, V.ow 2), (77, V.sc (.int .i64 (r9.1.length : Int))), (78, V.sc (.int .i64 v4))] [Blk.box 25 [V.sc (.string ByteArray.empty), V.nl 48], Blk.row 3 (List.map E3 v5) [], Blk.row 3 (List.map E3 r9.1) []] []),
      HT Tryd.prog (sub (codeOf Tryd.prog 23) [1, 1, 1, 1, 1, 1, 1, 0, 1, 0, 1, 1, 1, 1, 0, 0, 1, 1, 0]) (st 128 [(0, V.sl false 5 (List.map E5 o)), (2, V.ptr 0 0), (4, V.sc (.string r1.1)), (5, V.sc (.int .i64 r9.2.1)), (8, V.ow 1), (76, V.ow 2), (77, V.sc (.int .i64 (r9.1.length : Int))), (78, V.sc (.int .i64 v4))] [Blk.box 25 [V.sc (.string ByteArray.empty), V.nl 48], Blk.row 3 (List.map E3 v5) [], Blk.row 3 (List.map E3 r9.1) []] []) (X.go) (st 128 [(0, V.sl false 5 (List.map E5 o)), (2, V.ptr 0 0), (4, V.sc (.string r1.1)), (5, V.sc (.int .i64 r9.2.1)), (8, V.ow 1), (76, V.ow 2), (77, V.sc (.int .i64 (r9.1.length : Int))), (78, V.sc (.int .i64 v4))] [Blk.box 25 [V.sc (.string ByteArray.empty), V.nl 48], Blk.row 3 (List.map E3 s17) [], Blk.row 3 (List.map E3 r9.1) []] [])]) (by kernel_rfl) (cj ((impl_Parse_c11_ok o r1 r9 v4 v5 r11 h35).at h36) (cj1 ((impl_Parse_c12_ok o r1 r9 v4 v5 r14 h46).at h47))) (impl_Parse_l1_ok o r1 r9 fuel (i64 (v4 + 1)) s17)) (fun s18 h48 =>
     Pn.some (LpO.out [.wait 2, .mask [0, 2, 4, 5, 8, 76, 77, 78, 79], .ren [0, 1, 2], .join 3 (X.go) (st 128 [(0, V.sl false 5 (List.map E5 o)), (2, V.ptr 0 0), (4, V.sc (.string r1.1)), (5, V.sc (.int .i64 r9.2.1)), (8, V.ow 1), (76, V.ow 2), (77, V.sc (.int .i64 (r9.1.length : Int))), (78, V.sc (.int .i64 v4))] [Blk.box 25 [V.sc (.string ByteArray.empty), V.nl 48], Blk.row 3 (List.map E3 v5) [], Blk.row 3 (List.map E3 r9.1) []] []), .wait 1, .mask [0, 2, 4, 5, 8, 76, 77, 78], .ren [0, 1, 2], .join 12 (X.ret) (st 128 [(2, V.ptr 0 0), (3, V.sc (.int .i64 2))] [Blk.box 25 [V.sc (.string ByteArray.empty), V.nl 48]] []), .wait 1, .mask [2, 3], .ren [0]] (p := [HT Tryd.prog (sub (codeOf Tryd.prog 23) [1, 1, 1, 1, 1, 1, 1, 0, 1, 0, 1, 1, 1, 1, 0, 0, 1, 0]) (st 128 [(0, V.sl false 5 (List.map E5 o)), (2, V.ptr 0 0), (4, V.sc (.string r1.1)), (5, V.sc (.int .i64 r9.2.1)), (8, V.ow 1), (76, V.ow 2), (77, V.sc (.int .i64 (r9.1.length : Int))), (78, V.sc (.int .i64 v4)), (79, V.sc (.bool (decide (v4 < (r9.1.length : Int)))))] [Blk.box 25 [V.sc (.string ByteArray.empty), V.nl 48], Blk.row 3 (List.map E3 v5) [], Blk.row 3 (List.map E3 r9.1) []] []) (X.go) (st 128 [(0, V.sl false 5 (List.map E5 o)), (2, V.ptr 0 0), (4, V.sc (.string r1.1)), (5, V.sc (.int .i64 r9.2.1)), (8, V.ow 1), (76, V.ow 2), (77, V.sc (.int .i64 (r9.1.length : Int))), (78, V.sc (.int .i64 v4))] [Blk.box 25 [V.sc (.string ByteArray.empty), V.nl 48], Blk.row 3 (List.map E3 v5) [], Blk.row 3 (List.map E3 r9.1) []] []),
      HT Tryd.prog (sub (codeOf Tryd.prog 23) [1, 1, 1, 1, 1, 1, 1, 0, 1, 0, 1, 1, 1, 1, 0, 0, 1, 1, 0]) (st 128 [(0, V.sl false 5 (List.map E5 o)), (2, V.ptr 0 0), (4, V.sc (.string r1.1)), (5, V.sc (.int .i64 r9.2.1)), (8, V.ow 1), (76, V.ow 2), (77, V.sc (.int .i64 (r9.1.length : Int))), (78, V.sc (.int .i64 v4))] [Blk.box 25 [V.sc (.string ByteArray.empty), V.nl 48], Blk.row 3 (List.map E3 v5) [], Blk.row 3 (List.map E3 r9.1) []] []) (X.ret) (st 128 [(2, V.ptr 0 0), (3, V.sc (.int .i64 2))] [Blk.box 25 [V.sc (.string ByteArray.empty), V.nl 48]] [])]) (by kernel_rfl) (show X.ret ≠ X.go from nofun) (cj ((impl_Parse_c11_ok o r1 r9 v4 v5 r11 h35).at h36) (cj1 ((impl_Parse_c12_ok o r1 r9 v4 v5 r14 h46).at h48))))))) (fun s14 h37 =>
     Pn.some (LpO.out [.wait 2, .mask [0, 2, 4, 5, 8, 76, 77, 78, 79], .ren [0, 1, 2], .join 3 (X.out 3) (st 128 [(0, V.sl false 5 (List.map E5 o)), (2, V.ptr 0 0), (4, V.sc (.string r1.1)), (5, V.sc (.int .i64 r9.2.1)), (8, V.ow 1)] [Blk.box 25 [V.sc (.string ByteArray.empty), V.nl 48], Blk.row 3 (List.map E3 v5) []] []), .wait 1, .mask [0, 2, 4, 5, 8], .ren [0, 1]] (p := [HT Tryd.prog (sub (codeOf Tryd.prog 23) [1, 1, 1, 1, 1, 1, 1, 0, 1, 0, 1, 1, 1, 1, 0, 0, 1, 0]) (st 128 [(0, V.sl false 5 (List.map E5 o)), (2, V.ptr 0 0), (4, V.sc (.string r1.1)), (5, V.sc (.int .i64 r9.2.1)), (8, V.ow 1), (76, V.ow 2), (77, V.sc (.int .i64 (r9.1.length : Int))), (78, V.sc (.int .i64 v4)), (79, V.sc (.bool (decide (v4 < (r9.1.length : Int)))))] [Blk.box 25 [V.sc (.string ByteArray.empty), V.nl 48], Blk.row 3 (List.map E3 v5) [], Blk.row 3 (List.map E3 r9.1) []] []) (X.out 3) (st 128 [(0, V.sl false 5 (List.map E5 o)), (2, V.ptr 0 0), (4, V.sc (.string r1.1)), (5, V.sc (.int .i64 r9.2.1)), (8, V.ow 1)] [Blk.box 25 [V.sc (.string ByteArray.empty), V.nl 48], Blk.row 3 (List.map E3 v5) []] [])]) (by kernel_rfl) (show X.out 3 ≠ X.go from nofun) (cj1 ((impl_Parse_c11_ok o r1 r9 v4 v5 r11 h35).at h37)))))
def impl_Parse_c6 (o : List Int) (r1 : ByteArray × Int × Bool) (r3 : (List Int) × Int × Bool) (s9 : Bool × (List Int)) : Option (Lo (Int × (List Int)) Unit) :=
 if s9.1 = true then
 (impl_GetBits o r3.2.1).bind fun r9 =>
 (impl_Parse_c7 o r1 s9 r9).bind fun r10 =>
 Lo.elim r10 (fun s11 =>
 (impl_Parse_l1 o r1 r9 FUEL 0 s9.2).bind fun r15 =>
 Lo.elim r15 (fun s19 =>
 some (.out (r9.2.1, s19))) (fun s20 =>
 some (.ret ()))) (fun s12 =>
 some (.ret ()))
 else
 some (.out (r3.2.1, s9.2))
theorem impl_Parse_c6_ok (o : List Int) (r1 : ByteArray × Int × Bool) (r3 : (List Int) × Int × Bool) (s9 : Bool × (List Int)) : Pn (JnO Tryd.prog (sub (codeOf Tryd.prog 23) [1, 1, 1, 1, 1, 1, 1, 0]) (st 128 [(0, V.sl false 5 (List.map E5 o)), (2, V.ptr 0 0), (4, V.sc (.string r1.1)), (5, V.sc (.int .i64 r3.2.1)), (8, V.ow 1), (9, V.sc (.bool s9.1))] [Blk.box 25 [V.sc (.string ByteArray.empty), V.nl 48], Blk.row 3 (List.map E3 s9.2) []] []) (fun (y : Lo (Int × (List Int)) Unit) => Lo.elim y (fun s => (X.go, st 128 [(0, V.sl false 5 (List.map E5 o)), (2, V.ptr 0 0), (4, V.sc (.string r1.1)), (5, V.sc (.int .i64 s.1)), (8, V.ow 1)] [Blk.box 25 [V.sc (.string ByteArray.empty), V.nl 48], Blk.row 3 (List.map E3 s.2) []] [])) (fun s => (X.ret, st 128 [(2, V.ptr 0 0), (3, V.sc (.int .i64 2))] [Blk.box 25 [V.sc (.string ByteArray.empty), V.nl 48]] [])))) (impl_Parse_c6 o r1 r3 s9) := by
  unfold impl_Parse_c6
  exact
   Pn.ite (fun h27 =>
   Pn.bind (fun r9 h28 =>
   Pn.bind (fun r10 h31 =>
   Pn.lo (fun s11 h32 =>
   Pn.bind (fun r15 h49 =>
   Pn.lo (fun s19 h50 =>
   Pn.some (JnO.of [.bit true, .call [] (V.tup [E35 r9.1, E3 r9.2.1, E4 r9.2.2]) [], .wait 8, .mask [0, 2, 4, 5, 6, 8, 12], .ren [0, 1, 2], .join 7 (X.go) (st 128 [(0, V.sl false 5 (List.map E5 o)), (2, V.ptr 0 0), (4, V.sc (.string r1.1)), (5, V.sc (.int .i64 r9.2.1)), (8, V.ow 1), (12, V.ow 2)] [Blk.box 25 [V.sc (.string ByteArray.empty), V.nl 48], Blk.row 3 (List.map E3 s9.2) [], Blk.row 3 (List.map E3 r9.1) []] []), .wait 2, .nm 77 (V.sc (.int .i64 (r9.1.length : Int))), .wait 2, .mask [0, 2, 4, 5, 8, 76, 77, 78], .ren [0, 1, 2], .loop (X.out 3) (st 128 [(0, V.sl false 5 (List.map E5 o)), (2, V.ptr 0 0), (4, V.sc (.string r1.1)), (5, V.sc (.int .i64 r9.2.1)), (8, V.ow 1)] [Blk.box 25 [V.sc (.string ByteArray.empty), V.nl 48], Blk.row 3 (List.map E3 s19) []] []), .wait 1, .mask [0, 2, 4, 5, 8], .ren [0, 1]] (p := [s9.1 = true,
    Fn Tryd.prog 41 [(false, E22 o), (false, E3 r3.2.1)] (V.tup [E35 r9.1, E3 r9.2.1, E4 r9.2.2]) [],
    (true || ((V.tup [E35 r9.1, E3 r9.2.1, E4 r9.2.2]).nv && nvL [])) = true,
    HT Tryd.prog (sub (codeOf Tryd.prog 23) [1, 1, 1, 1, 1, 1, 1, 0, 1, 0, 1, 1, 0]) (st 128 [(0, V.sl false 5 (List.map E5 o)), (2, V.ptr 0 0), (4, V.sc (.string r1.1)), (5, V.sc (.int .i64 r9.2.1)), (6, V.sc (.bool r9.2.2)), (8, V.ow 1), (12, V.ow 2)] [Blk.box 25 [V.sc (.string ByteArray.empty), V.nl 48], Blk.row 3 (List.map E3 s9.2) [], Blk.row 3 (List.map E3 r9.1) []] []) (X.go) (st 128 [(0, V.sl false 5 (List.map E5 o)), (2, V.ptr 0 0), (4, V.sc (.string r1.1)), (5, V.sc (.int .i64 r9.2.1)), (8, V.ow 1), (12, V.ow 2)] [Blk.box 25 [V.sc (.string ByteArray.empty), V.nl 48], Blk.row 3 (List.map E3 s9.2) [], Blk.row 3 (List.map E3 r9.1) []] []),
    V.sc (.int .i64 ((List.map E3 r9.1).length : Int)) = V.sc (.int .i64 (r9.1.length : Int)),
    Loop Tryd.prog (sub (codeOf Tryd.prog 23) [1, 1, 1, 1, 1, 1, 1, 0, 1, 0, 1, 1, 1, 1, 0, 0]) (st 128 [(0, V.sl false 5 (List.map E5 o)), (2, V.ptr 0 0), (4, V.sc (.string r1.1)), (5, V.sc (.int .i64 r9.2.1)), (8, V.ow 1), (76, V.ow 2), (77, V.sc (.int .i64 (r9.1.length : Int))), (78, V.sc (.int .i64 0))] [Blk.box 25 [V.sc (.string ByteArray.empty), V.nl 48], Blk.row 3 (List.map E3 s9.2) [], Blk.row 3 (List.map E3 r9.1) []] []) (X.out 3) (st 128 [(0, V.sl false 5 (List.map E5 o)), (2, V.ptr 0 0), (4, V.sc (.string r1.1)), (5, V.sc (.int .i64 r9.2.1)), (8, V.ow 1)] [Blk.box 25 [V.sc (.string ByteArray.empty), V.nl 48], Blk.row 3 (List.map E3 s19) []] [])]) (by kernel_rfl) (cj h27 (cj (impl_GetBits_ok o r3.2.1 r9 h28) (cj rfl (cj ((impl_Parse_c7_ok o r1 s9 r9 r10 h31).at h32) (cj (len_nm _ _) (cj1 ((impl_Parse_l1_ok o r1 r9 FUEL 0 s9.2 r15 h49).at h50))))))))) (fun s20 h51 =>
   Pn.some (JnO.of [.bit true, .call [] (V.tup [E35 r9.1, E3 r9.2.1, E4 r9.2.2]) [], .wait 8, .mask [0, 2, 4, 5, 6, 8, 12], .ren [0, 1, 2], .join 7 (X.go) (st 128 [(0, V.sl false 5 (List.map E5 o)), (2, V.ptr 0 0), (4, V.sc (.string r1.1)), (5, V.sc (.int .i64 r9.2.1)), (8, V.ow 1), (12, V.ow 2)] [Blk.box 25 [V.sc (.string ByteArray.empty), V.nl 48], Blk.row 3 (List.map E3 s9.2) [], Blk.row 3 (List.map E3 r9.1) []] []), .wait 2, .nm 77 (V.sc (.int .i64 (r9.1.length : Int))), .wait 2, .mask [0, 2, 4, 5, 8, 76, 77, 78], .ren [0, 1, 2], .loop (X.ret) (st 128 [(2, V.ptr 0 0), (3, V.sc (.int .i64 2))] [Blk.box 25 [V.sc (.string ByteArray.empty), V.nl 48]] []), .wait 1, .mask [2, 3], .ren [0]] (p := [s9.1 = true,
    Fn Tryd.prog 41 [(false, E22 o), (false, E3 r3.2.1)] (V.tup [E35 r9.1, E3 r9.2.1, E4 r9.2.2]) [],
    (true || ((V.tup [E35 r9.1, E3 r9.2.1, E4 r9.2.2]).nv && nvL [])) = true,
    HT Tryd.prog (sub (codeOf Tryd.prog 23) [1, 1, 1, 1, 1, 1, 1, 0, 1, 0, 1, 1, 0]) (st 128 [(0, V.sl false 5 (List.map E5 o)), (2, V.ptr 0 0), (4, V.sc (.string r1.1)), (5, V.sc (.int .i64 r9.2.1)), (6, V.sc (.bool r9.2.2)), (8, V.ow 1), (12, V.ow 2)] [Blk.box 25 [V.sc (.string ByteArray.empty), V.nl 48], Blk.row 3 (List.map E3 s9.2) [], Blk.row 3 (List.map E3 r9.1) []] []) (X.go) (st 128 [(0, V.sl false 5 (List.map E5 o)), (2, V.ptr 0 0), (4, V.sc (.string r1.1)), (5, V.sc (.int .i64 r9.2.1)), (8, V.ow 1), (12, V.ow 2)] [Blk.box 25 [V.sc (.string ByteArray.empty), V.nl 48], Blk.row 3 (List.map E3 s9.2) [], Blk.row 3 (List.map E3 r9.1) []] []),
    V.sc (.int .i64 ((List.map E3 r9.1).length : Int)) = V.sc (.int .i64 (r9.1.length : Int)),
    Loop Tryd.prog (sub (codeOf Tryd.prog 23) [1, 1, 1, 1, 1, 1, 1, 0, 1, 0, 1, 1, 1, 1, 0, 0]) (st 128 [(0, V.sl false 5 (List.map E5 o)), (2, V.ptr 0 0), (4, V.sc (.string r1.1)), (5, V.sc (.int .i64 r9.2.1)), (8, V.ow 1), (76, V.ow 2), (77, V.sc (.int .i64 (r9.1.length : Int))), (78, V.sc (.int .i64 0))] [Blk.box 25 [V.sc (.string ByteArray.empty), V.nl 48], Blk.row 3 (List.map E3 s9.2) [], Blk.row 3 (List.map E3 r9.1) []] []) (X.ret) (st 128 [(2, V.ptr 0 0), (3, V.sc (.int .i64 2))] [Blk.box 25 [V.sc (.string ByteArray.empty), V.nl 48]] [])]) (by kernel_rfl) (cj h27 (cj (impl_GetBits_ok o r3.2.1 r9 h28) (cj rfl (cj ((impl_Parse_c7_ok o r1 s9 r9 r10 h31).at h32) (cj (len_nm _ _) (cj1 ((impl_Parse_l1_ok o r1 r9 FUEL 0 s9.2 r15 h49).at h51))))))))))) (fun s12 h33 =>
   Pn.some (JnO.of [.bit true, .call [] (V.tup [E35 r9.1, E3 r9.2.1, E4 r9.2.2]) [], .wait 8, .mask [0, 2, 4, 5, 6, 8, 12], .ren [0, 1, 2], .join 7 (X.ret) (st 128 [(2, V.ptr 0 0), (3, V.sc (.int .i64 2))] [Blk.box 25 [V.sc (.string ByteArray.empty), V.nl 48]] []), .wait 1, .mask [2, 3], .ren [0]] (p := [s9.1 = true,
    Fn Tryd.prog 41 [(false, E22 o), (false, E3 r3.2.1)] (V.tup [E35 r9.1, E3 r9.2.1, E4 r9.2.2]) [],
    (true || ((V.tup [E35 r9.1, E3 r9.2.1, E4 r9.2.2]).nv && nvL [])) = true,
    HT Tryd.prog (sub (codeOf Tryd.prog 23) [1, 1, 1, 1, 1, 1, 1, 0, 1, 0, 1, 1, 0]) (st 128 [(0, V.sl false 5 (List.map E5 o)), (2, V.ptr 0 0), (4, V.sc (.string r1.1)), (5, V.sc (.int .i64 r9.2.1)), (6, V.sc (.bool r9.2.2)), (8, V.ow 1), (12, V.ow 2)] [Blk.box 25 [V.sc (.string ByteArray.empty), V.nl 48], Blk.row 3 (List.map E3 s9.2) [], Blk.row 3 (List.map E3 r9.1) []] []) (X.ret) (st 128 [(2, V.ptr 0 0), (3, V.sc (.int .i64 2))] [Blk.box 25 [V.sc (.string ByteArray.empty), V.nl 48]] [])]) (by kernel_rfl) (cj h27 (cj (impl_GetBits_ok o r3.2.1 r9 h28) (cj rfl (cj1 ((impl_Parse_c7_ok o r1 s9 r9 r10 h31).at h33)))))))))) (fun h27 =>
   Pn.some (JnO.of [.bit false, .mask [0, 2, 4, 5, 8], .ren [0, 1]] (p := [s9.1 = false]) (by kernel_rfl) (cj1 h27)))
def impl_Parse_c20 (o : List Int) (r1 : ByteArray × Int × Bool) (s21 : Int × (List Int)) (v6 : Int) (v7 : Int) (v8 : List Field) : Option (Lo Unit Unit) :=
 if (decide (v7 < (s21.2.length : Int))) = true then
 some (.out ())
 else
 some (.ret ())
theorem impl_Parse_c20_ok (o : List Int) (r1 : ByteArray × Int × Bool) (s21 : Int × (List Int)) (v6 : Int) (v7 : Int) (v8 : List Field) : Pn (JnO Tryd.prog (sub (codeOf Tryd.prog 23) [1, 1, 1, 1, 1, 1, 1, 1, 1, 0, 1, 0, 0, 1, 0]) (st 128 [(0, V.sl false 5 (List.map E5 o)), (2, V.ptr 0 0), (5, V.sc (.int .i64 v6)), (15, V.ptr 1 0), (95, V.ow 3), (96, V.sc (.int .i64 (s21.2.length : Int))), (97, V.sc (.int .i64 v7)), (98, V.sc (.bool (decide (v7 < (s21.2.length : Int)))))] [Blk.box 25 [V.sc (.string ByteArray.empty), V.nl 48], Blk.box 25 [V.sc (.string r1.1), V.ow 2], Blk.row 48 (List.map E48 v8) [], Blk.row 3 (List.map E3 s21.2) []] []) (fun (y : Lo Unit Unit) => Lo.elim y (fun s => (X.go, st 128 [(0, V.sl false 5 (List.map E5 o)), (2, V.ptr 0 0), (5, V.sc (.int .i64 v6)), (15, V.ptr 1 0), (95, V.ow 3), (96, V.sc (.int .i64 (s21.2.length : Int))), (97, V.sc (.int .i64 v7))] [Blk.box 25 [V.sc (.string ByteArray.empty), V.nl 48], Blk.box 25 [V.sc (.string r1.1), V.ow 2], Blk.row 48 (List.map E48 v8) [], Blk.row 3 (List.map E3 s21.2) []] [])) (fun s => (X.out 5, st 128 [(0, V.sl false 5 (List.map E5 o)), (2, V.ptr 0 0), (5, V.sc (.int .i64 v6)), (15, V.ptr 1 0)] [Blk.box 25 [V.sc (.string ByteArray.empty), V.nl 48], Blk.box 25 [V.sc (.string r1.1), V.ow 2], Blk.row 48 (List.map E48 v8) []] [])))) (impl_Parse_c20 o r1 s21 v6 v7 v8) := by
  unfold impl_Parse_c20
  exact
   Pn.ite (fun h55 =>
   Pn.some (JnO.of [.bit true, .mask [0, 2, 5, 15, 95, 96, 97], .ren [0, 1, 2, 3]] (p := [(decide (v7 < (s21.2.length : Int))) = true]) (by kernel_rfl) (cj1 h55))) (fun h55 =>
   Pn.some (JnO.of [.bit false, .mask [0, 2, 5, 15], .ren [0, 1, 2]] (p := [(decide (v7 < (s21.2.length : Int))) = false]) (by kernel_rfl) (cj1 h55)))
def impl_Parse_c22 (o : List Int) (r1 : ByteArray × Int × Bool) (s21 : Int × (List Int)) (v7 : Int) (v8 : List Field) (x3 : Int) (r18 : ByteArray × Int × Bool) : Option (Lo Unit Unit) :=
 if r18.2.2 = true then
 some (.out ())
 else
 some (.ret ())
theorem impl_Parse_c22_ok (o : List Int) (r1 : ByteArray × Int × Bool) (s21 : Int × (List Int)) (v7 : Int) (v8 : List Field) (x3 : Int) (r18 : ByteArray × Int × Bool) : Pn (JnO Tryd.prog (sub (codeOf Tryd.prog 23) [1, 1, 1, 1, 1, 1, 1, 1, 1, 0, 1, 0, 0, 1, 1, 0, 0, 1, 1, 0]) (st 128 [(0, V.sl false 5 (List.map E5 o)), (2, V.ptr 0 0), (15, V.ptr 1 0), (17, V.sc (.int .i64 x3)), (18, V.sc (.string r18.1)), (19, V.sc (.int .i64 r18.2.1)), (20, V.sc (.bool r18.2.2)), (95, V.ow 3), (96, V.sc (.int .i64 (s21.2.length : Int))), (97, V.sc (.int .i64 v7))] [Blk.box 25 [V.sc (.string ByteArray.empty), V.nl 48], Blk.box 25 [V.sc (.string r1.1), V.ow 2], Blk.row 48 (List.map E48 v8) [], Blk.row 3 (List.map E3 s21.2) []] []) (fun (y : Lo Unit Unit) => Lo.elim y (fun s => (X.go, st 128 [(0, V.sl false 5 (List.map E5 o)), (2, V.ptr 0 0), (15, V.ptr 1 0), (17, V.sc (.int .i64 x3)), (18, V.sc (.string r18.1)), (19, V.sc (.int .i64 r18.2.1)), (95, V.ow 3), (96, V.sc (.int .i64 (s21.2.length : Int))), (97, V.sc (.int .i64 v7))] [Blk.box 25 [V.sc (.string ByteArray.empty), V.nl 48], Blk.box 25 [V.sc (.string r1.1), V.ow 2], Blk.row 48 (List.map E48 v8) [], Blk.row 3 (List.map E3 s21.2) []] [])) (fun s => (X.ret, st 128 [(2, V.ptr 0 0), (3, V.sc (.int .i64 3))] [Blk.box 25 [V.sc (.string ByteArray.empty), V.nl 48]] [])))) (impl_Parse_c22 o r1 s21 v7 v8 x3 r18) := by
  unfold impl_Parse_c22
  exact
   Pn.ite (fun h62 =>
   Pn.some (JnO.of [.bit false, .mask [0, 2, 15, 17, 18, 19, 95, 96, 97], .ren [0, 1, 2, 3]] (p := [(!r18.2.2) = false]) (by kernel_rfl) (cj1 (nf h62)))) (fun h62 =>
   Pn.some (JnO.of [.bit true, .wait 3, .mask [2, 3], .ren [0]] (p := [(!r18.2.2) = true]) (by kernel_rfl) (cj1 (nt h62))))
def impl_Parse_c21 (o : List Int) (r1 : ByteArray × Int × Bool) (s21 : Int × (List Int)) (v6 : Int) (v7 : Int) (v8 : List Field) : Option (Lo (Int × (List Field)) Unit) :=
 if (decide (0 ≤ v7)) = true then
 (s21.2[v7.toNat]?).bind fun x3 =>
 (impl_GetField o v6 x3).bind fun r18 =>
 (impl_Parse_c22 o r1 s21 v7 v8 x3 r18).bind fun r19 =>
 Lo.elim r19 (fun s25 =>
 if (capOk (v8.length + 1)) = true then
 some (.out (r18.2.1, (v8 ++ [(Field.mk x3 r18.1)])))
 else none) (fun s26 =>
 some (.ret ()))
 else none
theorem impl_Parse_c21_ok (o : List Int) (r1 : ByteArray × Int × Bool) (s21 : Int × (List Int)) (v6 : Int) (v7 : Int) (v8 : List Field) : Pn (JnO Tryd.prog (sub (codeOf Tryd.prog 23) [1, 1, 1, 1, 1, 1, 1, 1, 1, 0, 1, 0, 0, 1, 1, 0]) (st 128 [(0, V.sl false 5 (List.map E5 o)), (2, V.ptr 0 0), (5, V.sc (.int .i64 v6)), (15, V.ptr 1 0), (95, V.ow 3), (96, V.sc (.int .i64 (s21.2.length : Int))), (97, V.sc (.int .i64 v7))] [Blk.box 25 [V.sc (.string ByteArray.empty), V.nl 48], Blk.box 25 [V.sc (.string r1.1), V.ow 2], Blk.row 48 (List.map E48 v8) [], Blk.row 3 (List.map E3 s21.2) []] []) (fun (y : Lo (Int × (List Field)) Unit) => Lo.elim y (fun s => (X.go, st 128 [(0, V.sl false 5 (List.map E5 o)), (2, V.ptr 0 0), (5, V.sc (.int .i64 s.1)), (15, V.ptr 1 0), (95, V.ow 3), (96, V.sc (.int .i64 (s21.2.length : Int))), (97, V.sc (.int .i64 v7))] [Blk.box 25 [V.sc (.string ByteArray.empty), V.nl 48], Blk.box 25 [V.sc (.string r1.1), V.ow 2], Blk.row 48 (List.map E48 s.2) [], Blk.row 3 (List.map E3 s21.2) []] [])) (fun s => (X.ret, st 128 [(2, V.ptr 0 0), (3, V.sc (.int .i64 3))] [Blk.box 25 [V.sc (.string ByteArray.empty), V.nl 48]] [])))) (impl_Parse_c21 o r1 s21 v6 v7 v8) := by
  unfold impl_Parse_c21
  exact
   Pn.ite (fun h59 =>
   Pn.bind (fun x3 h60 =>
   Pn.bind (fun r18 h61 =>
   Pn.bind (fun r19 h63 =>
   Pn.lo (fun s25 h64 =>
   Pn.ite (fun h66 =>
   Pn.some (JnO.of [.el (E3 x3), .call [] (V.tup [E9 r18.1, E3 r18.2.1, E4 r18.2.2]) [], .wait 8, .mask [0, 2, 15, 17, 18, 19, 20, 95, 96, 97], .ren [0, 1, 2, 3], .join 7 (X.go) (st 128 [(0, V.sl false 5 (List.map E5 o)), (2, V.ptr 0 0), (15, V.ptr 1 0), (17, V.sc (.int .i64 x3)), (18, V.sc (.string r18.1)), (19, V.sc (.int .i64 r18.2.1)), (95, V.ow 3), (96, V.sc (.int .i64 (s21.2.length : Int))), (97, V.sc (.int .i64 v7))] [Blk.box 25 [V.sc (.string ByteArray.empty), V.nl 48], Blk.box 25 [V.sc (.string r1.1), V.ow 2], Blk.row 48 (List.map E48 v8) [], Blk.row 3 (List.map E3 s21.2) []] []), .cp [V.agg [V.sc (.int .i64 x3), V.sc (.string r18.1)]], .nb 5 (.row 48 (List.map E48 (v8 ++ [(Field.mk x3 r18.1)])) []), .wait 5, .mask [0, 2, 5, 15, 95, 96, 97], .ren [0, 1, 5, 3]] (p := [(0 : Int) ≤ v7,
    (v7 : Int) < ((List.map E3 s21.2).length : Int),
    look [] v7.toNat = none,
    (List.map E3 s21.2)[v7.toNat]? = some (E3 x3),
    Fn Tryd.prog 42 [(false, E22 o), (false, E3 v6), (false, E3 x3)] (V.tup [E9 r18.1, E3 r18.2.1, E4 r18.2.2]) [],
    (true || ((V.tup [E9 r18.1, E3 r18.2.1, E4 r18.2.2]).nv && nvL [])) = true,
    HT Tryd.prog (sub (codeOf Tryd.prog 23) [1, 1, 1, 1, 1, 1, 1, 1, 1, 0, 1, 0, 0, 1, 1, 0, 0, 1, 1, 0]) (st 128 [(0, V.sl false 5 (List.map E5 o)), (2, V.ptr 0 0), (15, V.ptr 1 0), (17, V.sc (.int .i64 x3)), (18, V.sc (.string r18.1)), (19, V.sc (.int .i64 r18.2.1)), (20, V.sc (.bool r18.2.2)), (95, V.ow 3), (96, V.sc (.int .i64 (s21.2.length : Int))), (97, V.sc (.int .i64 v7))] [Blk.box 25 [V.sc (.string ByteArray.empty), V.nl 48], Blk.box 25 [V.sc (.string r1.1), V.ow 2], Blk.row 48 (List.map E48 v8) [], Blk.row 3 (List.map E3 s21.2) []] []) (X.go) (st 128 [(0, V.sl false 5 (List.map E5 o)), (2, V.ptr 0 0), (15, V.ptr 1 0), (17, V.sc (.int .i64 x3)), (18, V.sc (.string r18.1)), (19, V.sc (.int .i64 r18.2.1)), (95, V.ow 3), (96, V.sc (.int .i64 (s21.2.length : Int))), (97, V.sc (.int .i64 v7))] [Blk.box 25 [V.sc (.string ByteArray.empty), V.nl 48], Blk.box 25 [V.sc (.string r1.1), V.ow 2], Blk.row 48 (List.map E48 v8) [], Blk.row 3 (List.map E3 s21.2) []] []),
    [V.agg [V.sc (.int .i64 x3), V.sc (.string r18.1)]] = [V.agg [V.sc (.int .i64 x3), V.sc (.string r18.1)]],
    [V.agg [V.sc (.int .i64 x3), V.sc (.string r18.1)]].all V.flatE = true,
    (List.map E48 v8).length + [V.agg [V.sc (.int .i64 x3), V.sc (.string r18.1)]].length ≤ 9223372036854775807,
    ((List.map E48 v8).length + [V.agg [V.sc (.int .i64 x3), V.sc (.string r18.1)]].length) * 24 ≤ 140737488355328,
    Blk.row 48 ((List.map E48 v8) ++ [V.agg [V.sc (.int .i64 x3), V.sc (.string r18.1)]]) [] = Blk.row 48 (List.map E48 (v8 ++ [(Field.mk x3 r18.1)])) []]) (by kernel_rfl) (cj (od h59) (cj (map_ltN (od h59) h60) (cj rfl (cj (map_get h60) (cj (impl_GetField_ok o v6 x3 r18 h61) (cj rfl (cj ((impl_Parse_c22_ok o r1 s21 v7 v8 x3 r18 r19 h63).at h64) (cj rfl (cj rfl (cj (cap1 (capN (by simp) h66)) (cj (cap2 (capN (by simp) h66) (by decide)) (cj1 (nb_app E48 v8 [(Field.mk x3 r18.1)]))))))))))))))) (fun h66 =>
   Pn.none)) (fun s26 h65 =>
   Pn.some (JnO.of [.el (E3 x3), .call [] (V.tup [E9 r18.1, E3 r18.2.1, E4 r18.2.2]) [], .wait 8, .mask [0, 2, 15, 17, 18, 19, 20, 95, 96, 97], .ren [0, 1, 2, 3], .join 7 (X.ret) (st 128 [(2, V.ptr 0 0), (3, V.sc (.int .i64 3))] [Blk.box 25 [V.sc (.string ByteArray.empty), V.nl 48]] []), .wait 1, .mask [2, 3], .ren [0]] (p := [(0 : Int) ≤ v7,
    (v7 : Int) < ((List.map E3 s21.2).length : Int),
    look [] v7.toNat = none,
    (List.map E3 s21.2)[v7.toNat]? = some (E3 x3),
    Fn Tryd.prog 42 [(false, E22 o), (false, E3 v6), (false, E3 x3)] (V.tup [E9 r18.1, E3 r18.2.1, E4 r18.2.2]) [],
    (true || ((V.tup [E9 r18.1, E3 r18.2.1, E4 r18.2.2]).nv && nvL [])) = true,
    HT Tryd.prog (sub (codeOf Tryd.prog 23) [1, 1, 1, 1, 1, 1, 1, 1, 1, 0, 1, 0, 0, 1, 1, 0, 0, 1, 1, 0]) (st 128 [(0, V.sl false 5 (List.map E5 o)), (2, V.ptr 0 0), (15, V.ptr 1 0), (17, V.sc (.int .i64 x3)), (18, V.sc (.string r18.1)), (19, V.sc (.int .i64 r18.2.1)), (20, V.sc (.bool r18.2.2)), (95, V.ow 3), (96, V.sc (.int .i64 (s21.2.length : Int))), (97, V.sc (.int .i64 v7))] [Blk.box 25 [V.sc (.string ByteArray.empty), V.nl 48], Blk.box 25 [V.sc (.string r1.1), V.ow 2], Blk.row 48 (List.map E48 v8) [], Blk.row 3 (List.map E3 s21.2) []] []) (X.ret) (st 128 [(2, V.ptr 0 0), (3, V.sc (.int .i64 3))] [Blk.box 25 [V.sc (.string ByteArray.empty), V.nl 48]] [])]) (by kernel_rfl) (cj (od h59) (cj (map_ltN (od h59) h60) (cj rfl (cj (map_get h60) (cj (impl_GetField_ok o v6 x3 r18 h61) (cj rfl (cj1 ((impl_Parse_c22_ok o r1 s21 v7 v8 x3 r18 r19 h63).at h65)))))))))))))) (fun h59 =>
   Pn.none)
def impl_Parse_l2 (o : List Int) (r1 : ByteArray × Int × Bool) (s21 : Int × (List Int)) : Nat → Int → Int → (List Field) → Option (Lo (Int × (List Field)) Unit)
  | 0, _, _, _ => none
  | fuel + 1, v6, v7, v8 =>
   (impl_Parse_c20 o r1 s21 v6 v7 v8).bind fun r17 =>
   Lo.elim r17 (fun s23 =>
   (impl_Parse_c21 o r1 s21 v6 v7 v8).bind fun r20 =>
   Lo.elim r20 (fun s27 =>
   impl_Parse_l2 o r1 s21 fuel s27.1 (i64 (v7 + 1)) s27.2) (fun s28 =>
   some (.ret ()))) (fun s24 =>
   some (.out (v6, v8)))
theorem impl_Parse_l2_ok (o : List Int) (r1 : ByteArray × Int × Bool) (s21 : Int × (List Int)) : ∀ (fuel : Nat) (v6 : Int) (v7 : Int) (v8 : List Field), Pn (LpO Tryd.prog (sub (codeOf Tryd.prog 23) [1, 1, 1, 1, 1, 1, 1, 1, 1, 0, 1, 0, 0]) (st 128 [(0, V.sl false 5 (List.map E5 o)), (2, V.ptr 0 0), (5, V.sc (.int .i64 v6)), (15, V.ptr 1 0), (95, V.ow 3), (96, V.sc (.int .i64 (s21.2.length : Int))), (97, V.sc (.int .i64 v7))] [Blk.box 25 [V.sc (.string ByteArray.empty), V.nl 48], Blk.box 25 [V.sc (.string r1.1), V.ow 2], Blk.row 48 (List.map E48 v8) [], Blk.row 3 (List.map E3 s21.2) []] []) (fun (y : Lo (Int × (List Field)) Unit) => Lo.elim y (fun s => (X.out 5, st 128 [(0, V.sl false 5 (List.map E5 o)), (2, V.ptr 0 0), (5, V.sc (.int .i64 s.1)), (15, V.ptr 1 0)] [Blk.box 25 [V.sc (.string ByteArray.empty), V.nl 48], Blk.box 25 [V.sc (.string r1.1), V.ow 2], Blk.row 48 (List.map E48 s.2) []] [])) (fun s => (X.ret, st 128 [(2, V.ptr 0 0), (3, V.sc (.int .i64 3))] [Blk.box 25 [V.sc (.string ByteArray.empty), V.nl 48]] [])))) (impl_Parse_l2 o r1 s21 fuel v6 v7 v8)
  | 0, _, _, _ => Pn.none
  | fuel + 1, v6, v7, v8 => by
    unfold impl_Parse_l2
    exact
     Pn.bind (fun r17 h56 =>
     Pn.lo (fun s23 h57 =>
     Pn.bind (fun r20 h67 =>
     Pn.lo (fun s27 h68 =>
     LpO.go [.wait 2, .mask [0, 2, 5, 15, 95, 96, 97, 98], .ren [0, 1, 2, 3], .join 3 (X.go) (st 128 [(0, V.sl false 5 (List.map E5 o)), (2, V.ptr 0 0), (5, V.sc (.int .i64 v6)), (15, V.ptr 1 0), (95, V.ow 3), (96, V.sc (.int .i64 (s21.2.length : Int))), (97, V.sc (.int .i64 v7))] [Blk.box 25 [V.sc (.string ByteArray.empty), V.nl 48], Blk.box 25 [V.sc (.string r1.1), V.ow 2], Blk.row 48 (List.map E48 v8) [], Blk.row 3 (List.map E3 s21.2) []] []), .wait 1, .mask [0, 2, 5, 15, 95, 96, 97], .ren [0, 1, 2, 3], .join 14 (X.go) (st 128 [(0, V.sl false 5 (List.map E5 o)), (2, V.ptr 0 0), (5, V.sc (.int .i64 s27.1)), (15, V.ptr 1 0), (95, V.ow 3), (96, V.sc (.int .i64 (s21.2.length : Int))), (97, V.sc (.int .i64 v7))] [Blk.box 25 [V.sc (.string ByteArray.empty), V.nl 48], Blk.box 25 [V.sc (.string r1.1), V.ow 2], Blk.row 48 (List.map E48 s27.2) [], Blk.row 3 (List.map E3 s21.2) []] []), .wait 3, .mask [0, 2, 5, 15, 95, 96, 97], .ren [0, 1, 2, 3]] (p := [HT Tryd.prog (sub (codeOf Tryd.prog 23) [1, 1, 1, 1, 1, 1, 1, 1, 1, 0, 1, 0, 0, 1, 0]) (st 128 [(0, V.sl false 5 (List.map E5 o)), (2, V.ptr 0 0), (5, V.sc (.int .i64 v6)), (15, V.ptr 1 0), (95, V.ow 3), (96, V.sc (.int .i64 (s21.2.length : Int))), (97, V.sc (.int .i64 v7)), (98, V.sc (.bool (decide (v7 < (s21.2.length : Int)))))] [Blk.box 25 [V.sc (.string ByteArray.empty), V.nl 48], Blk.box 25 [V.sc (.string r1.1), V.ow 2], Blk.row 48 (List.map E48 v8) [], Blk.row 3 (List.map E3 s21.2) []] []) (X.go) (st 128 [(0, V.sl false 5 (List.map E5 o)), (2, V.ptr 0 0), (5, V.sc (.int .i64 v6)), (15, V.ptr 1 0), (95, V.ow 3), (96, V.sc (.int .i64 (s21.2.length : Int))), (97, V.sc (.int .i64 v7))] [Blk.box 25 [V.sc (.string ByteArray.empty), V.nl 48], Blk.box 25 [V.sc (.string r1.1), V.ow 2], Blk.row 48 (List.map E48 v8) [], Blk.row 3 (List.map E3 s21.2) []] []),
      HT Tryd.prog (sub (codeOf Tryd.prog 23) [1, 1, 1, 1, 1, 1, 1, 1, 1, 0, 1, 0, 0, 1, 1, 0]) (st 128 [(0, V.sl false 5 (List.map E5 o)), (2, V.ptr 0 0), (5, V.sc (.int .i64 v6)), (15, V.ptr 1 0), (95, V.ow 3), (96, V.sc (.int .i64 (s21.2.length : Int))), (97, V.sc (.int .i64 v7))] [Blk.box 25 [V.sc (.string ByteArray.empty), V.nl 48], Blk.box 25 [V.sc (.string r1.1), V.ow 2], Blk.row 48 (List.map E48 v8) [], Blk.row 3 (List.map E3 s21.2) []] []) (X.go) (st 128 [(0, V.sl false 5 (List.map E5 o)), (2, V.ptr 0 0), (5, V.sc (.int .i64 s27.1)), (15, V.ptr 1 0), (95, V.ow 3), (96, V.sc (.int .i64 (s21.2.length : Int))), (97, V.sc (.int .i64 v7))] [Blk.box 25 [V.sc (.string ByteArray.empty), V.nl 48], Blk.box 25 [V.sc (.string r1.1), V.ow 2], Blk.row 48 (List.map E48 s27.2) [], Blk.row 3 (List.map E3 s21.2) []] [])]) (by kernel_rfl) (cj ((impl_Parse_c20_ok o r1 s21 v6 v7 v8 r17 h56).at h57) (cj1 ((impl_Parse_c21_ok o r1 s21 v6 v7 v8 r20 h67).at h68))) (impl_Parse_l2_ok o r1 s21 fuel s27.1 (i64 (v7 + 1)) s27.2)) (fun s28 h69 =>
     Pn.some (LpO.out [.wait 2, .mask [0, 2, 5, 15, 95, 96, 97, 98], .ren [0, 1, 2, 3], .join 3 (X.go) (st 128 [(0, V.sl false 5 (List.map E5 o)), (2, V.ptr 0 0), (5, V.sc (.int .i64 v6)), (15, V.ptr 1 0), (95, V.ow 3), (96, V.sc (.int .i64 (s21.2.length : Int))), (97, V.sc (.int .i64 v7))] [Blk.box 25 [V.sc (.string ByteArray.empty), V.nl 48], Blk.box 25 [V.sc (.string r1.1), V.ow 2], Blk.row 48 (List.map E48 v8) [], Blk.row 3 (List.map E3 s21.2) []] []), .wait 1, .mask [0, 2, 5, 15, 95, 96, 97], .ren [0, 1, 2, 3], .join 14 (X.ret) (st 128 [(2, V.ptr 0 0), (3, V.sc (.int .i64 3))] [Blk.box 25 [V.sc (.string ByteArray.empty), V.nl 48]] []), .wait 1, .mask [2, 3], .ren [0]] (p := [HT Tryd.prog (sub (codeOf Tryd.prog 23) [1, 1, 1, 1, 1, 1, 1, 1, 1, 0, 1, 0, 0, 1, 0]) (st 128 [(0, V.sl false 5 (List.map E5 o)), (2, V.ptr 0 0), (5, V.sc (.int .i64 v6)), (15, V.ptr 1 0), (95, V.ow 3), (96, V.sc (.int .i64 (s21.2.length : Int))), (97, V.sc (.int .i64 v7)), (98, V.sc (.bool (decide (v7 < (s21.2.length : Int)))))] [Blk.box 25 [V.sc (.string ByteArray.empty), V.nl 48], Blk.box 25 [V.sc (.string r1.1), V.ow 2], Blk.row 48 (List.map E48 v8) [], Blk.row 3 (List.map E3 s21.2) []] []) (X.go) (st 128 [(0, V.sl false 5 (List.map E5 o)), (2, V.ptr 0 0), (5, V.sc (.int .i64 v6)), (15, V.ptr 1 0), (95, V.ow 3), (96, V.sc (.int .i64 (s21.2.length : Int))), (97, V.sc (.int .i64 v7))] [Blk.box 25 [V.sc (.string ByteArray.empty), V.nl 48], Blk.box 25 [V.sc (.string r1.1), V.ow 2], Blk.row 48 (List.map E48 v8) [], Blk.row 3 (List.map E3 s21.2) []] []),
      HT Tryd.prog (sub (codeOf Tryd.prog 23) [1, 1, 1, 1, 1, 1, 1, 1, 1, 0, 1, 0, 0, 1, 1, 0]) (st 128 [(0, V.sl false 5 (List.map E5 o)), (2, V.ptr 0 0), (5, V.sc (.int .i64 v6)), (15, V.ptr 1 0), (95, V.ow 3), (96, V.sc (.int .i64 (s21.2.length : Int))), (97, V.sc (.int .i64 v7))] [Blk.box 25 [V.sc (.string ByteArray.empty), V.nl 48], Blk.box 25 [V.sc (.string r1.1), V.ow 2], Blk.row 48 (List.map E48 v8) [], Blk.row 3 (List.map E3 s21.2) []] []) (X.ret) (st 128 [(2, V.ptr 0 0), (3, V.sc (.int .i64 3))] [Blk.box 25 [V.sc (.string ByteArray.empty), V.nl 48]] [])]) (by kernel_rfl) (show X.ret ≠ X.go from nofun) (cj ((impl_Parse_c20_ok o r1 s21 v6 v7 v8 r17 h56).at h57) (cj1 ((impl_Parse_c21_ok o r1 s21 v6 v7 v8 r20 h67).at h69))))))) (fun s24 h58 =>
     Pn.some (LpO.out [.wait 2, .mask [0, 2, 5, 15, 95, 96, 97, 98], .ren [0, 1, 2, 3], .join 3 (X.out 5) (st 128 [(0, V.sl false 5 (List.map E5 o)), (2, V.ptr 0 0), (5, V.sc (.int .i64 v6)), (15, V.ptr 1 0)] [Blk.box 25 [V.sc (.string ByteArray.empty), V.nl 48], Blk.box 25 [V.sc (.string r1.1), V.ow 2], Blk.row 48 (List.map E48 v8) []] []), .wait 1, .mask [0, 2, 5, 15], .ren [0, 1, 2]] (p := [HT Tryd.prog (sub (codeOf Tryd.prog 23) [1, 1, 1, 1, 1, 1, 1, 1, 1, 0, 1, 0, 0, 1, 0]) (st 128 [(0, V.sl false 5 (List.map E5 o)), (2, V.ptr 0 0), (5, V.sc (.int .i64 v6)), (15, V.ptr 1 0), (95, V.ow 3), (96, V.sc (.int .i64 (s21.2.length : Int))), (97, V.sc (.int .i64 v7)), (98, V.sc (.bool (decide (v7 < (s21.2.length : Int)))))] [Blk.box 25 [V.sc (.string ByteArray.empty), V.nl 48], Blk.box 25 [V.sc (.string r1.1), V.ow 2], Blk.row 48 (List.map E48 v8) [], Blk.row 3 (List.map E3 s21.2) []] []) (X.out 5) (st 128 [(0, V.sl false 5 (List.map E5 o)), (2, V.ptr 0 0), (5, V.sc (.int .i64 v6)), (15, V.ptr 1 0)] [Blk.box 25 [V.sc (.string ByteArray.empty), V.nl 48], Blk.box 25 [V.sc (.string r1.1), V.ow 2], Blk.row 48 (List.map E48 v8) []] [])]) (by kernel_rfl) (show X.out 5 ≠ X.go from nofun) (cj1 ((impl_Parse_c20_ok o r1 s21 v6 v7 v8 r17 h56).at h58)))))
def impl_Parse_c23 (o : List Int) (r1 : ByteArray × Int × Bool) (s29 : Int × (List Field)) : Option (Lo Unit Unit) :=
 if (s29.1 != (o.length : Int)) = true then
 some (.ret ())
 else
 some (.out ())
theorem impl_Parse_c23_ok (o : List Int) (r1 : ByteArray × Int × Bool) (s29 : Int × (List Field)) : Pn (JnO Tryd.prog (sub (codeOf Tryd.prog 23) [1, 1, 1, 1, 1, 1, 1, 1, 1, 1, 0]) (st 128 [(0, V.sl false 5 (List.map E5 o)), (2, V.ptr 0 0), (5, V.sc (.int .i64 s29.1)), (15, V.ptr 1 0)] [Blk.box 25 [V.sc (.string ByteArray.empty), V.nl 48], Blk.box 25 [V.sc (.string r1.1), V.ow 2], Blk.row 48 (List.map E48 s29.2) []] []) (fun (y : Lo Unit Unit) => Lo.elim y (fun s => (X.go, st 128 [(2, V.ptr 0 0), (15, V.ptr 1 0)] [Blk.box 25 [V.sc (.string ByteArray.empty), V.nl 48], Blk.box 25 [V.sc (.string r1.1), V.ow 2], Blk.row 48 (List.map E48 s29.2) []] [])) (fun s => (X.ret, st 128 [(2, V.ptr 0 0), (3, V.sc (.int .i64 4))] [Blk.box 25 [V.sc (.string ByteArray.empty), V.nl 48]] [])))) (impl_Parse_c23 o r1 s29) := by
  unfold impl_Parse_c23
  exact
   Pn.ite (fun h73 =>
   Pn.some (JnO.of [.wait 3, .nm 124 (V.sc (.int .i64 (o.length : Int))), .bit true, .wait 3, .mask [2, 3], .ren [0]] (p := [V.sc (.int .i64 ((List.map E5 o).length : Int)) = V.sc (.int .i64 (o.length : Int)),
    (s29.1 != (o.length : Int)) = true]) (by kernel_rfl) (cj (len_nm _ _) (cj1 h73)))) (fun h73 =>
   Pn.some (JnO.of [.wait 3, .nm 124 (V.sc (.int .i64 (o.length : Int))), .bit false, .mask [2, 15], .ren [0, 1, 2]] (p := [V.sc (.int .i64 ((List.map E5 o).length : Int)) = V.sc (.int .i64 (o.length : Int)),
    (s29.1 != (o.length : Int)) = false]) (by kernel_rfl) (cj (len_nm _ _) (cj1 h73))))
def impl_Parse (o : List Int) : Option (Msg × Int) :=
 (impl_GetBcd o 0 4).bind fun r1 =>
 (impl_Parse_c0 o r1).bind fun r2 =>
 Lo.elim r2 (fun s1 =>
 (impl_GetBits o r1.2.1).bind fun r3 =>
 (impl_Parse_c1 o r1 r3).bind fun r4 =>
 Lo.elim r4 (fun s3 =>
 (impl_Parse_l0 o r1 r3 FUEL 0 false []).bind fun r8 =>
 Lo.elim r8 (fun s9 =>
 (impl_Parse_c6 o r1 r3 s9).bind fun r16 =>
 Lo.elim r16 (fun s21 =>
 (impl_Parse_l2 o r1 s21 FUEL s21.1 0 []).bind fun r21 =>
 Lo.elim r21 (fun s29 =>
 (impl_Parse_c23 o r1 s29).bind fun r22 =>
 Lo.elim r22 (fun s31 =>
 some ((Msg.mk r1.1 s29.2), 0)) (fun s32 =>
 some ((Msg.mk ByteArray.empty []), 4))) (fun s30 =>
 some ((Msg.mk ByteArray.empty []), 3))) (fun s22 =>
 some ((Msg.mk ByteArray.empty []), 2))) (fun s10 =>
 some ((Msg.mk ByteArray.empty []), 2))) (fun s4 =>
 some ((Msg.mk ByteArray.empty []), 2))) (fun s2 =>
 some ((Msg.mk ByteArray.empty []), 1))
theorem impl_Parse_ok (o : List Int) : Pn (fun y => Fn Tryd.prog 23 [(false, E22 o)] (V.tup [E25 y.1, E3 y.2]) []) (impl_Parse o) := by
  unfold impl_Parse
  exact
   Pn.bind (fun r1 h1 =>
   Pn.bind (fun r2 h3 =>
   Pn.lo (fun s1 h4 =>
   Pn.bind (fun r3 h6 =>
   Pn.bind (fun r4 h8 =>
   Pn.lo (fun s3 h9 =>
   Pn.bind (fun r8 h24 =>
   Pn.lo (fun s9 h25 =>
   Pn.bind (fun r16 h52 =>
   Pn.lo (fun s21 h53 =>
   Pn.bind (fun r21 h70 =>
   Pn.lo (fun s29 h71 =>
   Pn.bind (fun r22 h74 =>
   Pn.lo (fun s31 h75 =>
   Pn.some (Fn.of [.call [] (V.tup [E9 r1.1, E3 r1.2.1, E4 r1.2.2]) [], .wait 8, .mask [0, 2, 4, 5, 6], .ren [0], .join 7 (X.go) (st 128 [(0, V.sl false 5 (List.map E5 o)), (2, V.ptr 0 0), (4, V.sc (.string r1.1)), (5, V.sc (.int .i64 r1.2.1))] [Blk.box 25 [V.sc (.string ByteArray.empty), V.nl 48]] []), .call [] (V.tup [E35 r3.1, E3 r3.2.1, E4 r3.2.2]) [], .wait 8, .mask [0, 2, 4, 5, 6, 7], .ren [0, 1], .join 7 (X.go) (st 128 [(0, V.sl false 5 (List.map E5 o)), (2, V.ptr 0 0), (4, V.sc (.string r1.1)), (5, V.sc (.int .i64 r3.2.1)), (7, V.ow 1)] [Blk.box 25 [V.sc (.string ByteArray.empty), V.nl 48], Blk.row 3 (List.map E3 r3.1) []] []), .wait 5, .nm 42 (V.sc (.int .i64 (r3.1.length : Int))), .wait 2, .mask [0, 2, 4, 5, 8, 9, 41, 42, 43], .ren [0, 2, 1], .loop (X.out 0) (st 128 [(0, V.sl false 5 (List.map E5 o)), (2, V.ptr 0 0), (4, V.sc (.string r1.1)), (5, V.sc (.int .i64 r3.2.1)), (8, V.ow 1), (9, V.sc (.bool s9.1))] [Blk.box 25 [V.sc (.string ByteArray.empty), V.nl 48], Blk.row 3 (List.map E3 s9.2) []] []), .wait 1, .mask [0, 2, 4, 5, 8, 9], .ren [0, 1], .join 40 (X.go) (st 128 [(0, V.sl false 5 (List.map E5 o)), (2, V.ptr 0 0), (4, V.sc (.string r1.1)), (5, V.sc (.int .i64 s21.1)), (8, V.ow 1)] [Blk.box 25 [V.sc (.string ByteArray.empty), V.nl 48], Blk.row 3 (List.map E3 s21.2) []] []), .wait 6, .nm 96 (V.sc (.int .i64 (s21.2.length : Int))), .wait 2, .mask [0, 2, 5, 15, 95, 96, 97], .ren [0, 2, 1], .ownb 1 1, .mask [0, 2, 5, 15, 95, 96, 97], .ren [0, 1, 3, 2], .loop (X.out 5) (st 128 [(0, V.sl false 5 (List.map E5 o)), (2, V.ptr 0 0), (5, V.sc (.int .i64 s29.1)), (15, V.ptr 1 0)] [Blk.box 25 [V.sc (.string ByteArray.empty), V.nl 48], Blk.box 25 [V.sc (.string r1.1), V.ow 2], Blk.row 48 (List.map E48 s29.2) []] []), .wait 1, .mask [0, 2, 5, 15], .ren [0, 1, 2], .join 7 (X.go) (st 128 [(2, V.ptr 0 0), (15, V.ptr 1 0)] [Blk.box 25 [V.sc (.string ByteArray.empty), V.nl 48], Blk.box 25 [V.sc (.string r1.1), V.ow 2], Blk.row 48 (List.map E48 s29.2) []] [])] (p := [Fn Tryd.prog 40 [(false, E22 o), (false, E3 0), (false, E3 4)] (V.tup [E9 r1.1, E3 r1.2.1, E4 r1.2.2]) [],
    (true || ((V.tup [E9 r1.1, E3 r1.2.1, E4 r1.2.2]).nv && nvL [])) = true,
    HT Tryd.prog (sub (codeOf Tryd.prog 23) [1, 1, 0]) (st 128 [(0, V.sl false 5 (List.map E5 o)), (2, V.ptr 0 0), (4, V.sc (.string r1.1)), (5, V.sc (.int .i64 r1.2.1)), (6, V.sc (.bool r1.2.2))] [Blk.box 25 [V.sc (.string ByteArray.empty), V.nl 48]] []) (X.go) (st 128 [(0, V.sl false 5 (List.map E5 o)), (2, V.ptr 0 0), (4, V.sc (.string r1.1)), (5, V.sc (.int .i64 r1.2.1))] [Blk.box 25 [V.sc (.string ByteArray.empty), V.nl 48]] []),
    Fn Tryd.prog 41 [(false, E22 o), (false, E3 r1.2.1)] (V.tup [E35 r3.1, E3 r3.2.1, E4 r3.2.2]) [],
    (true || ((V.tup [E35 r3.1, E3 r3.2.1, E4 r3.2.2]).nv && nvL [])) = true,
    HT Tryd.prog (sub (codeOf Tryd.prog 23) [1, 1, 1, 1, 0]) (st 128 [(0, V.sl false 5 (List.map E5 o)), (2, V.ptr 0 0), (4, V.sc (.string r1.1)), (5, V.sc (.int .i64 r3.2.1)), (6, V.sc (.bool r3.2.2)), (7, V.ow 1)] [Blk.box 25 [V.sc (.string ByteArray.empty), V.nl 48], Blk.row 3 (List.map E3 r3.1) []] []) (X.go) (st 128 [(0, V.sl false 5 (List.map E5 o)), (2, V.ptr 0 0), (4, V.sc (.string r1.1)), (5, V.sc (.int .i64 r3.2.1)), (7, V.ow 1)] [Blk.box 25 [V.sc (.string ByteArray.empty), V.nl 48], Blk.row 3 (List.map E3 r3.1) []] []),
    V.sc (.int .i64 ((List.map E3 r3.1).length : Int)) = V.sc (.int .i64 (r3.1.length : Int)),
    Loop Tryd.prog (sub (codeOf Tryd.prog 23) [1, 1, 1, 1, 1, 1, 0, 1, 0, 0]) (st 128 [(0, V.sl false 5 (List.map E5 o)), (2, V.ptr 0 0), (4, V.sc (.string r1.1)), (5, V.sc (.int .i64 r3.2.1)), (8, V.ow 1), (9, V.sc (.bool false)), (41, V.ow 2), (42, V.sc (.int .i64 (r3.1.length : Int))), (43, V.sc (.int .i64 0))] [Blk.box 25 [V.sc (.string ByteArray.empty), V.nl 48], Blk.row 3 ([] : List V) [], Blk.row 3 (List.map E3 r3.1) []] []) (X.out 0) (st 128 [(0, V.sl false 5 (List.map E5 o)), (2, V.ptr 0 0), (4, V.sc (.string r1.1)), (5, V.sc (.int .i64 r3.2.1)), (8, V.ow 1), (9, V.sc (.bool s9.1))] [Blk.box 25 [V.sc (.string ByteArray.empty), V.nl 48], Blk.row 3 (List.map E3 s9.2) []] []),
    HT Tryd.prog (sub (codeOf Tryd.prog 23) [1, 1, 1, 1, 1, 1, 1, 0]) (st 128 [(0, V.sl false 5 (List.map E5 o)), (2, V.ptr 0 0), (4, V.sc (.string r1.1)), (5, V.sc (.int .i64 r3.2.1)), (8, V.ow 1), (9, V.sc (.bool s9.1))] [Blk.box 25 [V.sc (.string ByteArray.empty), V.nl 48], Blk.row 3 (List.map E3 s9.2) []] []) (X.go) (st 128 [(0, V.sl false 5 (List.map E5 o)), (2, V.ptr 0 0), (4, V.sc (.string r1.1)), (5, V.sc (.int .i64 s21.1)), (8, V.ow 1)] [Blk.box 25 [V.sc (.string ByteArray.empty), V.nl 48], Blk.row 3 (List.map E3 s21.2) []] []),
    V.sc (.int .i64 ((List.map E3 s21.2).length : Int)) = V.sc (.int .i64 (s21.2.length : Int)),
    Loop Tryd.prog (sub (codeOf Tryd.prog 23) [1, 1, 1, 1, 1, 1, 1, 1, 1, 0, 1, 0, 0]) (st 128 [(0, V.sl false 5 (List.map E5 o)), (2, V.ptr 0 0), (5, V.sc (.int .i64 s21.1)), (15, V.ptr 1 0), (95, V.ow 3), (96, V.sc (.int .i64 (s21.2.length : Int))), (97, V.sc (.int .i64 0))] [Blk.box 25 [V.sc (.string ByteArray.empty), V.nl 48], Blk.box 25 [V.sc (.string r1.1), V.ow 2], Blk.row 48 ([] : List V) [], Blk.row 3 (List.map E3 s21.2) []] []) (X.out 5) (st 128 [(0, V.sl false 5 (List.map E5 o)), (2, V.ptr 0 0), (5, V.sc (.int .i64 s29.1)), (15, V.ptr 1 0)] [Blk.box 25 [V.sc (.string ByteArray.empty), V.nl 48], Blk.box 25 [V.sc (.string r1.1), V.ow 2], Blk.row 48 (List.map E48 s29.2) []] []),
    HT Tryd.prog (sub (codeOf Tryd.prog 23) [1, 1, 1, 1, 1, 1, 1, 1, 1, 1, 0]) (st 128 [(0, V.sl false 5 (List.map E5 o)), (2, V.ptr 0 0), (5, V.sc (.int .i64 s29.1)), (15, V.ptr 1 0)] [Blk.box 25 [V.sc (.string ByteArray.empty), V.nl 48], Blk.box 25 [V.sc (.string r1.1), V.ow 2], Blk.row 48 (List.map E48 s29.2) []] []) (X.go) (st 128 [(2, V.ptr 0 0), (15, V.ptr 1 0)] [Blk.box 25 [V.sc (.string ByteArray.empty), V.nl 48], Blk.box 25 [V.sc (.string r1.1), V.ow 2], Blk.row 48 (List.map E48 s29.2) []] [])]) (by kernel_rfl) (cj (impl_GetBcd_ok o 0 4 r1 h1) (cj rfl (cj ((impl_Parse_c0_ok o r1 r2 h3).at h4) (cj (impl_GetBits_ok o r1.2.1 r3 h6) (cj rfl (cj ((impl_Parse_c1_ok o r1 r3 r4 h8).at h9) (cj (len_nm _ _) (cj ((impl_Parse_l0_ok o r1 r3 FUEL 0 false [] r8 h24).at h25) (cj ((impl_Parse_c6_ok o r1 r3 s9 r16 h52).at h53) (cj (len_nm _ _) (cj ((impl_Parse_l2_ok o r1 s21 FUEL s21.1 0 [] r21 h70).at h71) (cj1 ((impl_Parse_c23_ok o r1 s29 r22 h74).at h75))))))))))))))) (fun s32 h76 =>
   Pn.some (Fn.of [.call [] (V.tup [E9 r1.1, E3 r1.2.1, E4 r1.2.2]) [], .wait 8, .mask [0, 2, 4, 5, 6], .ren [0], .join 7 (X.go) (st 128 [(0, V.sl false 5 (List.map E5 o)), (2, V.ptr 0 0), (4, V.sc (.string r1.1)), (5, V.sc (.int .i64 r1.2.1))] [Blk.box 25 [V.sc (.string ByteArray.empty), V.nl 48]] []), .call [] (V.tup [E35 r3.1, E3 r3.2.1, E4 r3.2.2]) [], .wait 8, .mask [0, 2, 4, 5, 6, 7], .ren [0, 1], .join 7 (X.go) (st 128 [(0, V.sl false 5 (List.map E5 o)), (2, V.ptr 0 0), (4, V.sc (.string r1.1)), (5, V.sc (.int .i64 r3.2.1)), (7, V.ow 1)] [Blk.box 25 [V.sc (.string ByteArray.empty), V.nl 48], Blk.row 3 (List.map E3 r3.1) []] []), .wait 5, .nm 42 (V.sc (.int .i64 (r3.1.length : Int))), .wait 2, .mask [0, 2, 4, 5, 8, 9, 41, 42, 43], .ren [0, 2, 1], .loop (X.out 0) (st 128 [(0, V.sl false 5 (List.map E5 o)), (2, V.ptr 0 0), (4, V.sc (.string r1.1)), (5, V.sc (.int .i64 r3.2.1)), (8, V.ow 1), (9, V.sc (.bool s9.1))] [Blk.box 25 [V.sc (.string ByteArray.empty), V.nl 48], Blk.row 3 (List.map E3 s9.2) []] []), .wait 1, .mask [0, 2, 4, 5, 8, 9], .ren [0, 1], .join 40 (X.go) (st 128 [(0, V.sl false 5 (List.map E5 o)), (2, V.ptr 0 0), (4, V.sc (.string r1.1)), (5, V.sc (.int .i64 s21.1)), (8, V.ow 1)] [Blk.box 25 [V.sc (.string ByteArray.empty), V.nl 48], Blk.row 3 (List.map E3 s21.2) []] []), .wait 6, .nm 96 (V.sc (.int .i64 (s21.2.length : Int))), .wait 2, .mask [0, 2, 5, 15, 95, 96, 97], .ren [0, 2, 1], .ownb 1 1, .mask [0, 2, 5, 15, 95, 96, 97], .ren [0, 1, 3, 2], .loop (X.out 5) (st 128 [(0, V.sl false 5 (List.map E5 o)), (2, V.ptr 0 0), (5, V.sc (.int .i64 s29.1)), (15, V.ptr 1 0)] [Blk.box 25 [V.sc (.string ByteArray.empty), V.nl 48], Blk.box 25 [V.sc (.string r1.1), V.ow 2], Blk.row 48 (List.map E48 s29.2) []] []), .wait 1, .mask [0, 2, 5, 15], .ren [0, 1, 2], .join 7 (X.ret) (st 128 [(2, V.ptr 0 0), (3, V.sc (.int .i64 4))] [Blk.box 25 [V.sc (.string ByteArray.empty), V.nl 48]] [])] (p := [Fn Tryd.prog 40 [(false, E22 o), (false, E3 0), (false, E3 4)] (V.tup [E9 r1.1, E3 r1.2.1, E4 r1.2.2]) [],
    (true || ((V.tup [E9 r1.1, E3 r1.2.1, E4 r1.2.2]).nv && nvL [])) = true,
    HT Tryd.prog (sub (codeOf Tryd.prog 23) [1, 1, 0]) (st 128 [(0, V.sl false 5 (List.map E5 o)), (2, V.ptr 0 0), (4, V.sc (.string r1.1)), (5, V.sc (.int .i64 r1.2.1)), (6, V.sc (.bool r1.2.2))] [Blk.box 25 [V.sc (.string ByteArray.empty), V.nl 48]] []) (X.go) (st 128 [(0, V.sl false 5 (List.map E5 o)), (2, V.ptr 0 0), (4, V.sc (.string r1.1)), (5, V.sc (.int .i64 r1.2.1))] [Blk.box 25 [V.sc (.string ByteArray.empty), V.nl 48]] []),
    Fn Tryd.prog 41 [(false, E22 o), (false, E3 r1.2.1)] (V.tup [E35 r3.1, E3 r3.2.1, E4 r3.2.2]) [],
    (true || ((V.tup [E35 r3.1, E3 r3.2.1, E4 r3.2.2]).nv && nvL [])) = true,
    HT Tryd.prog (sub (codeOf Tryd.prog 23) [1, 1, 1, 1, 0]) (st 128 [(0, V.sl false 5 (List.map E5 o)), (2, V.ptr 0 0), (4, V.sc (.string r1.1)), (5, V.sc (.int .i64 r3.2.1)), (6, V.sc (.bool r3.2.2)), (7, V.ow 1)] [Blk.box 25 [V.sc (.string ByteArray.empty), V.nl 48], Blk.row 3 (List.map E3 r3.1) []] []) (X.go) (st 128 [(0, V.sl false 5 (List.map E5 o)), (2, V.ptr 0 0), (4, V.sc (.string r1.1)), (5, V.sc (.int .i64 r3.2.1)), (7, V.ow 1)] [Blk.box 25 [V.sc (.string ByteArray.empty), V.nl 48], Blk.row 3 (List.map E3 r3.1) []] []),
    V.sc (.int .i64 ((List.map E3 r3.1).length : Int)) = V.sc (.int .i64 (r3.1.length : Int)),
    Loop Tryd.prog (sub (codeOf Tryd.prog 23) [1, 1, 1, 1, 1, 1, 0, 1, 0, 0]) (st 128 [(0, V.sl false 5 (List.map E5 o)), (2, V.ptr 0 0), (4, V.sc (.string r1.1)), (5, V.sc (.int .i64 r3.2.1)), (8, V.ow 1), (9, V.sc (.bool false)), (41, V.ow 2), (42, V.sc (.int .i64 (r3.1.length : Int))), (43, V.sc (.int .i64 0))] [Blk.box 25 [V.sc (.string ByteArray.empty), V.nl 48], Blk.row 3 ([] : List V) [], Blk.row 3 (List.map E3 r3.1) []] []) (X.out 0) (st 128 [(0, V.sl false 5 (List.map E5 o)), (2, V.ptr 0 0), (4, V.sc (.string r1.1)), (5, V.sc (.int .i64 r3.2.1)), (8, V.ow 1), (9, V.sc (.bool s9.1))] [Blk.box 25 [V.sc (.string ByteArray.empty), V.nl 48], Blk.row 3 (List.map E3 s9.2) []] []),
    HT Tryd.prog (sub (codeOf Tryd.prog 23) [1, 1, 1, 1, 1, 1, 1, 0]) (st 128 [(0, V.sl false 5 (List.map E5 o)), (2, V.ptr 0 0), (4, V.sc (.string r1.1)), (5, V.sc (.int .i64 r3.2.1)), (8, V.ow 1), (9, V.sc (.bool s9.1))] [Blk.box 25 [V.sc (.string ByteArray.empty), V.nl 48], Blk.row 3 (List.map E3 s9.2) []] []) (X.go) (st 128 [(0, V.sl false 5 (List.map E5 o)), (2, V.ptr 0 0), (4, V.sc (.string r1.1)), (5, V.sc (.int .i64 s21.1)), (8, V.ow 1)] [Blk.box 25 [V.sc (.string ByteArray.empty), V.nl 48], Blk.row 3 (List.map E3 s21.2) []] []),
    V.sc (.int .i64 ((List.map E3 s21.2).length : Int)) = V.sc (.int .i64 (s21.2.length : Int)),
    Loop Tryd.prog (sub (codeOf Tryd.prog 23) [1, 1, 1, 1, 1, 1, 1, 1, 1, 0, 1, 0, 0]) (st 128 [(0, V.sl false 5 (List.map E5 o)), (2, V.ptr 0 0), (5, V.sc (.int .i64 s21.1)), (15, V.ptr 1 0), (95, V.ow 3), (96, V.sc (.int .i64 (s21.2.length : Int))), (97, V.sc (.int .i64 0))] [Blk.box 25 [V.sc (.string ByteArray.empty), V.nl 48], Blk.box 25 [V.sc (.string r1.1), V.ow 2], Blk.row 48 ([] : List V) [], Blk.row 3 (List.map E3 s21.2) []] []) (X.out 5) (st 128 [(0, V.sl false 5 (List.map E5 o)), (2, V.ptr 0 0), (5, V.sc (.int .i64 s29.1)), (15, V.ptr 1 0)] [Blk.box 25 [V.sc (.string ByteArray.empty), V.nl 48], Blk.box 25 [V.sc (.string r1.1), V.ow 2], Blk.row 48 (List.map E48 s29.2) []] []),
    HT Tryd.prog (sub (codeOf Tryd.prog 23) [1, 1, 1, 1, 1, 1, 1, 1, 1, 1, 0]) (st 128 [(0, V.sl false 5 (List.map E5 o)), (2, V.ptr 0 0), (5, V.sc (.int .i64 s29.1)), (15, V.ptr 1 0)] [Blk.box 25 [V.sc (.string ByteArray.empty), V.nl 48], Blk.box 25 [V.sc (.string r1.1), V.ow 2], Blk.row 48 (List.map E48 s29.2) []] []) (X.ret) (st 128 [(2, V.ptr 0 0), (3, V.sc (.int .i64 4))] [Blk.box 25 [V.sc (.string ByteArray.empty), V.nl 48]] [])]) (by kernel_rfl) (cj (impl_GetBcd_ok o 0 4 r1 h1) (cj rfl (cj ((impl_Parse_c0_ok o r1 r2 h3).at h4) (cj (impl_GetBits_ok o r1.2.1 r3 h6) (cj rfl (cj ((impl_Parse_c1_ok o r1 r3 r4 h8).at h9) (cj (len_nm _ _) (cj ((impl_Parse_l0_ok o r1 r3 FUEL 0 false [] r8 h24).at h25) (cj ((impl_Parse_c6_ok o r1 r3 s9 r16 h52).at h53) (cj (len_nm _ _) (cj ((impl_Parse_l2_ok o r1 s21 FUEL s21.1 0 [] r21 h70).at h71) (cj1 ((impl_Parse_c23_ok o r1 s29 r22 h74).at h76))))))))))))))))) (fun s30 h72 =>
   Pn.some (Fn.of [.call [] (V.tup [E9 r1.1, E3 r1.2.1, E4 r1.2.2]) [], .wait 8, .mask [0, 2, 4, 5, 6], .ren [0], .join 7 (X.go) (st 128 [(0, V.sl false 5 (List.map E5 o)), (2, V.ptr 0 0), (4, V.sc (.string r1.1)), (5, V.sc (.int .i64 r1.2.1))] [Blk.box 25 [V.sc (.string ByteArray.empty), V.nl 48]] []), .call [] (V.tup [E35 r3.1, E3 r3.2.1, E4 r3.2.2]) [], .wait 8, .mask [0, 2, 4, 5, 6, 7], .ren [0, 1], .join 7 (X.go) (st 128 [(0, V.sl false 5 (List.map E5 o)), (2, V.ptr 0 0), (4, V.sc (.string r1.1)), (5, V.sc (.int .i64 r3.2.1)), (7, V.ow 1)] [Blk.box 25 [V.sc (.string ByteArray.empty), V.nl 48], Blk.row 3 (List.map E3 r3.1) []] []), .wait 5, .nm 42 (V.sc (.int .i64 (r3.1.length : Int))), .wait 2, .mask [0, 2, 4, 5, 8, 9, 41, 42, 43], .ren [0, 2, 1], .loop (X.out 0) (st 128 [(0, V.sl false 5 (List.map E5 o)), (2, V.ptr 0 0), (4, V.sc (.string r1.1)), (5, V.sc (.int .i64 r3.2.1)), (8, V.ow 1), (9, V.sc (.bool s9.1))] [Blk.box 25 [V.sc (.string ByteArray.empty), V.nl 48], Blk.row 3 (List.map E3 s9.2) []] []), .wait 1, .mask [0, 2, 4, 5, 8, 9], .ren [0, 1], .join 40 (X.go) (st 128 [(0, V.sl false 5 (List.map E5 o)), (2, V.ptr 0 0), (4, V.sc (.string r1.1)), (5, V.sc (.int .i64 s21.1)), (8, V.ow 1)] [Blk.box 25 [V.sc (.string ByteArray.empty), V.nl 48], Blk.row 3 (List.map E3 s21.2) []] []), .wait 6, .nm 96 (V.sc (.int .i64 (s21.2.length : Int))), .wait 2, .mask [0, 2, 5, 15, 95, 96, 97], .ren [0, 2, 1], .ownb 1 1, .mask [0, 2, 5, 15, 95, 96, 97], .ren [0, 1, 3, 2], .loop (X.ret) (st 128 [(2, V.ptr 0 0), (3, V.sc (.int .i64 3))] [Blk.box 25 [V.sc (.string ByteArray.empty), V.nl 48]] [])] (p := [Fn Tryd.prog 40 [(false, E22 o), (false, E3 0), (false, E3 4)] (V.tup [E9 r1.1, E3 r1.2.1, E4 r1.2.2]) [],
    (true || ((V.tup [E9 r1.1, E3 r1.2.1, E4 r1.2.2]).nv && nvL [])) = true,
    HT Tryd.prog (sub (codeOf Tryd.prog 23) [1, 1, 0]) (st 128 [(0, V.sl false 5 (List.map E5 o)), (2, V.ptr 0 0), (4, V.sc (.string r1.1)), (5, V.sc (.int .i64 r1.2.1)), (6, V.sc (.bool r1.2.2))] [Blk.box 25 [V.sc (.string ByteArray.empty), V.nl 48]] []) (X.go) (st 128 [(0, V.sl false 5 (List.map E5 o)), (2, V.ptr 0 0), (4, V.sc (.string r1.1)), (5, V.sc (.int .i64 r1.2.1))] [Blk.box 25 [V.sc (.string ByteArray.empty), V.nl 48]] []),
    Fn Tryd.prog 41 [(false, E22 o), (false, E3 r1.2.1)] (V.tup [E35 r3.1, E3 r3.2.1, E4 r3.2.2]) [],
    (true || ((V.tup [E35 r3.1, E3 r3.2.1, E4 r3.2.2]).nv && nvL [])) = true,
    HT Tryd.prog (sub (codeOf Tryd.prog 23) [1, 1, 1, 1, 0]) (st 128 [(0, V.sl false 5 (List.map E5 o)), (2, V.ptr 0 0), (4, V.sc (.string r1.1)), (5, V.sc (.int .i64 r3.2.1)), (6, V.sc (.bool r3.2.2)), (7, V.ow 1)] [Blk.box 25 [V.sc (.string ByteArray.empty), V.nl 48], Blk.row 3 (List.map E3 r3.1) []] []) (X.go) (st 128 [(0, V.sl false 5 (List.map E5 o)), (2, V.ptr 0 0), (4, V.sc (.string r1.1)), (5, V.sc (.int .i64 r3.2.1)), (7, V.ow 1)] [Blk.box 25 [V.sc (.string ByteArray.empty), V.nl 48], Blk.row 3 (List.map E3 r3.1) []] []),
    V.sc (.int .i64 ((List.map E3 r3.1).length : Int)) = V.sc (.int .i64 (r3.1.length : Int)),
    Loop Tryd.prog (sub (codeOf Tryd.prog 23) [1, 1, 1, 1, 1, 1, 0, 1, 0, 0]) (st 128 [(0, V.sl false 5 (List.map E5 o)), (2, V.ptr 0 0), (4, V.sc (.string r1.1)), (5, V.sc (.int .i64 r3.2.1)), (8, V.ow 1), (9, V.sc (.bool false)), (41, V.ow 2), (42, V.sc (.int .i64 (r3.1.length : Int))), (43, V.sc (.int .i64 0))] [Blk.box 25 [V.sc (.string ByteArray.empty), V.nl 48], Blk.row 3 ([] : List V) [], Blk.row 3 (List.map E3 r3.1) []] []) (X.out 0) (st 128 [(0, V.sl false 5 (List.map E5 o)), (2, V.ptr 0 0), (4, V.sc (.string r1.1)), (5, V.sc (.int .i64 r3.2.1)), (8, V.ow 1), (9, V.sc (.bool s9.1))] [Blk.box 25 [V.sc (.string ByteArray.empty), V.nl 48], Blk.row 3 (List.map E3 s9.2) []] []),
    HT Tryd.prog (sub (codeOf Tryd.prog 23) [1, 1, 1, 1, 1, 1, 1, 0]) (st 128 [(0, V.sl false 5 (List.map E5 o)), (2, V.ptr 0 0), (4, V.sc (.string r1.1)), (5, V.sc (.int .i64 r3.2.1)), (8, V.ow 1), (9, V.sc (.bool s9.1))] [Blk.box 25 [V.sc (.string ByteArray.empty), V.nl 48], Blk.row 3 (List.map E3 s9.2) []] []) (X.go) (st 128 [(0, V.sl false 5 (List.map E5 o)), (2, V.ptr 0 0), (4, V.sc (.string r1.1)), (5, V.sc (.int .i64 s21.1)), (8, V.ow 1)] [Blk.box 25 [V.sc (.string ByteArray.empty), V.nl 48], Blk.row 3 (List.map E3 s21.2) []] []),
    V.sc (.int .i64 ((List.map E3 s21.2).length : Int)) = V.sc (.int .i64 (s21.2.length : Int)),
    Loop Tryd.prog (sub (codeOf Tryd.prog 23) [1, 1, 1, 1, 1, 1, 1, 1, 1, 0, 1, 0, 0]) (st 128 [(0, V.sl false 5 (List.map E5 o)), (2, V.ptr 0 0), (5, V.sc (.int .i64 s21.1)), (15, V.ptr 1 0), (95, V.ow 3), (96, V.sc (.int .i64 (s21.2.length : Int))), (97, V.sc (.int .i64 0))] [Blk.box 25 [V.sc (.string ByteArray.empty), V.nl 48], Blk.box 25 [V.sc (.string r1.1), V.ow 2], Blk.row 48 ([] : List V) [], Blk.row 3 (List.map E3 s21.2) []] []) (X.ret) (st 128 [(2, V.ptr 0 0), (3, V.sc (.int .i64 3))] [Blk.box 25 [V.sc (.string ByteArray.empty), V.nl 48]] [])]) (by kernel_rfl) (cj (impl_GetBcd_ok o 0 4 r1 h1) (cj rfl (cj ((impl_Parse_c0_ok o r1 r2 h3).at h4) (cj (impl_GetBits_ok o r1.2.1 r3 h6) (cj rfl (cj ((impl_Parse_c1_ok o r1 r3 r4 h8).at h9) (cj (len_nm _ _) (cj ((impl_Parse_l0_ok o r1 r3 FUEL 0 false [] r8 h24).at h25) (cj ((impl_Parse_c6_ok o r1 r3 s9 r16 h52).at h53) (cj (len_nm _ _) (cj1 ((impl_Parse_l2_ok o r1 s21 FUEL s21.1 0 [] r21 h70).at h72)))))))))))))))) (fun s22 h54 =>
   Pn.some (Fn.of [.call [] (V.tup [E9 r1.1, E3 r1.2.1, E4 r1.2.2]) [], .wait 8, .mask [0, 2, 4, 5, 6], .ren [0], .join 7 (X.go) (st 128 [(0, V.sl false 5 (List.map E5 o)), (2, V.ptr 0 0), (4, V.sc (.string r1.1)), (5, V.sc (.int .i64 r1.2.1))] [Blk.box 25 [V.sc (.string ByteArray.empty), V.nl 48]] []), .call [] (V.tup [E35 r3.1, E3 r3.2.1, E4 r3.2.2]) [], .wait 8, .mask [0, 2, 4, 5, 6, 7], .ren [0, 1], .join 7 (X.go) (st 128 [(0, V.sl false 5 (List.map E5 o)), (2, V.ptr 0 0), (4, V.sc (.string r1.1)), (5, V.sc (.int .i64 r3.2.1)), (7, V.ow 1)] [Blk.box 25 [V.sc (.string ByteArray.empty), V.nl 48], Blk.row 3 (List.map E3 r3.1) []] []), .wait 5, .nm 42 (V.sc (.int .i64 (r3.1.length : Int))), .wait 2, .mask [0, 2, 4, 5, 8, 9, 41, 42, 43], .ren [0, 2, 1], .loop (X.out 0) (st 128 [(0, V.sl false 5 (List.map E5 o)), (2, V.ptr 0 0), (4, V.sc (.string r1.1)), (5, V.sc (.int .i64 r3.2.1)), (8, V.ow 1), (9, V.sc (.bool s9.1))] [Blk.box 25 [V.sc (.string ByteArray.empty), V.nl 48], Blk.row 3 (List.map E3 s9.2) []] []), .wait 1, .mask [0, 2, 4, 5, 8, 9], .ren [0, 1], .join 40 (X.ret) (st 128 [(2, V.ptr 0 0), (3, V.sc (.int .i64 2))] [Blk.box 25 [V.sc (.string ByteArray.empty), V.nl 48]] [])] (p := [Fn Tryd.prog 40 [(false, E22 o), (false, E3 0), (false, E3 4)] (V.tup [E9 r1.1, E3 r1.2.1, E4 r1.2.2]) [],
    (true || ((V.tup [E9 r1.1, E3 r1.2.1, E4 r1.2.2]).nv && nvL [])) = true,
    HT Tryd.prog (sub (codeOf Tryd.prog 23) [1, 1, 0]) (st 128 [(0, V.sl false 5 (List.map E5 o)), (2, V.ptr 0 0), (4, V.sc (.string r1.1)), (5, V.sc (.int .i64 r1.2.1)), (6, V.sc (.bool r1.2.2))] [Blk.box 25 [V.sc (.string ByteArray.empty), V.nl 48]] []) (X.go) (st 128 [(0, V.sl false 5 (List.map E5 o)), (2, V.ptr 0 0), (4, V.sc (.string r1.1)), (5, V.sc (.int .i64 r1.2.1))] [Blk.box 25 [V.sc (.string ByteArray.empty), V.nl 48]] []),
    Fn Tryd.prog 41 [(false, E22 o), (false, E3 r1.2.1)] (V.tup [E35 r3.1, E3 r3.2.1, E4 r3.2.2]) [],
    (true || ((V.tup [E35 r3.1, E3 r3.2.1, E4 r3.2.2]).nv && nvL [])) = true,
    HT Tryd.prog (sub (codeOf Tryd.prog 23) [1, 1, 1, 1, 0]) (st 128 [(0, V.sl false 5 (List.map E5 o)), (2, V.ptr 0 0), (4, V.sc (.string r1.1)), (5, V.sc (.int .i64 r3.2.1)), (6, V.sc (.bool r3.2.2)), (7, V.ow 1)] [Blk.box 25 [V.sc (.string ByteArray.empty), V.nl 48], Blk.row 3 (List.map E3 r3.1) []] []) (X.go) (st 128 [(0, V.sl false 5 (List.map E5 o)), (2, V.ptr 0 0), (4, V.sc (.string r1.1)), (5, V.sc (.int .i64 r3.2.1)), (7, V.ow 1)] [Blk.box 25 [V.sc (.string ByteArray.empty), V.nl 48], Blk.row 3 (List.map E3 r3.1) []] []),
    V.sc (.int .i64 ((List.map E3 r3.1).length : Int)) = V.sc (.int .i64 (r3.1.length : Int)),
    Loop Tryd.prog (sub (codeOf Tryd.prog 23) [1, 1, 1, 1, 1, 1, 0, 1, 0, 0]) (st 128 [(0, V.sl false 5 (List.map E5 o)), (2, V.ptr 0 0), (4, V.sc (.string r1.1)), (5, V.sc (.int .i64 r3.2.1)), (8, V.ow 1), (9, V.sc (.bool false)), (41, V.ow 2), (42, V.sc (.int .i64 (r3.1.length : Int))), (43, V.sc (.int .i64 0))] [Blk.box 25 [V.sc (.string ByteArray.empty), V.nl 48], Blk.row 3 ([] : List V) [], Blk.row 3 (List.map E3 r3.1) []] []) (X.out 0) (st 128 [(0, V.sl false 5 (List.map E5 o)), (2, V.ptr 0 0), (4, V.sc (.string r1.1)), (5, V.sc (.int .i64 r3.2.1)), (8, V.ow 1), (9, V.sc (.bool s9.1))] [Blk.box 25 [V.sc (.string ByteArray.empty), V.nl 48], Blk.row 3 (List.map E3 s9.2) []] []),
    HT Tryd.prog (sub (codeOf Tryd.prog 23) [1, 1, 1, 1, 1, 1, 1, 0]) (st 128 [(0, V.sl false 5 (List.map E5 o)), (2, V.ptr 0 0), (4, V.sc (.string r1.1)), (5, V.sc (.int .i64 r3.2.1)), (8, V.ow 1), (9, V.sc (.bool s9.1))] [Blk.box 25 [V.sc (.string ByteArray.empty), V.nl 48], Blk.row 3 (List.map E3 s9.2) []] []) (X.ret) (st 128 [(2, V.ptr 0 0), (3, V.sc (.int .i64 2))] [Blk.box 25 [V.sc (.string ByteArray.empty), V.nl 48]] [])]) (by kernel_rfl) (cj (impl_GetBcd_ok o 0 4 r1 h1) (cj rfl (cj ((impl_Parse_c0_ok o r1 r2 h3).at h4) (cj (impl_GetBits_ok o r1.2.1 r3 h6) (cj rfl (cj ((impl_Parse_c1_ok o r1 r3 r4 h8).at h9) (cj (len_nm _ _) (cj ((impl_Parse_l0_ok o r1 r3 FUEL 0 false [] r8 h24).at h25) (cj1 ((impl_Parse_c6_ok o r1 r3 s9 r16 h52).at h54)))))))))))))) (fun s10 h26 =>
   Pn.some (Fn.of [.call [] (V.tup [E9 r1.1, E3 r1.2.1, E4 r1.2.2]) [], .wait 8, .mask [0, 2, 4, 5, 6], .ren [0], .join 7 (X.go) (st 128 [(0, V.sl false 5 (List.map E5 o)), (2, V.ptr 0 0), (4, V.sc (.string r1.1)), (5, V.sc (.int .i64 r1.2.1))] [Blk.box 25 [V.sc (.string ByteArray.empty), V.nl 48]] []), .call [] (V.tup [E35 r3.1, E3 r3.2.1, E4 r3.2.2]) [], .wait 8, .mask [0, 2, 4, 5, 6, 7], .ren [0, 1], .join 7 (X.go) (st 128 [(0, V.sl false 5 (List.map E5 o)), (2, V.ptr 0 0), (4, V.sc (.string r1.1)), (5, V.sc (.int .i64 r3.2.1)), (7, V.ow 1)] [Blk.box 25 [V.sc (.string ByteArray.empty), V.nl 48], Blk.row 3 (List.map E3 r3.1) []] []), .wait 5, .nm 42 (V.sc (.int .i64 (r3.1.length : Int))), .wait 2, .mask [0, 2, 4, 5, 8, 9, 41, 42, 43], .ren [0, 2, 1], .loop (X.ret) (st 128 [(2, V.ptr 0 0), (3, V.sc (.int .i64 2))] [Blk.box 25 [V.sc (.string ByteArray.empty), V.nl 48]] [])] (p := [Fn Tryd.prog 40 [(false, E22 o), (false, E3 0), (false, E3 4)] (V.tup [E9 r1.1, E3 r1.2.1, E4 r1.2.2]) [],
    (true || ((V.tup [E9 r1.1, E3 r1.2.1, E4 r1.2.2]).nv && nvL [])) = true,
    HT Tryd.prog (sub (codeOf Tryd.prog 23) [1, 1, 0]) (st 128 [(0, V.sl false 5 (List.map E5 o)), (2, V.ptr 0 0), (4, V.sc (.string r1.1)), (5, V.sc (.int .i64 r1.2.1)), (6, V.sc (.bool r1.2.2))] [Blk.box 25 [V.sc (.string ByteArray.empty), V.nl 48]] []) (X.go) (st 128 [(0, V.sl false 5 (List.map E5 o)), (2, V.ptr 0 0), (4, V.sc (.string r1.1)), (5, V.sc (.int .i64 r1.2.1))] [Blk.box 25 [V.sc (.string ByteArray.empty), V.nl 48]] []),
    Fn Tryd.prog 41 [(false, E22 o), (false, E3 r1.2.1)] (V.tup [E35 r3.1, E3 r3.2.1, E4 r3.2.2]) [],
    (true || ((V.tup [E35 r3.1, E3 r3.2.1, E4 r3.2.2]).nv && nvL [])) = true,
    HT Tryd.prog (sub (codeOf Tryd.prog 23) [1, 1, 1, 1, 0]) (st 128 [(0, V.sl false 5 (List.map E5 o)), (2, V.ptr 0 0), (4, V.sc (.string r1.1)), (5, V.sc (.int .i64 r3.2.1)), (6, V.sc (.bool r3.2.2)), (7, V.ow 1)] [Blk.box 25 [V.sc (.string ByteArray.empty), V.nl 48], Blk.row 3 (List.map E3 r3.1) []] []) (X.go) (st 128 [(0, V.sl false 5 (List.map E5 o)), (2, V.ptr 0 0), (4, V.sc (.string r1.1)), (5, V.sc (.int .i64 r3.2.1)), (7, V.ow 1)] [Blk.box 25 [V.sc (.string ByteArray.empty), V.nl 48], Blk.row 3 (List.map E3 r3.1) []] []),
    V.sc (.int .i64 ((List.map E3 r3.1).length : Int)) = V.sc (.int .i64 (r3.1.length : Int)),
    Loop Tryd.prog (sub (codeOf Tryd.prog 23) [1, 1, 1, 1, 1, 1, 0, 1, 0, 0]) (st 128 [(0, V.sl false 5 (List.map E5 o)), (2, V.ptr 0 0), (4, V.sc (.string r1.1)), (5, V.sc (.int .i64 r3.2.1)), (8, V.ow 1), (9, V.sc (.bool false)), (41, V.ow 2), (42, V.sc (.int .i64 (r3.1.length : Int))), (43, V.sc (.int .i64 0))] [Blk.box 25 [V.sc (.string ByteArray.empty), V.nl 48], Blk.row 3 ([] : List V) [], Blk.row 3 (List.map E3 r3.1) []] []) (X.ret) (st 128 [(2, V.ptr 0 0), (3, V.sc (.int .i64 2))] [Blk.box 25 [V.sc (.string ByteArray.empty), V.nl 48]] [])]) (by kernel_rfl) (cj (impl_GetBcd_ok o 0 4 r1 h1) (cj rfl (cj ((impl_Parse_c0_ok o r1 r2 h3).at h4) (cj (impl_GetBits_ok o r1.2.1 r3 h6) (cj rfl (cj ((impl_Parse_c1_ok o r1 r3 r4 h8).at h9) (cj (len_nm _ _) (cj1 ((impl_Parse_l0_ok o r1 r3 FUEL 0 false [] r8 h24).at h26))))))))))))) (fun s4 h10 =>
   Pn.some (Fn.of [.call [] (V.tup [E9 r1.1, E3 r1.2.1, E4 r1.2.2]) [], .wait 8, .mask [0, 2, 4, 5, 6], .ren [0], .join 7 (X.go) (st 128 [(0, V.sl false 5 (List.map E5 o)), (2, V.ptr 0 0), (4, V.sc (.string r1.1)), (5, V.sc (.int .i64 r1.2.1))] [Blk.box 25 [V.sc (.string ByteArray.empty), V.nl 48]] []), .call [] (V.tup [E35 r3.1, E3 r3.2.1, E4 r3.2.2]) [], .wait 8, .mask [0, 2, 4, 5, 6, 7], .ren [0, 1], .join 7 (X.ret) (st 128 [(2, V.ptr 0 0), (3, V.sc (.int .i64 2))] [Blk.box 25 [V.sc (.string ByteArray.empty), V.nl 48]] [])] (p := [Fn Tryd.prog 40 [(false, E22 o), (false, E3 0), (false, E3 4)] (V.tup [E9 r1.1, E3 r1.2.1, E4 r1.2.2]) [],
    (true || ((V.tup [E9 r1.1, E3 r1.2.1, E4 r1.2.2]).nv && nvL [])) = true,
    HT Tryd.prog (sub (codeOf Tryd.prog 23) [1, 1, 0]) (st 128 [(0, V.sl false 5 (List.map E5 o)), (2, V.ptr 0 0), (4, V.sc (.string r1.1)), (5, V.sc (.int .i64 r1.2.1)), (6, V.sc (.bool r1.2.2))] [Blk.box 25 [V.sc (.string ByteArray.empty), V.nl 48]] []) (X.go) (st 128 [(0, V.sl false 5 (List.map E5 o)), (2, V.ptr 0 0), (4, V.sc (.string r1.1)), (5, V.sc (.int .i64 r1.2.1))] [Blk.box 25 [V.sc (.string ByteArray.empty), V.nl 48]] []),
    Fn Tryd.prog 41 [(false, E22 o), (false, E3 r1.2.1)] (V.tup [E35 r3.1, E3 r3.2.1, E4 r3.2.2]) [],
    (true || ((V.tup [E35 r3.1, E3 r3.2.1, E4 r3.2.2]).nv && nvL [])) = true,
    HT Tryd.prog (sub (codeOf Tryd.prog 23) [1, 1, 1, 1, 0]) (st 128 [(0, V.sl false 5 (List.map E5 o)), (2, V.ptr 0 0), (4, V.sc (.string r1.1)), (5, V.sc (.int .i64 r3.2.1)), (6, V.sc (.bool r3.2.2)), (7, V.ow 1)] [Blk.box 25 [V.sc (.string ByteArray.empty), V.nl 48], Blk.row 3 (List.map E3 r3.1) []] []) (X.ret) (st 128 [(2, V.ptr 0 0), (3, V.sc (.int .i64 2))] [Blk.box 25 [V.sc (.string ByteArray.empty), V.nl 48]] [])]) (by kernel_rfl) (cj (impl_GetBcd_ok o 0 4 r1 h1) (cj rfl (cj ((impl_Parse_c0_ok o r1 r2 h3).at h4) (cj (impl_GetBits_ok o r1.2.1 r3 h6) (cj rfl (cj1 ((impl_Parse_c1_ok o r1 r3 r4 h8).at h10)))))))))))) (fun s2 h5 =>
   Pn.some (Fn.of [.call [] (V.tup [E9 r1.1, E3 r1.2.1, E4 r1.2.2]) [], .wait 8, .mask [0, 2, 4, 5, 6], .ren [0], .join 7 (X.ret) (st 128 [(2, V.ptr 0 0), (3, V.sc (.int .i64 1))] [Blk.box 25 [V.sc (.string ByteArray.empty), V.nl 48]] [])] (p := [Fn Tryd.prog 40 [(false, E22 o), (false, E3 0), (false, E3 4)] (V.tup [E9 r1.1, E3 r1.2.1, E4 r1.2.2]) [],
    (true || ((V.tup [E9 r1.1, E3 r1.2.1, E4 r1.2.2]).nv && nvL [])) = true,
    HT Tryd.prog (sub (codeOf Tryd.prog 23) [1, 1, 0]) (st 128 [(0, V.sl false 5 (List.map E5 o)), (2, V.ptr 0 0), (4, V.sc (.string r1.1)), (5, V.sc (.int .i64 r1.2.1)), (6, V.sc (.bool r1.2.2))] [Blk.box 25 [V.sc (.string ByteArray.empty), V.nl 48]] []) (X.ret) (st 128 [(2, V.ptr 0 0), (3, V.sc (.int .i64 1))] [Blk.box 25 [V.sc (.string ByteArray.empty), V.nl 48]] [])]) (by kernel_rfl) (cj (impl_GetBcd_ok o 0 4 r1 h1) (cj rfl (cj1 ((impl_Parse_c0_ok o r1 r2 h3).at h5))))))))
def slices_Index_string_l0 (s_ : List ByteArray) (v_ : ByteArray) : List ByteArray → List ByteArray → Option (Lo Unit Int)
  | [], p1 =>
   some (.out ())
  | x1 :: t1, p1 =>
   if (v_ == x1) = true then
   some (.ret (p1.length : Int))
   else
   slices_Index_string_l0 s_ v_ t1 (p1 ++ [x1])
theorem slices_Index_string_l0_ok (s_ : List ByteArray) (v_ : ByteArray) (h2 : capOk s_.length = true) : ∀ (t1 p1 : List ByteArray) (_ : s_ = p1 ++ t1) , Pn (LpO Tryd.prog (sub (codeOf Tryd.prog 43) [1, 0, 1, 0, 0]) (st 19 [(0, V.sl false 9 (List.map E9 s_)), (1, V.sc (.string v_)), (7, V.sc (.int .i64 (s_.length : Int))), (8, V.sc (.int .i64 (p1.length : Int)))] [] []) (fun (y : Lo Unit Int) => Lo.elim y (fun s => (X.out 0, st 19 [] [] [])) (fun s => (X.ret, st 19 [(4, V.sc (.int .i64 s))] [] [])))) (slices_Index_string_l0 s_ v_ t1 p1)
  | [], p1, h1 => by
    unfold slices_Index_string_l0
    exact
     Pn.some (LpO.out [.bit false, .mask [], .ren []] (p := [(decide ((p1.length : Int) < (s_.length : Int))) = false]) (by kernel_rfl) (show X.out 0 ≠ X.go from nofun) (cj1 (rng_end h1)))
  | x1 :: t1, p1, h1 => by
    unfold slices_Index_string_l0
    exact
     Pn.ite (fun h3 =>
     Pn.some (LpO.out [.bit true, .el (E9 x1), .bit true, .wait 2, .mask [4], .ren []] (p := [(decide ((p1.length : Int) < (s_.length : Int))) = true,
      (0 : Int) ≤ (p1.length : Int),
      (List.map E9 s_)[(p1.length : Int).toNat]? = some (E9 x1),
      (v_ == x1) = true]) (by kernel_rfl) (show X.ret ≠ X.go from nofun) (cj (rng_lt h1) (cj (by omega) (cj (rng_get _ h1) (cj1 h3)))))) (fun h3 =>
     LpO.go [.bit true, .el (E9 x1), .bit false, .wait 2, .mask [0, 1, 7, 8], .ren [], .nm 8 (V.sc (.int .i64 ((p1 ++ [x1]).length : Int)))] (p := [(decide ((p1.length : Int) < (s_.length : Int))) = true,
      (0 : Int) ≤ (p1.length : Int),
      (List.map E9 s_)[(p1.length : Int).toNat]? = some (E9 x1),
      (v_ == x1) = false,
      V.sc (.int .i64 (i64 ((p1.length : Int) + 1))) = V.sc (.int .i64 ((p1 ++ [x1]).length : Int))]) (by kernel_rfl) (cj (rng_lt h1) (cj (by omega) (cj (rng_get _ h1) (cj h3 (cj1 (rng_next h1 h2)))))) (slices_Index_string_l0_ok s_ v_ h2 t1 (p1 ++ [x1]) (rng_step h1)))
def slices_Index_string (s_ : List ByteArray) (v_ : ByteArray) : Option (Int) :=
 if (capOk s_.length) = true then
 (slices_Index_string_l0 s_ v_ s_ []).bind fun r1 =>
 Lo.elim r1 (fun s1 =>
 some (-1)) (fun s2 =>
 some s2)
 else none
theorem slices_Index_string_ok (s_ : List ByteArray) (v_ : ByteArray) : Pn (fun y => Fn Tryd.prog 43 [(false, E59 s_), (false, E9 v_)] (E3 y) []) (slices_Index_string s_ v_) := by
  unfold slices_Index_string
  exact
   Pn.ite (fun h4 =>
   Pn.bind (fun r1 h5 =>
   Pn.lo (fun s1 h6 =>
   Pn.some (Fn.of [.wait 3, .nm 7 (V.sc (.int .i64 (s_.length : Int))), .wait 2, .mask [0, 1, 7, 8], .ren [], .loop (X.out 0) (st 19 [] [] [])] (p := [V.sc (.int .i64 ((List.map E9 s_).length : Int)) = V.sc (.int .i64 (s_.length : Int)),
    Loop Tryd.prog (sub (codeOf Tryd.prog 43) [1, 0, 1, 0, 0]) (st 19 [(0, V.sl false 9 (List.map E9 s_)), (1, V.sc (.string v_)), (7, V.sc (.int .i64 (s_.length : Int))), (8, V.sc (.int .i64 0))] [] []) (X.out 0) (st 19 [] [] [])]) (by kernel_rfl) (cj (len_nm _ _) (cj1 ((slices_Index_string_l0_ok s_ v_ h4 s_ [] rfl r1 h5).at h6))))) (fun s2 h7 =>
   Pn.some (Fn.of [.wait 3, .nm 7 (V.sc (.int .i64 (s_.length : Int))), .wait 2, .mask [0, 1, 7, 8], .ren [], .loop (X.ret) (st 19 [(4, V.sc (.int .i64 s2))] [] [])] (p := [V.sc (.int .i64 ((List.map E9 s_).length : Int)) = V.sc (.int .i64 (s_.length : Int)),
    Loop Tryd.prog (sub (codeOf Tryd.prog 43) [1, 0, 1, 0, 0]) (st 19 [(0, V.sl false 9 (List.map E9 s_)), (1, V.sc (.string v_)), (7, V.sc (.int .i64 (s_.length : Int))), (8, V.sc (.int .i64 0))] [] []) (X.ret) (st 19 [(4, V.sc (.int .i64 s2))] [] [])]) (by kernel_rfl) (cj (len_nm _ _) (cj1 ((slices_Index_string_l0_ok s_ v_ h4 s_ [] rfl r1 h5).at h7))))))) (fun h4 =>
   Pn.none)
def impl_TextRs (s_ : ByteArray) : Option (Int × Bool) :=
 (impl_rsTexts).bind fun r1 =>
 (slices_Index_string r1 s_).bind fun r2 =>
 some (imax r2 0, (decide (0 ≤ r2)))
theorem impl_TextRs_ok (s_ : ByteArray) : Pn (fun y => Fn Tryd.prog 24 [(false, E9 s_)] (V.tup [E3 y.1, E4 y.2]) []) (impl_TextRs s_) := by
  unfold impl_TextRs
  exact
   Pn.bind (fun r1 h1 =>
   Pn.bind (fun r2 h2 =>
   Pn.some (Fn.of [.call [] (E59 r1) [], .call [] (E3 r2) []] (p := [Fn Tryd.prog 33 [] (E59 r1) [],
    (true || ((E59 r1).nv && nvL [])) = true,
    Fn Tryd.prog 43 [(false, E59 r1), (false, E9 s_)] (E3 r2) [],
    (false || ((E3 r2).nv && nvL [])) = true]) (by kernel_rfl) (cj (impl_rsTexts_ok  r1 h1) (cj rfl (cj (slices_Index_string_ok r1 s_ r2 h2) (cj1 (by simp [V.nv, nvL, nvL_all, nv_E3]))))))))
def impl_ReplyCode (b : List Int) : Option (Int × Bool) :=
 (impl_Parse b).bind fun r1 =>
 (impl_FieldOf r1.1 39).bind fun r2 =>
 if (r1.2 != 0) = true then
 some (0, false)
 else
 if r2.2 = true then
 (impl_TextRs r2.1).bind fun r3 =>
 some (r3.1, r3.2)
 else
 some (0, false)
theorem impl_ReplyCode_ok (b : List Int) : Pn (fun y => Fn Tryd.prog 9 [(false, E22 b)] (V.tup [E3 y.1, E4 y.2]) []) (impl_ReplyCode b) := by
  unfold impl_ReplyCode
  exact
   Pn.bind (fun r1 h1 =>
   Pn.bind (fun r2 h2 =>
   Pn.ite (fun h3 =>
   Pn.some (Fn.of [.call [] (V.tup [E25 r1.1, E3 r1.2]) [], .call [] (V.tup [E9 r2.1, E4 r2.2]) [], .bit true, .bit true, .bit true, .bit true] (p := [Fn Tryd.prog 23 [(false, E22 b)] (V.tup [E25 r1.1, E3 r1.2]) [],
    (true || ((V.tup [E25 r1.1, E3 r1.2]).nv && nvL [])) = true,
    Fn Tryd.prog 10 [(false, E25 r1.1), (false, E3 39)] (V.tup [E9 r2.1, E4 r2.2]) [],
    (false || ((V.tup [E9 r2.1, E4 r2.2]).nv && nvL [])) = true,
    (r1.2 != 0) = true,
    (r1.2 != 0) = true,
    (r1.2 != 0) = true,
    true = true]) (by kernel_rfl) (cj (impl_Parse_ok b r1 h1) (cj rfl (cj (impl_FieldOf_ok r1.1 39 r2 h2) (cj (by simp [V.nv, nvL, nvL_all, nv_E4, nv_E9]) (cj h3 (cj h3 (cj h3 (cj1 rfl)))))))))) (fun h3 =>
   Pn.ite (fun h4 =>
   Pn.bind (fun r3 h5 =>
   Pn.some (Fn.of [.call [] (V.tup [E25 r1.1, E3 r1.2]) [], .call [] (V.tup [E9 r2.1, E4 r2.2]) [], .bit false, .bit false, .bit false, .bit false, .call [] (V.tup [E3 r3.1, E4 r3.2]) []] (p := [Fn Tryd.prog 23 [(false, E22 b)] (V.tup [E25 r1.1, E3 r1.2]) [],
    (true || ((V.tup [E25 r1.1, E3 r1.2]).nv && nvL [])) = true,
    Fn Tryd.prog 10 [(false, E25 r1.1), (false, E3 39)] (V.tup [E9 r2.1, E4 r2.2]) [],
    (false || ((V.tup [E9 r2.1, E4 r2.2]).nv && nvL [])) = true,
    (r1.2 != 0) = false,
    (r1.2 != 0) = false,
    (r1.2 != 0) = false,
    (!r2.2) = false,
    Fn Tryd.prog 24 [(false, E9 r2.1)] (V.tup [E3 r3.1, E4 r3.2]) [],
    (true || ((V.tup [E3 r3.1, E4 r3.2]).nv && nvL [])) = true]) (by kernel_rfl) (cj (impl_Parse_ok b r1 h1) (cj rfl (cj (impl_FieldOf_ok r1.1 39 r2 h2) (cj (by simp [V.nv, nvL, nvL_all, nv_E4, nv_E9]) (cj h3 (cj h3 (cj h3 (cj (nf h4) (cj (impl_TextRs_ok r2.1 r3 h5) (cj1 rfl))))))))))))) (fun h4 =>
   Pn.some (Fn.of [.call [] (V.tup [E25 r1.1, E3 r1.2]) [], .call [] (V.tup [E9 r2.1, E4 r2.2]) [], .bit false, .bit false, .bit false, .bit true] (p := [Fn Tryd.prog 23 [(false, E22 b)] (V.tup [E25 r1.1, E3 r1.2]) [],
    (true || ((V.tup [E25 r1.1, E3 r1.2]).nv && nvL [])) = true,
    Fn Tryd.prog 10 [(false, E25 r1.1), (false, E3 39)] (V.tup [E9 r2.1, E4 r2.2]) [],
    (false || ((V.tup [E9 r2.1, E4 r2.2]).nv && nvL [])) = true,
    (r1.2 != 0) = false,
    (r1.2 != 0) = false,
    (r1.2 != 0) = false,
    (!r2.2) = true]) (by kernel_rfl) (cj (impl_Parse_ok b r1 h1) (cj rfl (cj (impl_FieldOf_ok r1.1 39 r2 h2) (cj (by simp [V.nv, nvL, nvL_all, nv_E4, nv_E9]) (cj h3 (cj h3 (cj h3 (cj1 (nt h4))))))))))))))
def laws_FnReply_l0 (r1 : Msg) (r2 : Int) (r3 : Msg × Bool) (r5 : (List Int) × Bool) (r6 : Int × Bool) : Nat → Int → Option (Lo Unit Unit)
  | 0, _ => none
  | fuel + 1, v2 =>
   if (decide (v2 < 10)) = true then
   if (decide (0 ≤ v2)) = true then
   ([2, 3, 4, 7, 11, 37, 41, 49, 102, 103][v2.toNat]?).bind fun x1 =>
   (impl_FieldOf r1 x1).bind fun r7 =>
   (impl_FieldOf r3.1 x1).bind fun r8 =>
   if (r7.2 == r8.2) = true then
   if (r7.1 == r8.1) = true then
   laws_FnReply_l0 r1 r2 r3 r5 r6 fuel (i64 (v2 + 1))
   else
   some (.ret ())
   else
   some (.ret ())
   else none
   else
   some (.out ())
theorem laws_FnReply_l0_ok (r1 : Msg) (r2 : Int) (r3 : Msg × Bool) (r5 : (List Int) × Bool) (r6 : Int × Bool) : ∀ (fuel : Nat) (v2 : Int), Pn (LpO Tryd.prog (sub (codeOf Tryd.prog 3) [1, 1, 1, 1, 1, 1, 1, 1, 0, 1, 0, 0]) (st 103 [(3, V.ptr 0 0), (4, V.sc (.int .i64 r2)), (5, V.ptr 2 0), (6, V.sc (.bool r3.2)), (8, V.sc (.bool r5.2)), (9, V.sc (.int .i64 r6.1)), (10, V.sc (.bool r6.2)), (53, V.ow 4), (54, V.sc (.int .i64 10)), (55, V.sc (.int .i64 v2))] [Blk.box 25 [V.sc (.string r1.Mti), V.ow 1], Blk.row 48 (List.map E48 r1.List) [], Blk.box 25 [V.sc (.string r3.1.Mti), V.ow 3], Blk.row 48 (List.map E48 r3.1.List) [], Blk.row 3 (List.map E3 [2, 3, 4, 7, 11, 37, 41, 49, 102, 103]) []] []) (fun (y : Lo Unit Unit) => Lo.elim y (fun s => (X.out 0, st 103 [(4, V.sc (.int .i64 r2)), (5, V.ptr 0 0), (6, V.sc (.bool r3.2)), (8, V.sc (.bool r5.2)), (9, V.sc (.int .i64 r6.1)), (10, V.sc (.bool r6.2))] [Blk.box 25 [V.sc (.string r3.1.Mti), V.ow 1], Blk.row 48 (List.map E48 r3.1.List) []] [])) (fun s => (X.ret, st 103 [(2, V.sc (.bool false))] [] [])))) (laws_FnReply_l0 r1 r2 r3 r5 r6 fuel v2)
  | 0, _ => Pn.none
  | fuel + 1, v2 => by
    unfold laws_FnReply_l0
    exact
     Pn.ite (fun h12 =>
     Pn.ite (fun h13 =>
     Pn.bind (fun x1 h14 =>
     Pn.bind (fun r7 h15 =>
     Pn.bind (fun r8 h16 =>
     Pn.ite (fun h17 =>
     Pn.ite (fun h18 =>
     LpO.go [.bit true, .el (E3 x1), .call [] (V.tup [E9 r7.1, E4 r7.2]) [], .call [] (V.tup [E9 r8.1, E4 r8.2]) [], .bit false, .bit false, .bit false, .bit false, .bit false, .wait 2, .mask [3, 4, 5, 6, 8, 9, 10, 53, 54, 55], .ren [0, 1, 2, 3, 4]] (p := [(decide (v2 < 10)) = true,
      (0 : Int) ≤ v2,
      (v2 : Int) < ((List.map E3 [2, 3, 4, 7, 11, 37, 41, 49, 102, 103]).length : Int),
      look [] v2.toNat = none,
      (List.map E3 [2, 3, 4, 7, 11, 37, 41, 49, 102, 103])[v2.toNat]? = some (E3 x1),
      Fn Tryd.prog 10 [(false, E25 r1), (false, E3 x1)] (V.tup [E9 r7.1, E4 r7.2]) [],
      (false || ((V.tup [E9 r7.1, E4 r7.2]).nv && nvL [])) = true,
      Fn Tryd.prog 10 [(false, E25 r3.1), (false, E3 x1)] (V.tup [E9 r8.1, E4 r8.2]) [],
      (false || ((V.tup [E9 r8.1, E4 r8.2]).nv && nvL [])) = true,
      (!(r7.2 == r8.2)) = false,
      (!(r7.2 == r8.2)) = false,
      (!(r7.2 == r8.2)) = false,
      (!(r7.2 == r8.2)) = false,
      (!(r7.1 == r8.1)) = false]) (by kernel_rfl) (cj h12 (cj (od h13) (cj (map_ltN (od h13) h14) (cj rfl (cj (map_get h14) (cj (impl_FieldOf_ok r1 x1 r7 h15) (cj (by simp [V.nv, nvL, nvL_all, nv_E4, nv_E9]) (cj (impl_FieldOf_ok r3.1 x1 r8 h16) (cj (by simp [V.nv, nvL, nvL_all, nv_E4, nv_E9]) (cj (nf h17) (cj (nf h17) (cj (nf h17) (cj (nf h17) (cj1 (nf h18))))))))))))))) (laws_FnReply_l0_ok r1 r2 r3 r5 r6 fuel (i64 (v2 + 1)))) (fun h18 =>
     Pn.some (LpO.out [.bit true, .el (E3 x1), .call [] (V.tup [E9 r7.1, E4 r7.2]) [], .call [] (V.tup [E9 r8.1, E4 r8.2]) [], .bit false, .bit false, .bit false, .bit false, .bit true, .wait 1, .mask [2], .ren []] (p := [(decide (v2 < 10)) = true,
      (0 : Int) ≤ v2,
      (v2 : Int) < ((List.map E3 [2, 3, 4, 7, 11, 37, 41, 49, 102, 103]).length : Int),
      look [] v2.toNat = none,
      (List.map E3 [2, 3, 4, 7, 11, 37, 41, 49, 102, 103])[v2.toNat]? = some (E3 x1),
      Fn Tryd.prog 10 [(false, E25 r1), (false, E3 x1)] (V.tup [E9 r7.1, E4 r7.2]) [],
      (false || ((V.tup [E9 r7.1, E4 r7.2]).nv && nvL [])) = true,
      Fn Tryd.prog 10 [(false, E25 r3.1), (false, E3 x1)] (V.tup [E9 r8.1, E4 r8.2]) [],
      (false || ((V.tup [E9 r8.1, E4 r8.2]).nv && nvL [])) = true,
      (!(r7.2 == r8.2)) = false,
      (!(r7.2 == r8.2)) = false,
      (!(r7.2 == r8.2)) = false,
      (!(r7.2 == r8.2)) = false,
      (!(r7.1 == r8.1)) = true]) (by kernel_rfl) (show X.ret ≠ X.go from nofun) (cj h12 (cj (od h13) (cj (map_ltN (od h13) h14) (cj rfl (cj (map_get h14) (cj (impl_FieldOf_ok r1 x1 r7 h15) (cj (by simp [V.nv, nvL, nvL_all, nv_E4, nv_E9]) (cj (impl_FieldOf_ok r3.1 x1 r8 h16) (cj (by simp [V.nv, nvL, nvL_all, nv_E4, nv_E9]) (cj (nf h17) (cj (nf h17) (cj (nf h17) (cj (nf h17) (cj1 (nt h18)))))))))))))))))) (fun h17 =>
     Pn.some (LpO.out [.bit true, .el (E3 x1), .call [] (V.tup [E9 r7.1, E4 r7.2]) [], .call [] (V.tup [E9 r8.1, E4 r8.2]) [], .bit true, .bit true, .bit true, .bit true, .bit true, .wait 1, .mask [2], .ren []] (p := [(decide (v2 < 10)) = true,
      (0 : Int) ≤ v2,
      (v2 : Int) < ((List.map E3 [2, 3, 4, 7, 11, 37, 41, 49, 102, 103]).length : Int),
      look [] v2.toNat = none,
      (List.map E3 [2, 3, 4, 7, 11, 37, 41, 49, 102, 103])[v2.toNat]? = some (E3 x1),
      Fn Tryd.prog 10 [(false, E25 r1), (false, E3 x1)] (V.tup [E9 r7.1, E4 r7.2]) [],
      (false || ((V.tup [E9 r7.1, E4 r7.2]).nv && nvL [])) = true,
      Fn Tryd.prog 10 [(false, E25 r3.1), (false, E3 x1)] (V.tup [E9 r8.1, E4 r8.2]) [],
      (false || ((V.tup [E9 r8.1, E4 r8.2]).nv && nvL [])) = true,
      (!(r7.2 == r8.2)) = true,
      (!(r7.2 == r8.2)) = true,
      (!(r7.2 == r8.2)) = true,
      (!(r7.2 == r8.2)) = true,
      true = true]) (by kernel_rfl) (show X.ret ≠ X.go from nofun) (cj h12 (cj (od h13) (cj (map_ltN (od h13) h14) (cj rfl (cj (map_get h14) (cj (impl_FieldOf_ok r1 x1 r7 h15) (cj (by simp [V.nv, nvL, nvL_all, nv_E4, nv_E9]) (cj (impl_FieldOf_ok r3.1 x1 r8 h16) (cj (by simp [V.nv, nvL, nvL_all, nv_E4, nv_E9]) (cj (nt h17) (cj (nt h17) (cj (nt h17) (cj (nt h17) (cj1 rfl)))))))))))))))))))) (fun h13 =>
     Pn.none)) (fun h12 =>
     Pn.some (LpO.out [.bit false, .mask [4, 5, 6, 8, 9, 10], .ren [2, 3]] (p := [(decide (v2 < 10)) = false]) (by kernel_rfl) (show X.out 0 ≠ X.go from nofun) (cj1 h12)))
def laws_FnReply (o : List Int) : Option (Bool) :=
 if (decide (1048576 < (o.length : Int))) = true then
 some true
 else
 (spec_MakeMsg o).bind fun r1 =>
 (spec_MakeNum o 11).bind fun r2 =>
 (impl_Reply r1 r2 (bs [104, 49]) (bs [])).bind fun r3 =>
 (spec_ReplyMti r1.Mti).bind fun r4 =>
 if (r4 == (bs [])) = true then
 if r3.2 = true then
 some false
 else
 some (r3.1.Mti == (bs []))
 else
 (impl_Encode r3.1).bind fun r5 =>
 (impl_ReplyCode r5.1).bind fun r6 =>
 (laws_FnReply_l0 r1 r2 r3 r5 r6 FUEL 0).bind fun r9 =>
 Lo.elim r9 (fun s1 =>
 (impl_FieldOf r3.1 38).bind fun r10 =>
 if r3.2 = true then
 if r5.2 = true then
 if r6.2 = true then
 if (r6.1 == r2) = true then
 some (r10.2 == (r2 == 0))
 else
 some false
 else
 some false
 else
 some false
 else
 some false) (fun s2 =>
 some false)
theorem laws_FnReply_ok (o : List Int) : Pn (fun y => Fn Tryd.prog 3 [(false, E22 o)] (E4 y) []) (laws_FnReply o) := by
  unfold laws_FnReply
  exact
   Pn.ite (fun h1 =>
   Pn.some (Fn.of [.wait 3, .nm 20 (V.sc (.int .i64 (o.length : Int))), .bit true] (p := [V.sc (.int .i64 ((List.map E5 o).length : Int)) = V.sc (.int .i64 (o.length : Int)),
    (decide (1048576 < (o.length : Int))) = true]) (by kernel_rfl) (cj (len_nm _ _) (cj1 h1)))) (fun h1 =>
   Pn.bind (fun r1 h2 =>
   Pn.bind (fun r2 h3 =>
   Pn.bind (fun r3 h4 =>
   Pn.bind (fun r4 h5 =>
   Pn.ite (fun h6 =>
   Pn.ite (fun h7 =>
   Pn.some (Fn.of [.wait 3, .nm 20 (V.sc (.int .i64 (o.length : Int))), .bit false, .call [] (E25 r1) [], .call [] (E3 r2) [], .call [] (V.tup [E25 r3.1, E4 r3.2]) [], .call [] (E9 r4) [], .bit true, .bit false, .bit false, .bit false, .bit false] (p := [V.sc (.int .i64 ((List.map E5 o).length : Int)) = V.sc (.int .i64 (o.length : Int)),
    (decide (1048576 < (o.length : Int))) = false,
    Fn Tryd.prog 4 [(false, E22 o)] (E25 r1) [],
    (true || ((E25 r1).nv && nvL [])) = true,
    Fn Tryd.prog 5 [(false, E22 o), (false, E3 11)] (E3 r2) [],
    (true || ((E3 r2).nv && nvL [])) = true,
    Fn Tryd.prog 6 [(false, E25 r1), (false, E3 r2), (false, E9 (bs [104, 49])), (false, E9 (bs []))] (V.tup [E25 r3.1, E4 r3.2]) [],
    (false || ((V.tup [E25 r3.1, E4 r3.2]).nv && nvL [])) = true,
    Fn Tryd.prog 7 [(false, E9 r1.Mti)] (E9 r4) [],
    (true || ((E9 r4).nv && nvL [])) = true,
    (r4 == (bs [])) = true,
    (!r3.2) = false,
    (!r3.2) = false,
    (!r3.2) = false,
    (!r3.2) = false]) (by kernel_rfl) (cj (len_nm _ _) (cj h1 (cj (spec_MakeMsg_ok o r1 h2) (cj rfl (cj (spec_MakeNum_ok o 11 r2 h3) (cj rfl (cj (impl_Reply_ok r1 r2 (bs [104, 49]) (bs []) r3 h4) (cj (by simp [V.nv, nvL, nvL_all, nv_E3, nv_E4, nv_E9, nv_E23, nv_E25, nv_E48]) (cj (spec_ReplyMti_ok r1.Mti r4 h5) (cj rfl (cj h6 (cj (nf h7) (cj (nf h7) (cj (nf h7) (cj1 (nf h7)))))))))))))))))) (fun h7 =>
   Pn.some (Fn.of [.wait 3, .nm 20 (V.sc (.int .i64 (o.length : Int))), .bit false, .call [] (E25 r1) [], .call [] (E3 r2) [], .call [] (V.tup [E25 r3.1, E4 r3.2]) [], .call [] (E9 r4) [], .bit true, .bit true, .bit true, .bit true, .bit true] (p := [V.sc (.int .i64 ((List.map E5 o).length : Int)) = V.sc (.int .i64 (o.length : Int)),
    (decide (1048576 < (o.length : Int))) = false,
    Fn Tryd.prog 4 [(false, E22 o)] (E25 r1) [],
    (true || ((E25 r1).nv && nvL [])) = true,
    Fn Tryd.prog 5 [(false, E22 o), (false, E3 11)] (E3 r2) [],
    (true || ((E3 r2).nv && nvL [])) = true,
    Fn Tryd.prog 6 [(false, E25 r1), (false, E3 r2), (false, E9 (bs [104, 49])), (false, E9 (bs []))] (V.tup [E25 r3.1, E4 r3.2]) [],
    (false || ((V.tup [E25 r3.1, E4 r3.2]).nv && nvL [])) = true,
    Fn Tryd.prog 7 [(false, E9 r1.Mti)] (E9 r4) [],
    (true || ((E9 r4).nv && nvL [])) = true,
    (r4 == (bs [])) = true,
    (!r3.2) = true,
    (!r3.2) = true,
    (!r3.2) = true,
    (!r3.2) = true]) (by kernel_rfl) (cj (len_nm _ _) (cj h1 (cj (spec_MakeMsg_ok o r1 h2) (cj rfl (cj (spec_MakeNum_ok o 11 r2 h3) (cj rfl (cj (impl_Reply_ok r1 r2 (bs [104, 49]) (bs []) r3 h4) (cj (by simp [V.nv, nvL, nvL_all, nv_E3, nv_E4, nv_E9, nv_E23, nv_E25, nv_E48]) (cj (spec_ReplyMti_ok r1.Mti r4 h5) (cj rfl (cj h6 (cj (nt h7) (cj (nt h7) (cj (nt h7) (cj1 (nt h7))))))))))))))))))) (fun h6 =>
   Pn.bind (fun r5 h8 =>
   Pn.bind (fun r6 h9 =>
   Pn.bind (fun r9 h19 =>
   Pn.lo (fun s1 h20 =>
   Pn.bind (fun r10 h22 =>
   Pn.ite (fun h23 =>
   Pn.ite (fun h24 =>
   Pn.ite (fun h25 =>
   Pn.ite (fun h26 =>
   Pn.some (Fn.of [.wait 3, .nm 20 (V.sc (.int .i64 (o.length : Int))), .bit false, .call [] (E25 r1) [], .call [] (E3 r2) [], .call [] (V.tup [E25 r3.1, E4 r3.2]) [], .call [] (E9 r4) [], .bit false, .call [] (V.tup [E22 r5.1, E4 r5.2]) [], .call [] (V.tup [E3 r6.1, E4 r6.2]) [], .wait 9, .mask [3, 4, 5, 6, 8, 9, 10, 53, 54, 55], .ren [1, 0, 3, 2, 5], .nb 4 (.row 3 (List.map E3 [2, 3, 4, 7, 11, 37, 41, 49, 102, 103]) []), .mask [3, 4, 5, 6, 8, 9, 10, 53, 54, 55], .ren [0, 1, 2, 3, 4], .loop (X.out 0) (st 103 [(4, V.sc (.int .i64 r2)), (5, V.ptr 0 0), (6, V.sc (.bool r3.2)), (8, V.sc (.bool r5.2)), (9, V.sc (.int .i64 r6.1)), (10, V.sc (.bool r6.2))] [Blk.box 25 [V.sc (.string r3.1.Mti), V.ow 1], Blk.row 48 (List.map E48 r3.1.List) []] []), .call [] (V.tup [E9 r10.1, E4 r10.2]) [], .bit true, .bit true, .bit true, .bit true, .bit true, .bit true, .bit true, .bit true, .bit true, .bit true, .bit true, .bit true, .bit true] (p := [V.sc (.int .i64 ((List.map E5 o).length : Int)) = V.sc (.int .i64 (o.length : Int)),
    (decide (1048576 < (o.length : Int))) = false,
    Fn Tryd.prog 4 [(false, E22 o)] (E25 r1) [],
    (true || ((E25 r1).nv && nvL [])) = true,
    Fn Tryd.prog 5 [(false, E22 o), (false, E3 11)] (E3 r2) [],
    (true || ((E3 r2).nv && nvL [])) = true,
    Fn Tryd.prog 6 [(false, E25 r1), (false, E3 r2), (false, E9 (bs [104, 49])), (false, E9 (bs []))] (V.tup [E25 r3.1, E4 r3.2]) [],
    (false || ((V.tup [E25 r3.1, E4 r3.2]).nv && nvL [])) = true,
    Fn Tryd.prog 7 [(false, E9 r1.Mti)] (E9 r4) [],
    (true || ((E9 r4).nv && nvL [])) = true,
    (r4 == (bs [])) = false,
    Fn Tryd.prog 8 [(false, E25 r3.1)] (V.tup [E22 r5.1, E4 r5.2]) [],
    (false || ((V.tup [E22 r5.1, E4 r5.2]).nv && nvL [])) = true,
    Fn Tryd.prog 9 [(false, E22 r5.1)] (V.tup [E3 r6.1, E4 r6.2]) [],
    (false || ((V.tup [E3 r6.1, E4 r6.2]).nv && nvL [])) = true,
    Blk.row 3 [V.sc (.int .i64 2), V.sc (.int .i64 3), V.sc (.int .i64 4), V.sc (.int .i64 7), V.sc (.int .i64 11), V.sc (.int .i64 37), V.sc (.int .i64 41), V.sc (.int .i64 49), V.sc (.int .i64 102), V.sc (.int .i64 103)] [] = Blk.row 3 (List.map E3 [2, 3, 4, 7, 11, 37, 41, 49, 102, 103]) [],
    Loop Tryd.prog (sub (codeOf Tryd.prog 3) [1, 1, 1, 1, 1, 1, 1, 1, 0, 1, 0, 0]) (st 103 [(3, V.ptr 0 0), (4, V.sc (.int .i64 r2)), (5, V.ptr 2 0), (6, V.sc (.bool r3.2)), (8, V.sc (.bool r5.2)), (9, V.sc (.int .i64 r6.1)), (10, V.sc (.bool r6.2)), (53, V.ow 4), (54, V.sc (.int .i64 10)), (55, V.sc (.int .i64 0))] [Blk.box 25 [V.sc (.string r1.Mti), V.ow 1], Blk.row 48 (List.map E48 r1.List) [], Blk.box 25 [V.sc (.string r3.1.Mti), V.ow 3], Blk.row 48 (List.map E48 r3.1.List) [], Blk.row 3 (List.map E3 [2, 3, 4, 7, 11, 37, 41, 49, 102, 103]) []] []) (X.out 0) (st 103 [(4, V.sc (.int .i64 r2)), (5, V.ptr 0 0), (6, V.sc (.bool r3.2)), (8, V.sc (.bool r5.2)), (9, V.sc (.int .i64 r6.1)), (10, V.sc (.bool r6.2))] [Blk.box 25 [V.sc (.string r3.1.Mti), V.ow 1], Blk.row 48 (List.map E48 r3.1.List) []] []),
    Fn Tryd.prog 10 [(false, E25 r3.1), (false, E3 38)] (V.tup [E9 r10.1, E4 r10.2]) [],
    (false || ((V.tup [E9 r10.1, E4 r10.2]).nv && nvL [])) = true,
    r3.2 = true,
    r3.2 = true,
    r5.2 = true,
    r5.2 = true,
    r6.2 = true,
    r6.2 = true,
    r6.2 = true,
    r6.2 = true,
    (r6.1 == r2) = true,
    (r6.1 == r2) = true,
    (r6.1 == r2) = true,
    (r6.1 == r2) = true,
    (r6.1 == r2) = true]) (by kernel_rfl) (cj (len_nm _ _) (cj h1 (cj (spec_MakeMsg_ok o r1 h2) (cj rfl (cj (spec_MakeNum_ok o 11 r2 h3) (cj rfl (cj (impl_Reply_ok r1 r2 (bs [104, 49]) (bs []) r3 h4) (cj (by simp [V.nv, nvL, nvL_all, nv_E3, nv_E4, nv_E9, nv_E23, nv_E25, nv_E48]) (cj (spec_ReplyMti_ok r1.Mti r4 h5) (cj rfl (cj h6 (cj (impl_Encode_ok r3.1 r5 h8) (cj (by simp [V.nv, nvL, nvL_all, nv_E4, nv_E5, nv_E22]) (cj (impl_ReplyCode_ok r5.1 r6 h9) (cj (by simp [V.nv, nvL, nvL_all, nv_E3, nv_E4]) (cj rfl (cj ((laws_FnReply_l0_ok r1 r2 r3 r5 r6 FUEL 0 r9 h19).at h20) (cj (impl_FieldOf_ok r3.1 38 r10 h22) (cj (by simp [V.nv, nvL, nvL_all, nv_E4, nv_E9]) (cj h23 (cj h23 (cj h24 (cj h24 (cj h25 (cj h25 (cj h25 (cj h25 (cj h26 (cj h26 (cj h26 (cj h26 (cj1 h26)))))))))))))))))))))))))))))))))) (fun h26 =>
   Pn.some (Fn.of [.wait 3, .nm 20 (V.sc (.int .i64 (o.length : Int))), .bit false, .call [] (E25 r1) [], .call [] (E3 r2) [], .call [] (V.tup [E25 r3.1, E4 r3.2]) [], .call [] (E9 r4) [], .bit false, .call [] (V.tup [E22 r5.1, E4 r5.2]) [], .call [] (V.tup [E3 r6.1, E4 r6.2]) [], .wait 9, .mask [3, 4, 5, 6, 8, 9, 10, 53, 54, 55], .ren [1, 0, 3, 2, 5], .nb 4 (.row 3 (List.map E3 [2, 3, 4, 7, 11, 37, 41, 49, 102, 103]) []), .mask [3, 4, 5, 6, 8, 9, 10, 53, 54, 55], .ren [0, 1, 2, 3, 4], .loop (X.out 0) (st 103 [(4, V.sc (.int .i64 r2)), (5, V.ptr 0 0), (6, V.sc (.bool r3.2)), (8, V.sc (.bool r5.2)), (9, V.sc (.int .i64 r6.1)), (10, V.sc (.bool r6.2))] [Blk.box 25 [V.sc (.string r3.1.Mti), V.ow 1], Blk.row 48 (List.map E48 r3.1.List) []] []), .call [] (V.tup [E9 r10.1, E4 r10.2]) [], .bit true, .bit true, .bit true, .bit true, .bit true, .bit true, .bit true, .bit true, .bit false, .bit false, .bit false, .bit false, .bit false] (p := [V.sc (.int .i64 ((List.map E5 o).length : Int)) = V.sc (.int .i64 (o.length : Int)),
    (decide (1048576 < (o.length : Int))) = false,
    Fn Tryd.prog 4 [(false, E22 o)] (E25 r1) [],
    (true || ((E25 r1).nv && nvL [])) = true,
    Fn Tryd.prog 5 [(false, E22 o), (false, E3 11)] (E3 r2) [],
    (true || ((E3 r2).nv && nvL [])) = true,
    Fn Tryd.prog 6 [(false, E25 r1), (false, E3 r2), (false, E9 (bs [104, 49])), (false, E9 (bs []))] (V.tup [E25 r3.1, E4 r3.2]) [],
    (false || ((V.tup [E25 r3.1, E4 r3.2]).nv && nvL [])) = true,
    Fn Tryd.prog 7 [(false, E9 r1.Mti)] (E9 r4) [],
    (true || ((E9 r4).nv && nvL [])) = true,
    (r4 == (bs [])) = false,
    Fn Tryd.prog 8 [(false, E25 r3.1)] (V.tup [E22 r5.1, E4 r5.2]) [],
    (false || ((V.tup [E22 r5.1, E4 r5.2]).nv && nvL [])) = true,
    Fn Tryd.prog 9 [(false, E22 r5.1)] (V.tup [E3 r6.1, E4 r6.2]) [],
    (false || ((V.tup [E3 r6.1, E4 r6.2]).nv && nvL [])) = true,
    Blk.row 3 [V.sc (.int .i64 2), V.sc (.int .i64 3), V.sc (.int .i64 4), V.sc (.int .i64 7), V.sc (.int .i64 11), V.sc (.int .i64 37), V.sc (.int .i64 41), V.sc (.int .i64 49), V.sc (.int .i64 102), V.sc (.int .i64 103)] [] = Blk.row 3 (List.map E3 [2, 3, 4, 7, 11, 37, 41, 49, 102, 103]) [],
    Loop Tryd.prog (sub (codeOf Tryd.prog 3) [1, 1, 1, 1, 1, 1, 1, 1, 0, 1, 0, 0]) (st 103 [(3, V.ptr 0 0), (4, V.sc (.int .i64 r2)), (5, V.ptr 2 0), (6, V.sc (.bool r3.2)), (8, V.sc (.bool r5.2)), (9, V.sc (.int .i64 r6.1)), (10, V.sc (.bool r6.2)), (53, V.ow 4), (54, V.sc (.int .i64 10)), (55, V.sc (.int .i64 0))] [Blk.box 25 [V.sc (.string r1.Mti), V.ow 1], Blk.row 48 (List.map E48 r1.List) [], Blk.box 25 [V.sc (.string r3.1.Mti), V.ow 3], Blk.row 48 (List.map E48 r3.1.List) [], Blk.row 3 (List.map E3 [2, 3, 4, 7, 11, 37, 41, 49, 102, 103]) []] []) (X.out 0) (st 103 [(4, V.sc (.int .i64 r2)), (5, V.ptr 0 0), (6, V.sc (.bool r3.2)), (8, V.sc (.bool r5.2)), (9, V.sc (.int .i64 r6.1)), (10, V.sc (.bool r6.2))] [Blk.box 25 [V.sc (.string r3.1.Mti), V.ow 1], Blk.row 48 (List.map E48 r3.1.List) []] []),
    Fn Tryd.prog 10 [(false, E25 r3.1), (false, E3 38)] (V.tup [E9 r10.1, E4 r10.2]) [],
    (false || ((V.tup [E9 r10.1, E4 r10.2]).nv && nvL [])) = true,
    r3.2 = true,
    r3.2 = true,
    r5.2 = true,
    r5.2 = true,
    r6.2 = true,
    r6.2 = true,
    r6.2 = true,
    r6.2 = true,
    (r6.1 == r2) = false,
    (r6.1 == r2) = false,
    (r6.1 == r2) = false,
    (r6.1 == r2) = false,
    (r6.1 == r2) = false]) (by kernel_rfl) (cj (len_nm _ _) (cj h1 (cj (spec_MakeMsg_ok o r1 h2) (cj rfl (cj (spec_MakeNum_ok o 11 r2 h3) (cj rfl (cj (impl_Reply_ok r1 r2 (bs [104, 49]) (bs []) r3 h4) (cj (by simp [V.nv, nvL, nvL_all, nv_E3, nv_E4, nv_E9, nv_E23, nv_E25, nv_E48]) (cj (spec_ReplyMti_ok r1.Mti r4 h5) (cj rfl (cj h6 (cj (impl_Encode_ok r3.1 r5 h8) (cj (by simp [V.nv, nvL, nvL_all, nv_E4, nv_E5, nv_E22]) (cj (impl_ReplyCode_ok r5.1 r6 h9) (cj (by simp [V.nv, nvL, nvL_all, nv_E3, nv_E4]) (cj rfl (cj ((laws_FnReply_l0_ok r1 r2 r3 r5 r6 FUEL 0 r9 h19).at h20) (cj (impl_FieldOf_ok r3.1 38 r10 h22) (cj (by simp [V.nv, nvL, nvL_all, nv_E4, nv_E9]) (cj h23 (cj h23 (cj h24 (cj h24 (cj h25 (cj h25 (cj h25 (cj h25 (cj h26 (cj h26 (cj h26 (cj h26 (cj1 h26))))))))))))))))))))))))))))))))))) (fun h25 =>
   Pn.some (Fn.of [.wait 3, .nm 20 (V.sc (.int .i64 (o.length : Int))), .bit false, .call [] (E25 r1) [], .call [] (E3 r2) [], .call [] (V.tup [E25 r3.1, E4 r3.2]) [], .call [] (E9 r4) [], .bit false, .call [] (V.tup [E22 r5.1, E4 r5.2]) [], .call [] (V.tup [E3 r6.1, E4 r6.2]) [], .wait 9, .mask [3, 4, 5, 6, 8, 9, 10, 53, 54, 55], .ren [1, 0, 3, 2, 5], .nb 4 (.row 3 (List.map E3 [2, 3, 4, 7, 11, 37, 41, 49, 102, 103]) []), .mask [3, 4, 5, 6, 8, 9, 10, 53, 54, 55], .ren [0, 1, 2, 3, 4], .loop (X.out 0) (st 103 [(4, V.sc (.int .i64 r2)), (5, V.ptr 0 0), (6, V.sc (.bool r3.2)), (8, V.sc (.bool r5.2)), (9, V.sc (.int .i64 r6.1)), (10, V.sc (.bool r6.2))] [Blk.box 25 [V.sc (.string r3.1.Mti), V.ow 1], Blk.row 48 (List.map E48 r3.1.List) []] []), .call [] (V.tup [E9 r10.1, E4 r10.2]) [], .bit true, .bit true, .bit true, .bit true, .bit false, .bit false, .bit false, .bit false, .bit false, .bit false, .bit false, .bit false, .bit false] (p := [V.sc (.int .i64 ((List.map E5 o).length : Int)) = V.sc (.int .i64 (o.length : Int)),
    (decide (1048576 < (o.length : Int))) = false,
    Fn Tryd.prog 4 [(false, E22 o)] (E25 r1) [],
    (true || ((E25 r1).nv && nvL [])) = true,
    Fn Tryd.prog 5 [(false, E22 o), (false, E3 11)] (E3 r2) [],
    (true || ((E3 r2).nv && nvL [])) = true,
    Fn Tryd.prog 6 [(false, E25 r1), (false, E3 r2), (false, E9 (bs [104, 49])), (false, E9 (bs []))] (V.tup [E25 r3.1, E4 r3.2]) [],
    (false || ((V.tup [E25 r3.1, E4 r3.2]).nv && nvL [])) = true,
    Fn Tryd.prog 7 [(false, E9 r1.Mti)] (E9 r4) [],
    (true || ((E9 r4).nv && nvL [])) = true,
    (r4 == (bs [])) = false,
    Fn Tryd.prog 8 [(false, E25 r3.1)] (V.tup [E22 r5.1, E4 r5.2]) [],
    (false || ((V.tup [E22 r5.1, E4 r5.2]).nv && nvL [])) = true,
    Fn Tryd.prog 9 [(false, E22 r5.1)] (V.tup [E3 r6.1, E4 r6.2]) [],
    (false || ((V.tup [E3 r6.1, E4 r6.2]).nv && nvL [])) = true,
    Blk.row 3 [V.sc (.int .i64 2), V.sc (.int .i64 3), V.sc (.int .i64 4), V.sc (.int .i64 7), V.sc (.int .i64 11), V.sc (.int .i64 37), V.sc (.int .i64 41), V.sc (.int .i64 49), V.sc (.int .i64 102), V.sc (.int .i64 103)] [] = Blk.row 3 (List.map E3 [2, 3, 4, 7, 11, 37, 41, 49, 102, 103]) [],
    Loop Tryd.prog (sub (codeOf Tryd.prog 3) [1, 1, 1, 1, 1, 1, 1, 1, 0, 1, 0, 0]) (st 103 [(3, V.ptr 0 0), (4, V.sc (.int .i64 r2)), (5, V.ptr 2 0), (6, V.sc (.bool r3.2)), (8, V.sc (.bool r5.2)), (9, V.sc (.int .i64 r6.1)), (10, V.sc (.bool r6.2)), (53, V.ow 4), (54, V.sc (.int .i64 10)), (55, V.sc (.int .i64 0))] [Blk.box 25 [V.sc (.string r1.Mti), V.ow 1], Blk.row 48 (List.map E48 r1.List) [], Blk.box 25 [V.sc (.string r3.1.Mti), V.ow 3], Blk.row 48 (List.map E48 r3.1.List) [], Blk.row 3 (List.map E3 [2, 3, 4, 7, 11, 37, 41, 49, 102, 103]) []] []) (X.out 0) (st 103 [(4, V.sc (.int .i64 r2)), (5, V.ptr 0 0), (6, V.sc (.bool r3.2)), (8, V.sc (.bool r5.2)), (9, V.sc (.int .i64 r6.1)), (10, V.sc (.bool r6.2))] [Blk.box 25 [V.sc (.string r3.1.Mti), V.ow 1], Blk.row 48 (List.map E48 r3.1.List) []] []),
    Fn Tryd.prog 10 [(false, E25 r3.1), (false, E3 38)] (V.tup [E9 r10.1, E4 r10.2]) [],
    (false || ((V.tup [E9 r10.1, E4 r10.2]).nv && nvL [])) = true,
    r3.2 = true,
    r3.2 = true,
    r5.2 = true,
    r5.2 = true,
    r6.2 = false,
    r6.2 = false,
    r6.2 = false,
    r6.2 = false,
    false = false,
    false = false,
    false = false,
    false = false,
    false = false]) (by kernel_rfl) (cj (len_nm _ _) (cj h1 (cj (spec_MakeMsg_ok o r1 h2) (cj rfl (cj (spec_MakeNum_ok o 11 r2 h3) (cj rfl (cj (impl_Reply_ok r1 r2 (bs [104, 49]) (bs []) r3 h4) (cj (by simp [V.nv, nvL, nvL_all, nv_E3, nv_E4, nv_E9, nv_E23, nv_E25, nv_E48]) (cj (spec_ReplyMti_ok r1.Mti r4 h5) (cj rfl (cj h6 (cj (impl_Encode_ok r3.1 r5 h8) (cj (by simp [V.nv, nvL, nvL_all, nv_E4, nv_E5, nv_E22]) (cj (impl_ReplyCode_ok r5.1 r6 h9) (cj (by simp [V.nv, nvL, nvL_all, nv_E3, nv_E4]) (cj rfl (cj ((laws_FnReply_l0_ok r1 r2 r3 r5 r6 FUEL 0 r9 h19).at h20) (cj (impl_FieldOf_ok r3.1 38 r10 h22) (cj (by simp [V.nv, nvL, nvL_all, nv_E4, nv_E9]) (cj h23 (cj h23 (cj h24 (cj h24 (cj h25 (cj h25 (cj h25 (cj h25 (cj rfl (cj rfl (cj rfl (cj rfl (cj1 rfl))))))))))))))))))))))))))))))))))) (fun h24 =>
   Pn.some (Fn.of [.wait 3, .nm 20 (V.sc (.int .i64 (o.length : Int))), .bit false, .call [] (E25 r1) [], .call [] (E3 r2) [], .call [] (V.tup [E25 r3.1, E4 r3.2]) [], .call [] (E9 r4) [], .bit false, .call [] (V.tup [E22 r5.1, E4 r5.2]) [], .call [] (V.tup [E3 r6.1, E4 r6.2]) [], .wait 9, .mask [3, 4, 5, 6, 8, 9, 10, 53, 54, 55], .ren [1, 0, 3, 2, 5], .nb 4 (.row 3 (List.map E3 [2, 3, 4, 7, 11, 37, 41, 49, 102, 103]) []), .mask [3, 4, 5, 6, 8, 9, 10, 53, 54, 55], .ren [0, 1, 2, 3, 4], .loop (X.out 0) (st 103 [(4, V.sc (.int .i64 r2)), (5, V.ptr 0 0), (6, V.sc (.bool r3.2)), (8, V.sc (.bool r5.2)), (9, V.sc (.int .i64 r6.1)), (10, V.sc (.bool r6.2))] [Blk.box 25 [V.sc (.string r3.1.Mti), V.ow 1], Blk.row 48 (List.map E48 r3.1.List) []] []), .call [] (V.tup [E9 r10.1, E4 r10.2]) [], .bit true, .bit true, .bit false, .bit false, .bit false, .bit false, .bit false, .bit false, .bit false, .bit false, .bit false, .bit false, .bit false] (p := [V.sc (.int .i64 ((List.map E5 o).length : Int)) = V.sc (.int .i64 (o.length : Int)),
    (decide (1048576 < (o.length : Int))) = false,
    Fn Tryd.prog 4 [(false, E22 o)] (E25 r1) [],
    (true || ((E25 r1).nv && nvL [])) = true,
    Fn Tryd.prog 5 [(false, E22 o), (false, E3 11)] (E3 r2) [],
    (true || ((E3 r2).nv && nvL [])) = true,
    Fn Tryd.prog 6 [(false, E25 r1), (false, E3 r2), (false, E9 (bs [104, 49])), (false, E9 (bs []))] (V.tup [E25 r3.1, E4 r3.2]) [],
    (false || ((V.tup [E25 r3.1, E4 r3.2]).nv && nvL [])) = true,
    Fn Tryd.prog 7 [(false, E9 r1.Mti)] (E9 r4) [],
    (true || ((E9 r4).nv && nvL [])) = true,
    (r4 == (bs [])) = false,
    Fn Tryd.prog 8 [(false, E25 r3.1)] (V.tup [E22 r5.1, E4 r5.2]) [],
    (false || ((V.tup [E22 r5.1, E4 r5.2]).nv && nvL [])) = true,
    Fn Tryd.prog 9 [(false, E22 r5.1)] (V.tup [E3 r6.1, E4 r6.2]) [],
    (false || ((V.tup [E3 r6.1, E4 r6.2]).nv && nvL [])) = true,
    Blk.row 3 [V.sc (.int .i64 2), V.sc (.int .i64 3), V.sc (.int .i64 4), V.sc (.int .i64 7), V.sc (.int .i64 11), V.sc (.int .i64 37), V.sc (.int .i64 41), V.sc (.int .i64 49), V.sc (.int .i64 102), V.sc (.int .i64 103)] [] = Blk.row 3 (List.map E3 [2, 3, 4, 7, 11, 37, 41, 49, 102, 103]) [],
    Loop Tryd.prog (sub (codeOf Tryd.prog 3) [1, 1, 1, 1, 1, 1, 1, 1, 0, 1, 0, 0]) (st 103 [(3, V.ptr 0 0), (4, V.sc (.int .i64 r2)), (5, V.ptr 2 0), (6, V.sc (.bool r3.2)), (8, V.sc (.bool r5.2)), (9, V.sc (.int .i64 r6.1)), (10, V.sc (.bool r6.2)), (53, V.ow 4), (54, V.sc (.int .i64 10)), (55, V.sc (.int .i64 0))] [Blk.box 25 [V.sc (.string r1.Mti), V.ow 1], Blk.row 48 (List.map E48 r1.List) [], Blk.box 25 [V.sc (.string r3.1.Mti), V.ow 3], Blk.row 48 (List.map E48 r3.1.List) [], Blk.row 3 (List.map E3 [2, 3, 4, 7, 11, 37, 41, 49, 102, 103]) []] []) (X.out 0) (st 103 [(4, V.sc (.int .i64 r2)), (5, V.ptr 0 0), (6, V.sc (.bool r3.2)), (8, V.sc (.bool r5.2)), (9, V.sc (.int .i64 r6.1)), (10, V.sc (.bool r6.2))] [Blk.box 25 [V.sc (.string r3.1.Mti), V.ow 1], Blk.row 48 (List.map E48 r3.1.List) []] []),
    Fn Tryd.prog 10 [(false, E25 r3.1), (false, E3 38)] (V.tup [E9 r10.1, E4 r10.2]) [],
    (false || ((V.tup [E9 r10.1, E4 r10.2]).nv && nvL [])) = true,
    r3.2 = true,
    r3.2 = true,
    r5.2 = false,
    r5.2 = false,
    false = false,
    false = false,
    false = false,
    false = false,
    false = false,
    false = false,
    false = false,
    false = false,
    false = false]) (by kernel_rfl) (cj (len_nm _ _) (cj h1 (cj (spec_MakeMsg_ok o r1 h2) (cj rfl (cj (spec_MakeNum_ok o 11 r2 h3) (cj rfl (cj (impl_Reply_ok r1 r2 (bs [104, 49]) (bs []) r3 h4) (cj (by simp [V.nv, nvL, nvL_all, nv_E3, nv_E4, nv_E9, nv_E23, nv_E25, nv_E48]) (cj (spec_ReplyMti_ok r1.Mti r4 h5) (cj rfl (cj h6 (cj (impl_Encode_ok r3.1 r5 h8) (cj (by simp [V.nv, nvL, nvL_all, nv_E4, nv_E5, nv_E22]) (cj (impl_ReplyCode_ok r5.1 r6 h9) (cj (by simp [V.nv, nvL, nvL_all, nv_E3, nv_E4]) (cj rfl (cj ((laws_FnReply_l0_ok r1 r2 r3 r5 r6 FUEL 0 r9 h19).at h20) (cj (impl_FieldOf_ok r3.1 38 r10 h22) (cj (by simp [V.nv, nvL, nvL_all, nv_E4, nv_E9]) (cj h23 (cj h23 (cj h24 (cj h24 (cj rfl (cj rfl (cj rfl (cj rfl (cj rfl (cj rfl (cj rfl (cj rfl (cj1 rfl))))))))))))))))))))))))))))))))))) (fun h23 =>
   Pn.some (Fn.of [.wait 3, .nm 20 (V.sc (.int .i64 (o.length : Int))), .bit false, .call [] (E25 r1) [], .call [] (E3 r2) [], .call [] (V.tup [E25 r3.1, E4 r3.2]) [], .call [] (E9 r4) [], .bit false, .call [] (V.tup [E22 r5.1, E4 r5.2]) [], .call [] (V.tup [E3 r6.1, E4 r6.2]) [], .wait 9, .mask [3, 4, 5, 6, 8, 9, 10, 53, 54, 55], .ren [1, 0, 3, 2, 5], .nb 4 (.row 3 (List.map E3 [2, 3, 4, 7, 11, 37, 41, 49, 102, 103]) []), .mask [3, 4, 5, 6, 8, 9, 10, 53, 54, 55], .ren [0, 1, 2, 3, 4], .loop (X.out 0) (st 103 [(4, V.sc (.int .i64 r2)), (5, V.ptr 0 0), (6, V.sc (.bool r3.2)), (8, V.sc (.bool r5.2)), (9, V.sc (.int .i64 r6.1)), (10, V.sc (.bool r6.2))] [Blk.box 25 [V.sc (.string r3.1.Mti), V.ow 1], Blk.row 48 (List.map E48 r3.1.List) []] []), .call [] (V.tup [E9 r10.1, E4 r10.2]) [], .bit false, .bit false, .bit false, .bit false, .bit false, .bit false, .bit false, .bit false, .bit false, .bit false, .bit false, .bit false, .bit false] (p := [V.sc (.int .i64 ((List.map E5 o).length : Int)) = V.sc (.int .i64 (o.length : Int)),
    (decide (1048576 < (o.length : Int))) = false,
    Fn Tryd.prog 4 [(false, E22 o)] (E25 r1) [],
    (true || ((E25 r1).nv && nvL [])) = true,
    Fn Tryd.prog 5 [(false, E22 o), (false, E3 11)] (E3 r2) [],
    (true || ((E3 r2).nv && nvL [])) = true,
    Fn Tryd.prog 6 [(false, E25 r1), (false, E3 r2), (false, E9 (bs [104, 49])), (false, E9 (bs []))] (V.tup [E25 r3.1, E4 r3.2]) [],
    (false || ((V.tup [E25 r3.1, E4 r3.2]).nv && nvL [])) = true,
    Fn Tryd.prog 7 [(false, E9 r1.Mti)] (E9 r4) [],
    (true || ((E9 r4).nv && nvL [])) = true,
    (r4 == (bs [])) = false,
    Fn Tryd.prog 8 [(false, E25 r3.1)] (V.tup [E22 r5.1, E4 r5.2]) [],
    (false || ((V.tup [E22 r5.1, E4 r5.2]).nv && nvL [])) = true,
    Fn Tryd.prog 9 [(false, E22 r5.1)] (V.tup [E3 r6.1, E4 r6.2]) [],
    (false || ((V.tup [E3 r6.1, E4 r6.2]).nv && nvL [])) = true,
    Blk.row 3 [V.sc (.int .i64 2), V.sc (.int .i64 3), V.sc (.int .i64 4), V.sc (.int .i64 7), V.sc (.int .i64 11), V.sc (.int .i64 37), V.sc (.int .i64 41), V.sc (.int .i64 49), V.sc (.int .i64 102), V.sc (.int .i64 103)] [] = Blk.row 3 (List.map E3 [2, 3, 4, 7, 11, 37, 41, 49, 102, 103]) [],
    Loop Tryd.prog (sub (codeOf Tryd.prog 3) [1, 1, 1, 1, 1, 1, 1, 1, 0, 1, 0, 0]) (st 103 [(3, V.ptr 0 0), (4, V.sc (.int .i64 r2)), (5, V.ptr 2 0), (6, V.sc (.bool r3.2)), (8, V.sc (.bool r5.2)), (9, V.sc (.int .i64 r6.1)), (10, V.sc (.bool r6.2)), (53, V.ow 4), (54, V.sc (.int .i64 10)), (55, V.sc (.int .i64 0))] [Blk.box 25 [V.sc (.string r1.Mti), V.ow 1], Blk.row 48 (List.map E48 r1.List) [], Blk.box 25 [V.sc (.string r3.1.Mti), V.ow 3], Blk.row 48 (List.map E48 r3.1.List) [], Blk.row 3 (List.map E3 [2, 3, 4, 7, 11, 37, 41, 49, 102, 103]) []] []) (X.out 0) (st 103 [(4, V.sc (.int .i64 r2)), (5, V.ptr 0 0), (6, V.sc (.bool r3.2)), (8, V.sc (.bool r5.2)), (9, V.sc (.int .i64 r6.1)), (10, V.sc (.bool r6.2))] [Blk.box 25 [V.sc (.string r3.1.Mti), V.ow 1], Blk.row 48 (List.map E48 r3.1.List) []] []),
    Fn Tryd.prog 10 [(false, E25 r3.1), (false, E3 38)] (V.tup [E9 r10.1, E4 r10.2]) [],
    (false || ((V.tup [E9 r10.1, E4 r10.2]).nv && nvL [])) = true,
    r3.2 = false,
    r3.2 = false,
    false = false,
    false = false,
    false = false,
    false = false,
    false = false,
    false = false,
    false = false,
    false = false,
    false = false,
    false = false,
    false = false]) (by kernel_rfl) (cj (len_nm _ _) (cj h1 (cj (spec_MakeMsg_ok o r1 h2) (cj rfl (cj (spec_MakeNum_ok o 11 r2 h3) (cj rfl (cj (impl_Reply_ok r1 r2 (bs [104, 49]) (bs []) r3 h4) (cj (by simp [V.nv, nvL, nvL_all, nv_E3, nv_E4, nv_E9, nv_E23, nv_E25, nv_E48]) (cj (spec_ReplyMti_ok r1.Mti r4 h5) (cj rfl (cj h6 (cj (impl_Encode_ok r3.1 r5 h8) (cj (by simp [V.nv, nvL, nvL_all, nv_E4, nv_E5, nv_E22]) (cj (impl_ReplyCode_ok r5.1 r6 h9) (cj (by simp [V.nv, nvL, nvL_all, nv_E3, nv_E4]) (cj rfl (cj ((laws_FnReply_l0_ok r1 r2 r3 r5 r6 FUEL 0 r9 h19).at h20) (cj (impl_FieldOf_ok r3.1 38 r10 h22) (cj (by simp [V.nv, nvL, nvL_all, nv_E4, nv_E9]) (cj h23 (cj h23 (cj rfl (cj rfl (cj rfl (cj rfl (cj rfl (cj rfl (cj rfl (cj rfl (cj rfl (cj rfl (cj1 rfl)))))))))))))))))))))))))))))))))))) (fun s2 h21 =>
   Pn.some (Fn.of [.wait 3, .nm 20 (V.sc (.int .i64 (o.length : Int))), .bit false, .call [] (E25 r1) [], .call [] (E3 r2) [], .call [] (V.tup [E25 r3.1, E4 r3.2]) [], .call [] (E9 r4) [], .bit false, .call [] (V.tup [E22 r5.1, E4 r5.2]) [], .call [] (V.tup [E3 r6.1, E4 r6.2]) [], .wait 9, .mask [3, 4, 5, 6, 8, 9, 10, 53, 54, 55], .ren [1, 0, 3, 2, 5], .nb 4 (.row 3 (List.map E3 [2, 3, 4, 7, 11, 37, 41, 49, 102, 103]) []), .mask [3, 4, 5, 6, 8, 9, 10, 53, 54, 55], .ren [0, 1, 2, 3, 4], .loop (X.ret) (st 103 [(2, V.sc (.bool false))] [] [])] (p := [V.sc (.int .i64 ((List.map E5 o).length : Int)) = V.sc (.int .i64 (o.length : Int)),
    (decide (1048576 < (o.length : Int))) = false,
    Fn Tryd.prog 4 [(false, E22 o)] (E25 r1) [],
    (true || ((E25 r1).nv && nvL [])) = true,
    Fn Tryd.prog 5 [(false, E22 o), (false, E3 11)] (E3 r2) [],
    (true || ((E3 r2).nv && nvL [])) = true,
    Fn Tryd.prog 6 [(false, E25 r1), (false, E3 r2), (false, E9 (bs [104, 49])), (false, E9 (bs []))] (V.tup [E25 r3.1, E4 r3.2]) [],
    (false || ((V.tup [E25 r3.1, E4 r3.2]).nv && nvL [])) = true,
    Fn Tryd.prog 7 [(false, E9 r1.Mti)] (E9 r4) [],
    (true || ((E9 r4).nv && nvL [])) = true,
    (r4 == (bs [])) = false,
    Fn Tryd.prog 8 [(false, E25 r3.1)] (V.tup [E22 r5.1, E4 r5.2]) [],
    (false || ((V.tup [E22 r5.1, E4 r5.2]).nv && nvL [])) = true,
    Fn Tryd.prog 9 [(false, E22 r5.1)] (V.tup [E3 r6.1, E4 r6.2]) [],
    (false || ((V.tup [E3 r6.1, E4 r6.2]).nv && nvL [])) = true,
    Blk.row 3 [V.sc (.int .i64 2), V.sc (.int .i64 3), V.sc (.int .i64 4), V.sc (.int .i64 7), V.sc (.int .i64 11), V.sc (.int .i64 37), V.sc (.int .i64 41), V.sc (.int .i64 49), V.sc (.int .i64 102), V.sc (.int .i64 103)] [] = Blk.row 3 (List.map E3 [2, 3, 4, 7, 11, 37, 41, 49, 102, 103]) [],
    Loop Tryd.prog (sub (codeOf Tryd.prog 3) [1, 1, 1, 1, 1, 1, 1, 1, 0, 1, 0, 0]) (st 103 [(3, V.ptr 0 0), (4, V.sc (.int .i64 r2)), (5, V.ptr 2 0), (6, V.sc (.bool r3.2)), (8, V.sc (.bool r5.2)), (9, V.sc (.int .i64 r6.1)), (10, V.sc (.bool r6.2)), (53, V.ow 4), (54, V.sc (.int .i64 10)), (55, V.sc (.int .i64 0))] [Blk.box 25 [V.sc (.string r1.Mti), V.ow 1], Blk.row 48 (List.map E48 r1.List) [], Blk.box 25 [V.sc (.string r3.1.Mti), V.ow 3], Blk.row 48 (List.map E48 r3.1.List) [], Blk.row 3 (List.map E3 [2, 3, 4, 7, 11, 37, 41, 49, 102, 103]) []] []) (X.ret) (st 103 [(2, V.sc (.bool false))] [] [])]) (by kernel_rfl) (cj (len_nm _ _) (cj h1 (cj (spec_MakeMsg_ok o r1 h2) (cj rfl (cj (spec_MakeNum_ok o 11 r2 h3) (cj rfl (cj (impl_Reply_ok r1 r2 (bs [104, 49]) (bs []) r3 h4) (cj (by simp [V.nv, nvL, nvL_all, nv_E3, nv_E4, nv_E9, nv_E23, nv_E25, nv_E48]) (cj (spec_ReplyMti_ok r1.Mti r4 h5) (cj rfl (cj h6 (cj (impl_Encode_ok r3.1 r5 h8) (cj (by simp [V.nv, nvL, nvL_all, nv_E4, nv_E5, nv_E22]) (cj (impl_ReplyCode_ok r5.1 r6 h9) (cj (by simp [V.nv, nvL, nvL_all, nv_E3, nv_E4]) (cj rfl (cj1 ((laws_FnReply_l0_ok r1 r2 r3 r5 r6 FUEL 0 r9 h19).at h21)))))))))))))))))))))))))))))
end Go.Proofs.YtbophjkjmlenpaaDoorM
