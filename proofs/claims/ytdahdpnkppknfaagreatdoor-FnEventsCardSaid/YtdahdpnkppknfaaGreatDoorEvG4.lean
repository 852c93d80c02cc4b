/- Printed by gen.py: functions on plain data, and that the program computes them. No condition. -/
import Derived.Test.YtdahdpnkppknfaaGreatDoorEvG3
namespace Go.Proofs.YtdahdpnkppknfaaGreatDoorM
set_option linter.unusedVariables false
set_option linter.unusedSimpArgs false
open Go.RowKit
set_option maxRecDepth 100000

def spec_l12Data (c : l01Cur) (b : Book) : Option ((List Int) × l01Cur) :=
 (spec_l01Once c 14).bind fun r1 =>
 if r1.1 = true then
 (spec_l04Bytes r1.2).bind fun r2 =>
 some (r2.1, r2.2)
 else
 (spec_l01Once r1.2 14).bind fun r3 =>
 if r3.1 = true then
 (spec_l11Msg r3.2).bind fun r4 =>
 (spec_Encode r4.1).bind fun r5 =>
 some (r5.1, r4.2)
 else
 (spec_l12Req r3.2 b).bind fun r6 =>
 (spec_ReqMsg r6.1).bind fun r7 =>
 (spec_l01Once r6.2 4).bind fun r8 =>
 if r8.1 = true then
 (spec_WithField r7.1 41 (bs [84, 69, 82, 77, 48, 48, 48, 49])).bind fun r9 =>
 (spec_Encode r9.1).bind fun r10 =>
 (spec_l01Once r8.2 20).bind fun r11 =>
 if r11.1 = true then
 if (decide (0 < (r10.1.length : Int))) = true then
 (spec_l01Below r11.2 (r10.1.length : Int)).bind fun r12 =>
 (spec_l01Byte r12.2).bind fun r13 =>
 if (decide (0 ≤ r12.1)) = true then
 (r10.1[r12.1.toNat]?).bind fun x1 =>
 some ((r10.1.set r12.1.toNat (u8 r13.1)), r13.2)
 else none
 else
 some (r10.1, r11.2)
 else
 some (r10.1, r11.2)
 else
 (spec_Encode r7.1).bind fun r14 =>
 (spec_l01Once r8.2 20).bind fun r15 =>
 if r15.1 = true then
 if (decide (0 < (r14.1.length : Int))) = true then
 (spec_l01Below r15.2 (r14.1.length : Int)).bind fun r16 =>
 (spec_l01Byte r16.2).bind fun r17 =>
 if (decide (0 ≤ r16.1)) = true then
 (r14.1[r16.1.toNat]?).bind fun x2 =>
 some ((r14.1.set r16.1.toNat (u8 r17.1)), r17.2)
 else none
 else
 some (r14.1, r15.2)
 else
 some (r14.1, r15.2)
theorem spec_l12Data_ok (c : l01Cur) (b : Book) : Pn (fun y => Fn Tryz.prog 19 [(true, V.bx 47 [lF5 c.b, vI c.i, vI c.h]), (false, E36 b)] (E22 y.1) [V.bx 47 [lF5 y.2.b, vI y.2.i, vI y.2.h]]) (spec_l12Data c b) := by
  unfold spec_l12Data
  exact
   Pn.bind (fun r1 h1 =>
   Pn.ite (fun h2 =>
   Pn.bind (fun r2 h3 =>
   Pn.some (Fn.of [.call [true, false] (E4 r1.1) [V.bx 47 [lF5 r1.2.b, vI r1.2.i, vI r1.2.h]], bT, .call [true] (E22 r2.1) [V.bx 47 [lF5 r2.2.b, vI r2.2.i, vI r2.2.h]]] (by kernel_rfl) (cj (spec_l01Once_ok c 14 r1 h1) (cj tt (cj h2 (cj (spec_l04Bytes_ok r1.2 r2 h3) (cj1 tt)))))))) (fun h2 =>
   Pn.bind (fun r3 h4 =>
   Pn.ite (fun h5 =>
   Pn.bind (fun r4 h6 =>
   Pn.bind (fun r5 h7 =>
   Pn.some (Fn.of [.call [true, false] (E4 r1.1) [V.bx 47 [lF5 r1.2.b, vI r1.2.i, vI r1.2.h]], bF, .call [true, false] (E4 r3.1) [V.bx 47 [lF5 r3.2.b, vI r3.2.i, vI r3.2.h]], bT, .call [true] (E83 r4.1) [V.bx 47 [lF5 r4.2.b, vI r4.2.i, vI r4.2.h]], .call [] (V.tup [E22 r5.1, E4 r5.2]) []] (by kernel_rfl) (cj (spec_l01Once_ok c 14 r1 h1) (cj tt (cj h2 (cj (spec_l01Once_ok r1.2 14 r3 h4) (cj tt (cj h5 (cj (spec_l11Msg_ok r3.2 r4 h6) (cj tt (cj (spec_Encode_ok r4.1 r5 h7) (cj1 (by simp [V.nv, nvL, nvL_all, nv_E4, nv_E5, nv_E22] : (false || ((V.tup [E22 r5.1, E4 r5.2]).nv && nvL [])) = true))))))))))))))) (fun h5 =>
   Pn.bind (fun r6 h8 =>
   Pn.bind (fun r7 h9 =>
   Pn.bind (fun r8 h10 =>
   Pn.ite (fun h11 =>
   Pn.bind (fun r9 h12 =>
   Pn.bind (fun r10 h13 =>
   Pn.bind (fun r11 h14 =>
   Pn.ite (fun h15 =>
   Pn.ite (fun h16 =>
   Pn.bind (fun r12 h17 =>
   Pn.bind (fun r13 h18 =>
   Pn.ite (fun h19 =>
   Pn.bind (fun x1 h20 =>
   Pn.some (Fn.of [.call [true, false] (E4 r1.1) [V.bx 47 [lF5 r1.2.b, vI r1.2.i, vI r1.2.h]], bF, .call [true, false] (E4 r3.1) [V.bx 47 [lF5 r3.2.b, vI r3.2.i, vI r3.2.h]], bF, .call [true, false] (E88 r6.1) [V.bx 47 [lF5 r6.2.b, vI r6.2.i, vI r6.2.h]], .call [] (V.tup [E83 r7.1, E4 r7.2]) [], .call [true, false] (E4 r8.1) [V.bx 47 [lF5 r8.2.b, vI r8.2.i, vI r8.2.h]], bT, .call [] (V.tup [E83 r9.1, E4 r9.2]) [], .call [] (V.tup [E22 r10.1, E4 r10.2]) [], .call [true, false] (E4 r11.1) [V.bx 47 [lF5 r11.2.b, vI r11.2.i, vI r11.2.h]], bT, bT, .nm 47 (vI (r10.1.length : Int)), bT, bT, bT, .wait 3, .nm 53 (vI (r10.1.length : Int)), .call [true, false] (E3 r12.1) [V.bx 47 [lF5 r12.2.b, vI r12.2.i, vI r12.2.h]], .call [true] (E3 r13.1) [V.bx 47 [lF5 r13.2.b, vI r13.2.i, vI r13.2.h]], .el (E5 x1), .nb 5 (.row 5 (List.map E5 (r10.1.set r12.1.toNat (u8 r13.1))) [])] (by kernel_rfl) (cj (spec_l01Once_ok c 14 r1 h1) (cj tt (cj h2 (cj (spec_l01Once_ok r1.2 14 r3 h4) (cj tt (cj h5 (cj (spec_l12Req_ok r3.2 b r6 h8) (cj tt (cj (spec_ReqMsg_ok r6.1 r7 h9) (cj tt (cj (spec_l01Once_ok r6.2 4 r8 h10) (cj tt (cj h11 (cj (spec_WithField_ok r7.1 41 (bs [84, 69, 82, 77, 48, 48, 48, 49]) r9 h12) (cj (by simp [V.nv, nvL, nvL_all, nv_E3, nv_E4, nv_E9, nv_E81, nv_E83, nv_E115] : (false || ((V.tup [E83 r9.1, E4 r9.2]).nv && nvL [])) = true) (cj (spec_Encode_ok r9.1 r10 h13) (cj (by simp [V.nv, nvL, nvL_all, nv_E4, nv_E5, nv_E22] : (false || ((V.tup [E22 r10.1, E4 r10.2]).nv && nvL [])) = true) (cj (spec_l01Once_ok r8.2 20 r11 h14) (cj tt (cj h15 (cj h15 (cj (len_nm E5 r10.1) (cj h15 (cj h15 (cj h16 (cj (len_nm E5 r10.1) (cj (spec_l01Below_ok r11.2 (r10.1.length : Int) r12 h17 : Fn Tryz.prog 18 [(true, V.bx 47 [lF5 r11.2.b, vI r11.2.i, vI r11.2.h]), (false, E3 (r10.1.length : Int))] (E3 r12.1) [V.bx 47 [lF5 r12.2.b, vI r12.2.i, vI r12.2.h]]) (cj tt (cj (spec_l01Byte_ok r12.2 r13 h18) (cj tt (cj (od h19) (cj (map_ltN (od h19) h20 : (r12.1 : Int) < ((List.map E5 r10.1).length : Int)) (cj (rfl : look [] r12.1.toNat = none) (cj (map_get h20 : (List.map E5 r10.1)[r12.1.toNat]? = some (E5 x1)) (cj1 (nb_set E5 _ _ (u8 r13.1) : Blk.row 5 ((List.map E5 r10.1).set r12.1.toNat (V.sc (.int .u8 (u8 r13.1)))) [] = Blk.row 5 (List.map E5 (r10.1.set r12.1.toNat (u8 r13.1))) []))))))))))))))))))))))))))))))))))))))) (fun h19 =>
   Pn.none)))) (fun h16 =>
   Pn.some (Fn.of [.call [true, false] (E4 r1.1) [V.bx 47 [lF5 r1.2.b, vI r1.2.i, vI r1.2.h]], bF, .call [true, false] (E4 r3.1) [V.bx 47 [lF5 r3.2.b, vI r3.2.i, vI r3.2.h]], bF, .call [true, false] (E88 r6.1) [V.bx 47 [lF5 r6.2.b, vI r6.2.i, vI r6.2.h]], .call [] (V.tup [E83 r7.1, E4 r7.2]) [], .call [true, false] (E4 r8.1) [V.bx 47 [lF5 r8.2.b, vI r8.2.i, vI r8.2.h]], bT, .call [] (V.tup [E83 r9.1, E4 r9.2]) [], .call [] (V.tup [E22 r10.1, E4 r10.2]) [], .call [true, false] (E4 r11.1) [V.bx 47 [lF5 r11.2.b, vI r11.2.i, vI r11.2.h]], bT, bT, .nm 47 (vI (r10.1.length : Int)), bT, bT, bF] (by kernel_rfl) (cj (spec_l01Once_ok c 14 r1 h1) (cj tt (cj h2 (cj (spec_l01Once_ok r1.2 14 r3 h4) (cj tt (cj h5 (cj (spec_l12Req_ok r3.2 b r6 h8) (cj tt (cj (spec_ReqMsg_ok r6.1 r7 h9) (cj tt (cj (spec_l01Once_ok r6.2 4 r8 h10) (cj tt (cj h11 (cj (spec_WithField_ok r7.1 41 (bs [84, 69, 82, 77, 48, 48, 48, 49]) r9 h12) (cj (by simp [V.nv, nvL, nvL_all, nv_E3, nv_E4, nv_E9, nv_E81, nv_E83, nv_E115] : (false || ((V.tup [E83 r9.1, E4 r9.2]).nv && nvL [])) = true) (cj (spec_Encode_ok r9.1 r10 h13) (cj (by simp [V.nv, nvL, nvL_all, nv_E4, nv_E5, nv_E22] : (false || ((V.tup [E22 r10.1, E4 r10.2]).nv && nvL [])) = true) (cj (spec_l01Once_ok r8.2 20 r11 h14) (cj tt (cj h15 (cj h15 (cj (len_nm E5 r10.1) (cj h15 (cj h15 (cj1 h16)))))))))))))))))))))))))))) (fun h15 =>
   Pn.some (Fn.of [.call [true, false] (E4 r1.1) [V.bx 47 [lF5 r1.2.b, vI r1.2.i, vI r1.2.h]], bF, .call [true, false] (E4 r3.1) [V.bx 47 [lF5 r3.2.b, vI r3.2.i, vI r3.2.h]], bF, .call [true, false] (E88 r6.1) [V.bx 47 [lF5 r6.2.b, vI r6.2.i, vI r6.2.h]], .call [] (V.tup [E83 r7.1, E4 r7.2]) [], .call [true, false] (E4 r8.1) [V.bx 47 [lF5 r8.2.b, vI r8.2.i, vI r8.2.h]], bT, .call [] (V.tup [E83 r9.1, E4 r9.2]) [], .call [] (V.tup [E22 r10.1, E4 r10.2]) [], .call [true, false] (E4 r11.1) [V.bx 47 [lF5 r11.2.b, vI r11.2.i, vI r11.2.h]], bF, bF, bF, bF, bF] (by kernel_rfl) (cj (spec_l01Once_ok c 14 r1 h1) (cj tt (cj h2 (cj (spec_l01Once_ok r1.2 14 r3 h4) (cj tt (cj h5 (cj (spec_l12Req_ok r3.2 b r6 h8) (cj tt (cj (spec_ReqMsg_ok r6.1 r7 h9) (cj tt (cj (spec_l01Once_ok r6.2 4 r8 h10) (cj tt (cj h11 (cj (spec_WithField_ok r7.1 41 (bs [84, 69, 82, 77, 48, 48, 48, 49]) r9 h12) (cj (by simp [V.nv, nvL, nvL_all, nv_E3, nv_E4, nv_E9, nv_E81, nv_E83, nv_E115] : (false || ((V.tup [E83 r9.1, E4 r9.2]).nv && nvL [])) = true) (cj (spec_Encode_ok r9.1 r10 h13) (cj (by simp [V.nv, nvL, nvL_all, nv_E4, nv_E5, nv_E22] : (false || ((V.tup [E22 r10.1, E4 r10.2]).nv && nvL [])) = true) (cj (spec_l01Once_ok r8.2 20 r11 h14) (cj tt (cj h15 (cj h15 (cj h15 (cj h15 (cj1 ff)))))))))))))))))))))))))))))) (fun h11 =>
   Pn.bind (fun r14 h21 =>
   Pn.bind (fun r15 h22 =>
   Pn.ite (fun h23 =>
   Pn.ite (fun h24 =>
   Pn.bind (fun r16 h25 =>
   Pn.bind (fun r17 h26 =>
   Pn.ite (fun h27 =>
   Pn.bind (fun x2 h28 =>
   Pn.some (Fn.of [.call [true, false] (E4 r1.1) [V.bx 47 [lF5 r1.2.b, vI r1.2.i, vI r1.2.h]], bF, .call [true, false] (E4 r3.1) [V.bx 47 [lF5 r3.2.b, vI r3.2.i, vI r3.2.h]], bF, .call [true, false] (E88 r6.1) [V.bx 47 [lF5 r6.2.b, vI r6.2.i, vI r6.2.h]], .call [] (V.tup [E83 r7.1, E4 r7.2]) [], .call [true, false] (E4 r8.1) [V.bx 47 [lF5 r8.2.b, vI r8.2.i, vI r8.2.h]], bF, .call [] (V.tup [E22 r14.1, E4 r14.2]) [], .call [true, false] (E4 r15.1) [V.bx 47 [lF5 r15.2.b, vI r15.2.i, vI r15.2.h]], bT, bT, .nm 47 (vI (r14.1.length : Int)), bT, bT, bT, .wait 3, .nm 53 (vI (r14.1.length : Int)), .call [true, false] (E3 r16.1) [V.bx 47 [lF5 r16.2.b, vI r16.2.i, vI r16.2.h]], .call [true] (E3 r17.1) [V.bx 47 [lF5 r17.2.b, vI r17.2.i, vI r17.2.h]], .el (E5 x2), .nb 4 (.row 5 (List.map E5 (r14.1.set r16.1.toNat (u8 r17.1))) [])] (by kernel_rfl) (cj (spec_l01Once_ok c 14 r1 h1) (cj tt (cj h2 (cj (spec_l01Once_ok r1.2 14 r3 h4) (cj tt (cj h5 (cj (spec_l12Req_ok r3.2 b r6 h8) (cj tt (cj (spec_ReqMsg_ok r6.1 r7 h9) (cj tt (cj (spec_l01Once_ok r6.2 4 r8 h10) (cj tt (cj h11 (cj (spec_Encode_ok r7.1 r14 h21) (cj (by simp [V.nv, nvL, nvL_all, nv_E4, nv_E5, nv_E22] : (false || ((V.tup [E22 r14.1, E4 r14.2]).nv && nvL [])) = true) (cj (spec_l01Once_ok r8.2 20 r15 h22) (cj tt (cj h23 (cj h23 (cj (len_nm E5 r14.1) (cj h23 (cj h23 (cj h24 (cj (len_nm E5 r14.1) (cj (spec_l01Below_ok r15.2 (r14.1.length : Int) r16 h25 : Fn Tryz.prog 18 [(true, V.bx 47 [lF5 r15.2.b, vI r15.2.i, vI r15.2.h]), (false, E3 (r14.1.length : Int))] (E3 r16.1) [V.bx 47 [lF5 r16.2.b, vI r16.2.i, vI r16.2.h]]) (cj tt (cj (spec_l01Byte_ok r16.2 r17 h26) (cj tt (cj (od h27) (cj (map_ltN (od h27) h28 : (r16.1 : Int) < ((List.map E5 r14.1).length : Int)) (cj (rfl : look [] r16.1.toNat = none) (cj (map_get h28 : (List.map E5 r14.1)[r16.1.toNat]? = some (E5 x2)) (cj1 (nb_set E5 _ _ (u8 r17.1) : Blk.row 5 ((List.map E5 r14.1).set r16.1.toNat (V.sc (.int .u8 (u8 r17.1)))) [] = Blk.row 5 (List.map E5 (r14.1.set r16.1.toNat (u8 r17.1))) []))))))))))))))))))))))))))))))))))))) (fun h27 =>
   Pn.none)))) (fun h24 =>
   Pn.some (Fn.of [.call [true, false] (E4 r1.1) [V.bx 47 [lF5 r1.2.b, vI r1.2.i, vI r1.2.h]], bF, .call [true, false] (E4 r3.1) [V.bx 47 [lF5 r3.2.b, vI r3.2.i, vI r3.2.h]], bF, .call [true, false] (E88 r6.1) [V.bx 47 [lF5 r6.2.b, vI r6.2.i, vI r6.2.h]], .call [] (V.tup [E83 r7.1, E4 r7.2]) [], .call [true, false] (E4 r8.1) [V.bx 47 [lF5 r8.2.b, vI r8.2.i, vI r8.2.h]], bF, .call [] (V.tup [E22 r14.1, E4 r14.2]) [], .call [true, false] (E4 r15.1) [V.bx 47 [lF5 r15.2.b, vI r15.2.i, vI r15.2.h]], bT, bT, .nm 47 (vI (r14.1.length : Int)), bT, bT, bF] (by kernel_rfl) (cj (spec_l01Once_ok c 14 r1 h1) (cj tt (cj h2 (cj (spec_l01Once_ok r1.2 14 r3 h4) (cj tt (cj h5 (cj (spec_l12Req_ok r3.2 b r6 h8) (cj tt (cj (spec_ReqMsg_ok r6.1 r7 h9) (cj tt (cj (spec_l01Once_ok r6.2 4 r8 h10) (cj tt (cj h11 (cj (spec_Encode_ok r7.1 r14 h21) (cj (by simp [V.nv, nvL, nvL_all, nv_E4, nv_E5, nv_E22] : (false || ((V.tup [E22 r14.1, E4 r14.2]).nv && nvL [])) = true) (cj (spec_l01Once_ok r8.2 20 r15 h22) (cj tt (cj h23 (cj h23 (cj (len_nm E5 r14.1) (cj h23 (cj h23 (cj1 h24)))))))))))))))))))))))))) (fun h23 =>
   Pn.some (Fn.of [.call [true, false] (E4 r1.1) [V.bx 47 [lF5 r1.2.b, vI r1.2.i, vI r1.2.h]], bF, .call [true, false] (E4 r3.1) [V.bx 47 [lF5 r3.2.b, vI r3.2.i, vI r3.2.h]], bF, .call [true, false] (E88 r6.1) [V.bx 47 [lF5 r6.2.b, vI r6.2.i, vI r6.2.h]], .call [] (V.tup [E83 r7.1, E4 r7.2]) [], .call [true, false] (E4 r8.1) [V.bx 47 [lF5 r8.2.b, vI r8.2.i, vI r8.2.h]], bF, .call [] (V.tup [E22 r14.1, E4 r14.2]) [], .call [true, false] (E4 r15.1) [V.bx 47 [lF5 r15.2.b, vI r15.2.i, vI r15.2.h]], bF, bF, bF, bF, bF] (by kernel_rfl) (cj (spec_l01Once_ok c 14 r1 h1) (cj tt (cj h2 (cj (spec_l01Once_ok r1.2 14 r3 h4) (cj tt (cj h5 (cj (spec_l12Req_ok r3.2 b r6 h8) (cj tt (cj (spec_ReqMsg_ok r6.1 r7 h9) (cj tt (cj (spec_l01Once_ok r6.2 4 r8 h10) (cj tt (cj h11 (cj (spec_Encode_ok r7.1 r14 h21) (cj (by simp [V.nv, nvL, nvL_all, nv_E4, nv_E5, nv_E22] : (false || ((V.tup [E22 r14.1, E4 r14.2]).nv && nvL [])) = true) (cj (spec_l01Once_ok r8.2 20 r15 h22) (cj tt (cj h23 (cj h23 (cj h23 (cj h23 (cj1 ff))))))))))))))))))))))))))))))))))
def spec_l17Event (c : l01Cur) (b : Book) : Option (Event × l01Cur) :=
 (spec_l01Below c 9).bind fun r1 =>
 if (r1.1 == 0) = true then
 (spec_l12Data r1.2 b).bind fun r2 =>
 some ((Event.mk 1 0 r2.1), r2.2)
 else
 if (r1.1 == 1) = true then
 (spec_l12Data r1.2 b).bind fun r3 =>
 some ((Event.mk 1 0 r3.1), r3.2)
 else
 if (r1.1 == 2) = true then
 (spec_l01Below r1.2 5).bind fun r4 =>
 some ((Event.mk 3 (i64 (1 + r4.1)) []), r4.2)
 else
 (spec_l01Below r1.2 6).bind fun r5 =>
 some ((Event.mk 2 r5.1 []), r5.2)
theorem spec_l17Event_ok (c : l01Cur) (b : Book) : Pn (fun y => Fn Tryz.prog 20 [(true, V.bx 47 [lF5 c.b, vI c.i, vI c.h]), (false, E36 b)] (E29 y.1) [V.bx 47 [lF5 y.2.b, vI y.2.i, vI y.2.h]]) (spec_l17Event c b) := by
  unfold spec_l17Event
  exact
   Pn.bind (fun r1 h1 =>
   Pn.ite (fun h2 =>
   Pn.bind (fun r2 h3 =>
   Pn.some (Fn.of [.call [true, false] (E3 r1.1) [V.bx 47 [lF5 r1.2.b, vI r1.2.i, vI r1.2.h]], bT, bT, .call [true, false] (E22 r2.1) [V.bx 47 [lF5 r2.2.b, vI r2.2.i, vI r2.2.h]]] (by kernel_rfl) (cj (spec_l01Below_ok c 9 r1 h1) (cj tt (cj h2 (cj h2 (cj (spec_l12Data_ok r1.2 b r2 h3) (cj1 tt))))))))) (fun h2 =>
   Pn.ite (fun h4 =>
   Pn.bind (fun r3 h5 =>
   Pn.some (Fn.of [.call [true, false] (E3 r1.1) [V.bx 47 [lF5 r1.2.b, vI r1.2.i, vI r1.2.h]], bF, bT, .call [true, false] (E22 r3.1) [V.bx 47 [lF5 r3.2.b, vI r3.2.i, vI r3.2.h]]] (by kernel_rfl) (cj (spec_l01Below_ok c 9 r1 h1) (cj tt (cj h2 (cj h4 (cj (spec_l12Data_ok r1.2 b r3 h5) (cj1 tt))))))))) (fun h4 =>
   Pn.ite (fun h6 =>
   Pn.bind (fun r4 h7 =>
   Pn.some (Fn.of [.call [true, false] (E3 r1.1) [V.bx 47 [lF5 r1.2.b, vI r1.2.i, vI r1.2.h]], bF, bF, bT, .call [true, false] (E3 r4.1) [V.bx 47 [lF5 r4.2.b, vI r4.2.i, vI r4.2.h]]] (by kernel_rfl) (cj (spec_l01Below_ok c 9 r1 h1) (cj tt (cj h2 (cj h4 (cj h6 (cj (spec_l01Below_ok r1.2 5 r4 h7) (cj1 tt)))))))))) (fun h6 =>
   Pn.bind (fun r5 h8 =>
   Pn.some (Fn.of [.call [true, false] (E3 r1.1) [V.bx 47 [lF5 r1.2.b, vI r1.2.i, vI r1.2.h]], bF, bF, bF, .call [true, false] (E3 r5.1) [V.bx 47 [lF5 r5.2.b, vI r5.2.i, vI r5.2.h]]] (by kernel_rfl) (cj (spec_l01Below_ok c 9 r1 h1) (cj tt (cj h2 (cj h4 (cj h6 (cj (spec_l01Below_ok r1.2 6 r5 h8) (cj1 tt)))))))))))))
def spec_l17Events_l0 (b : Book) (most : Int) : Nat → (List Int) → Int → Int → Int → (List Event) → Option ((List Int) × Int × Int × (List Event))
  | 0, _, _, _, _, _ => none
  | fuel + 1, v1, v2, v3, v4, v5 =>
   if (decide (0 < v4)) = true then
   (spec_l12Data (l01Cur.mk v1 v2 v3) b).bind fun r2 =>
   if (capOk (v5.length + 1)) = true then
   spec_l17Events_l0 b most fuel r2.2.b r2.2.i r2.2.h (i64 (v4 - 1)) (v5 ++ [(Event.mk 1 0 r2.1)])
   else none
   else
   some (v1, v2, v3, v5)
theorem spec_l17Events_l0_ok (b : Book) (most : Int) : ∀ (fuel : Nat) (v1 : List Int) (v2 : Int) (v3 : Int) (v4 : Int) (v5 : List Event), Pn (LpO Tryz.prog (sub (codeOf Tryz.prog 10) [1, 1, 0, 1, 0, 0]) (st 39 [(0, V.ptr 0 0), (2, vI most), (4, V.ptr 1 0), (7, V.ow 2), (8, vI v4)] [Blk.box 47 [lF5 v1, vI v2, vI v3], Blk.box 36 [lF55 b.Accts], Blk.row 29 (List.map E29 v5) []] [some 0]) (fun (y : (List Int) × Int × Int × (List Event)) => (X.out 0, st 39 [(0, V.ptr 0 0), (2, vI most), (4, V.ptr 1 0), (7, V.ow 2)] [Blk.box 47 [lF5 y.1, vI y.2.1, vI y.2.2.1], Blk.box 36 [lF55 b.Accts], Blk.row 29 (List.map E29 y.2.2.2) []] [some 0]))) (spec_l17Events_l0 b most fuel v1 v2 v3 v4 v5)
  | 0, _, _, _, _, _ => Pn.none
  | fuel + 1, v1, v2, v3, v4, v5 => by
    unfold spec_l17Events_l0
    exact
     Pn.ite (fun h2 =>
     Pn.bind (fun r2 h3 =>
     Pn.ite (fun h4 =>
     LpO.go [bT, .call [true, false] (E22 r2.1) [V.bx 47 [lF5 r2.2.b, vI r2.2.i, vI r2.2.h]], .wait 2, .shut 4, .mv, .nb 5 (.row 29 (List.map E29 (v5 ++ [(Event.mk 1 0 r2.1)])) []), .wait 5, .mask [0, 2, 4, 7, 8], .ren [0, 1, 5]] (by kernel_rfl) (cj h2 (cj (spec_l12Data_ok (l01Cur.mk v1 v2 v3) b r2 h3) (cj tt (cj (cap1 (capN (by simp) h4) : (List.map E29 v5).length + [V.agg [vI 1, vI 0, lT5 r2.1]].length ≤ 9223372036854775807) (cj (cap2 (capN (by simp) h4) (by decide) : ((List.map E29 v5).length + [V.agg [vI 1, vI 0, lT5 r2.1]].length) * 40 ≤ 140737488355328) (cj1 (nb_app E29 v5 [(Event.mk 1 0 r2.1)] : Blk.row 29 ((List.map E29 v5) ++ [V.agg [vI 1, vI 0, lT5 r2.1]]) [] = Blk.row 29 (List.map E29 (v5 ++ [(Event.mk 1 0 r2.1)])) []))))))) (spec_l17Events_l0_ok b most fuel r2.2.b r2.2.i r2.2.h (i64 (v4 - 1)) (v5 ++ [(Event.mk 1 0 r2.1)]))) (fun h4 =>
     Pn.none))) (fun h2 =>
     Pn.some (LpO.out [bF, .mask [0, 2, 4, 7], .ren [0, 1, 2]] (by kernel_rfl) (show X.out 0 ≠ X.go from nofun) (cj1 h2)))
def spec_l17Events_l1 (b : Book) : Nat → (List Int) → Int → Int → Int → (List Event) → Option ((List Int) × Int × Int × (List Event))
  | 0, _, _, _, _, _ => none
  | fuel + 1, v6, v7, v8, v9, v10 =>
   if (decide (0 < v9)) = true then
   (spec_l17Event (l01Cur.mk v6 v7 v8) b).bind fun r5 =>
   if (capOk (v10.length + 1)) = true then
   spec_l17Events_l1 b fuel r5.2.b r5.2.i r5.2.h (i64 (v9 - 1)) (v10 ++ [r5.1])
   else none
   else
   some (v6, v7, v8, v10)
theorem spec_l17Events_l1_ok (b : Book) : ∀ (fuel : Nat) (v6 : List Int) (v7 : Int) (v8 : Int) (v9 : Int) (v10 : List Event), Pn (LpO Tryz.prog (sub (codeOf Tryz.prog 10) [1, 1, 1, 0, 1, 0, 0]) (st 39 [(0, V.ptr 0 0), (4, V.ptr 1 0), (7, V.ow 2), (9, vI v9)] [Blk.box 47 [lF5 v6, vI v7, vI v8], Blk.box 36 [lF55 b.Accts], Blk.row 29 (List.map E29 v10) []] [some 0]) (fun (y : (List Int) × Int × Int × (List Event)) => (X.out 2, st 39 [(7, V.ow 1)] [Blk.box 47 [lF5 y.1, vI y.2.1, vI y.2.2.1], Blk.row 29 (List.map E29 y.2.2.2) []] [some 0]))) (spec_l17Events_l1 b fuel v6 v7 v8 v9 v10)
  | 0, _, _, _, _, _ => Pn.none
  | fuel + 1, v6, v7, v8, v9, v10 => by
    unfold spec_l17Events_l1
    exact
     Pn.ite (fun h7 =>
     Pn.bind (fun r5 h8 =>
     Pn.ite (fun h9 =>
     LpO.go [bT, .call [true, false] (E29 r5.1) [V.bx 47 [lF5 r5.2.b, vI r5.2.i, vI r5.2.h]], .wait 1, .shut 4, .mv, .nb 5 (.row 29 (List.map E29 (v10 ++ [r5.1])) []), .wait 5, .mask [0, 4, 7, 9], .ren [0, 1, 5]] (by kernel_rfl) (cj h7 (cj (spec_l17Event_ok (l01Cur.mk v6 v7 v8) b r5 h8) (cj tt (cj (cap1 (capN (by simp) h9) : (List.map E29 v10).length + [V.agg [vI r5.1.Kind, vI r5.1.K, lT5 r5.1.Data]].length ≤ 9223372036854775807) (cj (cap2 (capN (by simp) h9) (by decide) : ((List.map E29 v10).length + [V.agg [vI r5.1.Kind, vI r5.1.K, lT5 r5.1.Data]].length) * 40 ≤ 140737488355328) (cj1 (nb_app E29 v10 [r5.1] : Blk.row 29 ((List.map E29 v10) ++ [V.agg [vI r5.1.Kind, vI r5.1.K, lT5 r5.1.Data]]) [] = Blk.row 29 (List.map E29 (v10 ++ [r5.1])) []))))))) (spec_l17Events_l1_ok b fuel r5.2.b r5.2.i r5.2.h (i64 (v9 - 1)) (v10 ++ [r5.1]))) (fun h9 =>
     Pn.none))) (fun h7 =>
     Pn.some (LpO.out [bF, .mask [7], .ren [0, 2]] (by kernel_rfl) (show X.out 2 ≠ X.go from nofun) (cj1 h7)))
def spec_l17Events (c : l01Cur) (b : Book) (most : Int) : Option ((List Event) × l01Cur) :=
 (spec_l01Below c 5).bind fun r1 =>
 (spec_l17Events_l0 b most FUEL r1.2.b r1.2.i r1.2.h r1.1 []).bind fun r3 =>
 (spec_l01Below (l01Cur.mk r3.1 r3.2.1 r3.2.2.1) (i64 (most + 1))).bind fun r4 =>
 (spec_l17Events_l1 b FUEL r4.2.b r4.2.i r4.2.h r4.1 r3.2.2.2).bind fun r6 =>
 some (r6.2.2.2, (l01Cur.mk r6.1 r6.2.1 r6.2.2.1))
theorem spec_l17Events_ok (c : l01Cur) (b : Book) (most : Int) : Pn (fun y => Fn Tryz.prog 10 [(true, V.bx 47 [lF5 c.b, vI c.i, vI c.h]), (false, E36 b), (false, E3 most)] (E23 y.1) [V.bx 47 [lF5 y.2.b, vI y.2.i, vI y.2.h]]) (spec_l17Events c b most) := by
  unfold spec_l17Events
  exact
   Pn.bind (fun r1 h1 =>
   Pn.bind (fun r3 h5 =>
   Pn.bind (fun r4 h6 =>
   Pn.bind (fun r6 h10 =>
   Pn.some (Fn.of [.call [true, false] (E3 r1.1) [V.bx 47 [lF5 r1.2.b, vI r1.2.i, vI r1.2.h]], .wait 2, .mask [0, 2, 4, 7, 8], .ren [0, 1, 2], .loop (X.out 0) (st 39 [(0, V.ptr 0 0), (2, vI most), (4, V.ptr 1 0), (7, V.ow 2)] [Blk.box 47 [lF5 r3.1, vI r3.2.1, vI r3.2.2.1], Blk.box 36 [lF55 b.Accts], Blk.row 29 (List.map E29 r3.2.2.2) []] [some 0]), .call [true, false] (E3 r4.1) [V.bx 47 [lF5 r4.2.b, vI r4.2.i, vI r4.2.h]], .wait 2, .mask [0, 4, 7, 9], .ren [0, 1, 2], .loop (X.out 2) (st 39 [(7, V.ow 1)] [Blk.box 47 [lF5 r6.1, vI r6.2.1, vI r6.2.2.1], Blk.row 29 (List.map E29 r6.2.2.2) []] [some 0])] (by kernel_rfl) (cj (spec_l01Below_ok c 5 r1 h1) (cj tt (cj (spec_l17Events_l0_ok b most FUEL r1.2.b r1.2.i r1.2.h r1.1 [] r3 h5) (cj (spec_l01Below_ok (l01Cur.mk r3.1 r3.2.1 r3.2.2.1) (i64 (most + 1)) r4 h6) (cj tt (cj1 (spec_l17Events_l1_ok b FUEL r4.2.b r4.2.i r4.2.h r4.1 r3.2.2.2 r6 h10))))))))))))
def spec_MakeEvents (code : List Int) : Option ((List Event)) :=
 (spec_l01New code).bind fun r1 =>
 (spec_l12Draw r1).bind fun r2 =>
 (spec_l17Events r2.2 r2.1 12).bind fun r3 =>
 some r3.1
theorem spec_MakeEvents_ok (code : List Int) : Pn (fun y => Fn Tryz.prog 4 [(false, E22 code)] (E23 y) []) (spec_MakeEvents code) := by
  unfold spec_MakeEvents
  exact
   Pn.bind (fun r1 h1 =>
   Pn.bind (fun r2 h2 =>
   Pn.bind (fun r3 h3 =>
   Pn.some (Fn.of [.call [] (V.bx 47 [lF5 r1.b, vI r1.i, vI r1.h]) [], .call [true] (E36 r2.1) [V.bx 47 [lF5 r2.2.b, vI r2.2.i, vI r2.2.h]], .call [true, false, false] (E23 r3.1) [V.un]] (by kernel_rfl) (cj (spec_l01New_ok code r1 h1) (cj tt (cj (spec_l12Draw_ok r1 r2 h2) (cj tt (cj (Fn.un1 (spec_l17Events_ok r2.2 r2.1 12 r3 h3) : Fn Tryz.prog 10 [(true, V.bx 47 [lF5 r2.2.b, vI r2.2.i, vI r2.2.h]), (false, E36 r2.1), (false, E3 12)] (E23 r3.1) [V.un]) (cj1 (by simp [V.nv, nvL, nvL_all, nv_E3, nv_E5, nv_E22, nv_E23, nv_E29, nv_E47] : (false || ((E23 r3.1).nv && nvL [V.un])) = true)))))))))))
def impl_within (n : Int) (low : Int) (high : Int) : Option (Bool) :=
 if (decide (low ≤ n)) = true then
 some (decide (n ≤ high))
 else
 some false
theorem impl_within_ok (n : Int) (low : Int) (high : Int) : Pn (fun y => Fn Tryz.prog 25 [(false, E3 n), (false, E3 low), (false, E3 high)] (E4 y) []) (impl_within n low high) := by
  unfold impl_within
  exact
   Pn.ite (fun h1 =>
   Pn.some (Fn.of [bT, bT, bT, bT] (by kernel_rfl) (cj h1 (cj h1 (cj h1 (cj1 h1)))))) (fun h1 =>
   Pn.some (Fn.of [bF, bF, bF, bF] (by kernel_rfl) (cj h1 (cj h1 (cj h1 (cj1 h1))))))
def impl_EventOk (e : Event) : Option (Bool) :=
 if (e.Kind == 1) = true then
 if (e.K == 0) = true then
 some (decide ((e.Data.length : Int) ≤ 300))
 else
 some false
 else
 if (e.Kind == 2) = true then
 (impl_within e.K 0 11).bind fun r1 =>
 if r1 = true then
 some ((e.Data.length : Int) == 0)
 else
 some false
 else
 if (e.Kind == 3) = true then
 (impl_within e.K 1 1000).bind fun r2 =>
 if r2 = true then
 some ((e.Data.length : Int) == 0)
 else
 some false
 else
 some false
theorem impl_EventOk_ok (e : Event) : Pn (fun y => Fn Tryz.prog 13 [(false, E29 e)] (E4 y) []) (impl_EventOk e) := by
  unfold impl_EventOk
  exact
   Pn.ite (fun h1 =>
   Pn.ite (fun h2 =>
   Pn.some (Fn.of [bT, bT, bT, bT, .nm 13 (vI (e.Data.length : Int)), bT, bT] (by kernel_rfl) (cj h1 (cj h2 (cj h2 (cj h2 (cj (len_nm E5 e.Data) (cj h2 (cj1 h2))))))))) (fun h2 =>
   Pn.some (Fn.of [bT, bF, bF, bF, bF, bF] (by kernel_rfl) (cj h1 (cj h2 (cj h2 (cj h2 (cj h2 (cj1 h2))))))))) (fun h1 =>
   Pn.ite (fun h3 =>
   Pn.bind (fun r1 h4 =>
   Pn.ite (fun h5 =>
   Pn.some (Fn.of [bF, bT, .call [] (E4 r1) [], bT, bT, bT, .nm 24 (vI (e.Data.length : Int)), bT, bT] (by kernel_rfl) (cj h1 (cj h3 (cj (impl_within_ok e.K 0 11 r1 h4) (cj tt (cj h5 (cj h5 (cj h5 (cj (len_nm E5 e.Data) (cj h5 (cj1 h5)))))))))))) (fun h5 =>
   Pn.some (Fn.of [bF, bT, .call [] (E4 r1) [], bF, bF, bF, bF, bF] (by kernel_rfl) (cj h1 (cj h3 (cj (impl_within_ok e.K 0 11 r1 h4) (cj tt (cj h5 (cj h5 (cj h5 (cj h5 (cj1 h5))))))))))))) (fun h3 =>
   Pn.ite (fun h6 =>
   Pn.bind (fun r2 h7 =>
   Pn.ite (fun h8 =>
   Pn.some (Fn.of [bF, bF, bT, .call [] (E4 r2) [], bT, bT, bT, .nm 35 (vI (e.Data.length : Int)), bT, bT] (by kernel_rfl) (cj h1 (cj h3 (cj h6 (cj (impl_within_ok e.K 1 1000 r2 h7) (cj tt (cj h8 (cj h8 (cj h8 (cj (len_nm E5 e.Data) (cj h8 (cj1 h8))))))))))))) (fun h8 =>
   Pn.some (Fn.of [bF, bF, bT, .call [] (E4 r2) [], bF, bF, bF, bF, bF] (by kernel_rfl) (cj h1 (cj h3 (cj h6 (cj (impl_within_ok e.K 1 1000 r2 h7) (cj tt (cj h8 (cj h8 (cj h8 (cj h8 (cj1 h8)))))))))))))) (fun h6 =>
   Pn.some (Fn.of [bF, bF, bF] (by kernel_rfl) (cj h1 (cj h3 (cj1 h6)))))))
def impl_HexText_l0 (b : List Int) : List Int → (List Int) → Option ((List Int))
  | [], v1 =>
   some v1
  | x1 :: t1, v1 =>
   if (decide (0 ≤ bshr .u8 x1 4)) = true then
   if (decide ((bshr .u8 x1 4 : Int) < ((bs [48, 49, 50, 51, 52, 53, 54, 55, 56, 57, 97, 98, 99, 100, 101, 102]).size : Int))) = true then
   if (decide (0 ≤ band .u8 x1 15)) = true then
   if (decide ((band .u8 x1 15 : Int) < ((bs [48, 49, 50, 51, 52, 53, 54, 55, 56, 57, 97, 98, 99, 100, 101, 102]).size : Int))) = true then
   if (capOk (v1.length + 2)) = true then
   impl_HexText_l0 b t1 (v1 ++ [sAt (bs [48, 49, 50, 51, 52, 53, 54, 55, 56, 57, 97, 98, 99, 100, 101, 102]) (bshr .u8 x1 4), sAt (bs [48, 49, 50, 51, 52, 53, 54, 55, 56, 57, 97, 98, 99, 100, 101, 102]) (band .u8 x1 15)])
   else none
   else none
   else none
   else none
   else none
theorem impl_HexText_l0_ok (b : List Int) (h2 : capOk b.length = true) : ∀ (t1 p1 : List Int) (_ : b = p1 ++ t1) (v1 : List Int), Pn (LpO Tryz.prog (sub (codeOf Tryz.prog 14) [1, 1, 0, 1, 0, 0]) (st 25 [(3, V.ow 0), (7, lF5 b), (8, vI (b.length : Int)), (9, vI (p1.length : Int))] [Blk.row 5 (List.map E5 v1) []] []) (fun (y : (List Int)) => (X.out 0, st 25 [(3, V.ow 0)] [Blk.row 5 (List.map E5 y) []] []))) (impl_HexText_l0 b t1 v1)
  | [], p1, h1, v1 => by
    unfold impl_HexText_l0
    exact
     Pn.some (LpO.out [bF, .mask [3], .ren [0]] (by kernel_rfl) (show X.out 0 ≠ X.go from nofun) (cj1 (rng_end h1 : (decide ((p1.length : Int) < (b.length : Int))) = false)))
  | x1 :: t1, p1, h1, v1 => by
    unfold impl_HexText_l0
    exact
     Pn.ite (fun h3 =>
     Pn.ite (fun h4 =>
     Pn.ite (fun h5 =>
     Pn.ite (fun h6 =>
     Pn.ite (fun h7 =>
     LpO.go [bT, .el (E5 x1), .draw [8], .cp [V.sc (.int .u8 (sAt (bs [48, 49, 50, 51, 52, 53, 54, 55, 56, 57, 97, 98, 99, 100, 101, 102]) (bshr .u8 x1 4))), V.sc (.int .u8 (sAt (bs [48, 49, 50, 51, 52, 53, 54, 55, 56, 57, 97, 98, 99, 100, 101, 102]) (band .u8 x1 15)))], .nb 2 (.row 5 (List.map E5 (v1 ++ [sAt (bs [48, 49, 50, 51, 52, 53, 54, 55, 56, 57, 97, 98, 99, 100, 101, 102]) (bshr .u8 x1 4), sAt (bs [48, 49, 50, 51, 52, 53, 54, 55, 56, 57, 97, 98, 99, 100, 101, 102]) (band .u8 x1 15)])) []), .wait 4, .mask [3, 7, 8, 9], .ren [2], .nm 9 (vI ((p1 ++ [x1]).length : Int))] (by kernel_rfl) (cj (rng_lt h1 : (decide ((p1.length : Int) < (b.length : Int))) = true) (cj (by omega : (0 : Int) ≤ (p1.length : Int)) (cj (rng_get _ h1 : (List.map E5 b)[(p1.length : Int).toNat]? = some (E5 x1)) (cj (by decide : ¬ (4 : Int) < 0) (cj (od h3) (cj (od h4) (cj (od h5) (cj (od h6) (cj (rfl : [V.sc (.int .u8 (sAt (bs [48, 49, 50, 51, 52, 53, 54, 55, 56, 57, 97, 98, 99, 100, 101, 102]) (bshr .u8 x1 4))), V.sc (.int .u8 (sAt (bs [48, 49, 50, 51, 52, 53, 54, 55, 56, 57, 97, 98, 99, 100, 101, 102]) (band .u8 x1 15)))] = [V.sc (.int .u8 (sAt (bs [48, 49, 50, 51, 52, 53, 54, 55, 56, 57, 97, 98, 99, 100, 101, 102]) (bshr .u8 x1 4))), V.sc (.int .u8 (sAt (bs [48, 49, 50, 51, 52, 53, 54, 55, 56, 57, 97, 98, 99, 100, 101, 102]) (band .u8 x1 15)))]) (cj (rfl : [V.sc (.int .u8 (sAt (bs [48, 49, 50, 51, 52, 53, 54, 55, 56, 57, 97, 98, 99, 100, 101, 102]) (bshr .u8 x1 4))), V.sc (.int .u8 (sAt (bs [48, 49, 50, 51, 52, 53, 54, 55, 56, 57, 97, 98, 99, 100, 101, 102]) (band .u8 x1 15)))].all V.flatE = true) (cj (cap1 (capN (by simp) h7) : (List.map E5 v1).length + [V.sc (.int .u8 (sAt (bs [48, 49, 50, 51, 52, 53, 54, 55, 56, 57, 97, 98, 99, 100, 101, 102]) (bshr .u8 x1 4))), V.sc (.int .u8 (sAt (bs [48, 49, 50, 51, 52, 53, 54, 55, 56, 57, 97, 98, 99, 100, 101, 102]) (band .u8 x1 15)))].length ≤ 9223372036854775807) (cj (cap2 (capN (by simp) h7) (by decide) : ((List.map E5 v1).length + [V.sc (.int .u8 (sAt (bs [48, 49, 50, 51, 52, 53, 54, 55, 56, 57, 97, 98, 99, 100, 101, 102]) (bshr .u8 x1 4))), V.sc (.int .u8 (sAt (bs [48, 49, 50, 51, 52, 53, 54, 55, 56, 57, 97, 98, 99, 100, 101, 102]) (band .u8 x1 15)))].length) * 1 ≤ 140737488355328) (cj (nb_app E5 v1 [sAt (bs [48, 49, 50, 51, 52, 53, 54, 55, 56, 57, 97, 98, 99, 100, 101, 102]) (bshr .u8 x1 4), sAt (bs [48, 49, 50, 51, 52, 53, 54, 55, 56, 57, 97, 98, 99, 100, 101, 102]) (band .u8 x1 15)] : Blk.row 5 ((List.map E5 v1) ++ [V.sc (.int .u8 (sAt (bs [48, 49, 50, 51, 52, 53, 54, 55, 56, 57, 97, 98, 99, 100, 101, 102]) (bshr .u8 x1 4))), V.sc (.int .u8 (sAt (bs [48, 49, 50, 51, 52, 53, 54, 55, 56, 57, 97, 98, 99, 100, 101, 102]) (band .u8 x1 15)))]) [] = Blk.row 5 (List.map E5 (v1 ++ [sAt (bs [48, 49, 50, 51, 52, 53, 54, 55, 56, 57, 97, 98, 99, 100, 101, 102]) (bshr .u8 x1 4), sAt (bs [48, 49, 50, 51, 52, 53, 54, 55, 56, 57, 97, 98, 99, 100, 101, 102]) (band .u8 x1 15)])) []) (cj1 (rng_next h1 h2 : vI (i64 ((p1.length : Int) + 1)) = vI ((p1 ++ [x1]).length : Int)))))))))))))))) (impl_HexText_l0_ok b h2 t1 (p1 ++ [x1]) (rng_step h1) (v1 ++ [sAt (bs [48, 49, 50, 51, 52, 53, 54, 55, 56, 57, 97, 98, 99, 100, 101, 102]) (bshr .u8 x1 4), sAt (bs [48, 49, 50, 51, 52, 53, 54, 55, 56, 57, 97, 98, 99, 100, 101, 102]) (band .u8 x1 15)]))) (fun h7 =>
     Pn.none)) (fun h6 =>
     Pn.none)) (fun h5 =>
     Pn.none)) (fun h4 =>
     Pn.none)) (fun h3 =>
     Pn.none)
def impl_HexText (b : List Int) : Option (ByteArray) :=
 if (capOk b.length) = true then
 (impl_HexText_l0 b b []).bind fun r1 =>
 some (bstr r1)
 else none
theorem impl_HexText_ok (b : List Int) : Pn (fun y => Fn Tryz.prog 14 [(false, E22 b)] (E9 y) []) (impl_HexText b) := by
  unfold impl_HexText
  exact
   Pn.ite (fun h8 =>
   Pn.bind (fun r1 h9 =>
   Pn.some (Fn.of [.wait 5, .nm 8 (vI (b.length : Int)), .wait 2, .mask [3, 7, 8, 9], .ren [0], .loop (X.out 0) (st 25 [(3, V.ow 0)] [Blk.row 5 (List.map E5 r1) []] []), .ints r1] (by kernel_rfl) (cj (len_nm E5 b) (cj (impl_HexText_l0_ok b h8 b [] rfl [] r1 h9) (cj1 (rfl : (List.map E5 r1) = r1.map fun n => V.sc (.int .u8 n)))))))) (fun h8 =>
   Pn.none)
def impl_isMoney (n : Int) : Option (Bool) :=
 (impl_within n 0 4611686018427387904).bind fun r1 =>
 some r1
theorem impl_isMoney_ok (n : Int) : Pn (fun y => Fn Tryz.prog 26 [(false, E3 n)] (E4 y) []) (impl_isMoney n) := by
  unfold impl_isMoney
  exact
   Pn.bind (fun r1 h1 =>
   Pn.some (Fn.of [.call [] (E4 r1) []] (by kernel_rfl) (cj (impl_within_ok n 0 4611686018427387904 r1 h1) (cj1 tt))))
def strconv_Itoa (i : Int) : Option ByteArray := if (decide (-9223372036854775808 ≤ i) && decide (i ≤ 9223372036854775807)) = true then some ⟨(Lib.itoa i).toArray⟩ else none
theorem strconv_Itoa_ok (i : Int) : Pn (fun y => Fn Tryz.prog 27 [(false, E3 i)] (E9 y) []) (strconv_Itoa i) := by
  unfold strconv_Itoa
  exact Pn.ite (fun h => Pn.some (Fn.flat [.int .i64 i] (by kernel_rfl) rfl fun w hw => by
    simp only [Bool.and_eq_true, decide_eq_true_eq] at h
    obtain ⟨cs, t, z, e1, e2⟩ := hw _ (List.Mem.head _)
    exact (Go.Proofs.Any.strconv_Itoa Tryz.laysM171 i h.1 h.2 w (tab_of (by kernel_rfl) e1 e2)).mono fun e w2 ⟨h1, k, os, h2⟩ => ⟨h1, h2 ▸ Lib.below_grow _ w (Nat.le_refl _) k os⟩)) (fun _ => Pn.none)
def impl_NumText (n : Int) : Option (ByteArray) :=
 (impl_isMoney n).bind fun r1 =>
 if r1 = true then
 (strconv_Itoa n).bind fun r2 =>
 some r2
 else
 some (bs [])
theorem impl_NumText_ok (n : Int) : Pn (fun y => Fn Tryz.prog 15 [(false, E3 n)] (E9 y) []) (impl_NumText n) := by
  unfold impl_NumText
  exact
   Pn.bind (fun r1 h1 =>
   Pn.ite (fun h2 =>
   Pn.bind (fun r2 h3 =>
   Pn.some (Fn.of [.call [] (E4 r1) [], bF, .call [] (E9 r2) []] (by kernel_rfl) (cj (impl_isMoney_ok n r1 h1) (cj tt (cj (nf h2) (cj (strconv_Itoa_ok n r2 h3) (cj1 tt)))))))) (fun h2 =>
   Pn.some (Fn.of [.call [] (E4 r1) [], bT] (by kernel_rfl) (cj (impl_isMoney_ok n r1 h1) (cj tt (cj1 (nt h2)))))))
def impl_EventText (e : Event) : Option (ByteArray) :=
 (impl_EventOk e).bind fun r1 =>
 if r1 = true then
 if (e.Kind == 1) = true then
 (impl_HexText e.Data).bind fun r2 =>
 if (decide ((bs [97, 114, 114, 105, 118, 101, 32]).size + r2.size ≤ 9223372036854775807)) = true then
 some ((bs [97, 114, 114, 105, 118, 101, 32]) ++ r2)
 else none
 else
 if (e.Kind == 2) = true then
 (impl_NumText e.K).bind fun r3 =>
 if (decide ((bs [112, 105, 99, 107, 32]).size + r3.size ≤ 9223372036854775807)) = true then
 some ((bs [112, 105, 99, 107, 32]) ++ r3)
 else none
 else
 (impl_NumText e.K).bind fun r4 =>
 if (decide ((bs [112, 97, 115, 115, 32]).size + r4.size ≤ 9223372036854775807)) = true then
 some ((bs [112, 97, 115, 115, 32]) ++ r4)
 else none
 else
 some (bs [])
theorem impl_EventText_ok (e : Event) : Pn (fun y => Fn Tryz.prog 7 [(false, E29 e)] (E9 y) []) (impl_EventText e) := by
  unfold impl_EventText
  exact
   Pn.bind (fun r1 h1 =>
   Pn.ite (fun h2 =>
   Pn.ite (fun h3 =>
   Pn.bind (fun r2 h4 =>
   Pn.ite (fun h5 =>
   Pn.some (Fn.of [.call [] (E4 r1) [], bF, bT, .call [] (E9 r2) []] (by kernel_rfl) (cj (impl_EventOk_ok e r1 h1) (cj tt (cj (nf h2) (cj h3 (cj (impl_HexText_ok e.Data r2 h4) (cj tt (cj1 (od h5)))))))))) (fun h5 =>
   Pn.none))) (fun h3 =>
   Pn.ite (fun h6 =>
   Pn.bind (fun r3 h7 =>
   Pn.ite (fun h8 =>
   Pn.some (Fn.of [.call [] (E4 r1) [], bF, bF, bT, .call [] (E9 r3) []] (by kernel_rfl) (cj (impl_EventOk_ok e r1 h1) (cj tt (cj (nf h2) (cj h3 (cj h6 (cj (impl_NumText_ok e.K r3 h7) (cj tt (cj1 (od h8))))))))))) (fun h8 =>
   Pn.none))) (fun h6 =>
   Pn.bind (fun r4 h9 =>
   Pn.ite (fun h10 =>
   Pn.some (Fn.of [.call [] (E4 r1) [], bF, bF, bF, .call [] (E9 r4) []] (by kernel_rfl) (cj (impl_EventOk_ok e r1 h1) (cj tt (cj (nf h2) (cj h3 (cj h6 (cj (impl_NumText_ok e.K r4 h9) (cj tt (cj1 (od h10))))))))))) (fun h10 =>
   Pn.none))))) (fun h2 =>
   Pn.some (Fn.of [.call [] (E4 r1) [], bT] (by kernel_rfl) (cj (impl_EventOk_ok e r1 h1) (cj tt (cj1 (nt h2)))))))
def impl_EventsText_l0 (l : List Event) : List Event → ByteArray → Option (Lo ByteArray Unit)
  | [], v1 =>
   some (.out v1)
  | x1 :: t1, v1 =>
   (impl_EventText x1).bind fun r1 =>
   if (r1 == (bs [])) = true then
   some (.ret ())
   else
   if (decide (r1.size + (bs [10]).size ≤ 9223372036854775807)) = true then
   if (decide (v1.size + (r1 ++ (bs [10])).size ≤ 9223372036854775807)) = true then
   impl_EventsText_l0 l t1 (v1 ++ (r1 ++ (bs [10])))
   else none
   else none
theorem impl_EventsText_l0_ok (l : List Event) (h2 : capOk l.length = true) : ∀ (t1 p1 : List Event) (_ : l = p1 ++ t1) (v1 : ByteArray), Pn (LpO Tryz.prog (sub (codeOf Tryz.prog 6) [1, 1, 0, 1, 0, 0]) (st 23 [(3, vS v1), (7, lF29 l), (8, vI (l.length : Int)), (9, vI (p1.length : Int))] [] []) (fun (y : Lo ByteArray Unit) => Lo.elim y (fun s => (X.out 0, st 23 [(3, vS s)] [] [])) (fun s => (X.ret, st 23 [(2, vS (bs []))] [] [])))) (impl_EventsText_l0 l t1 v1)
  | [], p1, h1, v1 => by
    unfold impl_EventsText_l0
    exact
     Pn.some (LpO.out [bF, .mask [3], .ren []] (by kernel_rfl) (show X.out 0 ≠ X.go from nofun) (cj1 (rng_end h1 : (decide ((p1.length : Int) < (l.length : Int))) = false)))
  | x1 :: t1, p1, h1, v1 => by
    unfold impl_EventsText_l0
    exact
     Pn.bind (fun r1 h3 =>
     Pn.ite (fun h4 =>
     Pn.some (LpO.out [bT, .el (E29 x1), .call [] (E9 r1) [], bT, .wait 1, .mask [2], .ren []] (by kernel_rfl) (show X.ret ≠ X.go from nofun) (cj (rng_lt h1 : (decide ((p1.length : Int) < (l.length : Int))) = true) (cj (by omega : (0 : Int) ≤ (p1.length : Int)) (cj (rng_get _ h1 : (List.map E29 l)[(p1.length : Int).toNat]? = some (E29 x1)) (cj (impl_EventText_ok x1 r1 h3) (cj tt (cj1 h4)))))))) (fun h4 =>
     Pn.ite (fun h5 =>
     Pn.ite (fun h6 =>
     LpO.go [bT, .el (E29 x1), .call [] (E9 r1) [], bF, .wait 7, .mask [3, 7, 8, 9], .ren [], .nm 9 (vI ((p1 ++ [x1]).length : Int))] (by kernel_rfl) (cj (rng_lt h1 : (decide ((p1.length : Int) < (l.length : Int))) = true) (cj (by omega : (0 : Int) ≤ (p1.length : Int)) (cj (rng_get _ h1 : (List.map E29 l)[(p1.length : Int).toNat]? = some (E29 x1)) (cj (impl_EventText_ok x1 r1 h3) (cj tt (cj h4 (cj (od h5) (cj (od h6) (cj1 (rng_next h1 h2 : vI (i64 ((p1.length : Int) + 1)) = vI ((p1 ++ [x1]).length : Int))))))))))) (impl_EventsText_l0_ok l h2 t1 (p1 ++ [x1]) (rng_step h1) (v1 ++ (r1 ++ (bs [10]))))) (fun h6 =>
     Pn.none)) (fun h5 =>
     Pn.none)))
def impl_EventsText (l : List Event) : Option (ByteArray) :=
 if (capOk l.length) = true then
 (impl_EventsText_l0 l l (bs [])).bind fun r2 =>
 Lo.elim r2 (fun s1 =>
 some s1) (fun s2 =>
 some (bs []))
 else none
theorem impl_EventsText_ok (l : List Event) : Pn (fun y => Fn Tryz.prog 6 [(false, E23 l)] (E9 y) []) (impl_EventsText l) := by
  unfold impl_EventsText
  exact
   Pn.ite (fun h7 =>
   Pn.bind (fun r2 h8 =>
   Pn.lo (fun s1 h9 =>
   Pn.some (Fn.of [.wait 4, .nm 8 (vI (l.length : Int)), .wait 2, .mask [3, 7, 8, 9], .ren [], .loop (X.out 0) (st 23 [(3, vS s1)] [] [])] (by kernel_rfl) (cj (len_nm E29 l) (cj1 ((impl_EventsText_l0_ok l h7 l [] rfl (bs []) r2 h8).at h9 :))))) (fun s2 h10 =>
   Pn.some (Fn.of [.wait 4, .nm 8 (vI (l.length : Int)), .wait 2, .mask [3, 7, 8, 9], .ren [], .loop (X.ret) (st 23 [(2, vS (bs []))] [] [])] (by kernel_rfl) (cj (len_nm E29 l) (cj1 ((impl_EventsText_l0_ok l h7 l [] rfl (bs []) r2 h8).at h10 :))))))) (fun h7 =>
   Pn.none)
def strings_Split (s_ : ByteArray) (sep : ByteArray) : Option (List ByteArray) := if (decide (s_.size < 4294967281) && decide (1 ≤ sep.size) && decide ((splitP s_ sep).length ≤ 9223372036854775807)) = true then some (splitP s_ sep) else none
theorem strings_Split_ok (s_ : ByteArray) (sep : ByteArray) : Pn (fun y => Fn Tryz.prog 21 [(false, E9 s_), (false, E9 sep)] (E39 y) []) (strings_Split s_ sep) := by
  unfold strings_Split
  exact Pn.ite (fun h => Pn.some (by
    simp only [Bool.and_eq_true, decide_eq_true_eq] at h
    exact Fn.strs (e := 9) [(.string s_), (.string sep)] (by kernel_rfl) (by kernel_rfl) h.2 (fun w hw => by
      obtain ⟨mv, hm, mz, rfl⟩ := glob_cell hw (b := 0) (List.Mem.tail _ (List.Mem.head _)) (v := fun u => ∃ z, u = Value.int .i64 z) (fun cs ⟨z, hz⟩ => ⟨_, hz, z, rfl⟩)
      have hl : Lib.countB s_ sep + 1 = (splitP s_ sep).length := (Lib.splitB_all sep h.1.2 0 _ s_ rfl).symm
      rw [← hl]
      exact Go.Proofs.Any.strings_Split Tryz.lays146 (by kernel_rfl) s_ sep mz w (by omega) hm h.1.2))) (fun _ => Pn.none)
def impl_Lines (s_ : ByteArray) : Option ((List ByteArray)) :=
 (strings_Split s_ (bs [10])).bind fun r1 =>
 if (decide (0 ≤ (i64 ((r1.length : Int) - 1)))) = true then
 (r1[(i64 ((r1.length : Int) - 1)).toNat]?).bind fun x1 =>
 if (x1 == (bs [])) = true then
 if (decide ((i64 ((r1.length : Int) - 1)) ≤ (r1.length : Int))) = true then
 some (r1.take ((i64 ((r1.length : Int) - 1)).toNat))
 else none
 else
 some r1
 else none
theorem impl_Lines_ok (s_ : ByteArray) : Pn (fun y => Fn Tryz.prog 11 [(false, E9 s_)] (E39 y) []) (impl_Lines s_) := by
  unfold impl_Lines
  exact
   Pn.bind (fun r1 h1 =>
   Pn.ite (fun h2 =>
   Pn.bind (fun x1 h3 =>
   Pn.ite (fun h4 =>
   Pn.ite (fun h5 =>
   Pn.some (Fn.as (res := V.sl true 9 ((List.map E9 r1).take ((i64 ((r1.length : Int) - 1)).toNat))) (sb_take _ _ _) rfl (Fn.of [.call [] (E39 r1) [], .wait 4, .nm 8 (vI (r1.length : Int)), .el (E9 x1), bT, .wait 2, .nm 15 (vI (r1.length : Int))] (by kernel_rfl) (cj (strings_Split_ok s_ (bs [10]) r1 h1) (cj tt (cj (len_nm E9 r1) (cj (od h2) (cj (map_ltN (od h2) h3 : ((i64 ((r1.length : Int) - 1)) : Int) < ((List.map E9 r1).length : Int)) (cj (rfl : look [] ((i64 ((r1.length : Int) - 1)).toNat) = none) (cj (map_get h3 : (List.map E9 r1)[(i64 ((r1.length : Int) - 1)).toNat]? = some (E9 x1)) (cj h4 (cj (len_nm E9 r1) (cj (by decide : (0 : Int) ≤ 0) (cj (od h2) (cj1 (by rw [List.length_map]; exact (od h5) : ((i64 ((r1.length : Int) - 1)) : Int) ≤ ((List.map E9 r1).length : Int))))))))))))))))) (fun h5 =>
   Pn.none)) (fun h4 =>
   Pn.some (Fn.of [.call [] (E39 r1) [], .wait 4, .nm 8 (vI (r1.length : Int)), .el (E9 x1), bF] (by kernel_rfl) (cj (strings_Split_ok s_ (bs [10]) r1 h1) (cj tt (cj (len_nm E9 r1) (cj (od h2) (cj (map_ltN (od h2) h3 : ((i64 ((r1.length : Int) - 1)) : Int) < ((List.map E9 r1).length : Int)) (cj (rfl : look [] ((i64 ((r1.length : Int) - 1)).toNat) = none) (cj (map_get h3 : (List.map E9 r1)[(i64 ((r1.length : Int) - 1)).toNat]? = some (E9 x1)) (cj1 h4)))))))))))) (fun h2 =>
   Pn.none))
def strings_Cut (s_ : ByteArray) (sep : ByteArray) : Option (ByteArray × ByteArray × Bool) := if (decide (s_.size < 4294967281)) = true then some (cutP s_ sep) else none
theorem strings_Cut_ok (s_ : ByteArray) (sep : ByteArray) : Pn (fun y => Fn Tryz.prog 22 [(false, E9 s_), (false, E9 sep)] (V.tup [E9 y.1, E9 y.2.1, E4 y.2.2]) []) (strings_Cut s_ sep) := by
  unfold strings_Cut
  exact Pn.ite (fun h => Pn.some (by
    simp only [Bool.and_eq_true, decide_eq_true_eq] at h
    exact Fn.flats [(.string s_), (.string sep)] (by kernel_rfl) rfl (fun w hw => by
      obtain ⟨mv, hm, mz, rfl⟩ := glob_cell hw (b := 0) (List.Mem.tail _ (List.Mem.head _)) (v := fun u => ∃ z, u = Value.int .i64 z) (fun cs ⟨z, hz⟩ => ⟨_, hz, z, rfl⟩)
      exact (Go.Proofs.Any.strings_Cut Tryz.lays145 s_ sep mz w (by omega) hm).mono fun e w2 ⟨h1, n, h2⟩ => ⟨h1, h2 ▸ below_drewN w n⟩))) (fun _ => Pn.none)
def strings_IndexByte (s_ : ByteArray) (c : Int) : Option (Int) := if (true) = true then some (idxbP s_ c) else none
theorem strings_IndexByte_ok (s_ : ByteArray) (c : Int) : Pn (fun y => Fn Tryz.prog 44 [(false, E9 s_), (false, E5 c)] (E3 y) []) (strings_IndexByte s_ c) := by
  unfold strings_IndexByte
  exact Pn.ite (fun h => Pn.some (by
    simp only [Bool.and_eq_true, decide_eq_true_eq] at h
    exact Fn.flat [(.string s_), (.int .u8 c)] (by kernel_rfl) rfl (fun w hw => by
      exact (Go.Proofs.Any.strings_IndexByte Tryz.lays137 s_ c w).mono fun e w2 ⟨h1, h2⟩ => ⟨h1, h2 ▸ Below.refl _ _⟩))) (fun _ => Pn.none)
def impl_TextHex_l0 (s_ : ByteArray) : Nat → Int → (List Int) → Option (Lo ((List Int)) Unit)
  | 0, _, _ => none
  | fuel + 1, v1, v2 =>
   if (decide (v1 < (s_.size : Int))) = true then
   if (decide (0 ≤ v1)) = true then
   if (decide ((v1 : Int) < (s_.size : Int))) = true then
   if (decide (0 ≤ i64 (v1 + 1))) = true then
   if (decide ((i64 (v1 + 1) : Int) < (s_.size : Int))) = true then
   (strings_IndexByte (bs [48, 49, 50, 51, 52, 53, 54, 55, 56, 57, 97, 98, 99, 100, 101, 102]) (sAt s_ v1)).bind fun r1 =>
   (strings_IndexByte (bs [48, 49, 50, 51, 52, 53, 54, 55, 56, 57, 97, 98, 99, 100, 101, 102]) (sAt s_ (i64 (v1 + 1)))).bind fun r2 =>
   if (decide (r1 < 0)) = true then
   some (.ret ())
   else
   if (decide (r2 < 0)) = true then
   some (.ret ())
   else
   if (capOk (v2.length + 1)) = true then
   impl_TextHex_l0 s_ fuel (i64 (v1 + 2)) (v2 ++ [u8 (i64 ((i64 (16 * r1)) + r2))])
   else none
   else none
   else none
   else none
   else none
   else
   some (.out v2)
theorem impl_TextHex_l0_ok (s_ : ByteArray) : ∀ (fuel : Nat) (v1 : Int) (v2 : List Int), Pn (LpO Tryz.prog (sub (codeOf Tryz.prog 23) [1, 1, 1, 0, 1, 0, 0]) (st 43 [(0, vS s_), (4, V.ow 0), (5, vI v1)] [Blk.row 5 (List.map E5 v2) []] []) (fun (y : Lo ((List Int)) Unit) => Lo.elim y (fun s => (X.out 0, st 43 [(4, V.ow 0)] [Blk.row 5 (List.map E5 s) []] [])) (fun s => (X.ret, st 43 [(2, V.nl 5), (3, vB false)] [] [])))) (impl_TextHex_l0 s_ fuel v1 v2)
  | 0, _, _ => Pn.none
  | fuel + 1, v1, v2 => by
    unfold impl_TextHex_l0
    exact
     Pn.ite (fun h2 =>
     Pn.ite (fun h3 =>
     Pn.ite (fun h4 =>
     Pn.ite (fun h5 =>
     Pn.ite (fun h6 =>
     Pn.bind (fun r1 h7 =>
     Pn.bind (fun r2 h8 =>
     Pn.ite (fun h9 =>
     Pn.some (LpO.out [bT, .draw [], .call [] (E3 r1) [], .call [] (E3 r2) [], bT, bT, bT, bT, .wait 2, .mask [2, 3], .ren []] (by kernel_rfl) (show X.ret ≠ X.go from nofun) (cj h2 (cj (od h3) (cj (od h4) (cj (od h5) (cj (od h6) (cj (strings_IndexByte_ok (bs [48, 49, 50, 51, 52, 53, 54, 55, 56, 57, 97, 98, 99, 100, 101, 102]) (sAt s_ v1) r1 h7) (cj tt (cj (strings_IndexByte_ok (bs [48, 49, 50, 51, 52, 53, 54, 55, 56, 57, 97, 98, 99, 100, 101, 102]) (sAt s_ (i64 (v1 + 1))) r2 h8) (cj tt (cj h9 (cj h9 (cj h9 (cj1 (rfl : true = true)))))))))))))))) (fun h9 =>
     Pn.ite (fun h10 =>
     Pn.some (LpO.out [bT, .draw [], .call [] (E3 r1) [], .call [] (E3 r2) [], bF, bF, bF, bT, .wait 2, .mask [2, 3], .ren []] (by kernel_rfl) (show X.ret ≠ X.go from nofun) (cj h2 (cj (od h3) (cj (od h4) (cj (od h5) (cj (od h6) (cj (strings_IndexByte_ok (bs [48, 49, 50, 51, 52, 53, 54, 55, 56, 57, 97, 98, 99, 100, 101, 102]) (sAt s_ v1) r1 h7) (cj tt (cj (strings_IndexByte_ok (bs [48, 49, 50, 51, 52, 53, 54, 55, 56, 57, 97, 98, 99, 100, 101, 102]) (sAt s_ (i64 (v1 + 1))) r2 h8) (cj tt (cj h9 (cj h9 (cj h9 (cj1 h10))))))))))))))) (fun h10 =>
     Pn.ite (fun h11 =>
     LpO.go [bT, .draw [], .call [] (E3 r1) [], .call [] (E3 r2) [], bF, bF, bF, bF, .cp [V.sc (.int .u8 (u8 (i64 ((i64 (16 * r1)) + r2))))], .nb 2 (.row 5 (List.map E5 (v2 ++ [u8 (i64 ((i64 (16 * r1)) + r2))])) []), .wait 5, .mask [0, 4, 5], .ren [2]] (by kernel_rfl) (cj h2 (cj (od h3) (cj (od h4) (cj (od h5) (cj (od h6) (cj (strings_IndexByte_ok (bs [48, 49, 50, 51, 52, 53, 54, 55, 56, 57, 97, 98, 99, 100, 101, 102]) (sAt s_ v1) r1 h7) (cj tt (cj (strings_IndexByte_ok (bs [48, 49, 50, 51, 52, 53, 54, 55, 56, 57, 97, 98, 99, 100, 101, 102]) (sAt s_ (i64 (v1 + 1))) r2 h8) (cj tt (cj h9 (cj h9 (cj h9 (cj h10 (cj (rfl : [V.sc (.int .u8 (u8 (i64 ((i64 (16 * r1)) + r2))))] = [V.sc (.int .u8 (u8 (i64 ((i64 (16 * r1)) + r2))))]) (cj (rfl : [V.sc (.int .u8 (u8 (i64 ((i64 (16 * r1)) + r2))))].all V.flatE = true) (cj (cap1 (capN (by simp) h11) : (List.map E5 v2).length + [V.sc (.int .u8 (u8 (i64 ((i64 (16 * r1)) + r2))))].length ≤ 9223372036854775807) (cj (cap2 (capN (by simp) h11) (by decide) : ((List.map E5 v2).length + [V.sc (.int .u8 (u8 (i64 ((i64 (16 * r1)) + r2))))].length) * 1 ≤ 140737488355328) (cj1 (nb_app E5 v2 [u8 (i64 ((i64 (16 * r1)) + r2))] : Blk.row 5 ((List.map E5 v2) ++ [V.sc (.int .u8 (u8 (i64 ((i64 (16 * r1)) + r2))))]) [] = Blk.row 5 (List.map E5 (v2 ++ [u8 (i64 ((i64 (16 * r1)) + r2))])) []))))))))))))))))))) (impl_TextHex_l0_ok s_ fuel (i64 (v1 + 2)) (v2 ++ [u8 (i64 ((i64 (16 * r1)) + r2))]))) (fun h11 =>
     Pn.none)))))) (fun h6 =>
     Pn.none)) (fun h5 =>
     Pn.none)) (fun h4 =>
     Pn.none)) (fun h3 =>
     Pn.none)) (fun h2 =>
     Pn.some (LpO.out [bF, .mask [4], .ren [0]] (by kernel_rfl) (show X.out 0 ≠ X.go from nofun) (cj1 h2)))
def impl_TextHex (s_ : ByteArray) : Option ((List Int) × Bool) :=
 if ((Int.tmod (s_.size : Int) 2) == 1) = true then
 some ([], false)
 else
 (impl_TextHex_l0 s_ FUEL 0 []).bind fun r3 =>
 Lo.elim r3 (fun s1 =>
 some (s1, true)) (fun s2 =>
 some ([], false))
theorem impl_TextHex_ok (s_ : ByteArray) : Pn (fun y => Fn Tryz.prog 23 [(false, E9 s_)] (V.tup [E22 y.1, E4 y.2]) []) (impl_TextHex s_) := by
  unfold impl_TextHex
  exact
   Pn.ite (fun h1 =>
   Pn.some (Fn.of [bT] (by kernel_rfl) (cj (by decide : (2 : Int) ≠ 0) (cj1 h1)))) (fun h1 =>
   Pn.bind (fun r3 h12 =>
   Pn.lo (fun s1 h13 =>
   Pn.some (Fn.of [bF, .wait 3, .mask [0, 4, 5], .ren [0], .loop (X.out 0) (st 43 [(4, V.ow 0)] [Blk.row 5 (List.map E5 s1) []] [])] (by kernel_rfl) (cj (by decide : (2 : Int) ≠ 0) (cj h1 (cj1 ((impl_TextHex_l0_ok s_ FUEL 0 [] r3 h12).at h13 :)))))) (fun s2 h14 =>
   Pn.some (Fn.of [bF, .wait 3, .mask [0, 4, 5], .ren [0], .loop (X.ret) (st 43 [(2, V.nl 5), (3, vB false)] [] [])] (by kernel_rfl) (cj (by decide : (2 : Int) ≠ 0) (cj h1 (cj1 ((impl_TextHex_l0_ok s_ FUEL 0 [] r3 h12).at h14 :))))))))
def impl_TextNum (s_ : ByteArray) : Option (Int × Bool) := if (decide (s_.size ≤ 281474976710656)) = true then (match Lib.atoiAll s_.data.toList with | .ok v => (impl_isMoney v).bind fun r1 => if r1 = true then (impl_NumText v).bind fun r2 => (if (r2 == s_) = true then some (v, true) else some (0, false)) else some (0, false) | _ => some (0, false)) else none
set_option maxHeartbeats 4000000 in
theorem impl_TextNum_ok (s_ : ByteArray) : Pn (fun y => Fn Tryz.prog 24 [(false, E9 s_)] (V.tup [E3 y.1, E4 y.2]) []) (impl_TextNum s_) := by
  unfold impl_TextNum
  refine Pn.ite (fun hz => ?_) (fun _ => Pn.none)
  have hz := of_decide_eq_true hz
  cases hv : Lib.atoiAll s_.data.toList with
  | ok v =>
    refine Pn.bind (fun r1 h1 => ?_)
    have hD := fun w hw => Fn.calls [.int .i64 v] (impl_isMoney_ok v r1 h1) (r := .bool r1) rfl w hw
    have hA := fun w => Go.Proofs.Any.strconv_Atoi_ok Tryz.laysC172 s_ (by omega) v hv w
    refine Pn.ite (fun hr => ?_) (fun hr => ?_)
    · subst hr
      refine Pn.bind (fun r2 h2 => ?_)
      have hK := fun w hw => Fn.calls [.int .i64 v] (impl_NumText_ok v r2 h2) (r := .string r2) rfl w hw
      refine Pn.ite (fun hq => Pn.some (Fn.flats [.string s_] (by kernel_rfl) rfl (rs := [.int .i64 v, .bool true]) (fun w hw => ?_))) (fun hq => Pn.some (Fn.flats [.string s_] (by kernel_rfl) rfl (rs := [.int .i64 0, .bool false]) (fun w hw => ?_)))
      · have hq2 : r2 = s_ := ba_of_beq hq
        subst hq2
        go_enter Tryz.func24, Tryz.ntmps24
        go_wp2_with (go_at_call 45; refine (hA _).mono ?_; rintro e w1 ⟨rfl, hb1⟩)
        have hb1 := below_bytes hb1
        go_wp2_with (go_at_call 26; refine (hD _ (hw.below hb1)).mono ?_; rintro e w2 ⟨rfl, hb2⟩)
        have hb2 := below_then hb1 hb2
        go_wp2_with (go_at_call 15; refine (hK _ (hw.below hb2)).mono ?_; rintro e w3 ⟨rfl, hb3⟩)
        go_wp2
        go_ret2
        exact ⟨rfl, below_then hb2 hb3⟩
      · have hq3 : (r2.toList == s_.toList) = false := by rw [← beq_toListBytes]; exact hq
        go_enter Tryz.func24, Tryz.ntmps24
        go_wp2_with (go_at_call 45; refine (hA _).mono ?_; rintro e w1 ⟨rfl, hb1⟩)
        have hb1 := below_bytes hb1
        go_wp2_with (go_at_call 26; refine (hD _ (hw.below hb1)).mono ?_; rintro e w2 ⟨rfl, hb2⟩)
        have hb2 := below_then hb1 hb2
        go_wp2_with (go_at_call 15; refine (hK _ (hw.below hb2)).mono ?_; rintro e w3 ⟨rfl, hb3⟩)
        go_wp2
        go_ret2
        exact ⟨rfl, below_then hb2 hb3⟩
    · subst hr
      refine Pn.some (Fn.flats [.string s_] (by kernel_rfl) rfl (rs := [.int .i64 0, .bool false]) (fun w hw => ?_))
      go_enter Tryz.func24, Tryz.ntmps24
      go_wp2_with (go_at_call 45; refine (hA _).mono ?_; rintro e w1 ⟨rfl, hb1⟩)
      have hb1 := below_bytes hb1
      go_wp2_with (go_at_call 26; refine (hD _ (hw.below hb1)).mono ?_; rintro e w2 ⟨rfl, hb2⟩)
      go_wp2
      go_ret2
      exact ⟨rfl, below_then hb1 hb2⟩
  | «syntax» =>
    refine Pn.some (Fn.flats [.string s_] (by kernel_rfl) rfl (rs := [.int .i64 0, .bool false]) (fun w hw => ?_))
    obtain ⟨ev, hc, he⟩ := glob_cell hw (b := 1) (List.Mem.tail _ (List.Mem.tail _ (List.Mem.head _))) (v := fun ev => ev = .nilIface ∨ ∃ te pe, ev = .iface te pe) (fun cs h => h)
    have hA := Go.Proofs.Any.strconv_Atoi_syntax Tryz.laysC172 s_ hz hv ev w hc he
    go_enter Tryz.func24, Tryz.ntmps24
    go_wp2_with (go_at_call 45; refine hA.mono ?_; rintro e w1 ⟨M, rfl, _, _, hb1⟩)
    go_wp2
    go_ret2
    exact ⟨rfl, hb1⟩
  | range =>
    refine Pn.some (Fn.flats [.string s_] (by kernel_rfl) rfl (rs := [.int .i64 0, .bool false]) (fun w hw => ?_))
    obtain ⟨ev, hc, he⟩ := glob_cell hw (b := 2) (List.Mem.tail _ (List.Mem.tail _ (List.Mem.tail _ (List.Mem.head _)))) (v := fun ev => ev = .nilIface ∨ ∃ te pe, ev = .iface te pe) (fun cs h => h)
    have hA := Go.Proofs.Any.strconv_Atoi_range Tryz.laysC172 s_ hz hv ev w hc he
    go_enter Tryz.func24, Tryz.ntmps24
    go_wp2_with (go_at_call 45; refine hA.mono ?_; rintro e w1 ⟨M, rfl, _, _, hb1⟩)
    go_wp2
    go_ret2
    exact ⟨rfl, hb1⟩
def impl_TextEvent_c0 (s_ : ByteArray) (r1 : ByteArray × ByteArray × Bool) : Option (Int × Int × (List Int)) :=
 if (r1.1 == (bs [97, 114, 114, 105, 118, 101])) = true then
 (impl_TextHex r1.2.1).bind fun r2 =>
 some (1, 0, r2.1)
 else
 if (r1.1 == (bs [112, 105, 99, 107])) = true then
 (impl_TextNum r1.2.1).bind fun r3 =>
 some (2, r3.1, [])
 else
 if (r1.1 == (bs [112, 97, 115, 115])) = true then
 (impl_TextNum r1.2.1).bind fun r4 =>
 some (3, r4.1, [])
 else
 some (0, 0, [])
theorem impl_TextEvent_c0_ok (s_ : ByteArray) (r1 : ByteArray × ByteArray × Bool) : Pn (JnO Tryz.prog (sub (codeOf Tryz.prog 12) [1, 1, 1, 0]) (st 53 [(0, vS s_), (2, V.ptr 0 0), (4, vS r1.1), (5, vS r1.2.1), (7, V.ptr 1 0)] [Blk.box 29 [vI 0, vI 0, V.nl 5], Blk.box 29 [vI 0, vI 0, V.ow 2], Blk.row 5 ([] : List V) []] []) (fun (y : Int × Int × (List Int)) => (X.go, st 53 [(0, vS s_), (2, V.ptr 0 0), (7, V.ptr 1 0)] [Blk.box 29 [vI 0, vI 0, V.nl 5], Blk.box 29 [vI y.1, vI y.2.1, V.ow 2], Blk.row 5 (List.map E5 y.2.2) []] []))) (impl_TextEvent_c0 s_ r1) := by
  unfold impl_TextEvent_c0
  exact
   Pn.ite (fun h2 =>
   Pn.bind (fun r2 h3 =>
   Pn.some (JnO.of [bT, .call [] (V.tup [E22 r2.1, E4 r2.2]) [], .wait 6, .mask [0, 2, 7], .ren [0, 1, 3]] (by kernel_rfl) (cj h2 (cj (impl_TextHex_ok r1.2.1 r2 h3) (cj1 tt)))))) (fun h2 =>
   Pn.ite (fun h4 =>
   Pn.bind (fun r3 h5 =>
   Pn.some (JnO.of [bF, bT, .call [] (V.tup [E3 r3.1, E4 r3.2]) [], .wait 6, .mask [0, 2, 7], .ren [0, 1, 2]] (by kernel_rfl) (cj h2 (cj h4 (cj (impl_TextNum_ok r1.2.1 r3 h5) (cj1 tt))))))) (fun h4 =>
   Pn.ite (fun h6 =>
   Pn.bind (fun r4 h7 =>
   Pn.some (JnO.of [bF, bF, bT, .call [] (V.tup [E3 r4.1, E4 r4.2]) [], .wait 6, .mask [0, 2, 7], .ren [0, 1, 2]] (by kernel_rfl) (cj h2 (cj h4 (cj h6 (cj (impl_TextNum_ok r1.2.1 r4 h7) (cj1 tt)))))))) (fun h6 =>
   Pn.some (JnO.of [bF, bF, bF, .mask [0, 2, 7], .ren [0, 1, 2]] (by kernel_rfl) (cj h2 (cj h4 (cj1 h6)))))))
def impl_TextEvent_c1 (s_ : ByteArray) (r5 : Int × Int × (List Int)) : Option (Lo Unit Unit) :=
 if (s_ == (bs [])) = true then
 some (.ret ())
 else
 (impl_EventText (Event.mk r5.1 r5.2.1 r5.2.2)).bind fun r6 =>
 if (r6 == s_) = true then
 some (.out ())
 else
 some (.ret ())
theorem impl_TextEvent_c1_ok (s_ : ByteArray) (r5 : Int × Int × (List Int)) : Pn (JnO Tryz.prog (sub (codeOf Tryz.prog 12) [1, 1, 1, 1, 0]) (st 53 [(0, vS s_), (2, V.ptr 0 0), (7, V.ptr 1 0)] [Blk.box 29 [vI 0, vI 0, V.nl 5], Blk.box 29 [vI r5.1, vI r5.2.1, V.ow 2], Blk.row 5 (List.map E5 r5.2.2) []] []) (fun (y : Lo Unit Unit) => Lo.elim y (fun s => (X.go, st 53 [(2, V.ptr 0 0), (7, V.ptr 1 0)] [Blk.box 29 [vI 0, vI 0, V.nl 5], Blk.box 29 [vI r5.1, vI r5.2.1, V.ow 2], Blk.row 5 (List.map E5 r5.2.2) []] [])) (fun s => (X.ret, st 53 [(2, V.ptr 0 0), (3, vB false)] [Blk.box 29 [vI 0, vI 0, V.nl 5]] [])))) (impl_TextEvent_c1 s_ r5) := by
  unfold impl_TextEvent_c1
  exact
   Pn.ite (fun h9 =>
   Pn.some (JnO.of [bT, bT, bT, bT, bT, bT, .wait 3, .mask [2, 3], .ren [0]] (by kernel_rfl) (cj h9 (cj h9 (cj h9 (cj h9 (cj h9 (cj1 (rfl : true = true))))))))) (fun h9 =>
   Pn.bind (fun r6 h10 =>
   Pn.ite (fun h11 =>
   Pn.some (JnO.of [bF, bF, .call [] (E9 r6) [], bF, bF, bF, bF, .mask [2, 7], .ren [0, 1, 2]] (by kernel_rfl) (cj h9 (cj h9 (cj (impl_EventText_ok (Event.mk r5.1 r5.2.1 r5.2.2) r6 h10) (cj (by simp [V.nv, nvL, nvL_all, nv_E9] : (false || ((E9 r6).nv && nvL [])) = true) (cj h9 (cj h9 (cj h9 (cj1 (nf h11))))))))))) (fun h11 =>
   Pn.some (JnO.of [bF, bF, .call [] (E9 r6) [], bF, bF, bF, bT, .wait 3, .mask [2, 3], .ren [0]] (by kernel_rfl) (cj h9 (cj h9 (cj (impl_EventText_ok (Event.mk r5.1 r5.2.1 r5.2.2) r6 h10) (cj (by simp [V.nv, nvL, nvL_all, nv_E9] : (false || ((E9 r6).nv && nvL [])) = true) (cj h9 (cj h9 (cj h9 (cj1 (nt h11)))))))))))))
def impl_TextEvent (s_ : ByteArray) : Option (Event × Bool) :=
 (strings_Cut s_ (bs [32])).bind fun r1 =>
 (impl_TextEvent_c0 s_ r1).bind fun r5 =>
 (impl_TextEvent_c1 s_ r5).bind fun r7 =>
 Lo.elim r7 (fun s1 =>
 some ((Event.mk r5.1 r5.2.1 r5.2.2), true)) (fun s2 =>
 some ((Event.mk 0 0 []), false))
theorem impl_TextEvent_ok (s_ : ByteArray) : Pn (fun y => Fn Tryz.prog 12 [(false, E9 s_)] (V.tup [E29 y.1, E4 y.2]) []) (impl_TextEvent s_) := by
  unfold impl_TextEvent
  exact
   Pn.bind (fun r1 h1 =>
   Pn.bind (fun r5 h8 =>
   Pn.bind (fun r7 h12 =>
   Pn.lo (fun s1 h13 =>
   Pn.some (Fn.of [.call [] (V.tup [E9 r1.1, E9 r1.2.1, E4 r1.2.2]) [], .wait 11, .mask [0, 2, 4, 5, 7], .ren [0, 1], .ownb 1 2, .mask [0, 2, 4, 5, 7], .ren [0, 1, 2], .join 22 (X.go) (st 53 [(0, vS s_), (2, V.ptr 0 0), (7, V.ptr 1 0)] [Blk.box 29 [vI 0, vI 0, V.nl 5], Blk.box 29 [vI r5.1, vI r5.2.1, V.ow 2], Blk.row 5 (List.map E5 r5.2.2) []] []), .wait 1, .mask [0, 2, 7], .ren [0, 1, 2], .join 7 (X.go) (st 53 [(2, V.ptr 0 0), (7, V.ptr 1 0)] [Blk.box 29 [vI 0, vI 0, V.nl 5], Blk.box 29 [vI r5.1, vI r5.2.1, V.ow 2], Blk.row 5 (List.map E5 r5.2.2) []] [])] (by kernel_rfl) (cj (strings_Cut_ok s_ (bs [32]) r1 h1) (cj tt (cj (impl_TextEvent_c0_ok s_ r1 r5 h8) (cj1 ((impl_TextEvent_c1_ok s_ r5 r7 h12).at h13 :))))))) (fun s2 h14 =>
   Pn.some (Fn.of [.call [] (V.tup [E9 r1.1, E9 r1.2.1, E4 r1.2.2]) [], .wait 11, .mask [0, 2, 4, 5, 7], .ren [0, 1], .ownb 1 2, .mask [0, 2, 4, 5, 7], .ren [0, 1, 2], .join 22 (X.go) (st 53 [(0, vS s_), (2, V.ptr 0 0), (7, V.ptr 1 0)] [Blk.box 29 [vI 0, vI 0, V.nl 5], Blk.box 29 [vI r5.1, vI r5.2.1, V.ow 2], Blk.row 5 (List.map E5 r5.2.2) []] []), .wait 1, .mask [0, 2, 7], .ren [0, 1, 2], .join 7 (X.ret) (st 53 [(2, V.ptr 0 0), (3, vB false)] [Blk.box 29 [vI 0, vI 0, V.nl 5]] [])] (by kernel_rfl) (cj (strings_Cut_ok s_ (bs [32]) r1 h1) (cj tt (cj (impl_TextEvent_c0_ok s_ r1 r5 h8) (cj1 ((impl_TextEvent_c1_ok s_ r5 r7 h12).at h14 :))))))))))
def impl_ReadEvents_l0 (r1 : (List ByteArray)) : List ByteArray → List ByteArray → (List Event) → Option (Lo ((List Event)) Int)
  | [], p1, v1 =>
   some (.out v1)
  | x1 :: t1, p1, v1 =>
   if (x1 == (bs [])) = true then
   impl_ReadEvents_l0 r1 t1 (p1 ++ [x1]) v1
   else
   if (decide (0 ≤ 0)) = true then
   if (decide ((0 : Int) < (x1.size : Int))) = true then
   if ((sAt x1 0) == 35) = true then
   impl_ReadEvents_l0 r1 t1 (p1 ++ [x1]) v1
   else
   (impl_TextEvent x1).bind fun r2 =>
   if r2.2 = true then
   if (capOk (v1.length + 1)) = true then
   impl_ReadEvents_l0 r1 t1 (p1 ++ [x1]) (v1 ++ [r2.1])
   else none
   else
   some (.ret (i64 ((p1.length : Int) + 1)))
   else none
   else none
theorem impl_ReadEvents_l0_ok (r1 : (List ByteArray)) (h3 : capOk r1.length = true) : ∀ (t1 p1 : List ByteArray) (_ : r1 = p1 ++ t1) (v1 : List Event), Pn (LpO Tryz.prog (sub (codeOf Tryz.prog 5) [1, 1, 0, 1, 0, 0]) (st 40 [(4, V.ow 0), (11, V.ow 1), (12, vI (r1.length : Int)), (13, vI (p1.length : Int))] [Blk.row 29 (List.map E29 v1) [], Blk.row 9 (List.map E9 r1) []] []) (fun (y : Lo ((List Event)) Int) => Lo.elim y (fun s => (X.out 0, st 40 [(4, V.ow 0)] [Blk.row 29 (List.map E29 s) []] [])) (fun s => (X.ret, st 40 [(2, V.nl 29), (3, vI s)] [] [])))) (impl_ReadEvents_l0 r1 t1 p1 v1)
  | [], p1, h2, v1 => by
    unfold impl_ReadEvents_l0
    exact
     Pn.some (LpO.out [bF, .mask [4], .ren [0]] (by kernel_rfl) (show X.out 0 ≠ X.go from nofun) (cj1 (rng_end h2 : (decide ((p1.length : Int) < (r1.length : Int))) = false)))
  | x1 :: t1, p1, h2, v1 => by
    unfold impl_ReadEvents_l0
    exact
     Pn.ite (fun h4 =>
     LpO.go [bT, .el (E9 x1), bT, bT, bT, bT, bT, .wait 2, .mask [4, 11, 12, 13], .ren [0, 1], .nm 13 (vI ((p1 ++ [x1]).length : Int))] (by kernel_rfl) (cj (rng_lt h2 : (decide ((p1.length : Int) < (r1.length : Int))) = true) (cj (by omega : (0 : Int) ≤ (p1.length : Int)) (cj (rng_ltI _ h2 : ((p1.length : Int) : Int) < ((List.map E9 r1).length : Int)) (cj (rfl : look [] ((p1.length : Int).toNat) = none) (cj (rng_get _ h2 : (List.map E9 r1)[(p1.length : Int).toNat]? = some (E9 x1)) (cj h4 (cj h4 (cj h4 (cj h4 (cj (rfl : true = true) (cj1 (rng_next h2 h3 : vI (i64 ((p1.length : Int) + 1)) = vI ((p1 ++ [x1]).length : Int))))))))))))) (impl_ReadEvents_l0_ok r1 h3 t1 (p1 ++ [x1]) (rng_step h2) v1)) (fun h4 =>
     Pn.ite (fun h5 =>
     Pn.ite (fun h6 =>
     Pn.ite (fun h7 =>
     LpO.go [bT, .el (E9 x1), bF, bF, bF, bF, bT, .wait 2, .mask [4, 11, 12, 13], .ren [0, 1], .nm 13 (vI ((p1 ++ [x1]).length : Int))] (by kernel_rfl) (cj (rng_lt h2 : (decide ((p1.length : Int) < (r1.length : Int))) = true) (cj (by omega : (0 : Int) ≤ (p1.length : Int)) (cj (rng_ltI _ h2 : ((p1.length : Int) : Int) < ((List.map E9 r1).length : Int)) (cj (rfl : look [] ((p1.length : Int).toNat) = none) (cj (rng_get _ h2 : (List.map E9 r1)[(p1.length : Int).toNat]? = some (E9 x1)) (cj h4 (cj h4 (cj (od h5 : (0 : Int) ≤ 0) (cj (od h6) (cj h4 (cj h4 (cj h7 (cj1 (rng_next h2 h3 : vI (i64 ((p1.length : Int) + 1)) = vI ((p1 ++ [x1]).length : Int))))))))))))))) (impl_ReadEvents_l0_ok r1 h3 t1 (p1 ++ [x1]) (rng_step h2) v1)) (fun h7 =>
     Pn.bind (fun r2 h8 =>
     Pn.ite (fun h9 =>
     Pn.ite (fun h10 =>
     LpO.go [bT, .el (E9 x1), bF, bF, bF, bF, bF, .call [] (V.tup [E29 r2.1, E4 r2.2]) [], bF, .wait 2, .shut 4, .mv, .nb 5 (.row 29 (List.map E29 (v1 ++ [r2.1])) []), .wait 4, .mask [4, 11, 12, 13], .ren [5, 1], .nm 13 (vI ((p1 ++ [x1]).length : Int))] (by kernel_rfl) (cj (rng_lt h2 : (decide ((p1.length : Int) < (r1.length : Int))) = true) (cj (by omega : (0 : Int) ≤ (p1.length : Int)) (cj (rng_ltI _ h2 : ((p1.length : Int) : Int) < ((List.map E9 r1).length : Int)) (cj (rfl : look [] ((p1.length : Int).toNat) = none) (cj (rng_get _ h2 : (List.map E9 r1)[(p1.length : Int).toNat]? = some (E9 x1)) (cj h4 (cj h4 (cj (od h5 : (0 : Int) ≤ 0) (cj (od h6) (cj h4 (cj h4 (cj h7 (cj (impl_TextEvent_ok x1 r2 h8) (cj tt (cj (nf h9) (cj (cap1 (capN (by simp) h10) : (List.map E29 v1).length + [V.agg [vI r2.1.Kind, vI r2.1.K, lT5 r2.1.Data]].length ≤ 9223372036854775807) (cj (cap2 (capN (by simp) h10) (by decide) : ((List.map E29 v1).length + [V.agg [vI r2.1.Kind, vI r2.1.K, lT5 r2.1.Data]].length) * 40 ≤ 140737488355328) (cj (nb_app E29 v1 [r2.1] : Blk.row 29 ((List.map E29 v1) ++ [V.agg [vI r2.1.Kind, vI r2.1.K, lT5 r2.1.Data]]) [] = Blk.row 29 (List.map E29 (v1 ++ [r2.1])) []) (cj1 (rng_next h2 h3 : vI (i64 ((p1.length : Int) + 1)) = vI ((p1 ++ [x1]).length : Int))))))))))))))))))))) (impl_ReadEvents_l0_ok r1 h3 t1 (p1 ++ [x1]) (rng_step h2) (v1 ++ [r2.1]))) (fun h10 =>
     Pn.none)) (fun h9 =>
     Pn.some (LpO.out [bT, .el (E9 x1), bF, bF, bF, bF, bF, .call [] (V.tup [E29 r2.1, E4 r2.2]) [], bT, .wait 4, .mask [2, 3], .ren []] (by kernel_rfl) (show X.ret ≠ X.go from nofun) (cj (rng_lt h2 : (decide ((p1.length : Int) < (r1.length : Int))) = true) (cj (by omega : (0 : Int) ≤ (p1.length : Int)) (cj (rng_ltI _ h2 : ((p1.length : Int) : Int) < ((List.map E9 r1).length : Int)) (cj (rfl : look [] ((p1.length : Int).toNat) = none) (cj (rng_get _ h2 : (List.map E9 r1)[(p1.length : Int).toNat]? = some (E9 x1)) (cj h4 (cj h4 (cj (od h5 : (0 : Int) ≤ 0) (cj (od h6) (cj h4 (cj h4 (cj h7 (cj (impl_TextEvent_ok x1 r2 h8) (cj tt (cj1 (nt h9))))))))))))))))))))) (fun h6 =>
     Pn.none)) (fun h5 =>
     Pn.none))
def impl_ReadEvents (s_ : ByteArray) : Option ((List Event) × Int) :=
 (impl_Lines s_).bind fun r1 =>
 if (capOk r1.length) = true then
 (impl_ReadEvents_l0 r1 r1 [] []).bind fun r3 =>
 Lo.elim r3 (fun s1 =>
 some (s1, 0)) (fun s2 =>
 some ([], s2))
 else none
theorem impl_ReadEvents_ok (s_ : ByteArray) : Pn (fun y => Fn Tryz.prog 5 [(false, E9 s_)] (V.tup [E23 y.1, E3 y.2]) []) (impl_ReadEvents s_) := by
  unfold impl_ReadEvents
  exact
   Pn.bind (fun r1 h1 =>
   Pn.ite (fun h11 =>
   Pn.bind (fun r3 h12 =>
   Pn.lo (fun s1 h13 =>
   Pn.some (Fn.of [.call [] (E39 r1) [], .wait 1, .nm 12 (vI (r1.length : Int)), .wait 2, .mask [4, 11, 12, 13], .ren [0, 1], .loop (X.out 0) (st 40 [(4, V.ow 0)] [Blk.row 29 (List.map E29 s1) []] [])] (by kernel_rfl) (cj (impl_Lines_ok s_ r1 h1) (cj tt (cj (len_nm E9 r1) (cj1 ((impl_ReadEvents_l0_ok r1 h11 r1 [] rfl [] r3 h12).at h13 :))))))) (fun s2 h14 =>
   Pn.some (Fn.of [.call [] (E39 r1) [], .wait 1, .nm 12 (vI (r1.length : Int)), .wait 2, .mask [4, 11, 12, 13], .ren [0, 1], .loop (X.ret) (st 40 [(2, V.nl 29), (3, vI s2)] [] [])] (by kernel_rfl) (cj (impl_Lines_ok s_ r1 h1) (cj tt (cj (len_nm E9 r1) (cj1 ((impl_ReadEvents_l0_ok r1 h11 r1 [] rfl [] r3 h12).at h14 :))))))))) (fun h11 =>
   Pn.none))
def laws_FnEvents_l0 (r1 : (List Event)) : List Event → List Event → (List Event) → (List Event) → Option (Lo ((List Event)) Unit)
  | [], p1, v1, v2 =>
   some (.out v1)
  | x1 :: t1, p1, v1, v2 =>
   (v1[(p1.length : Int).toNat]?).bind fun x2 =>
   (v2[(p1.length : Int).toNat]?).bind fun x3 =>
   if (x3.Kind != x2.Kind) = true then
   some (.ret ())
   else
   if (x3.K != x2.K) = true then
   some (.ret ())
   else
   if ((bstr x3.Data) == (bstr x2.Data)) = true then
   (impl_EventText x3).bind fun r4 =>
   (impl_EventText x2).bind fun r5 =>
   if (r4 == r5) = true then
   laws_FnEvents_l0 r1 t1 (p1 ++ [x1]) (v1.set ((p1.length : Int).toNat) x2) (v2.set ((p1.length : Int).toNat) x3)
   else
   some (.ret ())
   else
   some (.ret ())
theorem laws_FnEvents_l0_ok (r1 : (List Event)) (h9 : capOk r1.length = true) : ∀ (t1 p1 : List Event) (_ : r1 = p1 ++ t1) (v1 : List Event) (v2 : List Event), Pn (LpO Tryz.prog (sub (codeOf Tryz.prog 3) [1, 1, 1, 1, 1, 0, 1, 0, 0]) (st 91 [(3, V.ow 0), (4, V.ow 1), (31, V.ow 0), (32, vI (r1.length : Int)), (33, vI (p1.length : Int))] [Blk.row 29 (List.map E29 v1) [], Blk.row 29 (List.map E29 v2) []] []) (fun (y : Lo ((List Event)) Unit) => Lo.elim y (fun s => (X.out 0, st 91 [(3, V.ow 0)] [Blk.row 29 (List.map E29 s) []] [])) (fun s => (X.ret, st 91 [(2, vB false)] [] [])))) (laws_FnEvents_l0 r1 t1 p1 v1 v2)
  | [], p1, h8, v1, v2 => by
    unfold laws_FnEvents_l0
    exact
     Pn.some (LpO.out [bF, .mask [3], .ren [0]] (by kernel_rfl) (show X.out 0 ≠ X.go from nofun) (cj1 (rng_end h8 : (decide ((p1.length : Int) < (r1.length : Int))) = false)))
  | x1 :: t1, p1, h8, v1, v2 => by
    unfold laws_FnEvents_l0
    exact
     Pn.bind (fun x2 h10 =>
     Pn.bind (fun x3 h11 =>
     Pn.ite (fun h12 =>
     Pn.some (LpO.out [bT, .wait 1, .foc 0 ((p1.length : Int).toNat) (E29 x2), .fo 0, .draw [], .wait 2, .foc 1 ((p1.length : Int).toNat) (E29 x3), .fo 0, bT, bT, bT, bT, bT, bT, bT, bT, bT, bT, bT, bT, bT, bT, bT, bT, bT, bT, bT, bT, bT, bT, bT, bT, bT, bT, bT, bT, bT, bT, .wait 1, .mask [2], .ren []] (by kernel_rfl) (show X.ret ≠ X.go from nofun) (cj (rng_lt h8 : (decide ((p1.length : Int) < (r1.length : Int))) = true) (cj (by omega : (0 : Int) ≤ (p1.length : Int)) (cj (map_ltN (by omega) h10 : ((p1.length : Int) : Int) < ((List.map E29 v1).length : Int)) (cj (rfl : look [] ((p1.length : Int).toNat) = none) (cj (map_get h10 : (List.map E29 v1)[(p1.length : Int).toNat]? = some (E29 x2)) (cj (look_cons_self _ _ _ : look [((p1.length : Int).toNat, V.agg [vI x2.Kind, vI x2.K, V.ow 2])] ((p1.length : Int).toNat) = some (V.agg [vI x2.Kind, vI x2.K, V.ow 2])) (cj (map_lt h10 : ((p1.length : Int).toNat) < (List.map E29 v1).length) (cj (by omega : (0 : Int) ≤ (p1.length : Int)) (cj (map_ltN (by omega) h11 : ((p1.length : Int) : Int) < ((List.map E29 v2).length : Int)) (cj (rfl : look [] ((p1.length : Int).toNat) = none) (cj (map_get h11 : (List.map E29 v2)[(p1.length : Int).toNat]? = some (E29 x3)) (cj (look_cons_self _ _ _ : look [((p1.length : Int).toNat, V.agg [vI x3.Kind, vI x3.K, V.ow 4])] ((p1.length : Int).toNat) = some (V.agg [vI x3.Kind, vI x3.K, V.ow 4])) (cj (map_lt h11 : ((p1.length : Int).toNat) < (List.map E29 v2).length) (cj h12 (cj h12 (cj h12 (cj h12 (cj h12 (cj h12 (cj h12 (cj h12 (cj h12 (cj (rfl : true = true) (cj (rfl : true = true) (cj (rfl : true = true) (cj (rfl : true = true) (cj (rfl : true = true) (cj (rfl : true = true) (cj (rfl : true = true) (cj (rfl : true = true) (cj (rfl : true = true) (cj (rfl : true = true) (cj (rfl : true = true) (cj (rfl : true = true) (cj (rfl : true = true) (cj (rfl : true = true) (cj (rfl : true = true) (cj (rfl : true = true) (cj (rfl : true = true) (cj (rfl : true = true) (cj (rfl : true = true) (cj (rfl : true = true) (cj1 (rfl : true = true)))))))))))))))))))))))))))))))))))))))))))))) (fun h12 =>
     Pn.ite (fun h13 =>
     Pn.some (LpO.out [bT, .wait 1, .foc 0 ((p1.length : Int).toNat) (E29 x2), .fo 0, .draw [], .wait 2, .foc 1 ((p1.length : Int).toNat) (E29 x3), .fo 0, bF, bF, bF, bF, bF, .fo 0, bF, bF, bF, bF, bT, bT, bT, bT, bT, bT, bT, bT, bT, bT, bT, bT, bT, bT, bT, bT, bT, bT, bT, bT, bT, .wait 1, .mask [2], .ren []] (by kernel_rfl) (show X.ret ≠ X.go from nofun) (cj (rng_lt h8 : (decide ((p1.length : Int) < (r1.length : Int))) = true) (cj (by omega : (0 : Int) ≤ (p1.length : Int)) (cj (map_ltN (by omega) h10 : ((p1.length : Int) : Int) < ((List.map E29 v1).length : Int)) (cj (rfl : look [] ((p1.length : Int).toNat) = none) (cj (map_get h10 : (List.map E29 v1)[(p1.length : Int).toNat]? = some (E29 x2)) (cj (look_cons_self _ _ _ : look [((p1.length : Int).toNat, V.agg [vI x2.Kind, vI x2.K, V.ow 2])] ((p1.length : Int).toNat) = some (V.agg [vI x2.Kind, vI x2.K, V.ow 2])) (cj (map_lt h10 : ((p1.length : Int).toNat) < (List.map E29 v1).length) (cj (by omega : (0 : Int) ≤ (p1.length : Int)) (cj (map_ltN (by omega) h11 : ((p1.length : Int) : Int) < ((List.map E29 v2).length : Int)) (cj (rfl : look [] ((p1.length : Int).toNat) = none) (cj (map_get h11 : (List.map E29 v2)[(p1.length : Int).toNat]? = some (E29 x3)) (cj (look_cons_self _ _ _ : look [((p1.length : Int).toNat, V.agg [vI x3.Kind, vI x3.K, V.ow 4])] ((p1.length : Int).toNat) = some (V.agg [vI x3.Kind, vI x3.K, V.ow 4])) (cj (map_lt h11 : ((p1.length : Int).toNat) < (List.map E29 v2).length) (cj h12 (cj h12 (cj h12 (cj (by omega : (0 : Int) ≤ (p1.length : Int)) (cj (map_ltN (by omega) h11 : ((p1.length : Int) : Int) < ((List.map E29 v2).length : Int)) (cj h12 (cj h12 (cj (look_cons_self _ _ _ : look [((p1.length : Int).toNat, V.agg [vI x3.Kind, vI x3.K, V.ow 4])] ((p1.length : Int).toNat) = some (V.agg [vI x3.Kind, vI x3.K, V.ow 4])) (cj (map_lt h11 : ((p1.length : Int).toNat) < (List.map E29 v2).length) (cj h12 (cj h12 (cj h12 (cj h12 (cj h13 (cj h13 (cj h13 (cj h13 (cj h13 (cj h13 (cj h13 (cj h13 (cj h13 (cj h13 (cj h13 (cj (rfl : true = true) (cj (rfl : true = true) (cj (rfl : true = true) (cj (rfl : true = true) (cj (rfl : true = true) (cj (rfl : true = true) (cj (rfl : true = true) (cj (rfl : true = true) (cj (rfl : true = true) (cj1 (rfl : true = true)))))))))))))))))))))))))))))))))))))))))))))))))) (fun h13 =>
     Pn.ite (fun h14 =>
     Pn.bind (fun r4 h15 =>
     Pn.bind (fun r5 h16 =>
     Pn.ite (fun h17 =>
     LpO.go [bT, .wait 1, .foc 0 ((p1.length : Int).toNat) (E29 x2), .fo 0, .draw [], .wait 2, .foc 1 ((p1.length : Int).toNat) (E29 x3), .fo 0, bF, bF, bF, bF, bF, .fo 0, bF, bF, bF, bF, bF, bF, bF, bF, bF, .fo 0, bF, .ints x3.Data, bF, bF, bF, .ints x2.Data, bF, bF, bF, bF, bF, bF, .fo 0, bF, bF, .call [] (E9 r4) [], bF, .call [] (E9 r5) [], bF, bF, bF, .wait 2, .shut 0, .nb 0 (.row 29 (List.map E29 (v1.set ((p1.length : Int).toNat) x2)) []), .shut 1, .nb 1 (.row 29 (List.map E29 (v2.set ((p1.length : Int).toNat) x3)) []), .mask [3, 4, 31, 32, 33], .ren [0, 1], .nm 33 (vI ((p1 ++ [x1]).length : Int))] (by kernel_rfl) (cj (rng_lt h8 : (decide ((p1.length : Int) < (r1.length : Int))) = true) (cj (by omega : (0 : Int) ≤ (p1.length : Int)) (cj (map_ltN (by omega) h10 : ((p1.length : Int) : Int) < ((List.map E29 v1).length : Int)) (cj (rfl : look [] ((p1.length : Int).toNat) = none) (cj (map_get h10 : (List.map E29 v1)[(p1.length : Int).toNat]? = some (E29 x2)) (cj (look_cons_self _ _ _ : look [((p1.length : Int).toNat, V.agg [vI x2.Kind, vI x2.K, V.ow 2])] ((p1.length : Int).toNat) = some (V.agg [vI x2.Kind, vI x2.K, V.ow 2])) (cj (map_lt h10 : ((p1.length : Int).toNat) < (List.map E29 v1).length) (cj (by omega : (0 : Int) ≤ (p1.length : Int)) (cj (map_ltN (by omega) h11 : ((p1.length : Int) : Int) < ((List.map E29 v2).length : Int)) (cj (rfl : look [] ((p1.length : Int).toNat) = none) (cj (map_get h11 : (List.map E29 v2)[(p1.length : Int).toNat]? = some (E29 x3)) (cj (look_cons_self _ _ _ : look [((p1.length : Int).toNat, V.agg [vI x3.Kind, vI x3.K, V.ow 4])] ((p1.length : Int).toNat) = some (V.agg [vI x3.Kind, vI x3.K, V.ow 4])) (cj (map_lt h11 : ((p1.length : Int).toNat) < (List.map E29 v2).length) (cj h12 (cj h12 (cj h12 (cj (by omega : (0 : Int) ≤ (p1.length : Int)) (cj (map_ltN (by omega) h11 : ((p1.length : Int) : Int) < ((List.map E29 v2).length : Int)) (cj h12 (cj h12 (cj (look_cons_self _ _ _ : look [((p1.length : Int).toNat, V.agg [vI x3.Kind, vI x3.K, V.ow 4])] ((p1.length : Int).toNat) = some (V.agg [vI x3.Kind, vI x3.K, V.ow 4])) (cj (map_lt h11 : ((p1.length : Int).toNat) < (List.map E29 v2).length) (cj h12 (cj h12 (cj h12 (cj h12 (cj h13 (cj h13 (cj h13 (cj (by omega : (0 : Int) ≤ (p1.length : Int)) (cj (map_ltN (by omega) h11 : ((p1.length : Int) : Int) < ((List.map E29 v2).length : Int)) (cj h13 (cj h13 (cj (look_cons_self _ _ _ : look [((p1.length : Int).toNat, V.agg [vI x3.Kind, vI x3.K, V.ow 4])] ((p1.length : Int).toNat) = some (V.agg [vI x3.Kind, vI x3.K, V.ow 4])) (cj (map_lt h11 : ((p1.length : Int).toNat) < (List.map E29 v2).length) (cj h13 (cj (rfl : (List.map E5 x3.Data) = x3.Data.map fun n => V.sc (.int .u8 n)) (cj h13 (cj h13 (cj h13 (cj (rfl : (List.map E5 x2.Data) = x2.Data.map fun n => V.sc (.int .u8 n)) (cj h13 (cj h13 (cj (nf h14) (cj (nf h14) (cj (nf h14) (cj (by omega : (0 : Int) ≤ (p1.length : Int)) (cj (map_ltN (by omega) h11 : ((p1.length : Int) : Int) < ((List.map E29 v2).length : Int)) (cj (nf h14) (cj (look_cons_self _ _ _ : look [((p1.length : Int).toNat, V.agg [vI x3.Kind, vI x3.K, V.ow 4])] ((p1.length : Int).toNat) = some (V.agg [vI x3.Kind, vI x3.K, V.ow 4])) (cj (map_lt h11 : ((p1.length : Int).toNat) < (List.map E29 v2).length) (cj (nf h14) (cj (nf h14) (cj (impl_EventText_ok x3 r4 h15) (cj (by simp [V.nv, nvL, nvL_all, nv_E9] : (false || ((E9 r4).nv && nvL [])) = true) (cj (nf h14) (cj (impl_EventText_ok x2 r5 h16) (cj (by simp [V.nv, nvL, nvL_all, nv_E9] : (false || ((E9 r5).nv && nvL [])) = true) (cj (nf h14) (cj (nf h14) (cj (nf h17) (cj (nb_set E29 _ _ x2 : Blk.row 29 ((List.map E29 v1).set ((p1.length : Int).toNat) (V.agg [vI x2.Kind, vI x2.K, lT5 x2.Data])) [] = Blk.row 29 (List.map E29 (v1.set ((p1.length : Int).toNat) x2)) []) (cj (nb_set E29 _ _ x3 : Blk.row 29 ((List.map E29 v2).set ((p1.length : Int).toNat) (V.agg [vI x3.Kind, vI x3.K, lT5 x3.Data])) [] = Blk.row 29 (List.map E29 (v2.set ((p1.length : Int).toNat) x3)) []) (cj1 (rng_next h8 h9 : vI (i64 ((p1.length : Int) + 1)) = vI ((p1 ++ [x1]).length : Int)))))))))))))))))))))))))))))))))))))))))))))))))))))))))))))))))) (laws_FnEvents_l0_ok r1 h9 t1 (p1 ++ [x1]) (rng_step h8) (v1.set ((p1.length : Int).toNat) x2) (v2.set ((p1.length : Int).toNat) x3))) (fun h17 =>
     Pn.some (LpO.out [bT, .wait 1, .foc 0 ((p1.length : Int).toNat) (E29 x2), .fo 0, .draw [], .wait 2, .foc 1 ((p1.length : Int).toNat) (E29 x3), .fo 0, bF, bF, bF, bF, bF, .fo 0, bF, bF, bF, bF, bF, bF, bF, bF, bF, .fo 0, bF, .ints x3.Data, bF, bF, bF, .ints x2.Data, bF, bF, bF, bF, bF, bF, .fo 0, bF, bF, .call [] (E9 r4) [], bF, .call [] (E9 r5) [], bF, bF, bT, .wait 1, .mask [2], .ren []] (by kernel_rfl) (show X.ret ≠ X.go from nofun) (cj (rng_lt h8 : (decide ((p1.length : Int) < (r1.length : Int))) = true) (cj (by omega : (0 : Int) ≤ (p1.length : Int)) (cj (map_ltN (by omega) h10 : ((p1.length : Int) : Int) < ((List.map E29 v1).length : Int)) (cj (rfl : look [] ((p1.length : Int).toNat) = none) (cj (map_get h10 : (List.map E29 v1)[(p1.length : Int).toNat]? = some (E29 x2)) (cj (look_cons_self _ _ _ : look [((p1.length : Int).toNat, V.agg [vI x2.Kind, vI x2.K, V.ow 2])] ((p1.length : Int).toNat) = some (V.agg [vI x2.Kind, vI x2.K, V.ow 2])) (cj (map_lt h10 : ((p1.length : Int).toNat) < (List.map E29 v1).length) (cj (by omega : (0 : Int) ≤ (p1.length : Int)) (cj (map_ltN (by omega) h11 : ((p1.length : Int) : Int) < ((List.map E29 v2).length : Int)) (cj (rfl : look [] ((p1.length : Int).toNat) = none) (cj (map_get h11 : (List.map E29 v2)[(p1.length : Int).toNat]? = some (E29 x3)) (cj (look_cons_self _ _ _ : look [((p1.length : Int).toNat, V.agg [vI x3.Kind, vI x3.K, V.ow 4])] ((p1.length : Int).toNat) = some (V.agg [vI x3.Kind, vI x3.K, V.ow 4])) (cj (map_lt h11 : ((p1.length : Int).toNat) < (List.map E29 v2).length) (cj h12 (cj h12 (cj h12 (cj (by omega : (0 : Int) ≤ (p1.length : Int)) (cj (map_ltN (by omega) h11 : ((p1.length : Int) : Int) < ((List.map E29 v2).length : Int)) (cj h12 (cj h12 (cj (look_cons_self _ _ _ : look [((p1.length : Int).toNat, V.agg [vI x3.Kind, vI x3.K, V.ow 4])] ((p1.length : Int).toNat) = some (V.agg [vI x3.Kind, vI x3.K, V.ow 4])) (cj (map_lt h11 : ((p1.length : Int).toNat) < (List.map E29 v2).length) (cj h12 (cj h12 (cj h12 (cj h12 (cj h13 (cj h13 (cj h13 (cj (by omega : (0 : Int) ≤ (p1.length : Int)) (cj (map_ltN (by omega) h11 : ((p1.length : Int) : Int) < ((List.map E29 v2).length : Int)) (cj h13 (cj h13 (cj (look_cons_self _ _ _ : look [((p1.length : Int).toNat, V.agg [vI x3.Kind, vI x3.K, V.ow 4])] ((p1.length : Int).toNat) = some (V.agg [vI x3.Kind, vI x3.K, V.ow 4])) (cj (map_lt h11 : ((p1.length : Int).toNat) < (List.map E29 v2).length) (cj h13 (cj (rfl : (List.map E5 x3.Data) = x3.Data.map fun n => V.sc (.int .u8 n)) (cj h13 (cj h13 (cj h13 (cj (rfl : (List.map E5 x2.Data) = x2.Data.map fun n => V.sc (.int .u8 n)) (cj h13 (cj h13 (cj (nf h14) (cj (nf h14) (cj (nf h14) (cj (by omega : (0 : Int) ≤ (p1.length : Int)) (cj (map_ltN (by omega) h11 : ((p1.length : Int) : Int) < ((List.map E29 v2).length : Int)) (cj (nf h14) (cj (look_cons_self _ _ _ : look [((p1.length : Int).toNat, V.agg [vI x3.Kind, vI x3.K, V.ow 4])] ((p1.length : Int).toNat) = some (V.agg [vI x3.Kind, vI x3.K, V.ow 4])) (cj (map_lt h11 : ((p1.length : Int).toNat) < (List.map E29 v2).length) (cj (nf h14) (cj (nf h14) (cj (impl_EventText_ok x3 r4 h15) (cj (by simp [V.nv, nvL, nvL_all, nv_E9] : (false || ((E9 r4).nv && nvL [])) = true) (cj (nf h14) (cj (impl_EventText_ok x2 r5 h16) (cj (by simp [V.nv, nvL, nvL_all, nv_E9] : (false || ((E9 r5).nv && nvL [])) = true) (cj (nf h14) (cj (nf h14) (cj1 (nt h17))))))))))))))))))))))))))))))))))))))))))))))))))))))))))))))))))) (fun h14 =>
     Pn.some (LpO.out [bT, .wait 1, .foc 0 ((p1.length : Int).toNat) (E29 x2), .fo 0, .draw [], .wait 2, .foc 1 ((p1.length : Int).toNat) (E29 x3), .fo 0, bF, bF, bF, bF, bF, .fo 0, bF, bF, bF, bF, bF, bF, bF, bF, bF, .fo 0, bF, .ints x3.Data, bF, bF, bF, .ints x2.Data, bF, bF, bT, bT, bT, bT, bT, bT, bT, bT, bT, bT, .wait 1, .mask [2], .ren []] (by kernel_rfl) (show X.ret ≠ X.go from nofun) (cj (rng_lt h8 : (decide ((p1.length : Int) < (r1.length : Int))) = true) (cj (by omega : (0 : Int) ≤ (p1.length : Int)) (cj (map_ltN (by omega) h10 : ((p1.length : Int) : Int) < ((List.map E29 v1).length : Int)) (cj (rfl : look [] ((p1.length : Int).toNat) = none) (cj (map_get h10 : (List.map E29 v1)[(p1.length : Int).toNat]? = some (E29 x2)) (cj (look_cons_self _ _ _ : look [((p1.length : Int).toNat, V.agg [vI x2.Kind, vI x2.K, V.ow 2])] ((p1.length : Int).toNat) = some (V.agg [vI x2.Kind, vI x2.K, V.ow 2])) (cj (map_lt h10 : ((p1.length : Int).toNat) < (List.map E29 v1).length) (cj (by omega : (0 : Int) ≤ (p1.length : Int)) (cj (map_ltN (by omega) h11 : ((p1.length : Int) : Int) < ((List.map E29 v2).length : Int)) (cj (rfl : look [] ((p1.length : Int).toNat) = none) (cj (map_get h11 : (List.map E29 v2)[(p1.length : Int).toNat]? = some (E29 x3)) (cj (look_cons_self _ _ _ : look [((p1.length : Int).toNat, V.agg [vI x3.Kind, vI x3.K, V.ow 4])] ((p1.length : Int).toNat) = some (V.agg [vI x3.Kind, vI x3.K, V.ow 4])) (cj (map_lt h11 : ((p1.length : Int).toNat) < (List.map E29 v2).length) (cj h12 (cj h12 (cj h12 (cj (by omega : (0 : Int) ≤ (p1.length : Int)) (cj (map_ltN (by omega) h11 : ((p1.length : Int) : Int) < ((List.map E29 v2).length : Int)) (cj h12 (cj h12 (cj (look_cons_self _ _ _ : look [((p1.length : Int).toNat, V.agg [vI x3.Kind, vI x3.K, V.ow 4])] ((p1.length : Int).toNat) = some (V.agg [vI x3.Kind, vI x3.K, V.ow 4])) (cj (map_lt h11 : ((p1.length : Int).toNat) < (List.map E29 v2).length) (cj h12 (cj h12 (cj h12 (cj h12 (cj h13 (cj h13 (cj h13 (cj (by omega : (0 : Int) ≤ (p1.length : Int)) (cj (map_ltN (by omega) h11 : ((p1.length : Int) : Int) < ((List.map E29 v2).length : Int)) (cj h13 (cj h13 (cj (look_cons_self _ _ _ : look [((p1.length : Int).toNat, V.agg [vI x3.Kind, vI x3.K, V.ow 4])] ((p1.length : Int).toNat) = some (V.agg [vI x3.Kind, vI x3.K, V.ow 4])) (cj (map_lt h11 : ((p1.length : Int).toNat) < (List.map E29 v2).length) (cj h13 (cj (rfl : (List.map E5 x3.Data) = x3.Data.map fun n => V.sc (.int .u8 n)) (cj h13 (cj h13 (cj h13 (cj (rfl : (List.map E5 x2.Data) = x2.Data.map fun n => V.sc (.int .u8 n)) (cj h13 (cj h13 (cj (nt h14) (cj (nt h14) (cj (nt h14) (cj (nt h14) (cj (nt h14) (cj (nt h14) (cj (nt h14) (cj (nt h14) (cj (nt h14) (cj1 (rfl : true = true))))))))))))))))))))))))))))))))))))))))))))))))))))))))))))
def laws_FnEvents (o : List Int) : Option (Bool) :=
 if (decide (1048576 < (o.length : Int))) = true then
 some true
 else
 (spec_MakeEvents o).bind fun r1 =>
 (impl_EventsText r1).bind fun r2 =>
 if (decide ((bs [35, 32, 115, 111, 10, 10]).size + r2.size ≤ 9223372036854775807)) = true then
 (impl_ReadEvents ((bs [35, 32, 115, 111, 10, 10]) ++ r2)).bind fun r3 =>
 if (r3.2 != 0) = true then
 some false
 else
 if ((r3.1.length : Int) != (r1.length : Int)) = true then
 some false
 else
 if (capOk r1.length) = true then
 (laws_FnEvents_l0 r1 r1 [] r1 r3.1).bind fun r6 =>
 Lo.elim r6 (fun s1 =>
 (impl_EventsText s1).bind fun r7 =>
 if (decide (r7.size + (bs [119, 104, 97, 116]).size ≤ 9223372036854775807)) = true then
 (impl_ReadEvents (r7 ++ (bs [119, 104, 97, 116]))).bind fun r8 =>
 some (r8.2 == (i64 ((s1.length : Int) + 1)))
 else none) (fun s2 =>
 some false)
 else none
 else none
theorem laws_FnEvents_ok (o : List Int) : Pn (fun y => Fn Tryz.prog 3 [(false, E22 o)] (E4 y) []) (laws_FnEvents o) := by
  unfold laws_FnEvents
  exact
   Pn.ite (fun h1 =>
   Pn.some (Fn.of [.wait 3, .nm 11 (vI (o.length : Int)), bT] (by kernel_rfl) (cj (len_nm E5 o) (cj1 h1)))) (fun h1 =>
   Pn.bind (fun r1 h2 =>
   Pn.bind (fun r2 h3 =>
   Pn.ite (fun h4 =>
   Pn.bind (fun r3 h5 =>
   Pn.ite (fun h6 =>
   Pn.some (Fn.of [.wait 3, .nm 11 (vI (o.length : Int)), bF, .call [] (E23 r1) [], .call [] (E9 r2) [], .call [] (V.tup [E23 r3.1, E3 r3.2]) [], bT, bT, bT, bT, bT, bT, bT] (by kernel_rfl) (cj (len_nm E5 o) (cj h1 (cj (spec_MakeEvents_ok o r1 h2) (cj tt (cj (impl_EventsText_ok r1 r2 h3) (cj (by simp [V.nv, nvL, nvL_all, nv_E9] : (false || ((E9 r2).nv && nvL [])) = true) (cj (od h4) (cj (impl_ReadEvents_ok ((bs [35, 32, 115, 111, 10, 10]) ++ r2) r3 h5) (cj tt (cj h6 (cj h6 (cj h6 (cj h6 (cj h6 (cj h6 (cj1 (rfl : true = true))))))))))))))))))) (fun h6 =>
   Pn.ite (fun h7 =>
   Pn.some (Fn.of [.wait 3, .nm 11 (vI (o.length : Int)), bF, .call [] (E23 r1) [], .call [] (E9 r2) [], .call [] (V.tup [E23 r3.1, E3 r3.2]) [], bF, bF, .nm 26 (vI (r3.1.length : Int)), bF, bF, .nm 28 (vI (r1.length : Int)), bF, bF, bT] (by kernel_rfl) (cj (len_nm E5 o) (cj h1 (cj (spec_MakeEvents_ok o r1 h2) (cj tt (cj (impl_EventsText_ok r1 r2 h3) (cj (by simp [V.nv, nvL, nvL_all, nv_E9] : (false || ((E9 r2).nv && nvL [])) = true) (cj (od h4) (cj (impl_ReadEvents_ok ((bs [35, 32, 115, 111, 10, 10]) ++ r2) r3 h5) (cj tt (cj h6 (cj h6 (cj (len_nm E29 r3.1) (cj h6 (cj h6 (cj (len_nm E29 r1) (cj h6 (cj h6 (cj1 h7)))))))))))))))))))) (fun h7 =>
   Pn.ite (fun h18 =>
   Pn.bind (fun r6 h19 =>
   Pn.lo (fun s1 h20 =>
   Pn.bind (fun r7 h22 =>
   Pn.ite (fun h23 =>
   Pn.bind (fun r8 h24 =>
   Pn.some (Fn.of [.wait 3, .nm 11 (vI (o.length : Int)), bF, .call [] (E23 r1) [], .call [] (E9 r2) [], .call [] (V.tup [E23 r3.1, E3 r3.2]) [], bF, bF, .nm 26 (vI (r3.1.length : Int)), bF, bF, .nm 28 (vI (r1.length : Int)), bF, bF, bF, .wait 1, .nm 32 (vI (r1.length : Int)), .wait 2, .mask [3, 4, 31, 32, 33], .ren [0, 1], .loop (X.out 0) (st 91 [(3, V.ow 0)] [Blk.row 29 (List.map E29 s1) []] []), .call [] (E9 r7) [], .call [] (V.tup [E23 r8.1, E3 r8.2]) [], .wait 8, .nm 88 (vI (s1.length : Int))] (by kernel_rfl) (cj (len_nm E5 o) (cj h1 (cj (spec_MakeEvents_ok o r1 h2) (cj tt (cj (impl_EventsText_ok r1 r2 h3) (cj (by simp [V.nv, nvL, nvL_all, nv_E9] : (false || ((E9 r2).nv && nvL [])) = true) (cj (od h4) (cj (impl_ReadEvents_ok ((bs [35, 32, 115, 111, 10, 10]) ++ r2) r3 h5) (cj tt (cj h6 (cj h6 (cj (len_nm E29 r3.1) (cj h6 (cj h6 (cj (len_nm E29 r1) (cj h6 (cj h6 (cj h7 (cj (len_nm E29 r1) (cj ((laws_FnEvents_l0_ok r1 h18 r1 [] rfl r1 r3.1 r6 h19).at h20 :) (cj (impl_EventsText_ok s1 r7 h22) (cj (by simp [V.nv, nvL, nvL_all, nv_E9] : (false || ((E9 r7).nv && nvL [])) = true) (cj (od h23) (cj (impl_ReadEvents_ok (r7 ++ (bs [119, 104, 97, 116])) r8 h24) (cj tt (cj1 (len_nm E29 s1)))))))))))))))))))))))))))))) (fun h23 =>
   Pn.none))) (fun s2 h21 =>
   Pn.some (Fn.of [.wait 3, .nm 11 (vI (o.length : Int)), bF, .call [] (E23 r1) [], .call [] (E9 r2) [], .call [] (V.tup [E23 r3.1, E3 r3.2]) [], bF, bF, .nm 26 (vI (r3.1.length : Int)), bF, bF, .nm 28 (vI (r1.length : Int)), bF, bF, bF, .wait 1, .nm 32 (vI (r1.length : Int)), .wait 2, .mask [3, 4, 31, 32, 33], .ren [0, 1], .loop (X.ret) (st 91 [(2, vB false)] [] [])] (by kernel_rfl) (cj (len_nm E5 o) (cj h1 (cj (spec_MakeEvents_ok o r1 h2) (cj tt (cj (impl_EventsText_ok r1 r2 h3) (cj (by simp [V.nv, nvL, nvL_all, nv_E9] : (false || ((E9 r2).nv && nvL [])) = true) (cj (od h4) (cj (impl_ReadEvents_ok ((bs [35, 32, 115, 111, 10, 10]) ++ r2) r3 h5) (cj tt (cj h6 (cj h6 (cj (len_nm E29 r3.1) (cj h6 (cj h6 (cj (len_nm E29 r1) (cj h6 (cj h6 (cj h7 (cj (len_nm E29 r1) (cj1 ((laws_FnEvents_l0_ok r1 h18 r1 [] rfl r1 r3.1 r6 h19).at h21 :))))))))))))))))))))))))) (fun h18 =>
   Pn.none))))) (fun h4 =>
   Pn.none))))
end Go.Proofs.YtdahdpnkppknfaaGreatDoorM
