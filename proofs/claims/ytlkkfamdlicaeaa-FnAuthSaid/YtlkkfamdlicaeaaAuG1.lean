/- Printed by gen.py: functions on plain data, and that the program computes them. No condition. -/
import Derived.Test.YtlkkfamdlicaeaaAuG0
namespace Go.Proofs.YtlkkfamdlicaeaaM
set_option linter.unusedVariables false
set_option linter.unusedSimpArgs false
open Go.RowKit
set_option maxRecDepth 100000

def spec_l09Draw (o : l01Cur) (o_ : ByteArray) : Option (Acct × l01Cur) :=
 (spec_l01Pick o [100, 200, 60, 0, 9007199254740992]).bind fun r1 =>
 (spec_l01Pick r1.2.1 [2, 3, 5, 1000]).bind fun r2 =>
 (spec_l01Pick r2.2.1 [60, 120, 1000, 9007199254740992]).bind fun r3 =>
 (spec_l01Below r3.2.1 4).bind fun r4 =>
 (spec_l01Below r4.2 5).bind fun r5 =>
 (spec_AcctNew o_ r1.1 r2.1 r3.1 (i64 (1 + r4.1)) (i64 (1 + r5.1))).bind fun r6 =>
 (spec_l06Draw r5.2).bind fun r7 =>
 (spec_l07Draw r7.2).bind fun r8 =>
 (spec_Stored r8.1).bind fun r9 =>
 (spec_AddSat r9 0).bind fun r10 =>
 if (decide (r10 ≤ r6.1.Limit)) = true then
 (spec_Stored r8.1).bind fun r11 =>
 if (decide (r11 < r6.1.Limit)) = true then
 (spec_l01Once r8.2 2).bind fun r12 =>
 if r12.1 = true then
 (spec_Stored r8.1).bind fun r13 =>
 (spec_l01Below r12.2 (i64 ((i64 (r6.1.Limit - r13)) + 1))).bind fun r14 =>
 (spec_l01Once r14.2 3).bind fun r15 =>
 if r15.1 = true then
 (spec_l08Draw r15.2).bind fun r16 =>
 some ((Acct.mk r6.1.Id r6.1.Limit r14.1 r6.1.Most r6.1.MostSum r8.1 r7.1 r16.1), r16.2)
 else
 some ((Acct.mk r6.1.Id r6.1.Limit r14.1 r6.1.Most r6.1.MostSum r8.1 r7.1 r6.1.Slots), r15.2)
 else
 (spec_l01Once r12.2 3).bind fun r17 =>
 if r17.1 = true then
 (spec_l08Draw r17.2).bind fun r18 =>
 some ((Acct.mk r6.1.Id r6.1.Limit r6.1.Posted r6.1.Most r6.1.MostSum r8.1 r7.1 r18.1), r18.2)
 else
 some ((Acct.mk r6.1.Id r6.1.Limit r6.1.Posted r6.1.Most r6.1.MostSum r8.1 r7.1 r6.1.Slots), r17.2)
 else
 (spec_l01Once r8.2 3).bind fun r19 =>
 if r19.1 = true then
 (spec_l08Draw r19.2).bind fun r20 =>
 some ((Acct.mk r6.1.Id r6.1.Limit r6.1.Posted r6.1.Most r6.1.MostSum r8.1 r7.1 r20.1), r20.2)
 else
 some ((Acct.mk r6.1.Id r6.1.Limit r6.1.Posted r6.1.Most r6.1.MostSum r8.1 r7.1 r6.1.Slots), r19.2)
 else
 (spec_Stored r6.1.Holds).bind fun r21 =>
 if (decide (r21 < r6.1.Limit)) = true then
 (spec_l01Once r8.2 2).bind fun r22 =>
 if r22.1 = true then
 (spec_Stored r6.1.Holds).bind fun r23 =>
 (spec_l01Below r22.2 (i64 ((i64 (r6.1.Limit - r23)) + 1))).bind fun r24 =>
 (spec_l01Once r24.2 3).bind fun r25 =>
 if r25.1 = true then
 (spec_l08Draw r25.2).bind fun r26 =>
 some ((Acct.mk r6.1.Id r6.1.Limit r24.1 r6.1.Most r6.1.MostSum r6.1.Holds r7.1 r26.1), r26.2)
 else
 some ((Acct.mk r6.1.Id r6.1.Limit r24.1 r6.1.Most r6.1.MostSum r6.1.Holds r7.1 r6.1.Slots), r25.2)
 else
 (spec_l01Once r22.2 3).bind fun r27 =>
 if r27.1 = true then
 (spec_l08Draw r27.2).bind fun r28 =>
 some ((Acct.mk r6.1.Id r6.1.Limit r6.1.Posted r6.1.Most r6.1.MostSum r6.1.Holds r7.1 r28.1), r28.2)
 else
 some ((Acct.mk r6.1.Id r6.1.Limit r6.1.Posted r6.1.Most r6.1.MostSum r6.1.Holds r7.1 r6.1.Slots), r27.2)
 else
 (spec_l01Once r8.2 3).bind fun r29 =>
 if r29.1 = true then
 (spec_l08Draw r29.2).bind fun r30 =>
 some ((Acct.mk r6.1.Id r6.1.Limit r6.1.Posted r6.1.Most r6.1.MostSum r6.1.Holds r7.1 r30.1), r30.2)
 else
 some ((Acct.mk r6.1.Id r6.1.Limit r6.1.Posted r6.1.Most r6.1.MostSum r6.1.Holds r7.1 r6.1.Slots), r29.2)
theorem spec_l09Draw_ok (o : l01Cur) (o_ : ByteArray) : Pn (fun y => Fn Try.prog 20 [(true, V.bx 52 [V.sl false 5 (List.map E5 o.b), vI o.i, vI o.h]), (false, E9 o_)] (E29 y.1) [V.bx 52 [V.sl false 5 (List.map E5 y.2.b), vI y.2.i, vI y.2.h]]) (spec_l09Draw o o_) := by
  unfold spec_l09Draw
  exact
   Pn.bind (fun r1 h1 =>
   Pn.bind (fun r2 h2 =>
   Pn.bind (fun r3 h3 =>
   Pn.bind (fun r4 h4 =>
   Pn.bind (fun r5 h5 =>
   Pn.bind (fun r6 h6 =>
   Pn.bind (fun r7 h7 =>
   Pn.bind (fun r8 h8 =>
   Pn.bind (fun r9 h9 =>
   Pn.bind (fun r10 h10 =>
   Pn.ite (fun h11 =>
   Pn.bind (fun r11 h12 =>
   Pn.ite (fun h13 =>
   Pn.bind (fun r12 h14 =>
   Pn.ite (fun h15 =>
   Pn.bind (fun r13 h16 =>
   Pn.bind (fun r14 h17 =>
   Pn.bind (fun r15 h18 =>
   Pn.ite (fun h19 =>
   Pn.bind (fun r16 h20 =>
   Pn.some (Fn.of [.call [true, true] (E3 r1.1) [V.bx 52 [V.sl false 5 (List.map E5 r1.2.1.b), vI r1.2.1.i, vI r1.2.1.h], V.sl true 3 (List.map E3 r1.2.2)], .call [true, true] (E3 r2.1) [V.bx 52 [V.sl false 5 (List.map E5 r2.2.1.b), vI r2.2.1.i, vI r2.2.1.h], V.sl true 3 (List.map E3 r2.2.2)], .call [true, true] (E3 r3.1) [V.bx 52 [V.sl false 5 (List.map E5 r3.2.1.b), vI r3.2.1.i, vI r3.2.1.h], V.sl true 3 (List.map E3 r3.2.2)], .call [true, false] (E3 r4.1) [V.bx 52 [V.sl false 5 (List.map E5 r4.2.b), vI r4.2.i, vI r4.2.h]], .call [true, false] (E3 r5.1) [V.bx 52 [V.sl false 5 (List.map E5 r5.2.b), vI r5.2.i, vI r5.2.h]], .call [] (V.tup [E29 r6.1, E4 r6.2]) [], .call [true] (E26 r7.1) [V.bx 52 [V.sl false 5 (List.map E5 r7.2.b), vI r7.2.i, vI r7.2.h]], .call [true] (E23 r8.1) [V.bx 52 [V.sl false 5 (List.map E5 r8.2.b), vI r8.2.i, vI r8.2.h]], .draw [], .call [] (E3 r9) [], .call [] (E3 r10) [], .bit true, .draw [8], .call [] (E3 r11) [], .bit true, .bit true, .call [true, false] (E4 r12.1) [V.bx 52 [V.sl false 5 (List.map E5 r12.2.b), vI r12.2.i, vI r12.2.h]], .bit true, .bit true, .draw [8, 10], .call [] (E3 r13) [], .call [true, false] (E3 r14.1) [V.bx 52 [V.sl false 5 (List.map E5 r14.2.b), vI r14.2.i, vI r14.2.h]], .call [true, false] (E4 r15.1) [V.bx 52 [V.sl false 5 (List.map E5 r15.2.b), vI r15.2.i, vI r15.2.h]], .bit true, .call [true] (E27 r16.1) [V.bx 52 [V.sl false 5 (List.map E5 r16.2.b), vI r16.2.i, vI r16.2.h]]] (p := [Fn Try.prog 50 [(true, V.bx 52 [V.sl false 5 (List.map E5 o.b), vI o.i, vI o.h]), (true, E24 [100, 200, 60, 0, 9007199254740992])] (E3 r1.1) [V.bx 52 [V.sl false 5 (List.map E5 r1.2.1.b), vI r1.2.1.i, vI r1.2.1.h], V.sl true 3 (List.map E3 r1.2.2)],(true || ((E3 r1.1).nv && nvL [V.bx 52 [V.sl false 5 (List.map E5 r1.2.1.b), vI r1.2.1.i, vI r1.2.1.h], V.sl true 3 (List.map E3 r1.2.2)])) = true,Fn Try.prog 50 [(true, V.bx 52 [V.sl false 5 (List.map E5 r1.2.1.b), vI r1.2.1.i, vI r1.2.1.h]), (true, E24 [2, 3, 5, 1000])] (E3 r2.1) [V.bx 52 [V.sl false 5 (List.map E5 r2.2.1.b), vI r2.2.1.i, vI r2.2.1.h], V.sl true 3 (List.map E3 r2.2.2)],(true || ((E3 r2.1).nv && nvL [V.bx 52 [V.sl false 5 (List.map E5 r2.2.1.b), vI r2.2.1.i, vI r2.2.1.h], V.sl true 3 (List.map E3 r2.2.2)])) = true,Fn Try.prog 50 [(true, V.bx 52 [V.sl false 5 (List.map E5 r2.2.1.b), vI r2.2.1.i, vI r2.2.1.h]), (true, E24 [60, 120, 1000, 9007199254740992])] (E3 r3.1) [V.bx 52 [V.sl false 5 (List.map E5 r3.2.1.b), vI r3.2.1.i, vI r3.2.1.h], V.sl true 3 (List.map E3 r3.2.2)],(true || ((E3 r3.1).nv && nvL [V.bx 52 [V.sl false 5 (List.map E5 r3.2.1.b), vI r3.2.1.i, vI r3.2.1.h], V.sl true 3 (List.map E3 r3.2.2)])) = true,Fn Try.prog 22 [(true, V.bx 52 [V.sl false 5 (List.map E5 r3.2.1.b), vI r3.2.1.i, vI r3.2.1.h]), (false, E3 4)] (E3 r4.1) [V.bx 52 [V.sl false 5 (List.map E5 r4.2.b), vI r4.2.i, vI r4.2.h]],(true || ((E3 r4.1).nv && nvL [V.bx 52 [V.sl false 5 (List.map E5 r4.2.b), vI r4.2.i, vI r4.2.h]])) = true,Fn Try.prog 22 [(true, V.bx 52 [V.sl false 5 (List.map E5 r4.2.b), vI r4.2.i, vI r4.2.h]), (false, E3 5)] (E3 r5.1) [V.bx 52 [V.sl false 5 (List.map E5 r5.2.b), vI r5.2.i, vI r5.2.h]],(true || ((E3 r5.1).nv && nvL [V.bx 52 [V.sl false 5 (List.map E5 r5.2.b), vI r5.2.i, vI r5.2.h]])) = true,Fn Try.prog 49 [(false, E9 o_), (false, E3 r1.1), (false, E3 r2.1), (false, E3 r3.1), (false, E3 (i64 (1 + r4.1))), (false, E3 (i64 (1 + r5.1)))] (V.tup [E29 r6.1, E4 r6.2]) [],(true || ((V.tup [E29 r6.1, E4 r6.2]).nv && nvL [])) = true,Fn Try.prog 51 [(true, V.bx 52 [V.sl false 5 (List.map E5 r5.2.b), vI r5.2.i, vI r5.2.h])] (E26 r7.1) [V.bx 52 [V.sl false 5 (List.map E5 r7.2.b), vI r7.2.i, vI r7.2.h]],(true || ((E26 r7.1).nv && nvL [V.bx 52 [V.sl false 5 (List.map E5 r7.2.b), vI r7.2.i, vI r7.2.h]])) = true,Fn Try.prog 52 [(true, V.bx 52 [V.sl false 5 (List.map E5 r7.2.b), vI r7.2.i, vI r7.2.h])] (E23 r8.1) [V.bx 52 [V.sl false 5 (List.map E5 r8.2.b), vI r8.2.i, vI r8.2.h]],(true || ((E23 r8.1).nv && nvL [V.bx 52 [V.sl false 5 (List.map E5 r8.2.b), vI r8.2.i, vI r8.2.h]])) = true,Fn Try.prog 54 [(false, E23 r8.1)] (E3 r9) [],(false || ((E3 r9).nv && nvL [])) = true,Fn Try.prog 53 [(false, E3 r9), (false, E3 0)] (E3 r10) [],(true || ((E3 r10).nv && nvL [])) = true,(decide (r10 ≤ r6.1.Limit)) = true,Fn Try.prog 54 [(false, E23 r8.1)] (E3 r11) [],(false || ((E3 r11).nv && nvL [])) = true,(decide (r11 < r6.1.Limit)) = true,(decide (r11 < r6.1.Limit)) = true,Fn Try.prog 55 [(true, V.bx 52 [V.sl false 5 (List.map E5 r8.2.b), vI r8.2.i, vI r8.2.h]), (false, E3 2)] (E4 r12.1) [V.bx 52 [V.sl false 5 (List.map E5 r12.2.b), vI r12.2.i, vI r12.2.h]],(true || ((E4 r12.1).nv && nvL [V.bx 52 [V.sl false 5 (List.map E5 r12.2.b), vI r12.2.i, vI r12.2.h]])) = true,(decide (r11 < r6.1.Limit)) = true,r12.1 = true,Fn Try.prog 54 [(false, E23 r8.1)] (E3 r13) [],(false || ((E3 r13).nv && nvL [])) = true,Fn Try.prog 22 [(true, V.bx 52 [V.sl false 5 (List.map E5 r12.2.b), vI r12.2.i, vI r12.2.h]), (false, E3 (i64 ((i64 (r6.1.Limit - r13)) + 1)))] (E3 r14.1) [V.bx 52 [V.sl false 5 (List.map E5 r14.2.b), vI r14.2.i, vI r14.2.h]],(true || ((E3 r14.1).nv && nvL [V.bx 52 [V.sl false 5 (List.map E5 r14.2.b), vI r14.2.i, vI r14.2.h]])) = true,Fn Try.prog 55 [(true, V.bx 52 [V.sl false 5 (List.map E5 r14.2.b), vI r14.2.i, vI r14.2.h]), (false, E3 3)] (E4 r15.1) [V.bx 52 [V.sl false 5 (List.map E5 r15.2.b), vI r15.2.i, vI r15.2.h]],(true || ((E4 r15.1).nv && nvL [V.bx 52 [V.sl false 5 (List.map E5 r15.2.b), vI r15.2.i, vI r15.2.h]])) = true,r15.1 = true,Fn Try.prog 56 [(true, V.bx 52 [V.sl false 5 (List.map E5 r15.2.b), vI r15.2.i, vI r15.2.h])] (E27 r16.1) [V.bx 52 [V.sl false 5 (List.map E5 r16.2.b), vI r16.2.i, vI r16.2.h]],(true || ((E27 r16.1).nv && nvL [V.bx 52 [V.sl false 5 (List.map E5 r16.2.b), vI r16.2.i, vI r16.2.h]])) = true]) (by kernel_rfl) (cj (spec_l01Pick_ok o [100, 200, 60, 0, 9007199254740992] r1 h1) (cj rfl (cj (spec_l01Pick_ok r1.2.1 [2, 3, 5, 1000] r2 h2) (cj rfl (cj (spec_l01Pick_ok r2.2.1 [60, 120, 1000, 9007199254740992] r3 h3) (cj rfl (cj (spec_l01Below_ok r3.2.1 4 r4 h4) (cj rfl (cj (spec_l01Below_ok r4.2 5 r5 h5) (cj rfl (cj (spec_AcctNew_ok o_ r1.1 r2.1 r3.1 (i64 (1 + r4.1)) (i64 (1 + r5.1)) r6 h6) (cj rfl (cj (spec_l06Draw_ok r5.2 r7 h7) (cj rfl (cj (spec_l07Draw_ok r7.2 r8 h8) (cj rfl (cj (spec_Stored_ok r8.1 r9 h9) (cj (by simp [V.nv, nvL, nvL_all, nv_E3]) (cj (spec_AddSat_ok r9 0 r10 h10) (cj rfl (cj h11 (cj (spec_Stored_ok r8.1 r11 h12) (cj (by simp [V.nv, nvL, nvL_all, nv_E3]) (cj h13 (cj h13 (cj (spec_l01Once_ok r8.2 2 r12 h14) (cj rfl (cj h13 (cj h15 (cj (spec_Stored_ok r8.1 r13 h16) (cj (by simp [V.nv, nvL, nvL_all, nv_E3]) (cj (spec_l01Below_ok r12.2 (i64 ((i64 (r6.1.Limit - r13)) + 1)) r14 h17) (cj rfl (cj (spec_l01Once_ok r14.2 3 r15 h18) (cj rfl (cj h19 (cj (spec_l08Draw_ok r15.2 r16 h20) (cj1 rfl))))))))))))))))))))))))))))))))))))))))) (fun h19 =>
   Pn.some (Fn.of [.call [true, true] (E3 r1.1) [V.bx 52 [V.sl false 5 (List.map E5 r1.2.1.b), vI r1.2.1.i, vI r1.2.1.h], V.sl true 3 (List.map E3 r1.2.2)], .call [true, true] (E3 r2.1) [V.bx 52 [V.sl false 5 (List.map E5 r2.2.1.b), vI r2.2.1.i, vI r2.2.1.h], V.sl true 3 (List.map E3 r2.2.2)], .call [true, true] (E3 r3.1) [V.bx 52 [V.sl false 5 (List.map E5 r3.2.1.b), vI r3.2.1.i, vI r3.2.1.h], V.sl true 3 (List.map E3 r3.2.2)], .call [true, false] (E3 r4.1) [V.bx 52 [V.sl false 5 (List.map E5 r4.2.b), vI r4.2.i, vI r4.2.h]], .call [true, false] (E3 r5.1) [V.bx 52 [V.sl false 5 (List.map E5 r5.2.b), vI r5.2.i, vI r5.2.h]], .call [] (V.tup [E29 r6.1, E4 r6.2]) [], .call [true] (E26 r7.1) [V.bx 52 [V.sl false 5 (List.map E5 r7.2.b), vI r7.2.i, vI r7.2.h]], .call [true] (E23 r8.1) [V.bx 52 [V.sl false 5 (List.map E5 r8.2.b), vI r8.2.i, vI r8.2.h]], .draw [], .call [] (E3 r9) [], .call [] (E3 r10) [], .bit true, .draw [8], .call [] (E3 r11) [], .bit true, .bit true, .call [true, false] (E4 r12.1) [V.bx 52 [V.sl false 5 (List.map E5 r12.2.b), vI r12.2.i, vI r12.2.h]], .bit true, .bit true, .draw [8, 10], .call [] (E3 r13) [], .call [true, false] (E3 r14.1) [V.bx 52 [V.sl false 5 (List.map E5 r14.2.b), vI r14.2.i, vI r14.2.h]], .call [true, false] (E4 r15.1) [V.bx 52 [V.sl false 5 (List.map E5 r15.2.b), vI r15.2.i, vI r15.2.h]], .bit false] (p := [Fn Try.prog 50 [(true, V.bx 52 [V.sl false 5 (List.map E5 o.b), vI o.i, vI o.h]), (true, E24 [100, 200, 60, 0, 9007199254740992])] (E3 r1.1) [V.bx 52 [V.sl false 5 (List.map E5 r1.2.1.b), vI r1.2.1.i, vI r1.2.1.h], V.sl true 3 (List.map E3 r1.2.2)],(true || ((E3 r1.1).nv && nvL [V.bx 52 [V.sl false 5 (List.map E5 r1.2.1.b), vI r1.2.1.i, vI r1.2.1.h], V.sl true 3 (List.map E3 r1.2.2)])) = true,Fn Try.prog 50 [(true, V.bx 52 [V.sl false 5 (List.map E5 r1.2.1.b), vI r1.2.1.i, vI r1.2.1.h]), (true, E24 [2, 3, 5, 1000])] (E3 r2.1) [V.bx 52 [V.sl false 5 (List.map E5 r2.2.1.b), vI r2.2.1.i, vI r2.2.1.h], V.sl true 3 (List.map E3 r2.2.2)],(true || ((E3 r2.1).nv && nvL [V.bx 52 [V.sl false 5 (List.map E5 r2.2.1.b), vI r2.2.1.i, vI r2.2.1.h], V.sl true 3 (List.map E3 r2.2.2)])) = true,Fn Try.prog 50 [(true, V.bx 52 [V.sl false 5 (List.map E5 r2.2.1.b), vI r2.2.1.i, vI r2.2.1.h]), (true, E24 [60, 120, 1000, 9007199254740992])] (E3 r3.1) [V.bx 52 [V.sl false 5 (List.map E5 r3.2.1.b), vI r3.2.1.i, vI r3.2.1.h], V.sl true 3 (List.map E3 r3.2.2)],(true || ((E3 r3.1).nv && nvL [V.bx 52 [V.sl false 5 (List.map E5 r3.2.1.b), vI r3.2.1.i, vI r3.2.1.h], V.sl true 3 (List.map E3 r3.2.2)])) = true,Fn Try.prog 22 [(true, V.bx 52 [V.sl false 5 (List.map E5 r3.2.1.b), vI r3.2.1.i, vI r3.2.1.h]), (false, E3 4)] (E3 r4.1) [V.bx 52 [V.sl false 5 (List.map E5 r4.2.b), vI r4.2.i, vI r4.2.h]],(true || ((E3 r4.1).nv && nvL [V.bx 52 [V.sl false 5 (List.map E5 r4.2.b), vI r4.2.i, vI r4.2.h]])) = true,Fn Try.prog 22 [(true, V.bx 52 [V.sl false 5 (List.map E5 r4.2.b), vI r4.2.i, vI r4.2.h]), (false, E3 5)] (E3 r5.1) [V.bx 52 [V.sl false 5 (List.map E5 r5.2.b), vI r5.2.i, vI r5.2.h]],(true || ((E3 r5.1).nv && nvL [V.bx 52 [V.sl false 5 (List.map E5 r5.2.b), vI r5.2.i, vI r5.2.h]])) = true,Fn Try.prog 49 [(false, E9 o_), (false, E3 r1.1), (false, E3 r2.1), (false, E3 r3.1), (false, E3 (i64 (1 + r4.1))), (false, E3 (i64 (1 + r5.1)))] (V.tup [E29 r6.1, E4 r6.2]) [],(true || ((V.tup [E29 r6.1, E4 r6.2]).nv && nvL [])) = true,Fn Try.prog 51 [(true, V.bx 52 [V.sl false 5 (List.map E5 r5.2.b), vI r5.2.i, vI r5.2.h])] (E26 r7.1) [V.bx 52 [V.sl false 5 (List.map E5 r7.2.b), vI r7.2.i, vI r7.2.h]],(true || ((E26 r7.1).nv && nvL [V.bx 52 [V.sl false 5 (List.map E5 r7.2.b), vI r7.2.i, vI r7.2.h]])) = true,Fn Try.prog 52 [(true, V.bx 52 [V.sl false 5 (List.map E5 r7.2.b), vI r7.2.i, vI r7.2.h])] (E23 r8.1) [V.bx 52 [V.sl false 5 (List.map E5 r8.2.b), vI r8.2.i, vI r8.2.h]],(true || ((E23 r8.1).nv && nvL [V.bx 52 [V.sl false 5 (List.map E5 r8.2.b), vI r8.2.i, vI r8.2.h]])) = true,Fn Try.prog 54 [(false, E23 r8.1)] (E3 r9) [],(false || ((E3 r9).nv && nvL [])) = true,Fn Try.prog 53 [(false, E3 r9), (false, E3 0)] (E3 r10) [],(true || ((E3 r10).nv && nvL [])) = true,(decide (r10 ≤ r6.1.Limit)) = true,Fn Try.prog 54 [(false, E23 r8.1)] (E3 r11) [],(false || ((E3 r11).nv && nvL [])) = true,(decide (r11 < r6.1.Limit)) = true,(decide (r11 < r6.1.Limit)) = true,Fn Try.prog 55 [(true, V.bx 52 [V.sl false 5 (List.map E5 r8.2.b), vI r8.2.i, vI r8.2.h]), (false, E3 2)] (E4 r12.1) [V.bx 52 [V.sl false 5 (List.map E5 r12.2.b), vI r12.2.i, vI r12.2.h]],(true || ((E4 r12.1).nv && nvL [V.bx 52 [V.sl false 5 (List.map E5 r12.2.b), vI r12.2.i, vI r12.2.h]])) = true,(decide (r11 < r6.1.Limit)) = true,r12.1 = true,Fn Try.prog 54 [(false, E23 r8.1)] (E3 r13) [],(false || ((E3 r13).nv && nvL [])) = true,Fn Try.prog 22 [(true, V.bx 52 [V.sl false 5 (List.map E5 r12.2.b), vI r12.2.i, vI r12.2.h]), (false, E3 (i64 ((i64 (r6.1.Limit - r13)) + 1)))] (E3 r14.1) [V.bx 52 [V.sl false 5 (List.map E5 r14.2.b), vI r14.2.i, vI r14.2.h]],(true || ((E3 r14.1).nv && nvL [V.bx 52 [V.sl false 5 (List.map E5 r14.2.b), vI r14.2.i, vI r14.2.h]])) = true,Fn Try.prog 55 [(true, V.bx 52 [V.sl false 5 (List.map E5 r14.2.b), vI r14.2.i, vI r14.2.h]), (false, E3 3)] (E4 r15.1) [V.bx 52 [V.sl false 5 (List.map E5 r15.2.b), vI r15.2.i, vI r15.2.h]],(true || ((E4 r15.1).nv && nvL [V.bx 52 [V.sl false 5 (List.map E5 r15.2.b), vI r15.2.i, vI r15.2.h]])) = true,r15.1 = false]) (by kernel_rfl) (cj (spec_l01Pick_ok o [100, 200, 60, 0, 9007199254740992] r1 h1) (cj rfl (cj (spec_l01Pick_ok r1.2.1 [2, 3, 5, 1000] r2 h2) (cj rfl (cj (spec_l01Pick_ok r2.2.1 [60, 120, 1000, 9007199254740992] r3 h3) (cj rfl (cj (spec_l01Below_ok r3.2.1 4 r4 h4) (cj rfl (cj (spec_l01Below_ok r4.2 5 r5 h5) (cj rfl (cj (spec_AcctNew_ok o_ r1.1 r2.1 r3.1 (i64 (1 + r4.1)) (i64 (1 + r5.1)) r6 h6) (cj rfl (cj (spec_l06Draw_ok r5.2 r7 h7) (cj rfl (cj (spec_l07Draw_ok r7.2 r8 h8) (cj rfl (cj (spec_Stored_ok r8.1 r9 h9) (cj (by simp [V.nv, nvL, nvL_all, nv_E3]) (cj (spec_AddSat_ok r9 0 r10 h10) (cj rfl (cj h11 (cj (spec_Stored_ok r8.1 r11 h12) (cj (by simp [V.nv, nvL, nvL_all, nv_E3]) (cj h13 (cj h13 (cj (spec_l01Once_ok r8.2 2 r12 h14) (cj rfl (cj h13 (cj h15 (cj (spec_Stored_ok r8.1 r13 h16) (cj (by simp [V.nv, nvL, nvL_all, nv_E3]) (cj (spec_l01Below_ok r12.2 (i64 ((i64 (r6.1.Limit - r13)) + 1)) r14 h17) (cj rfl (cj (spec_l01Once_ok r14.2 3 r15 h18) (cj rfl (cj1 h19)))))))))))))))))))))))))))))))))))))))))) (fun h15 =>
   Pn.bind (fun r17 h21 =>
   Pn.ite (fun h22 =>
   Pn.bind (fun r18 h23 =>
   Pn.some (Fn.of [.call [true, true] (E3 r1.1) [V.bx 52 [V.sl false 5 (List.map E5 r1.2.1.b), vI r1.2.1.i, vI r1.2.1.h], V.sl true 3 (List.map E3 r1.2.2)], .call [true, true] (E3 r2.1) [V.bx 52 [V.sl false 5 (List.map E5 r2.2.1.b), vI r2.2.1.i, vI r2.2.1.h], V.sl true 3 (List.map E3 r2.2.2)], .call [true, true] (E3 r3.1) [V.bx 52 [V.sl false 5 (List.map E5 r3.2.1.b), vI r3.2.1.i, vI r3.2.1.h], V.sl true 3 (List.map E3 r3.2.2)], .call [true, false] (E3 r4.1) [V.bx 52 [V.sl false 5 (List.map E5 r4.2.b), vI r4.2.i, vI r4.2.h]], .call [true, false] (E3 r5.1) [V.bx 52 [V.sl false 5 (List.map E5 r5.2.b), vI r5.2.i, vI r5.2.h]], .call [] (V.tup [E29 r6.1, E4 r6.2]) [], .call [true] (E26 r7.1) [V.bx 52 [V.sl false 5 (List.map E5 r7.2.b), vI r7.2.i, vI r7.2.h]], .call [true] (E23 r8.1) [V.bx 52 [V.sl false 5 (List.map E5 r8.2.b), vI r8.2.i, vI r8.2.h]], .draw [], .call [] (E3 r9) [], .call [] (E3 r10) [], .bit true, .draw [8], .call [] (E3 r11) [], .bit true, .bit true, .call [true, false] (E4 r12.1) [V.bx 52 [V.sl false 5 (List.map E5 r12.2.b), vI r12.2.i, vI r12.2.h]], .bit true, .bit false, .call [true, false] (E4 r17.1) [V.bx 52 [V.sl false 5 (List.map E5 r17.2.b), vI r17.2.i, vI r17.2.h]], .bit true, .call [true] (E27 r18.1) [V.bx 52 [V.sl false 5 (List.map E5 r18.2.b), vI r18.2.i, vI r18.2.h]]] (p := [Fn Try.prog 50 [(true, V.bx 52 [V.sl false 5 (List.map E5 o.b), vI o.i, vI o.h]), (true, E24 [100, 200, 60, 0, 9007199254740992])] (E3 r1.1) [V.bx 52 [V.sl false 5 (List.map E5 r1.2.1.b), vI r1.2.1.i, vI r1.2.1.h], V.sl true 3 (List.map E3 r1.2.2)],(true || ((E3 r1.1).nv && nvL [V.bx 52 [V.sl false 5 (List.map E5 r1.2.1.b), vI r1.2.1.i, vI r1.2.1.h], V.sl true 3 (List.map E3 r1.2.2)])) = true,Fn Try.prog 50 [(true, V.bx 52 [V.sl false 5 (List.map E5 r1.2.1.b), vI r1.2.1.i, vI r1.2.1.h]), (true, E24 [2, 3, 5, 1000])] (E3 r2.1) [V.bx 52 [V.sl false 5 (List.map E5 r2.2.1.b), vI r2.2.1.i, vI r2.2.1.h], V.sl true 3 (List.map E3 r2.2.2)],(true || ((E3 r2.1).nv && nvL [V.bx 52 [V.sl false 5 (List.map E5 r2.2.1.b), vI r2.2.1.i, vI r2.2.1.h], V.sl true 3 (List.map E3 r2.2.2)])) = true,Fn Try.prog 50 [(true, V.bx 52 [V.sl false 5 (List.map E5 r2.2.1.b), vI r2.2.1.i, vI r2.2.1.h]), (true, E24 [60, 120, 1000, 9007199254740992])] (E3 r3.1) [V.bx 52 [V.sl false 5 (List.map E5 r3.2.1.b), vI r3.2.1.i, vI r3.2.1.h], V.sl true 3 (List.map E3 r3.2.2)],(true || ((E3 r3.1).nv && nvL [V.bx 52 [V.sl false 5 (List.map E5 r3.2.1.b), vI r3.2.1.i, vI r3.2.1.h], V.sl true 3 (List.map E3 r3.2.2)])) = true,Fn Try.prog 22 [(true, V.bx 52 [V.sl false 5 (List.map E5 r3.2.1.b), vI r3.2.1.i, vI r3.2.1.h]), (false, E3 4)] (E3 r4.1) [V.bx 52 [V.sl false 5 (List.map E5 r4.2.b), vI r4.2.i, vI r4.2.h]],(true || ((E3 r4.1).nv && nvL [V.bx 52 [V.sl false 5 (List.map E5 r4.2.b), vI r4.2.i, vI r4.2.h]])) = true,Fn Try.prog 22 [(true, V.bx 52 [V.sl false 5 (List.map E5 r4.2.b), vI r4.2.i, vI r4.2.h]), (false, E3 5)] (E3 r5.1) [V.bx 52 [V.sl false 5 (List.map E5 r5.2.b), vI r5.2.i, vI r5.2.h]],(true || ((E3 r5.1).nv && nvL [V.bx 52 [V.sl false 5 (List.map E5 r5.2.b), vI r5.2.i, vI r5.2.h]])) = true,Fn Try.prog 49 [(false, E9 o_), (false, E3 r1.1), (false, E3 r2.1), (false, E3 r3.1), (false, E3 (i64 (1 + r4.1))), (false, E3 (i64 (1 + r5.1)))] (V.tup [E29 r6.1, E4 r6.2]) [],(true || ((V.tup [E29 r6.1, E4 r6.2]).nv && nvL [])) = true,Fn Try.prog 51 [(true, V.bx 52 [V.sl false 5 (List.map E5 r5.2.b), vI r5.2.i, vI r5.2.h])] (E26 r7.1) [V.bx 52 [V.sl false 5 (List.map E5 r7.2.b), vI r7.2.i, vI r7.2.h]],(true || ((E26 r7.1).nv && nvL [V.bx 52 [V.sl false 5 (List.map E5 r7.2.b), vI r7.2.i, vI r7.2.h]])) = true,Fn Try.prog 52 [(true, V.bx 52 [V.sl false 5 (List.map E5 r7.2.b), vI r7.2.i, vI r7.2.h])] (E23 r8.1) [V.bx 52 [V.sl false 5 (List.map E5 r8.2.b), vI r8.2.i, vI r8.2.h]],(true || ((E23 r8.1).nv && nvL [V.bx 52 [V.sl false 5 (List.map E5 r8.2.b), vI r8.2.i, vI r8.2.h]])) = true,Fn Try.prog 54 [(false, E23 r8.1)] (E3 r9) [],(false || ((E3 r9).nv && nvL [])) = true,Fn Try.prog 53 [(false, E3 r9), (false, E3 0)] (E3 r10) [],(true || ((E3 r10).nv && nvL [])) = true,(decide (r10 ≤ r6.1.Limit)) = true,Fn Try.prog 54 [(false, E23 r8.1)] (E3 r11) [],(false || ((E3 r11).nv && nvL [])) = true,(decide (r11 < r6.1.Limit)) = true,(decide (r11 < r6.1.Limit)) = true,Fn Try.prog 55 [(true, V.bx 52 [V.sl false 5 (List.map E5 r8.2.b), vI r8.2.i, vI r8.2.h]), (false, E3 2)] (E4 r12.1) [V.bx 52 [V.sl false 5 (List.map E5 r12.2.b), vI r12.2.i, vI r12.2.h]],(true || ((E4 r12.1).nv && nvL [V.bx 52 [V.sl false 5 (List.map E5 r12.2.b), vI r12.2.i, vI r12.2.h]])) = true,(decide (r11 < r6.1.Limit)) = true,r12.1 = false,Fn Try.prog 55 [(true, V.bx 52 [V.sl false 5 (List.map E5 r12.2.b), vI r12.2.i, vI r12.2.h]), (false, E3 3)] (E4 r17.1) [V.bx 52 [V.sl false 5 (List.map E5 r17.2.b), vI r17.2.i, vI r17.2.h]],(true || ((E4 r17.1).nv && nvL [V.bx 52 [V.sl false 5 (List.map E5 r17.2.b), vI r17.2.i, vI r17.2.h]])) = true,r17.1 = true,Fn Try.prog 56 [(true, V.bx 52 [V.sl false 5 (List.map E5 r17.2.b), vI r17.2.i, vI r17.2.h])] (E27 r18.1) [V.bx 52 [V.sl false 5 (List.map E5 r18.2.b), vI r18.2.i, vI r18.2.h]],(true || ((E27 r18.1).nv && nvL [V.bx 52 [V.sl false 5 (List.map E5 r18.2.b), vI r18.2.i, vI r18.2.h]])) = true]) (by kernel_rfl) (cj (spec_l01Pick_ok o [100, 200, 60, 0, 9007199254740992] r1 h1) (cj rfl (cj (spec_l01Pick_ok r1.2.1 [2, 3, 5, 1000] r2 h2) (cj rfl (cj (spec_l01Pick_ok r2.2.1 [60, 120, 1000, 9007199254740992] r3 h3) (cj rfl (cj (spec_l01Below_ok r3.2.1 4 r4 h4) (cj rfl (cj (spec_l01Below_ok r4.2 5 r5 h5) (cj rfl (cj (spec_AcctNew_ok o_ r1.1 r2.1 r3.1 (i64 (1 + r4.1)) (i64 (1 + r5.1)) r6 h6) (cj rfl (cj (spec_l06Draw_ok r5.2 r7 h7) (cj rfl (cj (spec_l07Draw_ok r7.2 r8 h8) (cj rfl (cj (spec_Stored_ok r8.1 r9 h9) (cj (by simp [V.nv, nvL, nvL_all, nv_E3]) (cj (spec_AddSat_ok r9 0 r10 h10) (cj rfl (cj h11 (cj (spec_Stored_ok r8.1 r11 h12) (cj (by simp [V.nv, nvL, nvL_all, nv_E3]) (cj h13 (cj h13 (cj (spec_l01Once_ok r8.2 2 r12 h14) (cj rfl (cj h13 (cj h15 (cj (spec_l01Once_ok r12.2 3 r17 h21) (cj rfl (cj h22 (cj (spec_l08Draw_ok r17.2 r18 h23) (cj1 rfl))))))))))))))))))))))))))))))))))))) (fun h22 =>
   Pn.some (Fn.of [.call [true, true] (E3 r1.1) [V.bx 52 [V.sl false 5 (List.map E5 r1.2.1.b), vI r1.2.1.i, vI r1.2.1.h], V.sl true 3 (List.map E3 r1.2.2)], .call [true, true] (E3 r2.1) [V.bx 52 [V.sl false 5 (List.map E5 r2.2.1.b), vI r2.2.1.i, vI r2.2.1.h], V.sl true 3 (List.map E3 r2.2.2)], .call [true, true] (E3 r3.1) [V.bx 52 [V.sl false 5 (List.map E5 r3.2.1.b), vI r3.2.1.i, vI r3.2.1.h], V.sl true 3 (List.map E3 r3.2.2)], .call [true, false] (E3 r4.1) [V.bx 52 [V.sl false 5 (List.map E5 r4.2.b), vI r4.2.i, vI r4.2.h]], .call [true, false] (E3 r5.1) [V.bx 52 [V.sl false 5 (List.map E5 r5.2.b), vI r5.2.i, vI r5.2.h]], .call [] (V.tup [E29 r6.1, E4 r6.2]) [], .call [true] (E26 r7.1) [V.bx 52 [V.sl false 5 (List.map E5 r7.2.b), vI r7.2.i, vI r7.2.h]], .call [true] (E23 r8.1) [V.bx 52 [V.sl false 5 (List.map E5 r8.2.b), vI r8.2.i, vI r8.2.h]], .draw [], .call [] (E3 r9) [], .call [] (E3 r10) [], .bit true, .draw [8], .call [] (E3 r11) [], .bit true, .bit true, .call [true, false] (E4 r12.1) [V.bx 52 [V.sl false 5 (List.map E5 r12.2.b), vI r12.2.i, vI r12.2.h]], .bit true, .bit false, .call [true, false] (E4 r17.1) [V.bx 52 [V.sl false 5 (List.map E5 r17.2.b), vI r17.2.i, vI r17.2.h]], .bit false] (p := [Fn Try.prog 50 [(true, V.bx 52 [V.sl false 5 (List.map E5 o.b), vI o.i, vI o.h]), (true, E24 [100, 200, 60, 0, 9007199254740992])] (E3 r1.1) [V.bx 52 [V.sl false 5 (List.map E5 r1.2.1.b), vI r1.2.1.i, vI r1.2.1.h], V.sl true 3 (List.map E3 r1.2.2)],(true || ((E3 r1.1).nv && nvL [V.bx 52 [V.sl false 5 (List.map E5 r1.2.1.b), vI r1.2.1.i, vI r1.2.1.h], V.sl true 3 (List.map E3 r1.2.2)])) = true,Fn Try.prog 50 [(true, V.bx 52 [V.sl false 5 (List.map E5 r1.2.1.b), vI r1.2.1.i, vI r1.2.1.h]), (true, E24 [2, 3, 5, 1000])] (E3 r2.1) [V.bx 52 [V.sl false 5 (List.map E5 r2.2.1.b), vI r2.2.1.i, vI r2.2.1.h], V.sl true 3 (List.map E3 r2.2.2)],(true || ((E3 r2.1).nv && nvL [V.bx 52 [V.sl false 5 (List.map E5 r2.2.1.b), vI r2.2.1.i, vI r2.2.1.h], V.sl true 3 (List.map E3 r2.2.2)])) = true,Fn Try.prog 50 [(true, V.bx 52 [V.sl false 5 (List.map E5 r2.2.1.b), vI r2.2.1.i, vI r2.2.1.h]), (true, E24 [60, 120, 1000, 9007199254740992])] (E3 r3.1) [V.bx 52 [V.sl false 5 (List.map E5 r3.2.1.b), vI r3.2.1.i, vI r3.2.1.h], V.sl true 3 (List.map E3 r3.2.2)],(true || ((E3 r3.1).nv && nvL [V.bx 52 [V.sl false 5 (List.map E5 r3.2.1.b), vI r3.2.1.i, vI r3.2.1.h], V.sl true 3 (List.map E3 r3.2.2)])) = true,Fn Try.prog 22 [(true, V.bx 52 [V.sl false 5 (List.map E5 r3.2.1.b), vI r3.2.1.i, vI r3.2.1.h]), (false, E3 4)] (E3 r4.1) [V.bx 52 [V.sl false 5 (List.map E5 r4.2.b), vI r4.2.i, vI r4.2.h]],(true || ((E3 r4.1).nv && nvL [V.bx 52 [V.sl false 5 (List.map E5 r4.2.b), vI r4.2.i, vI r4.2.h]])) = true,Fn Try.prog 22 [(true, V.bx 52 [V.sl false 5 (List.map E5 r4.2.b), vI r4.2.i, vI r4.2.h]), (false, E3 5)] (E3 r5.1) [V.bx 52 [V.sl false 5 (List.map E5 r5.2.b), vI r5.2.i, vI r5.2.h]],(true || ((E3 r5.1).nv && nvL [V.bx 52 [V.sl false 5 (List.map E5 r5.2.b), vI r5.2.i, vI r5.2.h]])) = true,Fn Try.prog 49 [(false, E9 o_), (false, E3 r1.1), (false, E3 r2.1), (false, E3 r3.1), (false, E3 (i64 (1 + r4.1))), (false, E3 (i64 (1 + r5.1)))] (V.tup [E29 r6.1, E4 r6.2]) [],(true || ((V.tup [E29 r6.1, E4 r6.2]).nv && nvL [])) = true,Fn Try.prog 51 [(true, V.bx 52 [V.sl false 5 (List.map E5 r5.2.b), vI r5.2.i, vI r5.2.h])] (E26 r7.1) [V.bx 52 [V.sl false 5 (List.map E5 r7.2.b), vI r7.2.i, vI r7.2.h]],(true || ((E26 r7.1).nv && nvL [V.bx 52 [V.sl false 5 (List.map E5 r7.2.b), vI r7.2.i, vI r7.2.h]])) = true,Fn Try.prog 52 [(true, V.bx 52 [V.sl false 5 (List.map E5 r7.2.b), vI r7.2.i, vI r7.2.h])] (E23 r8.1) [V.bx 52 [V.sl false 5 (List.map E5 r8.2.b), vI r8.2.i, vI r8.2.h]],(true || ((E23 r8.1).nv && nvL [V.bx 52 [V.sl false 5 (List.map E5 r8.2.b), vI r8.2.i, vI r8.2.h]])) = true,Fn Try.prog 54 [(false, E23 r8.1)] (E3 r9) [],(false || ((E3 r9).nv && nvL [])) = true,Fn Try.prog 53 [(false, E3 r9), (false, E3 0)] (E3 r10) [],(true || ((E3 r10).nv && nvL [])) = true,(decide (r10 ≤ r6.1.Limit)) = true,Fn Try.prog 54 [(false, E23 r8.1)] (E3 r11) [],(false || ((E3 r11).nv && nvL [])) = true,(decide (r11 < r6.1.Limit)) = true,(decide (r11 < r6.1.Limit)) = true,Fn Try.prog 55 [(true, V.bx 52 [V.sl false 5 (List.map E5 r8.2.b), vI r8.2.i, vI r8.2.h]), (false, E3 2)] (E4 r12.1) [V.bx 52 [V.sl false 5 (List.map E5 r12.2.b), vI r12.2.i, vI r12.2.h]],(true || ((E4 r12.1).nv && nvL [V.bx 52 [V.sl false 5 (List.map E5 r12.2.b), vI r12.2.i, vI r12.2.h]])) = true,(decide (r11 < r6.1.Limit)) = true,r12.1 = false,Fn Try.prog 55 [(true, V.bx 52 [V.sl false 5 (List.map E5 r12.2.b), vI r12.2.i, vI r12.2.h]), (false, E3 3)] (E4 r17.1) [V.bx 52 [V.sl false 5 (List.map E5 r17.2.b), vI r17.2.i, vI r17.2.h]],(true || ((E4 r17.1).nv && nvL [V.bx 52 [V.sl false 5 (List.map E5 r17.2.b), vI r17.2.i, vI r17.2.h]])) = true,r17.1 = false]) (by kernel_rfl) (cj (spec_l01Pick_ok o [100, 200, 60, 0, 9007199254740992] r1 h1) (cj rfl (cj (spec_l01Pick_ok r1.2.1 [2, 3, 5, 1000] r2 h2) (cj rfl (cj (spec_l01Pick_ok r2.2.1 [60, 120, 1000, 9007199254740992] r3 h3) (cj rfl (cj (spec_l01Below_ok r3.2.1 4 r4 h4) (cj rfl (cj (spec_l01Below_ok r4.2 5 r5 h5) (cj rfl (cj (spec_AcctNew_ok o_ r1.1 r2.1 r3.1 (i64 (1 + r4.1)) (i64 (1 + r5.1)) r6 h6) (cj rfl (cj (spec_l06Draw_ok r5.2 r7 h7) (cj rfl (cj (spec_l07Draw_ok r7.2 r8 h8) (cj rfl (cj (spec_Stored_ok r8.1 r9 h9) (cj (by simp [V.nv, nvL, nvL_all, nv_E3]) (cj (spec_AddSat_ok r9 0 r10 h10) (cj rfl (cj h11 (cj (spec_Stored_ok r8.1 r11 h12) (cj (by simp [V.nv, nvL, nvL_all, nv_E3]) (cj h13 (cj h13 (cj (spec_l01Once_ok r8.2 2 r12 h14) (cj rfl (cj h13 (cj h15 (cj (spec_l01Once_ok r12.2 3 r17 h21) (cj rfl (cj1 h22)))))))))))))))))))))))))))))))))))))) (fun h13 =>
   Pn.bind (fun r19 h24 =>
   Pn.ite (fun h25 =>
   Pn.bind (fun r20 h26 =>
   Pn.some (Fn.of [.call [true, true] (E3 r1.1) [V.bx 52 [V.sl false 5 (List.map E5 r1.2.1.b), vI r1.2.1.i, vI r1.2.1.h], V.sl true 3 (List.map E3 r1.2.2)], .call [true, true] (E3 r2.1) [V.bx 52 [V.sl false 5 (List.map E5 r2.2.1.b), vI r2.2.1.i, vI r2.2.1.h], V.sl true 3 (List.map E3 r2.2.2)], .call [true, true] (E3 r3.1) [V.bx 52 [V.sl false 5 (List.map E5 r3.2.1.b), vI r3.2.1.i, vI r3.2.1.h], V.sl true 3 (List.map E3 r3.2.2)], .call [true, false] (E3 r4.1) [V.bx 52 [V.sl false 5 (List.map E5 r4.2.b), vI r4.2.i, vI r4.2.h]], .call [true, false] (E3 r5.1) [V.bx 52 [V.sl false 5 (List.map E5 r5.2.b), vI r5.2.i, vI r5.2.h]], .call [] (V.tup [E29 r6.1, E4 r6.2]) [], .call [true] (E26 r7.1) [V.bx 52 [V.sl false 5 (List.map E5 r7.2.b), vI r7.2.i, vI r7.2.h]], .call [true] (E23 r8.1) [V.bx 52 [V.sl false 5 (List.map E5 r8.2.b), vI r8.2.i, vI r8.2.h]], .draw [], .call [] (E3 r9) [], .call [] (E3 r10) [], .bit true, .draw [8], .call [] (E3 r11) [], .bit false, .bit false, .bit false, .bit false, .call [true, false] (E4 r19.1) [V.bx 52 [V.sl false 5 (List.map E5 r19.2.b), vI r19.2.i, vI r19.2.h]], .bit true, .call [true] (E27 r20.1) [V.bx 52 [V.sl false 5 (List.map E5 r20.2.b), vI r20.2.i, vI r20.2.h]]] (p := [Fn Try.prog 50 [(true, V.bx 52 [V.sl false 5 (List.map E5 o.b), vI o.i, vI o.h]), (true, E24 [100, 200, 60, 0, 9007199254740992])] (E3 r1.1) [V.bx 52 [V.sl false 5 (List.map E5 r1.2.1.b), vI r1.2.1.i, vI r1.2.1.h], V.sl true 3 (List.map E3 r1.2.2)],(true || ((E3 r1.1).nv && nvL [V.bx 52 [V.sl false 5 (List.map E5 r1.2.1.b), vI r1.2.1.i, vI r1.2.1.h], V.sl true 3 (List.map E3 r1.2.2)])) = true,Fn Try.prog 50 [(true, V.bx 52 [V.sl false 5 (List.map E5 r1.2.1.b), vI r1.2.1.i, vI r1.2.1.h]), (true, E24 [2, 3, 5, 1000])] (E3 r2.1) [V.bx 52 [V.sl false 5 (List.map E5 r2.2.1.b), vI r2.2.1.i, vI r2.2.1.h], V.sl true 3 (List.map E3 r2.2.2)],(true || ((E3 r2.1).nv && nvL [V.bx 52 [V.sl false 5 (List.map E5 r2.2.1.b), vI r2.2.1.i, vI r2.2.1.h], V.sl true 3 (List.map E3 r2.2.2)])) = true,Fn Try.prog 50 [(true, V.bx 52 [V.sl false 5 (List.map E5 r2.2.1.b), vI r2.2.1.i, vI r2.2.1.h]), (true, E24 [60, 120, 1000, 9007199254740992])] (E3 r3.1) [V.bx 52 [V.sl false 5 (List.map E5 r3.2.1.b), vI r3.2.1.i, vI r3.2.1.h], V.sl true 3 (List.map E3 r3.2.2)],(true || ((E3 r3.1).nv && nvL [V.bx 52 [V.sl false 5 (List.map E5 r3.2.1.b), vI r3.2.1.i, vI r3.2.1.h], V.sl true 3 (List.map E3 r3.2.2)])) = true,Fn Try.prog 22 [(true, V.bx 52 [V.sl false 5 (List.map E5 r3.2.1.b), vI r3.2.1.i, vI r3.2.1.h]), (false, E3 4)] (E3 r4.1) [V.bx 52 [V.sl false 5 (List.map E5 r4.2.b), vI r4.2.i, vI r4.2.h]],(true || ((E3 r4.1).nv && nvL [V.bx 52 [V.sl false 5 (List.map E5 r4.2.b), vI r4.2.i, vI r4.2.h]])) = true,Fn Try.prog 22 [(true, V.bx 52 [V.sl false 5 (List.map E5 r4.2.b), vI r4.2.i, vI r4.2.h]), (false, E3 5)] (E3 r5.1) [V.bx 52 [V.sl false 5 (List.map E5 r5.2.b), vI r5.2.i, vI r5.2.h]],(true || ((E3 r5.1).nv && nvL [V.bx 52 [V.sl false 5 (List.map E5 r5.2.b), vI r5.2.i, vI r5.2.h]])) = true,Fn Try.prog 49 [(false, E9 o_), (false, E3 r1.1), (false, E3 r2.1), (false, E3 r3.1), (false, E3 (i64 (1 + r4.1))), (false, E3 (i64 (1 + r5.1)))] (V.tup [E29 r6.1, E4 r6.2]) [],(true || ((V.tup [E29 r6.1, E4 r6.2]).nv && nvL [])) = true,Fn Try.prog 51 [(true, V.bx 52 [V.sl false 5 (List.map E5 r5.2.b), vI r5.2.i, vI r5.2.h])] (E26 r7.1) [V.bx 52 [V.sl false 5 (List.map E5 r7.2.b), vI r7.2.i, vI r7.2.h]],(true || ((E26 r7.1).nv && nvL [V.bx 52 [V.sl false 5 (List.map E5 r7.2.b), vI r7.2.i, vI r7.2.h]])) = true,Fn Try.prog 52 [(true, V.bx 52 [V.sl false 5 (List.map E5 r7.2.b), vI r7.2.i, vI r7.2.h])] (E23 r8.1) [V.bx 52 [V.sl false 5 (List.map E5 r8.2.b), vI r8.2.i, vI r8.2.h]],(true || ((E23 r8.1).nv && nvL [V.bx 52 [V.sl false 5 (List.map E5 r8.2.b), vI r8.2.i, vI r8.2.h]])) = true,Fn Try.prog 54 [(false, E23 r8.1)] (E3 r9) [],(false || ((E3 r9).nv && nvL [])) = true,Fn Try.prog 53 [(false, E3 r9), (false, E3 0)] (E3 r10) [],(true || ((E3 r10).nv && nvL [])) = true,(decide (r10 ≤ r6.1.Limit)) = true,Fn Try.prog 54 [(false, E23 r8.1)] (E3 r11) [],(false || ((E3 r11).nv && nvL [])) = true,(decide (r11 < r6.1.Limit)) = false,(decide (r11 < r6.1.Limit)) = false,(decide (r11 < r6.1.Limit)) = false,false = false,Fn Try.prog 55 [(true, V.bx 52 [V.sl false 5 (List.map E5 r8.2.b), vI r8.2.i, vI r8.2.h]), (false, E3 3)] (E4 r19.1) [V.bx 52 [V.sl false 5 (List.map E5 r19.2.b), vI r19.2.i, vI r19.2.h]],(true || ((E4 r19.1).nv && nvL [V.bx 52 [V.sl false 5 (List.map E5 r19.2.b), vI r19.2.i, vI r19.2.h]])) = true,r19.1 = true,Fn Try.prog 56 [(true, V.bx 52 [V.sl false 5 (List.map E5 r19.2.b), vI r19.2.i, vI r19.2.h])] (E27 r20.1) [V.bx 52 [V.sl false 5 (List.map E5 r20.2.b), vI r20.2.i, vI r20.2.h]],(true || ((E27 r20.1).nv && nvL [V.bx 52 [V.sl false 5 (List.map E5 r20.2.b), vI r20.2.i, vI r20.2.h]])) = true]) (by kernel_rfl) (cj (spec_l01Pick_ok o [100, 200, 60, 0, 9007199254740992] r1 h1) (cj rfl (cj (spec_l01Pick_ok r1.2.1 [2, 3, 5, 1000] r2 h2) (cj rfl (cj (spec_l01Pick_ok r2.2.1 [60, 120, 1000, 9007199254740992] r3 h3) (cj rfl (cj (spec_l01Below_ok r3.2.1 4 r4 h4) (cj rfl (cj (spec_l01Below_ok r4.2 5 r5 h5) (cj rfl (cj (spec_AcctNew_ok o_ r1.1 r2.1 r3.1 (i64 (1 + r4.1)) (i64 (1 + r5.1)) r6 h6) (cj rfl (cj (spec_l06Draw_ok r5.2 r7 h7) (cj rfl (cj (spec_l07Draw_ok r7.2 r8 h8) (cj rfl (cj (spec_Stored_ok r8.1 r9 h9) (cj (by simp [V.nv, nvL, nvL_all, nv_E3]) (cj (spec_AddSat_ok r9 0 r10 h10) (cj rfl (cj h11 (cj (spec_Stored_ok r8.1 r11 h12) (cj (by simp [V.nv, nvL, nvL_all, nv_E3]) (cj h13 (cj h13 (cj h13 (cj rfl (cj (spec_l01Once_ok r8.2 3 r19 h24) (cj rfl (cj h25 (cj (spec_l08Draw_ok r19.2 r20 h26) (cj1 rfl))))))))))))))))))))))))))))))))))) (fun h25 =>
   Pn.some (Fn.of [.call [true, true] (E3 r1.1) [V.bx 52 [V.sl false 5 (List.map E5 r1.2.1.b), vI r1.2.1.i, vI r1.2.1.h], V.sl true 3 (List.map E3 r1.2.2)], .call [true, true] (E3 r2.1) [V.bx 52 [V.sl false 5 (List.map E5 r2.2.1.b), vI r2.2.1.i, vI r2.2.1.h], V.sl true 3 (List.map E3 r2.2.2)], .call [true, true] (E3 r3.1) [V.bx 52 [V.sl false 5 (List.map E5 r3.2.1.b), vI r3.2.1.i, vI r3.2.1.h], V.sl true 3 (List.map E3 r3.2.2)], .call [true, false] (E3 r4.1) [V.bx 52 [V.sl false 5 (List.map E5 r4.2.b), vI r4.2.i, vI r4.2.h]], .call [true, false] (E3 r5.1) [V.bx 52 [V.sl false 5 (List.map E5 r5.2.b), vI r5.2.i, vI r5.2.h]], .call [] (V.tup [E29 r6.1, E4 r6.2]) [], .call [true] (E26 r7.1) [V.bx 52 [V.sl false 5 (List.map E5 r7.2.b), vI r7.2.i, vI r7.2.h]], .call [true] (E23 r8.1) [V.bx 52 [V.sl false 5 (List.map E5 r8.2.b), vI r8.2.i, vI r8.2.h]], .draw [], .call [] (E3 r9) [], .call [] (E3 r10) [], .bit true, .draw [8], .call [] (E3 r11) [], .bit false, .bit false, .bit false, .bit false, .call [true, false] (E4 r19.1) [V.bx 52 [V.sl false 5 (List.map E5 r19.2.b), vI r19.2.i, vI r19.2.h]], .bit false] (p := [Fn Try.prog 50 [(true, V.bx 52 [V.sl false 5 (List.map E5 o.b), vI o.i, vI o.h]), (true, E24 [100, 200, 60, 0, 9007199254740992])] (E3 r1.1) [V.bx 52 [V.sl false 5 (List.map E5 r1.2.1.b), vI r1.2.1.i, vI r1.2.1.h], V.sl true 3 (List.map E3 r1.2.2)],(true || ((E3 r1.1).nv && nvL [V.bx 52 [V.sl false 5 (List.map E5 r1.2.1.b), vI r1.2.1.i, vI r1.2.1.h], V.sl true 3 (List.map E3 r1.2.2)])) = true,Fn Try.prog 50 [(true, V.bx 52 [V.sl false 5 (List.map E5 r1.2.1.b), vI r1.2.1.i, vI r1.2.1.h]), (true, E24 [2, 3, 5, 1000])] (E3 r2.1) [V.bx 52 [V.sl false 5 (List.map E5 r2.2.1.b), vI r2.2.1.i, vI r2.2.1.h], V.sl true 3 (List.map E3 r2.2.2)],(true || ((E3 r2.1).nv && nvL [V.bx 52 [V.sl false 5 (List.map E5 r2.2.1.b), vI r2.2.1.i, vI r2.2.1.h], V.sl true 3 (List.map E3 r2.2.2)])) = true,Fn Try.prog 50 [(true, V.bx 52 [V.sl false 5 (List.map E5 r2.2.1.b), vI r2.2.1.i, vI r2.2.1.h]), (true, E24 [60, 120, 1000, 9007199254740992])] (E3 r3.1) [V.bx 52 [V.sl false 5 (List.map E5 r3.2.1.b), vI r3.2.1.i, vI r3.2.1.h], V.sl true 3 (List.map E3 r3.2.2)],(true || ((E3 r3.1).nv && nvL [V.bx 52 [V.sl false 5 (List.map E5 r3.2.1.b), vI r3.2.1.i, vI r3.2.1.h], V.sl true 3 (List.map E3 r3.2.2)])) = true,Fn Try.prog 22 [(true, V.bx 52 [V.sl false 5 (List.map E5 r3.2.1.b), vI r3.2.1.i, vI r3.2.1.h]), (false, E3 4)] (E3 r4.1) [V.bx 52 [V.sl false 5 (List.map E5 r4.2.b), vI r4.2.i, vI r4.2.h]],(true || ((E3 r4.1).nv && nvL [V.bx 52 [V.sl false 5 (List.map E5 r4.2.b), vI r4.2.i, vI r4.2.h]])) = true,Fn Try.prog 22 [(true, V.bx 52 [V.sl false 5 (List.map E5 r4.2.b), vI r4.2.i, vI r4.2.h]), (false, E3 5)] (E3 r5.1) [V.bx 52 [V.sl false 5 (List.map E5 r5.2.b), vI r5.2.i, vI r5.2.h]],(true || ((E3 r5.1).nv && nvL [V.bx 52 [V.sl false 5 (List.map E5 r5.2.b), vI r5.2.i, vI r5.2.h]])) = true,Fn Try.prog 49 [(false, E9 o_), (false, E3 r1.1), (false, E3 r2.1), (false, E3 r3.1), (false, E3 (i64 (1 + r4.1))), (false, E3 (i64 (1 + r5.1)))] (V.tup [E29 r6.1, E4 r6.2]) [],(true || ((V.tup [E29 r6.1, E4 r6.2]).nv && nvL [])) = true,Fn Try.prog 51 [(true, V.bx 52 [V.sl false 5 (List.map E5 r5.2.b), vI r5.2.i, vI r5.2.h])] (E26 r7.1) [V.bx 52 [V.sl false 5 (List.map E5 r7.2.b), vI r7.2.i, vI r7.2.h]],(true || ((E26 r7.1).nv && nvL [V.bx 52 [V.sl false 5 (List.map E5 r7.2.b), vI r7.2.i, vI r7.2.h]])) = true,Fn Try.prog 52 [(true, V.bx 52 [V.sl false 5 (List.map E5 r7.2.b), vI r7.2.i, vI r7.2.h])] (E23 r8.1) [V.bx 52 [V.sl false 5 (List.map E5 r8.2.b), vI r8.2.i, vI r8.2.h]],(true || ((E23 r8.1).nv && nvL [V.bx 52 [V.sl false 5 (List.map E5 r8.2.b), vI r8.2.i, vI r8.2.h]])) = true,Fn Try.prog 54 [(false, E23 r8.1)] (E3 r9) [],(false || ((E3 r9).nv && nvL [])) = true,Fn Try.prog 53 [(false, E3 r9), (false, E3 0)] (E3 r10) [],(true || ((E3 r10).nv && nvL [])) = true,(decide (r10 ≤ r6.1.Limit)) = true,Fn Try.prog 54 [(false, E23 r8.1)] (E3 r11) [],(false || ((E3 r11).nv && nvL [])) = true,(decide (r11 < r6.1.Limit)) = false,(decide (r11 < r6.1.Limit)) = false,(decide (r11 < r6.1.Limit)) = false,false = false,Fn Try.prog 55 [(true, V.bx 52 [V.sl false 5 (List.map E5 r8.2.b), vI r8.2.i, vI r8.2.h]), (false, E3 3)] (E4 r19.1) [V.bx 52 [V.sl false 5 (List.map E5 r19.2.b), vI r19.2.i, vI r19.2.h]],(true || ((E4 r19.1).nv && nvL [V.bx 52 [V.sl false 5 (List.map E5 r19.2.b), vI r19.2.i, vI r19.2.h]])) = true,r19.1 = false]) (by kernel_rfl) (cj (spec_l01Pick_ok o [100, 200, 60, 0, 9007199254740992] r1 h1) (cj rfl (cj (spec_l01Pick_ok r1.2.1 [2, 3, 5, 1000] r2 h2) (cj rfl (cj (spec_l01Pick_ok r2.2.1 [60, 120, 1000, 9007199254740992] r3 h3) (cj rfl (cj (spec_l01Below_ok r3.2.1 4 r4 h4) (cj rfl (cj (spec_l01Below_ok r4.2 5 r5 h5) (cj rfl (cj (spec_AcctNew_ok o_ r1.1 r2.1 r3.1 (i64 (1 + r4.1)) (i64 (1 + r5.1)) r6 h6) (cj rfl (cj (spec_l06Draw_ok r5.2 r7 h7) (cj rfl (cj (spec_l07Draw_ok r7.2 r8 h8) (cj rfl (cj (spec_Stored_ok r8.1 r9 h9) (cj (by simp [V.nv, nvL, nvL_all, nv_E3]) (cj (spec_AddSat_ok r9 0 r10 h10) (cj rfl (cj h11 (cj (spec_Stored_ok r8.1 r11 h12) (cj (by simp [V.nv, nvL, nvL_all, nv_E3]) (cj h13 (cj h13 (cj h13 (cj rfl (cj (spec_l01Once_ok r8.2 3 r19 h24) (cj rfl (cj1 h25)))))))))))))))))))))))))))))))))))) (fun h11 =>
   Pn.bind (fun r21 h27 =>
   Pn.ite (fun h28 =>
   Pn.bind (fun r22 h29 =>
   Pn.ite (fun h30 =>
   Pn.bind (fun r23 h31 =>
   Pn.bind (fun r24 h32 =>
   Pn.bind (fun r25 h33 =>
   Pn.ite (fun h34 =>
   Pn.bind (fun r26 h35 =>
   Pn.some (Fn.of [.call [true, true] (E3 r1.1) [V.bx 52 [V.sl false 5 (List.map E5 r1.2.1.b), vI r1.2.1.i, vI r1.2.1.h], V.sl true 3 (List.map E3 r1.2.2)], .call [true, true] (E3 r2.1) [V.bx 52 [V.sl false 5 (List.map E5 r2.2.1.b), vI r2.2.1.i, vI r2.2.1.h], V.sl true 3 (List.map E3 r2.2.2)], .call [true, true] (E3 r3.1) [V.bx 52 [V.sl false 5 (List.map E5 r3.2.1.b), vI r3.2.1.i, vI r3.2.1.h], V.sl true 3 (List.map E3 r3.2.2)], .call [true, false] (E3 r4.1) [V.bx 52 [V.sl false 5 (List.map E5 r4.2.b), vI r4.2.i, vI r4.2.h]], .call [true, false] (E3 r5.1) [V.bx 52 [V.sl false 5 (List.map E5 r5.2.b), vI r5.2.i, vI r5.2.h]], .call [] (V.tup [E29 r6.1, E4 r6.2]) [], .call [true] (E26 r7.1) [V.bx 52 [V.sl false 5 (List.map E5 r7.2.b), vI r7.2.i, vI r7.2.h]], .call [true] (E23 r8.1) [V.bx 52 [V.sl false 5 (List.map E5 r8.2.b), vI r8.2.i, vI r8.2.h]], .draw [], .call [] (E3 r9) [], .call [] (E3 r10) [], .bit false, .draw [8], .call [] (E3 r21) [], .bit true, .bit true, .call [true, false] (E4 r22.1) [V.bx 52 [V.sl false 5 (List.map E5 r22.2.b), vI r22.2.i, vI r22.2.h]], .bit true, .bit true, .draw [8, 10], .call [] (E3 r23) [], .call [true, false] (E3 r24.1) [V.bx 52 [V.sl false 5 (List.map E5 r24.2.b), vI r24.2.i, vI r24.2.h]], .call [true, false] (E4 r25.1) [V.bx 52 [V.sl false 5 (List.map E5 r25.2.b), vI r25.2.i, vI r25.2.h]], .bit true, .call [true] (E27 r26.1) [V.bx 52 [V.sl false 5 (List.map E5 r26.2.b), vI r26.2.i, vI r26.2.h]]] (p := [Fn Try.prog 50 [(true, V.bx 52 [V.sl false 5 (List.map E5 o.b), vI o.i, vI o.h]), (true, E24 [100, 200, 60, 0, 9007199254740992])] (E3 r1.1) [V.bx 52 [V.sl false 5 (List.map E5 r1.2.1.b), vI r1.2.1.i, vI r1.2.1.h], V.sl true 3 (List.map E3 r1.2.2)],(true || ((E3 r1.1).nv && nvL [V.bx 52 [V.sl false 5 (List.map E5 r1.2.1.b), vI r1.2.1.i, vI r1.2.1.h], V.sl true 3 (List.map E3 r1.2.2)])) = true,Fn Try.prog 50 [(true, V.bx 52 [V.sl false 5 (List.map E5 r1.2.1.b), vI r1.2.1.i, vI r1.2.1.h]), (true, E24 [2, 3, 5, 1000])] (E3 r2.1) [V.bx 52 [V.sl false 5 (List.map E5 r2.2.1.b), vI r2.2.1.i, vI r2.2.1.h], V.sl true 3 (List.map E3 r2.2.2)],(true || ((E3 r2.1).nv && nvL [V.bx 52 [V.sl false 5 (List.map E5 r2.2.1.b), vI r2.2.1.i, vI r2.2.1.h], V.sl true 3 (List.map E3 r2.2.2)])) = true,Fn Try.prog 50 [(true, V.bx 52 [V.sl false 5 (List.map E5 r2.2.1.b), vI r2.2.1.i, vI r2.2.1.h]), (true, E24 [60, 120, 1000, 9007199254740992])] (E3 r3.1) [V.bx 52 [V.sl false 5 (List.map E5 r3.2.1.b), vI r3.2.1.i, vI r3.2.1.h], V.sl true 3 (List.map E3 r3.2.2)],(true || ((E3 r3.1).nv && nvL [V.bx 52 [V.sl false 5 (List.map E5 r3.2.1.b), vI r3.2.1.i, vI r3.2.1.h], V.sl true 3 (List.map E3 r3.2.2)])) = true,Fn Try.prog 22 [(true, V.bx 52 [V.sl false 5 (List.map E5 r3.2.1.b), vI r3.2.1.i, vI r3.2.1.h]), (false, E3 4)] (E3 r4.1) [V.bx 52 [V.sl false 5 (List.map E5 r4.2.b), vI r4.2.i, vI r4.2.h]],(true || ((E3 r4.1).nv && nvL [V.bx 52 [V.sl false 5 (List.map E5 r4.2.b), vI r4.2.i, vI r4.2.h]])) = true,Fn Try.prog 22 [(true, V.bx 52 [V.sl false 5 (List.map E5 r4.2.b), vI r4.2.i, vI r4.2.h]), (false, E3 5)] (E3 r5.1) [V.bx 52 [V.sl false 5 (List.map E5 r5.2.b), vI r5.2.i, vI r5.2.h]],(true || ((E3 r5.1).nv && nvL [V.bx 52 [V.sl false 5 (List.map E5 r5.2.b), vI r5.2.i, vI r5.2.h]])) = true,Fn Try.prog 49 [(false, E9 o_), (false, E3 r1.1), (false, E3 r2.1), (false, E3 r3.1), (false, E3 (i64 (1 + r4.1))), (false, E3 (i64 (1 + r5.1)))] (V.tup [E29 r6.1, E4 r6.2]) [],(true || ((V.tup [E29 r6.1, E4 r6.2]).nv && nvL [])) = true,Fn Try.prog 51 [(true, V.bx 52 [V.sl false 5 (List.map E5 r5.2.b), vI r5.2.i, vI r5.2.h])] (E26 r7.1) [V.bx 52 [V.sl false 5 (List.map E5 r7.2.b), vI r7.2.i, vI r7.2.h]],(true || ((E26 r7.1).nv && nvL [V.bx 52 [V.sl false 5 (List.map E5 r7.2.b), vI r7.2.i, vI r7.2.h]])) = true,Fn Try.prog 52 [(true, V.bx 52 [V.sl false 5 (List.map E5 r7.2.b), vI r7.2.i, vI r7.2.h])] (E23 r8.1) [V.bx 52 [V.sl false 5 (List.map E5 r8.2.b), vI r8.2.i, vI r8.2.h]],(true || ((E23 r8.1).nv && nvL [V.bx 52 [V.sl false 5 (List.map E5 r8.2.b), vI r8.2.i, vI r8.2.h]])) = true,Fn Try.prog 54 [(false, E23 r8.1)] (E3 r9) [],(false || ((E3 r9).nv && nvL [])) = true,Fn Try.prog 53 [(false, E3 r9), (false, E3 0)] (E3 r10) [],(true || ((E3 r10).nv && nvL [])) = true,(decide (r10 ≤ r6.1.Limit)) = false,Fn Try.prog 54 [(false, E23 r6.1.Holds)] (E3 r21) [],(false || ((E3 r21).nv && nvL [])) = true,(decide (r21 < r6.1.Limit)) = true,(decide (r21 < r6.1.Limit)) = true,Fn Try.prog 55 [(true, V.bx 52 [V.sl false 5 (List.map E5 r8.2.b), vI r8.2.i, vI r8.2.h]), (false, E3 2)] (E4 r22.1) [V.bx 52 [V.sl false 5 (List.map E5 r22.2.b), vI r22.2.i, vI r22.2.h]],(true || ((E4 r22.1).nv && nvL [V.bx 52 [V.sl false 5 (List.map E5 r22.2.b), vI r22.2.i, vI r22.2.h]])) = true,(decide (r21 < r6.1.Limit)) = true,r22.1 = true,Fn Try.prog 54 [(false, E23 r6.1.Holds)] (E3 r23) [],(false || ((E3 r23).nv && nvL [])) = true,Fn Try.prog 22 [(true, V.bx 52 [V.sl false 5 (List.map E5 r22.2.b), vI r22.2.i, vI r22.2.h]), (false, E3 (i64 ((i64 (r6.1.Limit - r23)) + 1)))] (E3 r24.1) [V.bx 52 [V.sl false 5 (List.map E5 r24.2.b), vI r24.2.i, vI r24.2.h]],(true || ((E3 r24.1).nv && nvL [V.bx 52 [V.sl false 5 (List.map E5 r24.2.b), vI r24.2.i, vI r24.2.h]])) = true,Fn Try.prog 55 [(true, V.bx 52 [V.sl false 5 (List.map E5 r24.2.b), vI r24.2.i, vI r24.2.h]), (false, E3 3)] (E4 r25.1) [V.bx 52 [V.sl false 5 (List.map E5 r25.2.b), vI r25.2.i, vI r25.2.h]],(true || ((E4 r25.1).nv && nvL [V.bx 52 [V.sl false 5 (List.map E5 r25.2.b), vI r25.2.i, vI r25.2.h]])) = true,r25.1 = true,Fn Try.prog 56 [(true, V.bx 52 [V.sl false 5 (List.map E5 r25.2.b), vI r25.2.i, vI r25.2.h])] (E27 r26.1) [V.bx 52 [V.sl false 5 (List.map E5 r26.2.b), vI r26.2.i, vI r26.2.h]],(true || ((E27 r26.1).nv && nvL [V.bx 52 [V.sl false 5 (List.map E5 r26.2.b), vI r26.2.i, vI r26.2.h]])) = true]) (by kernel_rfl) (cj (spec_l01Pick_ok o [100, 200, 60, 0, 9007199254740992] r1 h1) (cj rfl (cj (spec_l01Pick_ok r1.2.1 [2, 3, 5, 1000] r2 h2) (cj rfl (cj (spec_l01Pick_ok r2.2.1 [60, 120, 1000, 9007199254740992] r3 h3) (cj rfl (cj (spec_l01Below_ok r3.2.1 4 r4 h4) (cj rfl (cj (spec_l01Below_ok r4.2 5 r5 h5) (cj rfl (cj (spec_AcctNew_ok o_ r1.1 r2.1 r3.1 (i64 (1 + r4.1)) (i64 (1 + r5.1)) r6 h6) (cj rfl (cj (spec_l06Draw_ok r5.2 r7 h7) (cj rfl (cj (spec_l07Draw_ok r7.2 r8 h8) (cj rfl (cj (spec_Stored_ok r8.1 r9 h9) (cj (by simp [V.nv, nvL, nvL_all, nv_E3]) (cj (spec_AddSat_ok r9 0 r10 h10) (cj rfl (cj h11 (cj (spec_Stored_ok r6.1.Holds r21 h27) (cj (by simp [V.nv, nvL, nvL_all, nv_E3]) (cj h28 (cj h28 (cj (spec_l01Once_ok r8.2 2 r22 h29) (cj rfl (cj h28 (cj h30 (cj (spec_Stored_ok r6.1.Holds r23 h31) (cj (by simp [V.nv, nvL, nvL_all, nv_E3]) (cj (spec_l01Below_ok r22.2 (i64 ((i64 (r6.1.Limit - r23)) + 1)) r24 h32) (cj rfl (cj (spec_l01Once_ok r24.2 3 r25 h33) (cj rfl (cj h34 (cj (spec_l08Draw_ok r25.2 r26 h35) (cj1 rfl))))))))))))))))))))))))))))))))))))))))) (fun h34 =>
   Pn.some (Fn.of [.call [true, true] (E3 r1.1) [V.bx 52 [V.sl false 5 (List.map E5 r1.2.1.b), vI r1.2.1.i, vI r1.2.1.h], V.sl true 3 (List.map E3 r1.2.2)], .call [true, true] (E3 r2.1) [V.bx 52 [V.sl false 5 (List.map E5 r2.2.1.b), vI r2.2.1.i, vI r2.2.1.h], V.sl true 3 (List.map E3 r2.2.2)], .call [true, true] (E3 r3.1) [V.bx 52 [V.sl false 5 (List.map E5 r3.2.1.b), vI r3.2.1.i, vI r3.2.1.h], V.sl true 3 (List.map E3 r3.2.2)], .call [true, false] (E3 r4.1) [V.bx 52 [V.sl false 5 (List.map E5 r4.2.b), vI r4.2.i, vI r4.2.h]], .call [true, false] (E3 r5.1) [V.bx 52 [V.sl false 5 (List.map E5 r5.2.b), vI r5.2.i, vI r5.2.h]], .call [] (V.tup [E29 r6.1, E4 r6.2]) [], .call [true] (E26 r7.1) [V.bx 52 [V.sl false 5 (List.map E5 r7.2.b), vI r7.2.i, vI r7.2.h]], .call [true] (E23 r8.1) [V.bx 52 [V.sl false 5 (List.map E5 r8.2.b), vI r8.2.i, vI r8.2.h]], .draw [], .call [] (E3 r9) [], .call [] (E3 r10) [], .bit false, .draw [8], .call [] (E3 r21) [], .bit true, .bit true, .call [true, false] (E4 r22.1) [V.bx 52 [V.sl false 5 (List.map E5 r22.2.b), vI r22.2.i, vI r22.2.h]], .bit true, .bit true, .draw [8, 10], .call [] (E3 r23) [], .call [true, false] (E3 r24.1) [V.bx 52 [V.sl false 5 (List.map E5 r24.2.b), vI r24.2.i, vI r24.2.h]], .call [true, false] (E4 r25.1) [V.bx 52 [V.sl false 5 (List.map E5 r25.2.b), vI r25.2.i, vI r25.2.h]], .bit false] (p := [Fn Try.prog 50 [(true, V.bx 52 [V.sl false 5 (List.map E5 o.b), vI o.i, vI o.h]), (true, E24 [100, 200, 60, 0, 9007199254740992])] (E3 r1.1) [V.bx 52 [V.sl false 5 (List.map E5 r1.2.1.b), vI r1.2.1.i, vI r1.2.1.h], V.sl true 3 (List.map E3 r1.2.2)],(true || ((E3 r1.1).nv && nvL [V.bx 52 [V.sl false 5 (List.map E5 r1.2.1.b), vI r1.2.1.i, vI r1.2.1.h], V.sl true 3 (List.map E3 r1.2.2)])) = true,Fn Try.prog 50 [(true, V.bx 52 [V.sl false 5 (List.map E5 r1.2.1.b), vI r1.2.1.i, vI r1.2.1.h]), (true, E24 [2, 3, 5, 1000])] (E3 r2.1) [V.bx 52 [V.sl false 5 (List.map E5 r2.2.1.b), vI r2.2.1.i, vI r2.2.1.h], V.sl true 3 (List.map E3 r2.2.2)],(true || ((E3 r2.1).nv && nvL [V.bx 52 [V.sl false 5 (List.map E5 r2.2.1.b), vI r2.2.1.i, vI r2.2.1.h], V.sl true 3 (List.map E3 r2.2.2)])) = true,Fn Try.prog 50 [(true, V.bx 52 [V.sl false 5 (List.map E5 r2.2.1.b), vI r2.2.1.i, vI r2.2.1.h]), (true, E24 [60, 120, 1000, 9007199254740992])] (E3 r3.1) [V.bx 52 [V.sl false 5 (List.map E5 r3.2.1.b), vI r3.2.1.i, vI r3.2.1.h], V.sl true 3 (List.map E3 r3.2.2)],(true || ((E3 r3.1).nv && nvL [V.bx 52 [V.sl false 5 (List.map E5 r3.2.1.b), vI r3.2.1.i, vI r3.2.1.h], V.sl true 3 (List.map E3 r3.2.2)])) = true,Fn Try.prog 22 [(true, V.bx 52 [V.sl false 5 (List.map E5 r3.2.1.b), vI r3.2.1.i, vI r3.2.1.h]), (false, E3 4)] (E3 r4.1) [V.bx 52 [V.sl false 5 (List.map E5 r4.2.b), vI r4.2.i, vI r4.2.h]],(true || ((E3 r4.1).nv && nvL [V.bx 52 [V.sl false 5 (List.map E5 r4.2.b), vI r4.2.i, vI r4.2.h]])) = true,Fn Try.prog 22 [(true, V.bx 52 [V.sl false 5 (List.map E5 r4.2.b), vI r4.2.i, vI r4.2.h]), (false, E3 5)] (E3 r5.1) [V.bx 52 [V.sl false 5 (List.map E5 r5.2.b), vI r5.2.i, vI r5.2.h]],(true || ((E3 r5.1).nv && nvL [V.bx 52 [V.sl false 5 (List.map E5 r5.2.b), vI r5.2.i, vI r5.2.h]])) = true,Fn Try.prog 49 [(false, E9 o_), (false, E3 r1.1), (false, E3 r2.1), (false, E3 r3.1), (false, E3 (i64 (1 + r4.1))), (false, E3 (i64 (1 + r5.1)))] (V.tup [E29 r6.1, E4 r6.2]) [],(true || ((V.tup [E29 r6.1, E4 r6.2]).nv && nvL [])) = true,Fn Try.prog 51 [(true, V.bx 52 [V.sl false 5 (List.map E5 r5.2.b), vI r5.2.i, vI r5.2.h])] (E26 r7.1) [V.bx 52 [V.sl false 5 (List.map E5 r7.2.b), vI r7.2.i, vI r7.2.h]],(true || ((E26 r7.1).nv && nvL [V.bx 52 [V.sl false 5 (List.map E5 r7.2.b), vI r7.2.i, vI r7.2.h]])) = true,Fn Try.prog 52 [(true, V.bx 52 [V.sl false 5 (List.map E5 r7.2.b), vI r7.2.i, vI r7.2.h])] (E23 r8.1) [V.bx 52 [V.sl false 5 (List.map E5 r8.2.b), vI r8.2.i, vI r8.2.h]],(true || ((E23 r8.1).nv && nvL [V.bx 52 [V.sl false 5 (List.map E5 r8.2.b), vI r8.2.i, vI r8.2.h]])) = true,Fn Try.prog 54 [(false, E23 r8.1)] (E3 r9) [],(false || ((E3 r9).nv && nvL [])) = true,Fn Try.prog 53 [(false, E3 r9), (false, E3 0)] (E3 r10) [],(true || ((E3 r10).nv && nvL [])) = true,(decide (r10 ≤ r6.1.Limit)) = false,Fn Try.prog 54 [(false, E23 r6.1.Holds)] (E3 r21) [],(false || ((E3 r21).nv && nvL [])) = true,(decide (r21 < r6.1.Limit)) = true,(decide (r21 < r6.1.Limit)) = true,Fn Try.prog 55 [(true, V.bx 52 [V.sl false 5 (List.map E5 r8.2.b), vI r8.2.i, vI r8.2.h]), (false, E3 2)] (E4 r22.1) [V.bx 52 [V.sl false 5 (List.map E5 r22.2.b), vI r22.2.i, vI r22.2.h]],(true || ((E4 r22.1).nv && nvL [V.bx 52 [V.sl false 5 (List.map E5 r22.2.b), vI r22.2.i, vI r22.2.h]])) = true,(decide (r21 < r6.1.Limit)) = true,r22.1 = true,Fn Try.prog 54 [(false, E23 r6.1.Holds)] (E3 r23) [],(false || ((E3 r23).nv && nvL [])) = true,Fn Try.prog 22 [(true, V.bx 52 [V.sl false 5 (List.map E5 r22.2.b), vI r22.2.i, vI r22.2.h]), (false, E3 (i64 ((i64 (r6.1.Limit - r23)) + 1)))] (E3 r24.1) [V.bx 52 [V.sl false 5 (List.map E5 r24.2.b), vI r24.2.i, vI r24.2.h]],(true || ((E3 r24.1).nv && nvL [V.bx 52 [V.sl false 5 (List.map E5 r24.2.b), vI r24.2.i, vI r24.2.h]])) = true,Fn Try.prog 55 [(true, V.bx 52 [V.sl false 5 (List.map E5 r24.2.b), vI r24.2.i, vI r24.2.h]), (false, E3 3)] (E4 r25.1) [V.bx 52 [V.sl false 5 (List.map E5 r25.2.b), vI r25.2.i, vI r25.2.h]],(true || ((E4 r25.1).nv && nvL [V.bx 52 [V.sl false 5 (List.map E5 r25.2.b), vI r25.2.i, vI r25.2.h]])) = true,r25.1 = false]) (by kernel_rfl) (cj (spec_l01Pick_ok o [100, 200, 60, 0, 9007199254740992] r1 h1) (cj rfl (cj (spec_l01Pick_ok r1.2.1 [2, 3, 5, 1000] r2 h2) (cj rfl (cj (spec_l01Pick_ok r2.2.1 [60, 120, 1000, 9007199254740992] r3 h3) (cj rfl (cj (spec_l01Below_ok r3.2.1 4 r4 h4) (cj rfl (cj (spec_l01Below_ok r4.2 5 r5 h5) (cj rfl (cj (spec_AcctNew_ok o_ r1.1 r2.1 r3.1 (i64 (1 + r4.1)) (i64 (1 + r5.1)) r6 h6) (cj rfl (cj (spec_l06Draw_ok r5.2 r7 h7) (cj rfl (cj (spec_l07Draw_ok r7.2 r8 h8) (cj rfl (cj (spec_Stored_ok r8.1 r9 h9) (cj (by simp [V.nv, nvL, nvL_all, nv_E3]) (cj (spec_AddSat_ok r9 0 r10 h10) (cj rfl (cj h11 (cj (spec_Stored_ok r6.1.Holds r21 h27) (cj (by simp [V.nv, nvL, nvL_all, nv_E3]) (cj h28 (cj h28 (cj (spec_l01Once_ok r8.2 2 r22 h29) (cj rfl (cj h28 (cj h30 (cj (spec_Stored_ok r6.1.Holds r23 h31) (cj (by simp [V.nv, nvL, nvL_all, nv_E3]) (cj (spec_l01Below_ok r22.2 (i64 ((i64 (r6.1.Limit - r23)) + 1)) r24 h32) (cj rfl (cj (spec_l01Once_ok r24.2 3 r25 h33) (cj rfl (cj1 h34)))))))))))))))))))))))))))))))))))))))))) (fun h30 =>
   Pn.bind (fun r27 h36 =>
   Pn.ite (fun h37 =>
   Pn.bind (fun r28 h38 =>
   Pn.some (Fn.of [.call [true, true] (E3 r1.1) [V.bx 52 [V.sl false 5 (List.map E5 r1.2.1.b), vI r1.2.1.i, vI r1.2.1.h], V.sl true 3 (List.map E3 r1.2.2)], .call [true, true] (E3 r2.1) [V.bx 52 [V.sl false 5 (List.map E5 r2.2.1.b), vI r2.2.1.i, vI r2.2.1.h], V.sl true 3 (List.map E3 r2.2.2)], .call [true, true] (E3 r3.1) [V.bx 52 [V.sl false 5 (List.map E5 r3.2.1.b), vI r3.2.1.i, vI r3.2.1.h], V.sl true 3 (List.map E3 r3.2.2)], .call [true, false] (E3 r4.1) [V.bx 52 [V.sl false 5 (List.map E5 r4.2.b), vI r4.2.i, vI r4.2.h]], .call [true, false] (E3 r5.1) [V.bx 52 [V.sl false 5 (List.map E5 r5.2.b), vI r5.2.i, vI r5.2.h]], .call [] (V.tup [E29 r6.1, E4 r6.2]) [], .call [true] (E26 r7.1) [V.bx 52 [V.sl false 5 (List.map E5 r7.2.b), vI r7.2.i, vI r7.2.h]], .call [true] (E23 r8.1) [V.bx 52 [V.sl false 5 (List.map E5 r8.2.b), vI r8.2.i, vI r8.2.h]], .draw [], .call [] (E3 r9) [], .call [] (E3 r10) [], .bit false, .draw [8], .call [] (E3 r21) [], .bit true, .bit true, .call [true, false] (E4 r22.1) [V.bx 52 [V.sl false 5 (List.map E5 r22.2.b), vI r22.2.i, vI r22.2.h]], .bit true, .bit false, .call [true, false] (E4 r27.1) [V.bx 52 [V.sl false 5 (List.map E5 r27.2.b), vI r27.2.i, vI r27.2.h]], .bit true, .call [true] (E27 r28.1) [V.bx 52 [V.sl false 5 (List.map E5 r28.2.b), vI r28.2.i, vI r28.2.h]]] (p := [Fn Try.prog 50 [(true, V.bx 52 [V.sl false 5 (List.map E5 o.b), vI o.i, vI o.h]), (true, E24 [100, 200, 60, 0, 9007199254740992])] (E3 r1.1) [V.bx 52 [V.sl false 5 (List.map E5 r1.2.1.b), vI r1.2.1.i, vI r1.2.1.h], V.sl true 3 (List.map E3 r1.2.2)],(true || ((E3 r1.1).nv && nvL [V.bx 52 [V.sl false 5 (List.map E5 r1.2.1.b), vI r1.2.1.i, vI r1.2.1.h], V.sl true 3 (List.map E3 r1.2.2)])) = true,Fn Try.prog 50 [(true, V.bx 52 [V.sl false 5 (List.map E5 r1.2.1.b), vI r1.2.1.i, vI r1.2.1.h]), (true, E24 [2, 3, 5, 1000])] (E3 r2.1) [V.bx 52 [V.sl false 5 (List.map E5 r2.2.1.b), vI r2.2.1.i, vI r2.2.1.h], V.sl true 3 (List.map E3 r2.2.2)],(true || ((E3 r2.1).nv && nvL [V.bx 52 [V.sl false 5 (List.map E5 r2.2.1.b), vI r2.2.1.i, vI r2.2.1.h], V.sl true 3 (List.map E3 r2.2.2)])) = true,Fn Try.prog 50 [(true, V.bx 52 [V.sl false 5 (List.map E5 r2.2.1.b), vI r2.2.1.i, vI r2.2.1.h]), (true, E24 [60, 120, 1000, 9007199254740992])] (E3 r3.1) [V.bx 52 [V.sl false 5 (List.map E5 r3.2.1.b), vI r3.2.1.i, vI r3.2.1.h], V.sl true 3 (List.map E3 r3.2.2)],(true || ((E3 r3.1).nv && nvL [V.bx 52 [V.sl false 5 (List.map E5 r3.2.1.b), vI r3.2.1.i, vI r3.2.1.h], V.sl true 3 (List.map E3 r3.2.2)])) = true,Fn Try.prog 22 [(true, V.bx 52 [V.sl false 5 (List.map E5 r3.2.1.b), vI r3.2.1.i, vI r3.2.1.h]), (false, E3 4)] (E3 r4.1) [V.bx 52 [V.sl false 5 (List.map E5 r4.2.b), vI r4.2.i, vI r4.2.h]],(true || ((E3 r4.1).nv && nvL [V.bx 52 [V.sl false 5 (List.map E5 r4.2.b), vI r4.2.i, vI r4.2.h]])) = true,Fn Try.prog 22 [(true, V.bx 52 [V.sl false 5 (List.map E5 r4.2.b), vI r4.2.i, vI r4.2.h]), (false, E3 5)] (E3 r5.1) [V.bx 52 [V.sl false 5 (List.map E5 r5.2.b), vI r5.2.i, vI r5.2.h]],(true || ((E3 r5.1).nv && nvL [V.bx 52 [V.sl false 5 (List.map E5 r5.2.b), vI r5.2.i, vI r5.2.h]])) = true,Fn Try.prog 49 [(false, E9 o_), (false, E3 r1.1), (false, E3 r2.1), (false, E3 r3.1), (false, E3 (i64 (1 + r4.1))), (false, E3 (i64 (1 + r5.1)))] (V.tup [E29 r6.1, E4 r6.2]) [],(true || ((V.tup [E29 r6.1, E4 r6.2]).nv && nvL [])) = true,Fn Try.prog 51 [(true, V.bx 52 [V.sl false 5 (List.map E5 r5.2.b), vI r5.2.i, vI r5.2.h])] (E26 r7.1) [V.bx 52 [V.sl false 5 (List.map E5 r7.2.b), vI r7.2.i, vI r7.2.h]],(true || ((E26 r7.1).nv && nvL [V.bx 52 [V.sl false 5 (List.map E5 r7.2.b), vI r7.2.i, vI r7.2.h]])) = true,Fn Try.prog 52 [(true, V.bx 52 [V.sl false 5 (List.map E5 r7.2.b), vI r7.2.i, vI r7.2.h])] (E23 r8.1) [V.bx 52 [V.sl false 5 (List.map E5 r8.2.b), vI r8.2.i, vI r8.2.h]],(true || ((E23 r8.1).nv && nvL [V.bx 52 [V.sl false 5 (List.map E5 r8.2.b), vI r8.2.i, vI r8.2.h]])) = true,Fn Try.prog 54 [(false, E23 r8.1)] (E3 r9) [],(false || ((E3 r9).nv && nvL [])) = true,Fn Try.prog 53 [(false, E3 r9), (false, E3 0)] (E3 r10) [],(true || ((E3 r10).nv && nvL [])) = true,(decide (r10 ≤ r6.1.Limit)) = false,Fn Try.prog 54 [(false, E23 r6.1.Holds)] (E3 r21) [],(false || ((E3 r21).nv && nvL [])) = true,(decide (r21 < r6.1.Limit)) = true,(decide (r21 < r6.1.Limit)) = true,Fn Try.prog 55 [(true, V.bx 52 [V.sl false 5 (List.map E5 r8.2.b), vI r8.2.i, vI r8.2.h]), (false, E3 2)] (E4 r22.1) [V.bx 52 [V.sl false 5 (List.map E5 r22.2.b), vI r22.2.i, vI r22.2.h]],(true || ((E4 r22.1).nv && nvL [V.bx 52 [V.sl false 5 (List.map E5 r22.2.b), vI r22.2.i, vI r22.2.h]])) = true,(decide (r21 < r6.1.Limit)) = true,r22.1 = false,Fn Try.prog 55 [(true, V.bx 52 [V.sl false 5 (List.map E5 r22.2.b), vI r22.2.i, vI r22.2.h]), (false, E3 3)] (E4 r27.1) [V.bx 52 [V.sl false 5 (List.map E5 r27.2.b), vI r27.2.i, vI r27.2.h]],(true || ((E4 r27.1).nv && nvL [V.bx 52 [V.sl false 5 (List.map E5 r27.2.b), vI r27.2.i, vI r27.2.h]])) = true,r27.1 = true,Fn Try.prog 56 [(true, V.bx 52 [V.sl false 5 (List.map E5 r27.2.b), vI r27.2.i, vI r27.2.h])] (E27 r28.1) [V.bx 52 [V.sl false 5 (List.map E5 r28.2.b), vI r28.2.i, vI r28.2.h]],(true || ((E27 r28.1).nv && nvL [V.bx 52 [V.sl false 5 (List.map E5 r28.2.b), vI r28.2.i, vI r28.2.h]])) = true]) (by kernel_rfl) (cj (spec_l01Pick_ok o [100, 200, 60, 0, 9007199254740992] r1 h1) (cj rfl (cj (spec_l01Pick_ok r1.2.1 [2, 3, 5, 1000] r2 h2) (cj rfl (cj (spec_l01Pick_ok r2.2.1 [60, 120, 1000, 9007199254740992] r3 h3) (cj rfl (cj (spec_l01Below_ok r3.2.1 4 r4 h4) (cj rfl (cj (spec_l01Below_ok r4.2 5 r5 h5) (cj rfl (cj (spec_AcctNew_ok o_ r1.1 r2.1 r3.1 (i64 (1 + r4.1)) (i64 (1 + r5.1)) r6 h6) (cj rfl (cj (spec_l06Draw_ok r5.2 r7 h7) (cj rfl (cj (spec_l07Draw_ok r7.2 r8 h8) (cj rfl (cj (spec_Stored_ok r8.1 r9 h9) (cj (by simp [V.nv, nvL, nvL_all, nv_E3]) (cj (spec_AddSat_ok r9 0 r10 h10) (cj rfl (cj h11 (cj (spec_Stored_ok r6.1.Holds r21 h27) (cj (by simp [V.nv, nvL, nvL_all, nv_E3]) (cj h28 (cj h28 (cj (spec_l01Once_ok r8.2 2 r22 h29) (cj rfl (cj h28 (cj h30 (cj (spec_l01Once_ok r22.2 3 r27 h36) (cj rfl (cj h37 (cj (spec_l08Draw_ok r27.2 r28 h38) (cj1 rfl))))))))))))))))))))))))))))))))))))) (fun h37 =>
   Pn.some (Fn.of [.call [true, true] (E3 r1.1) [V.bx 52 [V.sl false 5 (List.map E5 r1.2.1.b), vI r1.2.1.i, vI r1.2.1.h], V.sl true 3 (List.map E3 r1.2.2)], .call [true, true] (E3 r2.1) [V.bx 52 [V.sl false 5 (List.map E5 r2.2.1.b), vI r2.2.1.i, vI r2.2.1.h], V.sl true 3 (List.map E3 r2.2.2)], .call [true, true] (E3 r3.1) [V.bx 52 [V.sl false 5 (List.map E5 r3.2.1.b), vI r3.2.1.i, vI r3.2.1.h], V.sl true 3 (List.map E3 r3.2.2)], .call [true, false] (E3 r4.1) [V.bx 52 [V.sl false 5 (List.map E5 r4.2.b), vI r4.2.i, vI r4.2.h]], .call [true, false] (E3 r5.1) [V.bx 52 [V.sl false 5 (List.map E5 r5.2.b), vI r5.2.i, vI r5.2.h]], .call [] (V.tup [E29 r6.1, E4 r6.2]) [], .call [true] (E26 r7.1) [V.bx 52 [V.sl false 5 (List.map E5 r7.2.b), vI r7.2.i, vI r7.2.h]], .call [true] (E23 r8.1) [V.bx 52 [V.sl false 5 (List.map E5 r8.2.b), vI r8.2.i, vI r8.2.h]], .draw [], .call [] (E3 r9) [], .call [] (E3 r10) [], .bit false, .draw [8], .call [] (E3 r21) [], .bit true, .bit true, .call [true, false] (E4 r22.1) [V.bx 52 [V.sl false 5 (List.map E5 r22.2.b), vI r22.2.i, vI r22.2.h]], .bit true, .bit false, .call [true, false] (E4 r27.1) [V.bx 52 [V.sl false 5 (List.map E5 r27.2.b), vI r27.2.i, vI r27.2.h]], .bit false] (p := [Fn Try.prog 50 [(true, V.bx 52 [V.sl false 5 (List.map E5 o.b), vI o.i, vI o.h]), (true, E24 [100, 200, 60, 0, 9007199254740992])] (E3 r1.1) [V.bx 52 [V.sl false 5 (List.map E5 r1.2.1.b), vI r1.2.1.i, vI r1.2.1.h], V.sl true 3 (List.map E3 r1.2.2)],(true || ((E3 r1.1).nv && nvL [V.bx 52 [V.sl false 5 (List.map E5 r1.2.1.b), vI r1.2.1.i, vI r1.2.1.h], V.sl true 3 (List.map E3 r1.2.2)])) = true,Fn Try.prog 50 [(true, V.bx 52 [V.sl false 5 (List.map E5 r1.2.1.b), vI r1.2.1.i, vI r1.2.1.h]), (true, E24 [2, 3, 5, 1000])] (E3 r2.1) [V.bx 52 [V.sl false 5 (List.map E5 r2.2.1.b), vI r2.2.1.i, vI r2.2.1.h], V.sl true 3 (List.map E3 r2.2.2)],(true || ((E3 r2.1).nv && nvL [V.bx 52 [V.sl false 5 (List.map E5 r2.2.1.b), vI r2.2.1.i, vI r2.2.1.h], V.sl true 3 (List.map E3 r2.2.2)])) = true,Fn Try.prog 50 [(true, V.bx 52 [V.sl false 5 (List.map E5 r2.2.1.b), vI r2.2.1.i, vI r2.2.1.h]), (true, E24 [60, 120, 1000, 9007199254740992])] (E3 r3.1) [V.bx 52 [V.sl false 5 (List.map E5 r3.2.1.b), vI r3.2.1.i, vI r3.2.1.h], V.sl true 3 (List.map E3 r3.2.2)],(true || ((E3 r3.1).nv && nvL [V.bx 52 [V.sl false 5 (List.map E5 r3.2.1.b), vI r3.2.1.i, vI r3.2.1.h], V.sl true 3 (List.map E3 r3.2.2)])) = true,Fn Try.prog 22 [(true, V.bx 52 [V.sl false 5 (List.map E5 r3.2.1.b), vI r3.2.1.i, vI r3.2.1.h]), (false, E3 4)] (E3 r4.1) [V.bx 52 [V.sl false 5 (List.map E5 r4.2.b), vI r4.2.i, vI r4.2.h]],(true || ((E3 r4.1).nv && nvL [V.bx 52 [V.sl false 5 (List.map E5 r4.2.b), vI r4.2.i, vI r4.2.h]])) = true,Fn Try.prog 22 [(true, V.bx 52 [V.sl false 5 (List.map E5 r4.2.b), vI r4.2.i, vI r4.2.h]), (false, E3 5)] (E3 r5.1) [V.bx 52 [V.sl false 5 (List.map E5 r5.2.b), vI r5.2.i, vI r5.2.h]],(true || ((E3 r5.1).nv && nvL [V.bx 52 [V.sl false 5 (List.map E5 r5.2.b), vI r5.2.i, vI r5.2.h]])) = true,Fn Try.prog 49 [(false, E9 o_), (false, E3 r1.1), (false, E3 r2.1), (false, E3 r3.1), (false, E3 (i64 (1 + r4.1))), (false, E3 (i64 (1 + r5.1)))] (V.tup [E29 r6.1, E4 r6.2]) [],(true || ((V.tup [E29 r6.1, E4 r6.2]).nv && nvL [])) = true,Fn Try.prog 51 [(true, V.bx 52 [V.sl false 5 (List.map E5 r5.2.b), vI r5.2.i, vI r5.2.h])] (E26 r7.1) [V.bx 52 [V.sl false 5 (List.map E5 r7.2.b), vI r7.2.i, vI r7.2.h]],(true || ((E26 r7.1).nv && nvL [V.bx 52 [V.sl false 5 (List.map E5 r7.2.b), vI r7.2.i, vI r7.2.h]])) = true,Fn Try.prog 52 [(true, V.bx 52 [V.sl false 5 (List.map E5 r7.2.b), vI r7.2.i, vI r7.2.h])] (E23 r8.1) [V.bx 52 [V.sl false 5 (List.map E5 r8.2.b), vI r8.2.i, vI r8.2.h]],(true || ((E23 r8.1).nv && nvL [V.bx 52 [V.sl false 5 (List.map E5 r8.2.b), vI r8.2.i, vI r8.2.h]])) = true,Fn Try.prog 54 [(false, E23 r8.1)] (E3 r9) [],(false || ((E3 r9).nv && nvL [])) = true,Fn Try.prog 53 [(false, E3 r9), (false, E3 0)] (E3 r10) [],(true || ((E3 r10).nv && nvL [])) = true,(decide (r10 ≤ r6.1.Limit)) = false,Fn Try.prog 54 [(false, E23 r6.1.Holds)] (E3 r21) [],(false || ((E3 r21).nv && nvL [])) = true,(decide (r21 < r6.1.Limit)) = true,(decide (r21 < r6.1.Limit)) = true,Fn Try.prog 55 [(true, V.bx 52 [V.sl false 5 (List.map E5 r8.2.b), vI r8.2.i, vI r8.2.h]), (false, E3 2)] (E4 r22.1) [V.bx 52 [V.sl false 5 (List.map E5 r22.2.b), vI r22.2.i, vI r22.2.h]],(true || ((E4 r22.1).nv && nvL [V.bx 52 [V.sl false 5 (List.map E5 r22.2.b), vI r22.2.i, vI r22.2.h]])) = true,(decide (r21 < r6.1.Limit)) = true,r22.1 = false,Fn Try.prog 55 [(true, V.bx 52 [V.sl false 5 (List.map E5 r22.2.b), vI r22.2.i, vI r22.2.h]), (false, E3 3)] (E4 r27.1) [V.bx 52 [V.sl false 5 (List.map E5 r27.2.b), vI r27.2.i, vI r27.2.h]],(true || ((E4 r27.1).nv && nvL [V.bx 52 [V.sl false 5 (List.map E5 r27.2.b), vI r27.2.i, vI r27.2.h]])) = true,r27.1 = false]) (by kernel_rfl) (cj (spec_l01Pick_ok o [100, 200, 60, 0, 9007199254740992] r1 h1) (cj rfl (cj (spec_l01Pick_ok r1.2.1 [2, 3, 5, 1000] r2 h2) (cj rfl (cj (spec_l01Pick_ok r2.2.1 [60, 120, 1000, 9007199254740992] r3 h3) (cj rfl (cj (spec_l01Below_ok r3.2.1 4 r4 h4) (cj rfl (cj (spec_l01Below_ok r4.2 5 r5 h5) (cj rfl (cj (spec_AcctNew_ok o_ r1.1 r2.1 r3.1 (i64 (1 + r4.1)) (i64 (1 + r5.1)) r6 h6) (cj rfl (cj (spec_l06Draw_ok r5.2 r7 h7) (cj rfl (cj (spec_l07Draw_ok r7.2 r8 h8) (cj rfl (cj (spec_Stored_ok r8.1 r9 h9) (cj (by simp [V.nv, nvL, nvL_all, nv_E3]) (cj (spec_AddSat_ok r9 0 r10 h10) (cj rfl (cj h11 (cj (spec_Stored_ok r6.1.Holds r21 h27) (cj (by simp [V.nv, nvL, nvL_all, nv_E3]) (cj h28 (cj h28 (cj (spec_l01Once_ok r8.2 2 r22 h29) (cj rfl (cj h28 (cj h30 (cj (spec_l01Once_ok r22.2 3 r27 h36) (cj rfl (cj1 h37)))))))))))))))))))))))))))))))))))))) (fun h28 =>
   Pn.bind (fun r29 h39 =>
   Pn.ite (fun h40 =>
   Pn.bind (fun r30 h41 =>
   Pn.some (Fn.of [.call [true, true] (E3 r1.1) [V.bx 52 [V.sl false 5 (List.map E5 r1.2.1.b), vI r1.2.1.i, vI r1.2.1.h], V.sl true 3 (List.map E3 r1.2.2)], .call [true, true] (E3 r2.1) [V.bx 52 [V.sl false 5 (List.map E5 r2.2.1.b), vI r2.2.1.i, vI r2.2.1.h], V.sl true 3 (List.map E3 r2.2.2)], .call [true, true] (E3 r3.1) [V.bx 52 [V.sl false 5 (List.map E5 r3.2.1.b), vI r3.2.1.i, vI r3.2.1.h], V.sl true 3 (List.map E3 r3.2.2)], .call [true, false] (E3 r4.1) [V.bx 52 [V.sl false 5 (List.map E5 r4.2.b), vI r4.2.i, vI r4.2.h]], .call [true, false] (E3 r5.1) [V.bx 52 [V.sl false 5 (List.map E5 r5.2.b), vI r5.2.i, vI r5.2.h]], .call [] (V.tup [E29 r6.1, E4 r6.2]) [], .call [true] (E26 r7.1) [V.bx 52 [V.sl false 5 (List.map E5 r7.2.b), vI r7.2.i, vI r7.2.h]], .call [true] (E23 r8.1) [V.bx 52 [V.sl false 5 (List.map E5 r8.2.b), vI r8.2.i, vI r8.2.h]], .draw [], .call [] (E3 r9) [], .call [] (E3 r10) [], .bit false, .draw [8], .call [] (E3 r21) [], .bit false, .bit false, .bit false, .bit false, .call [true, false] (E4 r29.1) [V.bx 52 [V.sl false 5 (List.map E5 r29.2.b), vI r29.2.i, vI r29.2.h]], .bit true, .call [true] (E27 r30.1) [V.bx 52 [V.sl false 5 (List.map E5 r30.2.b), vI r30.2.i, vI r30.2.h]]] (p := [Fn Try.prog 50 [(true, V.bx 52 [V.sl false 5 (List.map E5 o.b), vI o.i, vI o.h]), (true, E24 [100, 200, 60, 0, 9007199254740992])] (E3 r1.1) [V.bx 52 [V.sl false 5 (List.map E5 r1.2.1.b), vI r1.2.1.i, vI r1.2.1.h], V.sl true 3 (List.map E3 r1.2.2)],(true || ((E3 r1.1).nv && nvL [V.bx 52 [V.sl false 5 (List.map E5 r1.2.1.b), vI r1.2.1.i, vI r1.2.1.h], V.sl true 3 (List.map E3 r1.2.2)])) = true,Fn Try.prog 50 [(true, V.bx 52 [V.sl false 5 (List.map E5 r1.2.1.b), vI r1.2.1.i, vI r1.2.1.h]), (true, E24 [2, 3, 5, 1000])] (E3 r2.1) [V.bx 52 [V.sl false 5 (List.map E5 r2.2.1.b), vI r2.2.1.i, vI r2.2.1.h], V.sl true 3 (List.map E3 r2.2.2)],(true || ((E3 r2.1).nv && nvL [V.bx 52 [V.sl false 5 (List.map E5 r2.2.1.b), vI r2.2.1.i, vI r2.2.1.h], V.sl true 3 (List.map E3 r2.2.2)])) = true,Fn Try.prog 50 [(true, V.bx 52 [V.sl false 5 (List.map E5 r2.2.1.b), vI r2.2.1.i, vI r2.2.1.h]), (true, E24 [60, 120, 1000, 9007199254740992])] (E3 r3.1) [V.bx 52 [V.sl false 5 (List.map E5 r3.2.1.b), vI r3.2.1.i, vI r3.2.1.h], V.sl true 3 (List.map E3 r3.2.2)],(true || ((E3 r3.1).nv && nvL [V.bx 52 [V.sl false 5 (List.map E5 r3.2.1.b), vI r3.2.1.i, vI r3.2.1.h], V.sl true 3 (List.map E3 r3.2.2)])) = true,Fn Try.prog 22 [(true, V.bx 52 [V.sl false 5 (List.map E5 r3.2.1.b), vI r3.2.1.i, vI r3.2.1.h]), (false, E3 4)] (E3 r4.1) [V.bx 52 [V.sl false 5 (List.map E5 r4.2.b), vI r4.2.i, vI r4.2.h]],(true || ((E3 r4.1).nv && nvL [V.bx 52 [V.sl false 5 (List.map E5 r4.2.b), vI r4.2.i, vI r4.2.h]])) = true,Fn Try.prog 22 [(true, V.bx 52 [V.sl false 5 (List.map E5 r4.2.b), vI r4.2.i, vI r4.2.h]), (false, E3 5)] (E3 r5.1) [V.bx 52 [V.sl false 5 (List.map E5 r5.2.b), vI r5.2.i, vI r5.2.h]],(true || ((E3 r5.1).nv && nvL [V.bx 52 [V.sl false 5 (List.map E5 r5.2.b), vI r5.2.i, vI r5.2.h]])) = true,Fn Try.prog 49 [(false, E9 o_), (false, E3 r1.1), (false, E3 r2.1), (false, E3 r3.1), (false, E3 (i64 (1 + r4.1))), (false, E3 (i64 (1 + r5.1)))] (V.tup [E29 r6.1, E4 r6.2]) [],(true || ((V.tup [E29 r6.1, E4 r6.2]).nv && nvL [])) = true,Fn Try.prog 51 [(true, V.bx 52 [V.sl false 5 (List.map E5 r5.2.b), vI r5.2.i, vI r5.2.h])] (E26 r7.1) [V.bx 52 [V.sl false 5 (List.map E5 r7.2.b), vI r7.2.i, vI r7.2.h]],(true || ((E26 r7.1).nv && nvL [V.bx 52 [V.sl false 5 (List.map E5 r7.2.b), vI r7.2.i, vI r7.2.h]])) = true,Fn Try.prog 52 [(true, V.bx 52 [V.sl false 5 (List.map E5 r7.2.b), vI r7.2.i, vI r7.2.h])] (E23 r8.1) [V.bx 52 [V.sl false 5 (List.map E5 r8.2.b), vI r8.2.i, vI r8.2.h]],(true || ((E23 r8.1).nv && nvL [V.bx 52 [V.sl false 5 (List.map E5 r8.2.b), vI r8.2.i, vI r8.2.h]])) = true,Fn Try.prog 54 [(false, E23 r8.1)] (E3 r9) [],(false || ((E3 r9).nv && nvL [])) = true,Fn Try.prog 53 [(false, E3 r9), (false, E3 0)] (E3 r10) [],(true || ((E3 r10).nv && nvL [])) = true,(decide (r10 ≤ r6.1.Limit)) = false,Fn Try.prog 54 [(false, E23 r6.1.Holds)] (E3 r21) [],(false || ((E3 r21).nv && nvL [])) = true,(decide (r21 < r6.1.Limit)) = false,(decide (r21 < r6.1.Limit)) = false,(decide (r21 < r6.1.Limit)) = false,false = false,Fn Try.prog 55 [(true, V.bx 52 [V.sl false 5 (List.map E5 r8.2.b), vI r8.2.i, vI r8.2.h]), (false, E3 3)] (E4 r29.1) [V.bx 52 [V.sl false 5 (List.map E5 r29.2.b), vI r29.2.i, vI r29.2.h]],(true || ((E4 r29.1).nv && nvL [V.bx 52 [V.sl false 5 (List.map E5 r29.2.b), vI r29.2.i, vI r29.2.h]])) = true,r29.1 = true,Fn Try.prog 56 [(true, V.bx 52 [V.sl false 5 (List.map E5 r29.2.b), vI r29.2.i, vI r29.2.h])] (E27 r30.1) [V.bx 52 [V.sl false 5 (List.map E5 r30.2.b), vI r30.2.i, vI r30.2.h]],(true || ((E27 r30.1).nv && nvL [V.bx 52 [V.sl false 5 (List.map E5 r30.2.b), vI r30.2.i, vI r30.2.h]])) = true]) (by kernel_rfl) (cj (spec_l01Pick_ok o [100, 200, 60, 0, 9007199254740992] r1 h1) (cj rfl (cj (spec_l01Pick_ok r1.2.1 [2, 3, 5, 1000] r2 h2) (cj rfl (cj (spec_l01Pick_ok r2.2.1 [60, 120, 1000, 9007199254740992] r3 h3) (cj rfl (cj (spec_l01Below_ok r3.2.1 4 r4 h4) (cj rfl (cj (spec_l01Below_ok r4.2 5 r5 h5) (cj rfl (cj (spec_AcctNew_ok o_ r1.1 r2.1 r3.1 (i64 (1 + r4.1)) (i64 (1 + r5.1)) r6 h6) (cj rfl (cj (spec_l06Draw_ok r5.2 r7 h7) (cj rfl (cj (spec_l07Draw_ok r7.2 r8 h8) (cj rfl (cj (spec_Stored_ok r8.1 r9 h9) (cj (by simp [V.nv, nvL, nvL_all, nv_E3]) (cj (spec_AddSat_ok r9 0 r10 h10) (cj rfl (cj h11 (cj (spec_Stored_ok r6.1.Holds r21 h27) (cj (by simp [V.nv, nvL, nvL_all, nv_E3]) (cj h28 (cj h28 (cj h28 (cj rfl (cj (spec_l01Once_ok r8.2 3 r29 h39) (cj rfl (cj h40 (cj (spec_l08Draw_ok r29.2 r30 h41) (cj1 rfl))))))))))))))))))))))))))))))))))) (fun h40 =>
   Pn.some (Fn.of [.call [true, true] (E3 r1.1) [V.bx 52 [V.sl false 5 (List.map E5 r1.2.1.b), vI r1.2.1.i, vI r1.2.1.h], V.sl true 3 (List.map E3 r1.2.2)], .call [true, true] (E3 r2.1) [V.bx 52 [V.sl false 5 (List.map E5 r2.2.1.b), vI r2.2.1.i, vI r2.2.1.h], V.sl true 3 (List.map E3 r2.2.2)], .call [true, true] (E3 r3.1) [V.bx 52 [V.sl false 5 (List.map E5 r3.2.1.b), vI r3.2.1.i, vI r3.2.1.h], V.sl true 3 (List.map E3 r3.2.2)], .call [true, false] (E3 r4.1) [V.bx 52 [V.sl false 5 (List.map E5 r4.2.b), vI r4.2.i, vI r4.2.h]], .call [true, false] (E3 r5.1) [V.bx 52 [V.sl false 5 (List.map E5 r5.2.b), vI r5.2.i, vI r5.2.h]], .call [] (V.tup [E29 r6.1, E4 r6.2]) [], .call [true] (E26 r7.1) [V.bx 52 [V.sl false 5 (List.map E5 r7.2.b), vI r7.2.i, vI r7.2.h]], .call [true] (E23 r8.1) [V.bx 52 [V.sl false 5 (List.map E5 r8.2.b), vI r8.2.i, vI r8.2.h]], .draw [], .call [] (E3 r9) [], .call [] (E3 r10) [], .bit false, .draw [8], .call [] (E3 r21) [], .bit false, .bit false, .bit false, .bit false, .call [true, false] (E4 r29.1) [V.bx 52 [V.sl false 5 (List.map E5 r29.2.b), vI r29.2.i, vI r29.2.h]], .bit false] (p := [Fn Try.prog 50 [(true, V.bx 52 [V.sl false 5 (List.map E5 o.b), vI o.i, vI o.h]), (true, E24 [100, 200, 60, 0, 9007199254740992])] (E3 r1.1) [V.bx 52 [V.sl false 5 (List.map E5 r1.2.1.b), vI r1.2.1.i, vI r1.2.1.h], V.sl true 3 (List.map E3 r1.2.2)],(true || ((E3 r1.1).nv && nvL [V.bx 52 [V.sl false 5 (List.map E5 r1.2.1.b), vI r1.2.1.i, vI r1.2.1.h], V.sl true 3 (List.map E3 r1.2.2)])) = true,Fn Try.prog 50 [(true, V.bx 52 [V.sl false 5 (List.map E5 r1.2.1.b), vI r1.2.1.i, vI r1.2.1.h]), (true, E24 [2, 3, 5, 1000])] (E3 r2.1) [V.bx 52 [V.sl false 5 (List.map E5 r2.2.1.b), vI r2.2.1.i, vI r2.2.1.h], V.sl true 3 (List.map E3 r2.2.2)],(true || ((E3 r2.1).nv && nvL [V.bx 52 [V.sl false 5 (List.map E5 r2.2.1.b), vI r2.2.1.i, vI r2.2.1.h], V.sl true 3 (List.map E3 r2.2.2)])) = true,Fn Try.prog 50 [(true, V.bx 52 [V.sl false 5 (List.map E5 r2.2.1.b), vI r2.2.1.i, vI r2.2.1.h]), (true, E24 [60, 120, 1000, 9007199254740992])] (E3 r3.1) [V.bx 52 [V.sl false 5 (List.map E5 r3.2.1.b), vI r3.2.1.i, vI r3.2.1.h], V.sl true 3 (List.map E3 r3.2.2)],(true || ((E3 r3.1).nv && nvL [V.bx 52 [V.sl false 5 (List.map E5 r3.2.1.b), vI r3.2.1.i, vI r3.2.1.h], V.sl true 3 (List.map E3 r3.2.2)])) = true,Fn Try.prog 22 [(true, V.bx 52 [V.sl false 5 (List.map E5 r3.2.1.b), vI r3.2.1.i, vI r3.2.1.h]), (false, E3 4)] (E3 r4.1) [V.bx 52 [V.sl false 5 (List.map E5 r4.2.b), vI r4.2.i, vI r4.2.h]],(true || ((E3 r4.1).nv && nvL [V.bx 52 [V.sl false 5 (List.map E5 r4.2.b), vI r4.2.i, vI r4.2.h]])) = true,Fn Try.prog 22 [(true, V.bx 52 [V.sl false 5 (List.map E5 r4.2.b), vI r4.2.i, vI r4.2.h]), (false, E3 5)] (E3 r5.1) [V.bx 52 [V.sl false 5 (List.map E5 r5.2.b), vI r5.2.i, vI r5.2.h]],(true || ((E3 r5.1).nv && nvL [V.bx 52 [V.sl false 5 (List.map E5 r5.2.b), vI r5.2.i, vI r5.2.h]])) = true,Fn Try.prog 49 [(false, E9 o_), (false, E3 r1.1), (false, E3 r2.1), (false, E3 r3.1), (false, E3 (i64 (1 + r4.1))), (false, E3 (i64 (1 + r5.1)))] (V.tup [E29 r6.1, E4 r6.2]) [],(true || ((V.tup [E29 r6.1, E4 r6.2]).nv && nvL [])) = true,Fn Try.prog 51 [(true, V.bx 52 [V.sl false 5 (List.map E5 r5.2.b), vI r5.2.i, vI r5.2.h])] (E26 r7.1) [V.bx 52 [V.sl false 5 (List.map E5 r7.2.b), vI r7.2.i, vI r7.2.h]],(true || ((E26 r7.1).nv && nvL [V.bx 52 [V.sl false 5 (List.map E5 r7.2.b), vI r7.2.i, vI r7.2.h]])) = true,Fn Try.prog 52 [(true, V.bx 52 [V.sl false 5 (List.map E5 r7.2.b), vI r7.2.i, vI r7.2.h])] (E23 r8.1) [V.bx 52 [V.sl false 5 (List.map E5 r8.2.b), vI r8.2.i, vI r8.2.h]],(true || ((E23 r8.1).nv && nvL [V.bx 52 [V.sl false 5 (List.map E5 r8.2.b), vI r8.2.i, vI r8.2.h]])) = true,Fn Try.prog 54 [(false, E23 r8.1)] (E3 r9) [],(false || ((E3 r9).nv && nvL [])) = true,Fn Try.prog 53 [(false, E3 r9), (false, E3 0)] (E3 r10) [],(true || ((E3 r10).nv && nvL [])) = true,(decide (r10 ≤ r6.1.Limit)) = false,Fn Try.prog 54 [(false, E23 r6.1.Holds)] (E3 r21) [],(false || ((E3 r21).nv && nvL [])) = true,(decide (r21 < r6.1.Limit)) = false,(decide (r21 < r6.1.Limit)) = false,(decide (r21 < r6.1.Limit)) = false,false = false,Fn Try.prog 55 [(true, V.bx 52 [V.sl false 5 (List.map E5 r8.2.b), vI r8.2.i, vI r8.2.h]), (false, E3 3)] (E4 r29.1) [V.bx 52 [V.sl false 5 (List.map E5 r29.2.b), vI r29.2.i, vI r29.2.h]],(true || ((E4 r29.1).nv && nvL [V.bx 52 [V.sl false 5 (List.map E5 r29.2.b), vI r29.2.i, vI r29.2.h]])) = true,r29.1 = false]) (by kernel_rfl) (cj (spec_l01Pick_ok o [100, 200, 60, 0, 9007199254740992] r1 h1) (cj rfl (cj (spec_l01Pick_ok r1.2.1 [2, 3, 5, 1000] r2 h2) (cj rfl (cj (spec_l01Pick_ok r2.2.1 [60, 120, 1000, 9007199254740992] r3 h3) (cj rfl (cj (spec_l01Below_ok r3.2.1 4 r4 h4) (cj rfl (cj (spec_l01Below_ok r4.2 5 r5 h5) (cj rfl (cj (spec_AcctNew_ok o_ r1.1 r2.1 r3.1 (i64 (1 + r4.1)) (i64 (1 + r5.1)) r6 h6) (cj rfl (cj (spec_l06Draw_ok r5.2 r7 h7) (cj rfl (cj (spec_l07Draw_ok r7.2 r8 h8) (cj rfl (cj (spec_Stored_ok r8.1 r9 h9) (cj (by simp [V.nv, nvL, nvL_all, nv_E3]) (cj (spec_AddSat_ok r9 0 r10 h10) (cj rfl (cj h11 (cj (spec_Stored_ok r6.1.Holds r21 h27) (cj (by simp [V.nv, nvL, nvL_all, nv_E3]) (cj h28 (cj h28 (cj h28 (cj rfl (cj (spec_l01Once_ok r8.2 3 r29 h39) (cj rfl (cj1 h40))))))))))))))))))))))))))))))))))))))))))))))
def spec_MakeAcct (code : List Int) : Option (Acct) :=
 (spec_l01New code).bind fun r1 =>
 (spec_l09Id r1).bind fun r2 =>
 (spec_l09Draw r2.2 r2.1).bind fun r3 =>
 some r3.1
theorem spec_MakeAcct_ok (code : List Int) : Pn (fun y => Fn Try.prog 14 [(false, E22 code)] (E29 y) []) (spec_MakeAcct code) := by
  unfold spec_MakeAcct
  exact
   Pn.bind (fun r1 h1 =>
   Pn.bind (fun r2 h2 =>
   Pn.bind (fun r3 h3 =>
   Pn.some (Fn.of [.call [] (V.bx 52 [V.sl false 5 (List.map E5 r1.b), vI r1.i, vI r1.h]) [], .call [true] (E9 r2.1) [V.bx 52 [V.sl false 5 (List.map E5 r2.2.b), vI r2.2.i, vI r2.2.h]], .call [true, false] (E29 r3.1) [V.bx 52 [V.sl false 5 (List.map E5 r3.2.b), vI r3.2.i, vI r3.2.h]]] (p := [Fn Try.prog 19 [(false, E22 code)] (V.bx 52 [V.sl false 5 (List.map E5 r1.b), vI r1.i, vI r1.h]) [],(true || ((V.bx 52 [V.sl false 5 (List.map E5 r1.b), vI r1.i, vI r1.h]).nv && nvL [])) = true,Fn Try.prog 42 [(true, V.bx 52 [V.sl false 5 (List.map E5 r1.b), vI r1.i, vI r1.h])] (E9 r2.1) [V.bx 52 [V.sl false 5 (List.map E5 r2.2.b), vI r2.2.i, vI r2.2.h]],(true || ((E9 r2.1).nv && nvL [V.bx 52 [V.sl false 5 (List.map E5 r2.2.b), vI r2.2.i, vI r2.2.h]])) = true,Fn Try.prog 20 [(true, V.bx 52 [V.sl false 5 (List.map E5 r2.2.b), vI r2.2.i, vI r2.2.h]), (false, E9 r2.1)] (E29 r3.1) [V.bx 52 [V.sl false 5 (List.map E5 r3.2.b), vI r3.2.i, vI r3.2.h]],(true || ((E29 r3.1).nv && nvL [V.bx 52 [V.sl false 5 (List.map E5 r3.2.b), vI r3.2.i, vI r3.2.h]])) = true]) (by kernel_rfl) (cj (spec_l01New_ok code r1 h1) (cj rfl (cj (spec_l09Id_ok r1 r2 h2) (cj rfl (cj (spec_l09Draw_ok r2.2 r2.1 r3 h3) (cj1 rfl))))))))))
def spec_MakeHold (code : List Int) : Option (ByteArray × Int × Int × Int) :=
 (spec_l01New code).bind fun r1 =>
 (spec_l07Id (l01Cur.mk r1.b r1.i (i64 (r1.h + 3)))).bind fun r2 =>
 (spec_l01Below r2.2 40).bind fun r3 =>
 (spec_l01Below r3.2 20).bind fun r4 =>
 (spec_l01Below r4.2 20).bind fun r5 =>
 some (r2.1, i64 (1 + r3.1), i64 (1 + r4.1), r5.1)
theorem spec_MakeHold_ok (code : List Int) : Pn (fun y => Fn Try.prog 6 [(false, E22 code)] (V.tup [E9 y.1, E3 y.2.1, E3 y.2.2.1, E3 y.2.2.2]) []) (spec_MakeHold code) := by
  unfold spec_MakeHold
  exact
   Pn.bind (fun r1 h1 =>
   Pn.bind (fun r2 h2 =>
   Pn.bind (fun r3 h3 =>
   Pn.bind (fun r4 h4 =>
   Pn.bind (fun r5 h5 =>
   Pn.some (Fn.of [.call [] (V.bx 52 [V.sl false 5 (List.map E5 r1.b), vI r1.i, vI r1.h]) [], .call [true] (E9 r2.1) [V.bx 52 [V.sl false 5 (List.map E5 r2.2.b), vI r2.2.i, vI r2.2.h]], .call [true, false] (E3 r3.1) [V.bx 52 [V.sl false 5 (List.map E5 r3.2.b), vI r3.2.i, vI r3.2.h]], .call [true, false] (E3 r4.1) [V.bx 52 [V.sl false 5 (List.map E5 r4.2.b), vI r4.2.i, vI r4.2.h]], .call [true, false] (E3 r5.1) [V.bx 52 [V.sl false 5 (List.map E5 r5.2.b), vI r5.2.i, vI r5.2.h]]] (p := [Fn Try.prog 19 [(false, E22 code)] (V.bx 52 [V.sl false 5 (List.map E5 r1.b), vI r1.i, vI r1.h]) [],(true || ((V.bx 52 [V.sl false 5 (List.map E5 r1.b), vI r1.i, vI r1.h]).nv && nvL [])) = true,Fn Try.prog 21 [(true, V.bx 52 [V.sl false 5 (List.map E5 ((l01Cur.mk r1.b r1.i (i64 (r1.h + 3))).b)), vI ((l01Cur.mk r1.b r1.i (i64 (r1.h + 3))).i), vI ((l01Cur.mk r1.b r1.i (i64 (r1.h + 3))).h)])] (E9 r2.1) [V.bx 52 [V.sl false 5 (List.map E5 r2.2.b), vI r2.2.i, vI r2.2.h]],(true || ((E9 r2.1).nv && nvL [V.bx 52 [V.sl false 5 (List.map E5 r2.2.b), vI r2.2.i, vI r2.2.h]])) = true,Fn Try.prog 22 [(true, V.bx 52 [V.sl false 5 (List.map E5 r2.2.b), vI r2.2.i, vI r2.2.h]), (false, E3 40)] (E3 r3.1) [V.bx 52 [V.sl false 5 (List.map E5 r3.2.b), vI r3.2.i, vI r3.2.h]],(true || ((E3 r3.1).nv && nvL [V.bx 52 [V.sl false 5 (List.map E5 r3.2.b), vI r3.2.i, vI r3.2.h]])) = true,Fn Try.prog 22 [(true, V.bx 52 [V.sl false 5 (List.map E5 r3.2.b), vI r3.2.i, vI r3.2.h]), (false, E3 20)] (E3 r4.1) [V.bx 52 [V.sl false 5 (List.map E5 r4.2.b), vI r4.2.i, vI r4.2.h]],(true || ((E3 r4.1).nv && nvL [V.bx 52 [V.sl false 5 (List.map E5 r4.2.b), vI r4.2.i, vI r4.2.h]])) = true,Fn Try.prog 22 [(true, V.bx 52 [V.sl false 5 (List.map E5 r4.2.b), vI r4.2.i, vI r4.2.h]), (false, E3 20)] (E3 r5.1) [V.bx 52 [V.sl false 5 (List.map E5 r5.2.b), vI r5.2.i, vI r5.2.h]],(true || ((E3 r5.1).nv && nvL [V.bx 52 [V.sl false 5 (List.map E5 r5.2.b), vI r5.2.i, vI r5.2.h]])) = true]) (by kernel_rfl) (cj (spec_l01New_ok code r1 h1) (cj rfl (cj (spec_l07Id_ok (l01Cur.mk r1.b r1.i (i64 (r1.h + 3))) r2 h2) (cj rfl (cj (spec_l01Below_ok r2.2 40 r3 h3) (cj rfl (cj (spec_l01Below_ok r3.2 20 r4 h4) (cj rfl (cj (spec_l01Below_ok r4.2 20 r5 h5) (cj1 rfl))))))))))))))))
def impl_Digits_l0 (s_ : ByteArray) : Nat → Int → Option (Lo Unit Unit)
  | 0, _ => none
  | fuel + 1, v1 =>
   if (decide (v1 < (s_.size : Int))) = true then
   if (decide (0 ≤ v1)) = true then
   if (decide ((v1 : Int) < (s_.size : Int))) = true then
   if (decide ((sAt s_ v1) < 48)) = true then
   some (.ret ())
   else
   if (decide (57 < (sAt s_ v1))) = true then
   some (.ret ())
   else
   impl_Digits_l0 s_ fuel (i64 (v1 + 1))
   else none
   else none
   else
   some (.out ())
theorem impl_Digits_l0_ok (s_ : ByteArray) : ∀ (fuel : Nat) (v1 : Int), Pn (LpO Try.prog (sub (codeOf Try.prog 95) [1, 0, 1, 0, 0]) (st 22 [(0, V.sc (.string s_)), (5, vI (s_.size : Int)), (6, vI v1)] [] []) (fun (y : Lo Unit Unit) => Lo.elim y (fun s => (X.out 0, st 22 [(0, V.sc (.string s_))] [] [])) (fun s => (X.ret, st 22 [(2, V.sc (.bool false))] [] [])))) (impl_Digits_l0 s_ fuel v1)
  | 0, _ => Pn.none
  | fuel + 1, v1 => by
    unfold impl_Digits_l0
    exact
     Pn.ite (fun h1 =>
     Pn.ite (fun h2 =>
     Pn.ite (fun h3 =>
     Pn.ite (fun h4 =>
     Pn.some (LpO.out [.bit true, .bit true, .bit true, .bit true, .bit true, .bit true, .bit true, .wait 1, .mask [2], .ren []] (p := [(decide (v1 < (s_.size : Int))) = true,(0 : Int) ≤ v1,(v1 : Int) < s_.size,(decide ((sAt s_ v1) < 48)) = true,(decide ((sAt s_ v1) < 48)) = true,(decide ((sAt s_ v1) < 48)) = true,(decide ((sAt s_ v1) < 48)) = true,(decide ((sAt s_ v1) < 48)) = true,true = true]) (by kernel_rfl) (show X.ret ≠ X.go from nofun) (cj h1 (cj (od h2) (cj (od h3) (cj h4 (cj h4 (cj h4 (cj h4 (cj h4 (cj1 rfl))))))))))) (fun h4 =>
     Pn.ite (fun h5 =>
     Pn.some (LpO.out [.bit true, .bit false, .bit false, .bit false, .bit false, .bit false, .bit true, .wait 1, .mask [2], .ren []] (p := [(decide (v1 < (s_.size : Int))) = true,(0 : Int) ≤ v1,(v1 : Int) < s_.size,(decide ((sAt s_ v1) < 48)) = false,(decide ((sAt s_ v1) < 48)) = false,(decide ((sAt s_ v1) < 48)) = false,(0 : Int) ≤ v1,(v1 : Int) < s_.size,(decide ((sAt s_ v1) < 48)) = false,(decide ((sAt s_ v1) < 48)) = false,(decide (57 < (sAt s_ v1))) = true]) (by kernel_rfl) (show X.ret ≠ X.go from nofun) (cj h1 (cj (od h2) (cj (od h3) (cj h4 (cj h4 (cj h4 (cj (od h2) (cj (od h3) (cj h4 (cj h4 (cj1 h5))))))))))))) (fun h5 =>
     LpO.go [.bit true, .bit false, .bit false, .bit false, .bit false, .bit false, .bit false, .wait 2, .mask [0, 5, 6], .ren []] (p := [(decide (v1 < (s_.size : Int))) = true,(0 : Int) ≤ v1,(v1 : Int) < s_.size,(decide ((sAt s_ v1) < 48)) = false,(decide ((sAt s_ v1) < 48)) = false,(decide ((sAt s_ v1) < 48)) = false,(0 : Int) ≤ v1,(v1 : Int) < s_.size,(decide ((sAt s_ v1) < 48)) = false,(decide ((sAt s_ v1) < 48)) = false,(decide (57 < (sAt s_ v1))) = false]) (by kernel_rfl) (cj h1 (cj (od h2) (cj (od h3) (cj h4 (cj h4 (cj h4 (cj (od h2) (cj (od h3) (cj h4 (cj h4 (cj1 h5))))))))))) (impl_Digits_l0_ok s_ fuel (i64 (v1 + 1)))))) (fun h3 =>
     Pn.none)) (fun h2 =>
     Pn.none)) (fun h1 =>
     Pn.some (LpO.out [.bit false, .mask [0], .ren []] (p := [(decide (v1 < (s_.size : Int))) = false]) (by kernel_rfl) (show X.out 0 ≠ X.go from nofun) (cj1 h1)))
def impl_Digits (s_ : ByteArray) : Option (Bool) :=
 (impl_Digits_l0 s_ FUEL 0).bind fun r1 =>
 Lo.elim r1 (fun s1 =>
 some (!(s_ == (bs [])))) (fun s2 =>
 some false)
theorem impl_Digits_ok (s_ : ByteArray) : Pn (fun y => Fn Try.prog 95 [(false, E9 s_)] (E4 y) []) (impl_Digits s_) := by
  unfold impl_Digits
  exact
   Pn.bind (fun r1 h6 =>
   Pn.lo (fun s1 h7 =>
   Pn.some (Fn.of [.wait 5, .mask [0, 5, 6], .ren [], .loop (X.out 0) (st 22 [(0, V.sc (.string s_))] [] [])] (p := [Loop Try.prog (sub (codeOf Try.prog 95) [1, 0, 1, 0, 0]) (st 22 [(0, V.sc (.string s_)), (5, vI (s_.size : Int)), (6, vI 0)] [] []) (X.out 0) (st 22 [(0, V.sc (.string s_))] [] [])]) (by kernel_rfl) (cj1 ((impl_Digits_l0_ok s_ FUEL 0 r1 h6).at h7 :)))) (fun s2 h8 =>
   Pn.some (Fn.of [.wait 5, .mask [0, 5, 6], .ren [], .loop (X.ret) (st 22 [(2, V.sc (.bool false))] [] [])] (p := [Loop Try.prog (sub (codeOf Try.prog 95) [1, 0, 1, 0, 0]) (st 22 [(0, V.sc (.string s_)), (5, vI (s_.size : Int)), (6, vI 0)] [] []) (X.ret) (st 22 [(2, V.sc (.bool false))] [] [])]) (by kernel_rfl) (cj1 ((impl_Digits_l0_ok s_ FUEL 0 r1 h6).at h8 :)))))
def impl_Luhn_l0 (s_ : ByteArray) : Nat → Int → Bool → Int → Option (Int)
  | 0, _, _, _ => none
  | fuel + 1, v1, v2, v3 =>
   if (decide (0 ≤ v3)) = true then
   if (decide ((v3 : Int) < (s_.size : Int))) = true then
   if v2 = true then
   if (decide (9 < (i64 ((i64 (u8 ((sAt s_ v3) - 48))) * 2)))) = true then
   impl_Luhn_l0 s_ fuel (i64 (v1 + (i64 ((i64 ((i64 (u8 ((sAt s_ v3) - 48))) * 2)) - 9)))) (!v2) (i64 (v3 - 1))
   else
   impl_Luhn_l0 s_ fuel (i64 (v1 + (i64 ((i64 (u8 ((sAt s_ v3) - 48))) * 2)))) (!v2) (i64 (v3 - 1))
   else
   impl_Luhn_l0 s_ fuel (i64 (v1 + (i64 (u8 ((sAt s_ v3) - 48))))) (!v2) (i64 (v3 - 1))
   else none
   else
   some v1
theorem impl_Luhn_l0_ok (s_ : ByteArray) : ∀ (fuel : Nat) (v1 : Int) (v2 : Bool) (v3 : Int), Pn (LpO Try.prog (sub (codeOf Try.prog 96) [1, 1, 1, 0, 1, 0, 0]) (st 38 [(0, V.sc (.string s_)), (3, vI v1), (4, V.sc (.bool v2)), (5, vI v3)] [] []) (fun (y : Int) => (X.out 0, st 38 [(3, vI y)] [] []))) (impl_Luhn_l0 s_ fuel v1 v2 v3)
  | 0, _, _, _ => Pn.none
  | fuel + 1, v1, v2, v3 => by
    unfold impl_Luhn_l0
    exact
     Pn.ite (fun h3 =>
     Pn.ite (fun h4 =>
     Pn.ite (fun h5 =>
     Pn.ite (fun h6 =>
     LpO.go [.bit true, .bit true, .bit true, .wait 13, .mask [0, 3, 4, 5], .ren []] (p := [(decide (0 ≤ v3)) = true,(0 : Int) ≤ v3,(v3 : Int) < s_.size,v2 = true,(decide (9 < (i64 ((i64 (u8 ((sAt s_ v3) - 48))) * 2)))) = true]) (by kernel_rfl) (cj h3 (cj (od h3) (cj (od h4) (cj h5 (cj1 h6))))) (impl_Luhn_l0_ok s_ fuel (i64 (v1 + (i64 ((i64 ((i64 (u8 ((sAt s_ v3) - 48))) * 2)) - 9)))) (!v2) (i64 (v3 - 1)))) (fun h6 =>
     LpO.go [.bit true, .bit true, .bit false, .wait 10, .mask [0, 3, 4, 5], .ren []] (p := [(decide (0 ≤ v3)) = true,(0 : Int) ≤ v3,(v3 : Int) < s_.size,v2 = true,(decide (9 < (i64 ((i64 (u8 ((sAt s_ v3) - 48))) * 2)))) = false]) (by kernel_rfl) (cj h3 (cj (od h3) (cj (od h4) (cj h5 (cj1 h6))))) (impl_Luhn_l0_ok s_ fuel (i64 (v1 + (i64 ((i64 (u8 ((sAt s_ v3) - 48))) * 2)))) (!v2) (i64 (v3 - 1))))) (fun h5 =>
     LpO.go [.bit true, .bit false, .wait 10, .mask [0, 3, 4, 5], .ren []] (p := [(decide (0 ≤ v3)) = true,(0 : Int) ≤ v3,(v3 : Int) < s_.size,v2 = false]) (by kernel_rfl) (cj h3 (cj (od h3) (cj (od h4) (cj1 h5)))) (impl_Luhn_l0_ok s_ fuel (i64 (v1 + (i64 (u8 ((sAt s_ v3) - 48))))) (!v2) (i64 (v3 - 1))))) (fun h4 =>
     Pn.none)) (fun h3 =>
     Pn.some (LpO.out [.bit false, .mask [3], .ren []] (p := [(decide (0 ≤ v3)) = false]) (by kernel_rfl) (show X.out 0 ≠ X.go from nofun) (cj1 h3)))
def impl_Luhn (s_ : ByteArray) : Option (Int) :=
 (impl_Digits s_).bind fun r1 =>
 if r1 = true then
 (impl_Luhn_l0 s_ FUEL 0 true (i64 ((s_.size : Int) - 1))).bind fun r2 =>
 some (Int.tmod (i64 (10 - (Int.tmod r2 10))) 10)
 else
 some (-1)
theorem impl_Luhn_ok (s_ : ByteArray) : Pn (fun y => Fn Try.prog 96 [(false, E9 s_)] (E3 y) []) (impl_Luhn s_) := by
  unfold impl_Luhn
  exact
   Pn.bind (fun r1 h1 =>
   Pn.ite (fun h2 =>
   Pn.bind (fun r2 h7 =>
   Pn.some (Fn.of [.call [] (E4 r1) [], .bit false, .wait 6, .mask [0, 3, 4, 5], .ren [], .loop (X.out 0) (st 38 [(3, vI r2)] [] [])] (p := [Fn Try.prog 95 [(false, E9 s_)] (E4 r1) [],(true || ((E4 r1).nv && nvL [])) = true,(!r1) = false,Loop Try.prog (sub (codeOf Try.prog 96) [1, 1, 1, 0, 1, 0, 0]) (st 38 [(0, V.sc (.string s_)), (3, vI 0), (4, V.sc (.bool true)), (5, vI (i64 ((s_.size : Int) - 1)))] [] []) (X.out 0) (st 38 [(3, vI r2)] [] []),(10 : Int) ≠ 0,(10 : Int) ≠ 0]) (by kernel_rfl) (cj (impl_Digits_ok s_ r1 h1) (cj rfl (cj (nf h2) (cj (impl_Luhn_l0_ok s_ FUEL 0 true (i64 ((s_.size : Int) - 1)) r2 h7) (cj (by decide) (cj1 (by decide)))))))))) (fun h2 =>
   Pn.some (Fn.of [.call [] (E4 r1) [], .bit true] (p := [Fn Try.prog 95 [(false, E9 s_)] (E4 r1) [],(true || ((E4 r1).nv && nvL [])) = true,(!r1) = true]) (by kernel_rfl) (cj (impl_Digits_ok s_ r1 h1) (cj rfl (cj1 (nt h2)))))))
def impl_LuhnOk (s_ : ByteArray) : Option (Bool) :=
 if (decide (1 ≤ (i64 ((s_.size : Int) - 1)))) = true then
 (impl_Digits s_).bind fun r1 =>
 if r1 = true then
 if (decide (0 ≤ (i64 ((s_.size : Int) - 1)))) = true then
 if (decide ((i64 ((s_.size : Int) - 1)) ≤ (s_.size : Int))) = true then
 if (decide (0 ≤ i64 ((s_.size : Int) - 1))) = true then
 if (decide ((i64 ((s_.size : Int) - 1) : Int) < (s_.size : Int))) = true then
 (impl_Luhn (s_.extract 0 (i64 ((s_.size : Int) - 1)).toNat)).bind fun r2 =>
 some (r2 == (i64 (u8 ((sAt s_ (i64 ((s_.size : Int) - 1))) - 48))))
 else none
 else none
 else none
 else none
 else
 some false
 else
 some false
theorem impl_LuhnOk_ok (s_ : ByteArray) : Pn (fun y => Fn Try.prog 72 [(false, E9 s_)] (E4 y) []) (impl_LuhnOk s_) := by
  unfold impl_LuhnOk
  exact
   Pn.ite (fun h1 =>
   Pn.bind (fun r1 h2 =>
   Pn.ite (fun h3 =>
   Pn.ite (fun h4 =>
   Pn.ite (fun h5 =>
   Pn.ite (fun h6 =>
   Pn.ite (fun h7 =>
   Pn.bind (fun r2 h8 =>
   Pn.some (Fn.of [.draw [], .bit true, .bit true, .call [] (E4 r1) [], .bit true, .bit true, .bit true, .bit true, .bit true, .bit true, .bit true, .bit true, .bit true, .bit true, .call [] (E3 r2) [], .bit true, .bit true] (p := [(decide (1 ≤ (i64 ((s_.size : Int) - 1)))) = true,(decide (1 ≤ (i64 ((s_.size : Int) - 1)))) = true,Fn Try.prog 95 [(false, E9 s_)] (E4 r1) [],(true || ((E4 r1).nv && nvL [])) = true,(decide (1 ≤ (i64 ((s_.size : Int) - 1)))) = true,r1 = true,r1 = true,r1 = true,(0 : Int) ≤ 0,(0 : Int) ≤ (i64 ((s_.size : Int) - 1)),((i64 ((s_.size : Int) - 1)) : Int) ≤ (s_.size : Int),r1 = true,r1 = true,r1 = true,(0 : Int) ≤ i64 ((s_.size : Int) - 1),(i64 ((s_.size : Int) - 1) : Int) < s_.size,r1 = true,r1 = true,r1 = true,Fn Try.prog 96 [(false, E9 (s_.extract 0 (i64 ((s_.size : Int) - 1)).toNat))] (E3 r2) [],(true || ((E3 r2).nv && nvL [])) = true,r1 = true,r1 = true]) (by kernel_rfl) (cj h1 (cj h1 (cj (impl_Digits_ok s_ r1 h2) (cj rfl (cj h1 (cj h3 (cj h3 (cj h3 (cj (by decide) (cj (od h4) (cj (od h5) (cj h3 (cj h3 (cj h3 (cj (od h6) (cj (od h7) (cj h3 (cj h3 (cj h3 (cj (impl_Luhn_ok (s_.extract 0 (i64 ((s_.size : Int) - 1)).toNat) r2 h8) (cj rfl (cj h3 (cj1 h3)))))))))))))))))))))))))) (fun h7 =>
   Pn.none)) (fun h6 =>
   Pn.none)) (fun h5 =>
   Pn.none)) (fun h4 =>
   Pn.none)) (fun h3 =>
   Pn.some (Fn.of [.draw [], .bit true, .bit true, .call [] (E4 r1) [], .bit true, .bit false, .bit false, .bit false, .bit false, .bit false, .bit false, .bit false, .bit false, .bit false, .bit false, .bit false] (p := [(decide (1 ≤ (i64 ((s_.size : Int) - 1)))) = true,(decide (1 ≤ (i64 ((s_.size : Int) - 1)))) = true,Fn Try.prog 95 [(false, E9 s_)] (E4 r1) [],(true || ((E4 r1).nv && nvL [])) = true,(decide (1 ≤ (i64 ((s_.size : Int) - 1)))) = true,r1 = false,r1 = false,r1 = false,r1 = false,r1 = false,r1 = false,r1 = false,r1 = false,r1 = false,r1 = false,r1 = false]) (by kernel_rfl) (cj h1 (cj h1 (cj (impl_Digits_ok s_ r1 h2) (cj rfl (cj h1 (cj h3 (cj h3 (cj h3 (cj h3 (cj h3 (cj h3 (cj h3 (cj h3 (cj h3 (cj h3 (cj1 h3)))))))))))))))))))) (fun h1 =>
   Pn.some (Fn.of [.draw [], .bit false, .bit false, .bit false, .bit false, .bit false, .bit false, .bit false, .bit false, .bit false, .bit false, .bit false, .bit false, .bit false, .bit false] (p := [(decide (1 ≤ (i64 ((s_.size : Int) - 1)))) = false,(decide (1 ≤ (i64 ((s_.size : Int) - 1)))) = false,(decide (1 ≤ (i64 ((s_.size : Int) - 1)))) = false,false = false,false = false,false = false,false = false,false = false,false = false,false = false,false = false,false = false,false = false,false = false]) (by kernel_rfl) (cj h1 (cj h1 (cj h1 (cj rfl (cj rfl (cj rfl (cj rfl (cj rfl (cj rfl (cj rfl (cj rfl (cj rfl (cj rfl (cj1 rfl))))))))))))))))
def impl_AcctIdOk (s_ : ByteArray) : Option (Bool) :=
 if (decide ((s_.size : Int) ≤ 19)) = true then
 (impl_LuhnOk s_).bind fun r1 =>
 some r1
 else
 some false
theorem impl_AcctIdOk_ok (s_ : ByteArray) : Pn (fun y => Fn Try.prog 36 [(false, E9 s_)] (E4 y) []) (impl_AcctIdOk s_) := by
  unfold impl_AcctIdOk
  exact
   Pn.ite (fun h1 =>
   Pn.bind (fun r1 h2 =>
   Pn.some (Fn.of [.bit true, .bit true, .call [] (E4 r1) [], .bit true] (p := [(decide ((s_.size : Int) ≤ 19)) = true,(decide ((s_.size : Int) ≤ 19)) = true,Fn Try.prog 72 [(false, E9 s_)] (E4 r1) [],(true || ((E4 r1).nv && nvL [])) = true,(decide ((s_.size : Int) ≤ 19)) = true]) (by kernel_rfl) (cj h1 (cj h1 (cj (impl_LuhnOk_ok s_ r1 h2) (cj rfl (cj1 h1)))))))) (fun h1 =>
   Pn.some (Fn.of [.bit false, .bit false, .bit false] (p := [(decide ((s_.size : Int) ≤ 19)) = false,(decide ((s_.size : Int) ≤ 19)) = false,(decide ((s_.size : Int) ≤ 19)) = false]) (by kernel_rfl) (cj h1 (cj h1 (cj1 h1)))))
def impl_within (n : Int) (low : Int) (high : Int) : Option (Bool) :=
 if (decide (low ≤ n)) = true then
 some (decide (n ≤ high))
 else
 some false
theorem impl_within_ok (n : Int) (low : Int) (high : Int) : Pn (fun y => Fn Try.prog 37 [(false, E3 n), (false, E3 low), (false, E3 high)] (E4 y) []) (impl_within n low high) := by
  unfold impl_within
  exact
   Pn.ite (fun h1 =>
   Pn.some (Fn.of [.bit true, .bit true, .bit true, .bit true] (p := [(decide (low ≤ n)) = true,(decide (low ≤ n)) = true,(decide (low ≤ n)) = true,(decide (low ≤ n)) = true]) (by kernel_rfl) (cj h1 (cj h1 (cj h1 (cj1 h1)))))) (fun h1 =>
   Pn.some (Fn.of [.bit false, .bit false, .bit false, .bit false] (p := [(decide (low ≤ n)) = false,(decide (low ≤ n)) = false,(decide (low ≤ n)) = false,(decide (low ≤ n)) = false]) (by kernel_rfl) (cj h1 (cj h1 (cj h1 (cj1 h1))))))
def impl_isMoney (n : Int) : Option (Bool) :=
 (impl_within n 0 4611686018427387904).bind fun r1 =>
 some r1
theorem impl_isMoney_ok (n : Int) : Pn (fun y => Fn Try.prog 38 [(false, E3 n)] (E4 y) []) (impl_isMoney n) := by
  unfold impl_isMoney
  exact
   Pn.bind (fun r1 h1 =>
   Pn.some (Fn.of [.call [] (E4 r1) []] (p := [Fn Try.prog 37 [(false, E3 n), (false, E3 0), (false, E3 4611686018427387904)] (E4 r1) [],(true || ((E4 r1).nv && nvL [])) = true]) (by kernel_rfl) (cj (impl_within_ok n 0 4611686018427387904 r1 h1) (cj1 rfl))))
def impl_HoldIdOk_l0 (s_ : ByteArray) : Nat → Int → Option (Lo Unit Unit)
  | 0, _ => none
  | fuel + 1, v1 =>
   if (decide (v1 < (s_.size : Int))) = true then
   if (decide (0 ≤ v1)) = true then
   if (decide ((v1 : Int) < (s_.size : Int))) = true then
   if (decide ((sAt s_ v1) < 48)) = true then
   if (decide ((sAt s_ v1) < 97)) = true then
   some (.ret ())
   else
   if (decide (122 < (sAt s_ v1))) = true then
   some (.ret ())
   else
   impl_HoldIdOk_l0 s_ fuel (i64 (v1 + 1))
   else
   if (decide (57 < (sAt s_ v1))) = true then
   if (decide ((sAt s_ v1) < 97)) = true then
   some (.ret ())
   else
   if (decide (122 < (sAt s_ v1))) = true then
   some (.ret ())
   else
   impl_HoldIdOk_l0 s_ fuel (i64 (v1 + 1))
   else
   impl_HoldIdOk_l0 s_ fuel (i64 (v1 + 1))
   else none
   else none
   else
   some (.out ())
theorem impl_HoldIdOk_l0_ok (s_ : ByteArray) : ∀ (fuel : Nat) (v1 : Int), Pn (LpO Try.prog (sub (codeOf Try.prog 28) [1, 0, 1, 0, 0]) (st 35 [(0, V.sc (.string s_)), (5, vI (s_.size : Int)), (6, vI v1)] [] []) (fun (y : Lo Unit Unit) => Lo.elim y (fun s => (X.out 0, st 35 [(0, V.sc (.string s_))] [] [])) (fun s => (X.ret, st 35 [(2, V.sc (.bool false))] [] [])))) (impl_HoldIdOk_l0 s_ fuel v1)
  | 0, _ => Pn.none
  | fuel + 1, v1 => by
    unfold impl_HoldIdOk_l0
    exact
     Pn.ite (fun h1 =>
     Pn.ite (fun h2 =>
     Pn.ite (fun h3 =>
     Pn.ite (fun h4 =>
     Pn.ite (fun h5 =>
     Pn.some (LpO.out [.bit true, .bit true, .bit true, .bit true, .bit true, .bit true, .bit true, .bit true, .bit true, .bit true, .bit true, .bit true, .bit true, .bit true, .bit true, .bit true, .bit true, .bit true, .bit true, .wait 1, .mask [2], .ren []] (p := [(decide (v1 < (s_.size : Int))) = true,(0 : Int) ≤ v1,(v1 : Int) < s_.size,(decide ((sAt s_ v1) < 48)) = true,(decide ((sAt s_ v1) < 48)) = true,(decide ((sAt s_ v1) < 48)) = true,(decide ((sAt s_ v1) < 48)) = true,(decide ((sAt s_ v1) < 48)) = true,true = true,true = true,true = true,(0 : Int) ≤ v1,(v1 : Int) < s_.size,true = true,true = true,(decide ((sAt s_ v1) < 97)) = true,(decide ((sAt s_ v1) < 97)) = true,(decide ((sAt s_ v1) < 97)) = true,(decide ((sAt s_ v1) < 97)) = true,true = true,(decide ((sAt s_ v1) < 97)) = true,true = true,true = true]) (by kernel_rfl) (show X.ret ≠ X.go from nofun) (cj h1 (cj (od h2) (cj (od h3) (cj h4 (cj h4 (cj h4 (cj h4 (cj h4 (cj rfl (cj rfl (cj rfl (cj (od h2) (cj (od h3) (cj rfl (cj rfl (cj h5 (cj h5 (cj h5 (cj h5 (cj rfl (cj h5 (cj rfl (cj1 rfl))))))))))))))))))))))))) (fun h5 =>
     Pn.ite (fun h6 =>
     Pn.some (LpO.out [.bit true, .bit true, .bit true, .bit true, .bit true, .bit true, .bit true, .bit true, .bit true, .bit true, .bit true, .bit false, .bit false, .bit false, .bit false, .bit true, .bit false, .bit true, .bit true, .wait 1, .mask [2], .ren []] (p := [(decide (v1 < (s_.size : Int))) = true,(0 : Int) ≤ v1,(v1 : Int) < s_.size,(decide ((sAt s_ v1) < 48)) = true,(decide ((sAt s_ v1) < 48)) = true,(decide ((sAt s_ v1) < 48)) = true,(decide ((sAt s_ v1) < 48)) = true,(decide ((sAt s_ v1) < 48)) = true,true = true,true = true,true = true,(0 : Int) ≤ v1,(v1 : Int) < s_.size,true = true,true = true,(decide ((sAt s_ v1) < 97)) = false,(decide ((sAt s_ v1) < 97)) = false,(decide ((sAt s_ v1) < 97)) = false,(0 : Int) ≤ v1,(v1 : Int) < s_.size,(decide ((sAt s_ v1) < 97)) = false,true = true,(decide ((sAt s_ v1) < 97)) = false,true = true,(decide (122 < (sAt s_ v1))) = true]) (by kernel_rfl) (show X.ret ≠ X.go from nofun) (cj h1 (cj (od h2) (cj (od h3) (cj h4 (cj h4 (cj h4 (cj h4 (cj h4 (cj rfl (cj rfl (cj rfl (cj (od h2) (cj (od h3) (cj rfl (cj rfl (cj h5 (cj h5 (cj h5 (cj (od h2) (cj (od h3) (cj h5 (cj rfl (cj h5 (cj rfl (cj1 h6))))))))))))))))))))))))))) (fun h6 =>
     LpO.go [.bit true, .bit true, .bit true, .bit true, .bit true, .bit true, .bit true, .bit true, .bit true, .bit true, .bit true, .bit false, .bit false, .bit false, .bit false, .bit true, .bit false, .bit true, .bit false, .wait 2, .mask [0, 5, 6], .ren []] (p := [(decide (v1 < (s_.size : Int))) = true,(0 : Int) ≤ v1,(v1 : Int) < s_.size,(decide ((sAt s_ v1) < 48)) = true,(decide ((sAt s_ v1) < 48)) = true,(decide ((sAt s_ v1) < 48)) = true,(decide ((sAt s_ v1) < 48)) = true,(decide ((sAt s_ v1) < 48)) = true,true = true,true = true,true = true,(0 : Int) ≤ v1,(v1 : Int) < s_.size,true = true,true = true,(decide ((sAt s_ v1) < 97)) = false,(decide ((sAt s_ v1) < 97)) = false,(decide ((sAt s_ v1) < 97)) = false,(0 : Int) ≤ v1,(v1 : Int) < s_.size,(decide ((sAt s_ v1) < 97)) = false,true = true,(decide ((sAt s_ v1) < 97)) = false,true = true,(decide (122 < (sAt s_ v1))) = false]) (by kernel_rfl) (cj h1 (cj (od h2) (cj (od h3) (cj h4 (cj h4 (cj h4 (cj h4 (cj h4 (cj rfl (cj rfl (cj rfl (cj (od h2) (cj (od h3) (cj rfl (cj rfl (cj h5 (cj h5 (cj h5 (cj (od h2) (cj (od h3) (cj h5 (cj rfl (cj h5 (cj rfl (cj1 h6))))))))))))))))))))))))) (impl_HoldIdOk_l0_ok s_ fuel (i64 (v1 + 1)))))) (fun h4 =>
     Pn.ite (fun h7 =>
     Pn.ite (fun h8 =>
     Pn.some (LpO.out [.bit true, .bit false, .bit false, .bit false, .bit false, .bit false, .bit true, .bit true, .bit true, .bit true, .bit true, .bit true, .bit true, .bit true, .bit true, .bit true, .bit true, .bit true, .bit true, .wait 1, .mask [2], .ren []] (p := [(decide (v1 < (s_.size : Int))) = true,(0 : Int) ≤ v1,(v1 : Int) < s_.size,(decide ((sAt s_ v1) < 48)) = false,(decide ((sAt s_ v1) < 48)) = false,(decide ((sAt s_ v1) < 48)) = false,(0 : Int) ≤ v1,(v1 : Int) < s_.size,(decide ((sAt s_ v1) < 48)) = false,(decide ((sAt s_ v1) < 48)) = false,(decide (57 < (sAt s_ v1))) = true,(decide (57 < (sAt s_ v1))) = true,(decide (57 < (sAt s_ v1))) = true,(0 : Int) ≤ v1,(v1 : Int) < s_.size,(decide (57 < (sAt s_ v1))) = true,(decide (57 < (sAt s_ v1))) = true,(decide ((sAt s_ v1) < 97)) = true,(decide ((sAt s_ v1) < 97)) = true,(decide ((sAt s_ v1) < 97)) = true,(decide ((sAt s_ v1) < 97)) = true,(decide (57 < (sAt s_ v1))) = true,(decide ((sAt s_ v1) < 97)) = true,(decide (57 < (sAt s_ v1))) = true,true = true]) (by kernel_rfl) (show X.ret ≠ X.go from nofun) (cj h1 (cj (od h2) (cj (od h3) (cj h4 (cj h4 (cj h4 (cj (od h2) (cj (od h3) (cj h4 (cj h4 (cj h7 (cj h7 (cj h7 (cj (od h2) (cj (od h3) (cj h7 (cj h7 (cj h8 (cj h8 (cj h8 (cj h8 (cj h7 (cj h8 (cj h7 (cj1 rfl))))))))))))))))))))))))))) (fun h8 =>
     Pn.ite (fun h9 =>
     Pn.some (LpO.out [.bit true, .bit false, .bit false, .bit false, .bit false, .bit false, .bit true, .bit true, .bit true, .bit true, .bit true, .bit false, .bit false, .bit false, .bit false, .bit true, .bit false, .bit true, .bit true, .wait 1, .mask [2], .ren []] (p := [(decide (v1 < (s_.size : Int))) = true,(0 : Int) ≤ v1,(v1 : Int) < s_.size,(decide ((sAt s_ v1) < 48)) = false,(decide ((sAt s_ v1) < 48)) = false,(decide ((sAt s_ v1) < 48)) = false,(0 : Int) ≤ v1,(v1 : Int) < s_.size,(decide ((sAt s_ v1) < 48)) = false,(decide ((sAt s_ v1) < 48)) = false,(decide (57 < (sAt s_ v1))) = true,(decide (57 < (sAt s_ v1))) = true,(decide (57 < (sAt s_ v1))) = true,(0 : Int) ≤ v1,(v1 : Int) < s_.size,(decide (57 < (sAt s_ v1))) = true,(decide (57 < (sAt s_ v1))) = true,(decide ((sAt s_ v1) < 97)) = false,(decide ((sAt s_ v1) < 97)) = false,(decide ((sAt s_ v1) < 97)) = false,(0 : Int) ≤ v1,(v1 : Int) < s_.size,(decide ((sAt s_ v1) < 97)) = false,(decide (57 < (sAt s_ v1))) = true,(decide ((sAt s_ v1) < 97)) = false,(decide (57 < (sAt s_ v1))) = true,(decide (122 < (sAt s_ v1))) = true]) (by kernel_rfl) (show X.ret ≠ X.go from nofun) (cj h1 (cj (od h2) (cj (od h3) (cj h4 (cj h4 (cj h4 (cj (od h2) (cj (od h3) (cj h4 (cj h4 (cj h7 (cj h7 (cj h7 (cj (od h2) (cj (od h3) (cj h7 (cj h7 (cj h8 (cj h8 (cj h8 (cj (od h2) (cj (od h3) (cj h8 (cj h7 (cj h8 (cj h7 (cj1 h9))))))))))))))))))))))))))))) (fun h9 =>
     LpO.go [.bit true, .bit false, .bit false, .bit false, .bit false, .bit false, .bit true, .bit true, .bit true, .bit true, .bit true, .bit false, .bit false, .bit false, .bit false, .bit true, .bit false, .bit true, .bit false, .wait 2, .mask [0, 5, 6], .ren []] (p := [(decide (v1 < (s_.size : Int))) = true,(0 : Int) ≤ v1,(v1 : Int) < s_.size,(decide ((sAt s_ v1) < 48)) = false,(decide ((sAt s_ v1) < 48)) = false,(decide ((sAt s_ v1) < 48)) = false,(0 : Int) ≤ v1,(v1 : Int) < s_.size,(decide ((sAt s_ v1) < 48)) = false,(decide ((sAt s_ v1) < 48)) = false,(decide (57 < (sAt s_ v1))) = true,(decide (57 < (sAt s_ v1))) = true,(decide (57 < (sAt s_ v1))) = true,(0 : Int) ≤ v1,(v1 : Int) < s_.size,(decide (57 < (sAt s_ v1))) = true,(decide (57 < (sAt s_ v1))) = true,(decide ((sAt s_ v1) < 97)) = false,(decide ((sAt s_ v1) < 97)) = false,(decide ((sAt s_ v1) < 97)) = false,(0 : Int) ≤ v1,(v1 : Int) < s_.size,(decide ((sAt s_ v1) < 97)) = false,(decide (57 < (sAt s_ v1))) = true,(decide ((sAt s_ v1) < 97)) = false,(decide (57 < (sAt s_ v1))) = true,(decide (122 < (sAt s_ v1))) = false]) (by kernel_rfl) (cj h1 (cj (od h2) (cj (od h3) (cj h4 (cj h4 (cj h4 (cj (od h2) (cj (od h3) (cj h4 (cj h4 (cj h7 (cj h7 (cj h7 (cj (od h2) (cj (od h3) (cj h7 (cj h7 (cj h8 (cj h8 (cj h8 (cj (od h2) (cj (od h3) (cj h8 (cj h7 (cj h8 (cj h7 (cj1 h9))))))))))))))))))))))))))) (impl_HoldIdOk_l0_ok s_ fuel (i64 (v1 + 1)))))) (fun h7 =>
     LpO.go [.bit true, .bit false, .bit false, .bit false, .bit false, .bit false, .bit false, .bit false, .bit false, .bit false, .bit false, .bit false, .bit false, .bit false, .wait 2, .mask [0, 5, 6], .ren []] (p := [(decide (v1 < (s_.size : Int))) = true,(0 : Int) ≤ v1,(v1 : Int) < s_.size,(decide ((sAt s_ v1) < 48)) = false,(decide ((sAt s_ v1) < 48)) = false,(decide ((sAt s_ v1) < 48)) = false,(0 : Int) ≤ v1,(v1 : Int) < s_.size,(decide ((sAt s_ v1) < 48)) = false,(decide ((sAt s_ v1) < 48)) = false,(decide (57 < (sAt s_ v1))) = false,(decide (57 < (sAt s_ v1))) = false,(decide (57 < (sAt s_ v1))) = false,(decide (57 < (sAt s_ v1))) = false,(decide (57 < (sAt s_ v1))) = false,(decide (57 < (sAt s_ v1))) = false,(decide (57 < (sAt s_ v1))) = false,false = false]) (by kernel_rfl) (cj h1 (cj (od h2) (cj (od h3) (cj h4 (cj h4 (cj h4 (cj (od h2) (cj (od h3) (cj h4 (cj h4 (cj h7 (cj h7 (cj h7 (cj h7 (cj h7 (cj h7 (cj h7 (cj1 rfl)))))))))))))))))) (impl_HoldIdOk_l0_ok s_ fuel (i64 (v1 + 1)))))) (fun h3 =>
     Pn.none)) (fun h2 =>
     Pn.none)) (fun h1 =>
     Pn.some (LpO.out [.bit false, .mask [0], .ren []] (p := [(decide (v1 < (s_.size : Int))) = false]) (by kernel_rfl) (show X.out 0 ≠ X.go from nofun) (cj1 h1)))
def impl_HoldIdOk (s_ : ByteArray) : Option (Bool) :=
 (impl_HoldIdOk_l0 s_ FUEL 0).bind fun r1 =>
 Lo.elim r1 (fun s1 =>
 (impl_within (s_.size : Int) 1 6).bind fun r2 =>
 some r2) (fun s2 =>
 some false)
theorem impl_HoldIdOk_ok (s_ : ByteArray) : Pn (fun y => Fn Try.prog 28 [(false, E9 s_)] (E4 y) []) (impl_HoldIdOk s_) := by
  unfold impl_HoldIdOk
  exact
   Pn.bind (fun r1 h10 =>
   Pn.lo (fun s1 h11 =>
   Pn.bind (fun r2 h13 =>
   Pn.some (Fn.of [.wait 5, .mask [0, 5, 6], .ren [], .loop (X.out 0) (st 35 [(0, V.sc (.string s_))] [] []), .call [] (E4 r2) []] (p := [Loop Try.prog (sub (codeOf Try.prog 28) [1, 0, 1, 0, 0]) (st 35 [(0, V.sc (.string s_)), (5, vI (s_.size : Int)), (6, vI 0)] [] []) (X.out 0) (st 35 [(0, V.sc (.string s_))] [] []),Fn Try.prog 37 [(false, E3 (s_.size : Int)), (false, E3 1), (false, E3 6)] (E4 r2) [],(true || ((E4 r2).nv && nvL [])) = true]) (by kernel_rfl) (cj ((impl_HoldIdOk_l0_ok s_ FUEL 0 r1 h10).at h11 :) (cj (impl_within_ok (s_.size : Int) 1 6 r2 h13) (cj1 rfl)))))) (fun s2 h12 =>
   Pn.some (Fn.of [.wait 5, .mask [0, 5, 6], .ren [], .loop (X.ret) (st 35 [(2, V.sc (.bool false))] [] [])] (p := [Loop Try.prog (sub (codeOf Try.prog 28) [1, 0, 1, 0, 0]) (st 35 [(0, V.sc (.string s_)), (5, vI (s_.size : Int)), (6, vI 0)] [] []) (X.ret) (st 35 [(2, V.sc (.bool false))] [] [])]) (by kernel_rfl) (cj1 ((impl_HoldIdOk_l0_ok s_ FUEL 0 r1 h10).at h12 :)))))
def impl_isTime (n : Int) : Option (Bool) :=
 (impl_within n 0 1000000000).bind fun r1 =>
 some r1
theorem impl_isTime_ok (n : Int) : Pn (fun y => Fn Try.prog 33 [(false, E3 n)] (E4 y) []) (impl_isTime n) := by
  unfold impl_isTime
  exact
   Pn.bind (fun r1 h1 =>
   Pn.some (Fn.of [.call [] (E4 r1) []] (p := [Fn Try.prog 37 [(false, E3 n), (false, E3 0), (false, E3 1000000000)] (E4 r1) [],(true || ((E4 r1).nv && nvL [])) = true]) (by kernel_rfl) (cj (impl_within_ok n 0 1000000000 r1 h1) (cj1 rfl))))
def impl_HoldOk (h_ : Hold) : Option (Bool) :=
 (impl_HoldIdOk h_.Id).bind fun r1 =>
 if r1 = true then
 (impl_within h_.Amount 1 9007199254740992).bind fun r2 =>
 if r2 = true then
 (impl_isTime h_.Due).bind fun r3 =>
 some r3
 else
 some false
 else
 some false
theorem impl_HoldOk_ok (h_ : Hold) : Pn (fun y => Fn Try.prog 73 [(false, E36 h_)] (E4 y) []) (impl_HoldOk h_) := by
  unfold impl_HoldOk
  exact
   Pn.bind (fun r1 h1 =>
   Pn.ite (fun h2 =>
   Pn.bind (fun r2 h3 =>
   Pn.ite (fun h4 =>
   Pn.bind (fun r3 h5 =>
   Pn.some (Fn.of [.call [] (E4 r1) [], .bit true, .bit true, .bit true, .call [] (E4 r2) [], .bit true, .bit true, .bit true, .bit true, .call [] (E4 r3) [], .bit true] (p := [Fn Try.prog 28 [(false, E9 h_.Id)] (E4 r1) [],(true || ((E4 r1).nv && nvL [])) = true,r1 = true,r1 = true,r1 = true,Fn Try.prog 37 [(false, E3 h_.Amount), (false, E3 1), (false, E3 9007199254740992)] (E4 r2) [],(true || ((E4 r2).nv && nvL [])) = true,r1 = true,r2 = true,r2 = true,r2 = true,Fn Try.prog 33 [(false, E3 h_.Due)] (E4 r3) [],(true || ((E4 r3).nv && nvL [])) = true,r2 = true]) (by kernel_rfl) (cj (impl_HoldIdOk_ok h_.Id r1 h1) (cj rfl (cj h2 (cj h2 (cj h2 (cj (impl_within_ok h_.Amount 1 9007199254740992 r2 h3) (cj rfl (cj h2 (cj h4 (cj h4 (cj h4 (cj (impl_isTime_ok h_.Due r3 h5) (cj rfl (cj1 h4))))))))))))))))) (fun h4 =>
   Pn.some (Fn.of [.call [] (E4 r1) [], .bit true, .bit true, .bit true, .call [] (E4 r2) [], .bit true, .bit false, .bit false, .bit false, .bit false] (p := [Fn Try.prog 28 [(false, E9 h_.Id)] (E4 r1) [],(true || ((E4 r1).nv && nvL [])) = true,r1 = true,r1 = true,r1 = true,Fn Try.prog 37 [(false, E3 h_.Amount), (false, E3 1), (false, E3 9007199254740992)] (E4 r2) [],(true || ((E4 r2).nv && nvL [])) = true,r1 = true,r2 = false,r2 = false,r2 = false,r2 = false]) (by kernel_rfl) (cj (impl_HoldIdOk_ok h_.Id r1 h1) (cj rfl (cj h2 (cj h2 (cj h2 (cj (impl_within_ok h_.Amount 1 9007199254740992 r2 h3) (cj rfl (cj h2 (cj h4 (cj h4 (cj h4 (cj1 h4)))))))))))))))) (fun h2 =>
   Pn.some (Fn.of [.call [] (E4 r1) [], .bit false, .bit false, .bit false, .bit false, .bit false, .bit false, .bit false, .bit false] (p := [Fn Try.prog 28 [(false, E9 h_.Id)] (E4 r1) [],(true || ((E4 r1).nv && nvL [])) = true,r1 = false,r1 = false,r1 = false,r1 = false,false = false,false = false,false = false,false = false]) (by kernel_rfl) (cj (impl_HoldIdOk_ok h_.Id r1 h1) (cj rfl (cj h2 (cj h2 (cj h2 (cj h2 (cj rfl (cj rfl (cj rfl (cj1 rfl)))))))))))))
def impl_HoldsOk_l0 (l : List Hold) : List Hold → List Hold → Option (Lo Unit Unit)
  | [], p1 =>
   some (.out ())
  | x1 :: t1, p1 =>
   (impl_HoldOk x1).bind fun r1 =>
   if r1 = true then
   if (decide (0 < (p1.length : Int))) = true then
   if (decide (0 ≤ (i64 ((p1.length : Int) - 1)))) = true then
   (l[(i64 ((p1.length : Int) - 1)).toNat]?).bind fun x2 =>
   if (Op.bytesLess x1.Id.toList x2.Id.toList || (x1.Id == x2.Id)) = true then
   some (.ret ())
   else
   impl_HoldsOk_l0 l t1 (p1 ++ [x1])
   else none
   else
   impl_HoldsOk_l0 l t1 (p1 ++ [x1])
   else
   some (.ret ())
theorem impl_HoldsOk_l0_ok (l : List Hold) (h2 : capOk l.length = true) : ∀ (t1 p1 : List Hold) (_ : l = p1 ++ t1) , Pn (LpO Try.prog (sub (codeOf Try.prog 39) [1, 0, 1, 0, 0]) (st 34 [(0, V.sl false 36 (List.map E36 l)), (5, V.sl false 36 (List.map E36 l)), (6, vI (l.length : Int)), (7, vI (p1.length : Int))] [] []) (fun (y : Lo Unit Unit) => Lo.elim y (fun s => (X.out 0, st 34 [(0, V.sl false 36 (List.map E36 l))] [] [])) (fun s => (X.ret, st 34 [(2, V.sc (.bool false))] [] [])))) (impl_HoldsOk_l0 l t1 p1)
  | [], p1, h1 => by
    unfold impl_HoldsOk_l0
    exact
     Pn.some (LpO.out [.bit false, .mask [0], .ren []] (p := [(decide ((p1.length : Int) < (l.length : Int))) = false]) (by kernel_rfl) (show X.out 0 ≠ X.go from nofun) (cj1 (rng_end h1)))
  | x1 :: t1, p1, h1 => by
    unfold impl_HoldsOk_l0
    exact
     Pn.bind (fun r1 h3 =>
     Pn.ite (fun h4 =>
     Pn.ite (fun h5 =>
     Pn.ite (fun h6 =>
     Pn.bind (fun x2 h7 =>
     Pn.ite (fun h8 =>
     Pn.some (LpO.out [.bit true, .el (E36 x1), .draw [], .call [] (E4 r1) [], .bit false, .bit false, .bit false, .bit true, .bit true, .bit true, .bit true, .bit true, .bit true, .el (E36 x2), .bit true, .bit true, .bit true, .bit false, .bit true, .bit false, .bit true, .wait 1, .mask [2], .ren []] (p := [(decide ((p1.length : Int) < (l.length : Int))) = true,(0 : Int) ≤ (p1.length : Int),(List.map E36 l)[(p1.length : Int).toNat]? = some (E36 x1),Fn Try.prog 73 [(false, E36 x1)] (E4 r1) [],(true || ((E4 r1).nv && nvL [])) = true,(!r1) = false,(!r1) = false,(!r1) = false,(decide (0 < (p1.length : Int))) = true,(decide (0 < (p1.length : Int))) = true,(decide (0 < (p1.length : Int))) = true,(decide (0 < (p1.length : Int))) = true,(decide (0 < (p1.length : Int))) = true,(decide (0 < (p1.length : Int))) = true,(0 : Int) ≤ (i64 ((p1.length : Int) - 1)),(List.map E36 l)[(i64 ((p1.length : Int) - 1)).toNat]? = some (E36 x2),(decide (0 < (p1.length : Int))) = true,(decide (0 < (p1.length : Int))) = true,(decide (0 < (p1.length : Int))) = true,(!r1) = false,(decide (0 < (p1.length : Int))) = true,(!r1) = false,(Op.bytesLess x1.Id.toList x2.Id.toList || (x1.Id == x2.Id)) = true]) (by kernel_rfl) (show X.ret ≠ X.go from nofun) (cj (rng_lt h1) (cj (by omega) (cj (rng_get _ h1) (cj (impl_HoldOk_ok x1 r1 h3) (cj rfl (cj (nf h4) (cj (nf h4) (cj (nf h4) (cj h5 (cj h5 (cj h5 (cj h5 (cj h5 (cj h5 (cj (od h6) (cj (map_get h7) (cj h5 (cj h5 (cj h5 (cj (nf h4) (cj h5 (cj (nf h4) (cj1 h8))))))))))))))))))))))))) (fun h8 =>
     LpO.go [.bit true, .el (E36 x1), .draw [], .call [] (E4 r1) [], .bit false, .bit false, .bit false, .bit true, .bit true, .bit true, .bit true, .bit true, .bit true, .el (E36 x2), .bit true, .bit true, .bit true, .bit false, .bit true, .bit false, .bit false, .wait 2, .mask [0, 5, 6, 7], .ren [], .nm 7 (vI ((p1 ++ [x1]).length : Int))] (p := [(decide ((p1.length : Int) < (l.length : Int))) = true,(0 : Int) ≤ (p1.length : Int),(List.map E36 l)[(p1.length : Int).toNat]? = some (E36 x1),Fn Try.prog 73 [(false, E36 x1)] (E4 r1) [],(true || ((E4 r1).nv && nvL [])) = true,(!r1) = false,(!r1) = false,(!r1) = false,(decide (0 < (p1.length : Int))) = true,(decide (0 < (p1.length : Int))) = true,(decide (0 < (p1.length : Int))) = true,(decide (0 < (p1.length : Int))) = true,(decide (0 < (p1.length : Int))) = true,(decide (0 < (p1.length : Int))) = true,(0 : Int) ≤ (i64 ((p1.length : Int) - 1)),(List.map E36 l)[(i64 ((p1.length : Int) - 1)).toNat]? = some (E36 x2),(decide (0 < (p1.length : Int))) = true,(decide (0 < (p1.length : Int))) = true,(decide (0 < (p1.length : Int))) = true,(!r1) = false,(decide (0 < (p1.length : Int))) = true,(!r1) = false,(Op.bytesLess x1.Id.toList x2.Id.toList || (x1.Id == x2.Id)) = false,vI (i64 ((p1.length : Int) + 1)) = vI ((p1 ++ [x1]).length : Int)]) (by kernel_rfl) (cj (rng_lt h1) (cj (by omega) (cj (rng_get _ h1) (cj (impl_HoldOk_ok x1 r1 h3) (cj rfl (cj (nf h4) (cj (nf h4) (cj (nf h4) (cj h5 (cj h5 (cj h5 (cj h5 (cj h5 (cj h5 (cj (od h6) (cj (map_get h7) (cj h5 (cj h5 (cj h5 (cj (nf h4) (cj h5 (cj (nf h4) (cj h8 (cj1 (rng_next h1 h2))))))))))))))))))))))))) (impl_HoldsOk_l0_ok l h2 t1 (p1 ++ [x1]) (rng_step h1))))) (fun h6 =>
     Pn.none)) (fun h5 =>
     LpO.go [.bit true, .el (E36 x1), .draw [], .call [] (E4 r1) [], .bit false, .bit false, .bit false, .bit false, .bit false, .bit false, .bit false, .bit false, .bit false, .bit false, .bit false, .bit false, .bit false, .bit false, .bit false, .bit false, .wait 2, .mask [0, 5, 6, 7], .ren [], .nm 7 (vI ((p1 ++ [x1]).length : Int))] (p := [(decide ((p1.length : Int) < (l.length : Int))) = true,(0 : Int) ≤ (p1.length : Int),(List.map E36 l)[(p1.length : Int).toNat]? = some (E36 x1),Fn Try.prog 73 [(false, E36 x1)] (E4 r1) [],(true || ((E4 r1).nv && nvL [])) = true,(!r1) = false,(!r1) = false,(!r1) = false,(decide (0 < (p1.length : Int))) = false,(decide (0 < (p1.length : Int))) = false,(decide (0 < (p1.length : Int))) = false,(decide (0 < (p1.length : Int))) = false,(decide (0 < (p1.length : Int))) = false,(decide (0 < (p1.length : Int))) = false,(decide (0 < (p1.length : Int))) = false,(decide (0 < (p1.length : Int))) = false,(decide (0 < (p1.length : Int))) = false,(!r1) = false,(decide (0 < (p1.length : Int))) = false,(!r1) = false,false = false,vI (i64 ((p1.length : Int) + 1)) = vI ((p1 ++ [x1]).length : Int)]) (by kernel_rfl) (cj (rng_lt h1) (cj (by omega) (cj (rng_get _ h1) (cj (impl_HoldOk_ok x1 r1 h3) (cj rfl (cj (nf h4) (cj (nf h4) (cj (nf h4) (cj h5 (cj h5 (cj h5 (cj h5 (cj h5 (cj h5 (cj h5 (cj h5 (cj h5 (cj (nf h4) (cj h5 (cj (nf h4) (cj rfl (cj1 (rng_next h1 h2))))))))))))))))))))))) (impl_HoldsOk_l0_ok l h2 t1 (p1 ++ [x1]) (rng_step h1)))) (fun h4 =>
     Pn.some (LpO.out [.bit true, .el (E36 x1), .draw [], .call [] (E4 r1) [], .bit true, .bit true, .bit true, .bit true, .bit true, .bit true, .wait 1, .mask [2], .ren []] (p := [(decide ((p1.length : Int) < (l.length : Int))) = true,(0 : Int) ≤ (p1.length : Int),(List.map E36 l)[(p1.length : Int).toNat]? = some (E36 x1),Fn Try.prog 73 [(false, E36 x1)] (E4 r1) [],(true || ((E4 r1).nv && nvL [])) = true,(!r1) = true,(!r1) = true,(!r1) = true,(!r1) = true,(!r1) = true,true = true]) (by kernel_rfl) (show X.ret ≠ X.go from nofun) (cj (rng_lt h1) (cj (by omega) (cj (rng_get _ h1) (cj (impl_HoldOk_ok x1 r1 h3) (cj rfl (cj (nt h4) (cj (nt h4) (cj (nt h4) (cj (nt h4) (cj (nt h4) (cj1 rfl))))))))))))))
def impl_HoldsOk (l : List Hold) : Option (Bool) :=
 if (capOk l.length) = true then
 (impl_HoldsOk_l0 l l []).bind fun r2 =>
 Lo.elim r2 (fun s1 =>
 some (decide ((l.length : Int) ≤ 4))) (fun s2 =>
 some false)
 else none
theorem impl_HoldsOk_ok (l : List Hold) : Pn (fun y => Fn Try.prog 39 [(false, E23 l)] (E4 y) []) (impl_HoldsOk l) := by
  unfold impl_HoldsOk
  exact
   Pn.ite (fun h9 =>
   Pn.bind (fun r2 h10 =>
   Pn.lo (fun s1 h11 =>
   Pn.some (Fn.of [.wait 3, .nm 6 (vI (l.length : Int)), .wait 2, .mask [0, 5, 6, 7], .ren [], .loop (X.out 0) (st 34 [(0, V.sl false 36 (List.map E36 l))] [] []), .wait 2, .nm 32 (vI (l.length : Int))] (p := [vI ((List.map E36 l).length : Int) = vI (l.length : Int),Loop Try.prog (sub (codeOf Try.prog 39) [1, 0, 1, 0, 0]) (st 34 [(0, V.sl false 36 (List.map E36 l)), (5, V.sl false 36 (List.map E36 l)), (6, vI (l.length : Int)), (7, vI 0)] [] []) (X.out 0) (st 34 [(0, V.sl false 36 (List.map E36 l))] [] []),vI ((List.map E36 l).length : Int) = vI (l.length : Int)]) (by kernel_rfl) (cj (len_nm _ _) (cj ((impl_HoldsOk_l0_ok l h9 l [] rfl r2 h10).at h11 :) (cj1 (len_nm _ _)))))) (fun s2 h12 =>
   Pn.some (Fn.of [.wait 3, .nm 6 (vI (l.length : Int)), .wait 2, .mask [0, 5, 6, 7], .ren [], .loop (X.ret) (st 34 [(2, V.sc (.bool false))] [] [])] (p := [vI ((List.map E36 l).length : Int) = vI (l.length : Int),Loop Try.prog (sub (codeOf Try.prog 39) [1, 0, 1, 0, 0]) (st 34 [(0, V.sl false 36 (List.map E36 l)), (5, V.sl false 36 (List.map E36 l)), (6, vI (l.length : Int)), (7, vI 0)] [] []) (X.ret) (st 34 [(2, V.sc (.bool false))] [] [])]) (by kernel_rfl) (cj (len_nm _ _) (cj1 ((impl_HoldsOk_l0_ok l h9 l [] rfl r2 h10).at h12 :))))))) (fun h9 =>
   Pn.none)
def slices_Grow_int_nil (n : Int) : Option ((List Int)) :=
 if (decide (n < 0)) = true then none else
 if (decide (0 < (i64 (n - 0)))) = true then
 if (capOk (i64 (n - 0)).toNat) = true then
 some []
 else none
 else
 some []
theorem slices_Grow_int_nil_ok (n : Int) : Pn (fun y => Fn Try.prog 97 [(false, V.nl 3), (false, E3 n)] (E24 y) []) (slices_Grow_int_nil n) := by
  unfold slices_Grow_int_nil
  exact
   Pn.ite (fun h1 =>
   Pn.none) (fun h1 =>
   Pn.ite (fun h2 =>
   Pn.ite (fun h3 =>
   Pn.some (Fn.of [.bit false, .bit true, .wait 5, .nb 0 (.row 3 (List.map E3 (List.replicate ((i64 (n - 0)).toNat) 0)) [])] (p := [(decide (n < 0)) = false,(decide (0 < (i64 (n - 0)))) = true,(0 : Int) ≤ 0,(0 : Int) ≤ 0,(0 : Int) ≤ 0,(0 : Int) < (i64 (n - 0)),((i64 (n - 0)) : Int) ≤ 9223372036854775807,(i64 (n - 0)).toNat * 8 ≤ 140737488355328,Blk.row 3 (List.replicate ((i64 (n - 0)).toNat) (vI 0)) [] = Blk.row 3 (List.map E3 (List.replicate ((i64 (n - 0)).toNat) 0)) [],(0 : Int) ≤ 0,(0 : Int) ≤ 0,(0 : Int) ≤ ((List.map E3 (List.replicate ((i64 (n - 0)).toNat) 0)).length : Int)]) (by kernel_rfl) (cj h1 (cj h2 (cj (by decide) (cj (by decide) (cj (by decide) (cj (od h2) (cj (cap5 h2 h3) (cj (cap2 h3 (by decide)) (cj (nb_rep E3 _ 0) (cj (by decide) (cj (by decide) (cj1 (by rw [List.length_map]; exact (by omega)))))))))))))))) (fun h3 =>
   Pn.none)) (fun h2 =>
   Pn.some (Fn.of [.bit false, .bit false] (p := [(decide (n < 0)) = false,(decide (0 < (i64 (n - 0)))) = false]) (by kernel_rfl) (cj h1 (cj1 h2)))))
def slices_Concat_int_l0 (slices : List (List Int)) : List (List Int) → Int → Option (Int)
  | [], v1 =>
   some v1
  | x1 :: t1, v1 =>
   if (decide ((i64 (v1 + (x1.length : Int))) < 0)) = true then none else
   slices_Concat_int_l0 slices t1 (i64 (v1 + (x1.length : Int)))
theorem slices_Concat_int_l0_ok (slices : List (List Int)) (h2 : capOk slices.length = true) : ∀ (t1 p1 : List (List Int)) (_ : slices = p1 ++ t1) (v1 : Int), Pn (LpO Try.prog (sub (codeOf Try.prog 74) [1, 1, 0, 1, 0, 0]) (st 36 [(0, V.sl false 24 (List.map E24 slices)), (3, vI v1), (9, V.sl false 24 (List.map E24 slices)), (10, vI (slices.length : Int)), (11, vI (p1.length : Int))] [] []) (fun (y : Int) => (X.out 0, st 36 [(0, V.sl false 24 (List.map E24 slices)), (3, vI y)] [] []))) (slices_Concat_int_l0 slices t1 v1)
  | [], p1, h1, v1 => by
    unfold slices_Concat_int_l0
    exact
     Pn.some (LpO.out [.bit false, .mask [0, 3], .ren []] (p := [(decide ((p1.length : Int) < (slices.length : Int))) = false]) (by kernel_rfl) (show X.out 0 ≠ X.go from nofun) (cj1 (rng_end h1)))
  | x1 :: t1, p1, h1, v1 => by
    unfold slices_Concat_int_l0
    exact
     Pn.ite (fun h3 =>
     Pn.none) (fun h3 =>
     LpO.go [.bit true, .el (E24 x1), .wait 5, .nm 17 (vI (x1.length : Int)), .bit false, .wait 2, .mask [0, 3, 9, 10, 11], .ren [], .nm 11 (vI ((p1 ++ [x1]).length : Int))] (p := [(decide ((p1.length : Int) < (slices.length : Int))) = true,(0 : Int) ≤ (p1.length : Int),(List.map E24 slices)[(p1.length : Int).toNat]? = some (E24 x1),vI ((List.map E3 x1).length : Int) = vI (x1.length : Int),(decide ((i64 (v1 + (x1.length : Int))) < 0)) = false,vI (i64 ((p1.length : Int) + 1)) = vI ((p1 ++ [x1]).length : Int)]) (by kernel_rfl) (cj (rng_lt h1) (cj (by omega) (cj (rng_get _ h1) (cj (len_nm _ _) (cj h3 (cj1 (rng_next h1 h2))))))) (slices_Concat_int_l0_ok slices h2 t1 (p1 ++ [x1]) (rng_step h1) (i64 (v1 + (x1.length : Int)))))
def slices_Concat_int_l1 (slices : List (List Int)) : List (List Int) → (List Int) → Option ((List Int))
  | [], v2 =>
   some v2
  | x2 :: t2, v2 =>
   if (capOk (v2.length + x2.length)) = true then
   slices_Concat_int_l1 slices t2 (v2 ++ x2)
   else none
theorem slices_Concat_int_l1_ok (slices : List (List Int)) (h8 : capOk slices.length = true) : ∀ (t2 p2 : List (List Int)) (_ : slices = p2 ++ t2) (v2 : List Int), Pn (LpO Try.prog (sub (codeOf Try.prog 74) [1, 1, 1, 1, 0, 1, 0, 0]) (st 36 [(6, V.ow 0), (25, V.sl false 24 (List.map E24 slices)), (26, vI (slices.length : Int)), (27, vI (p2.length : Int))] [Blk.row 3 (List.map E3 v2) []] []) (fun (y : (List Int)) => (X.out 2, st 36 [(6, V.ow 0)] [Blk.row 3 (List.map E3 y) []] []))) (slices_Concat_int_l1 slices t2 v2)
  | [], p2, h7, v2 => by
    unfold slices_Concat_int_l1
    exact
     Pn.some (LpO.out [.bit false, .mask [6], .ren [0]] (p := [(decide ((p2.length : Int) < (slices.length : Int))) = false]) (by kernel_rfl) (show X.out 2 ≠ X.go from nofun) (cj1 (rng_end h7)))
  | x2 :: t2, p2, h7, v2 => by
    unfold slices_Concat_int_l1
    exact
     Pn.ite (fun h9 =>
     LpO.go [.bit true, .el (E24 x2), .cp (List.map E3 x2), .nb 1 (.row 3 (List.map E3 (v2 ++ x2)) []), .wait 4, .mask [6, 25, 26, 27], .ren [1], .nm 27 (vI ((p2 ++ [x2]).length : Int))] (p := [(decide ((p2.length : Int) < (slices.length : Int))) = true,(0 : Int) ≤ (p2.length : Int),(List.map E24 slices)[(p2.length : Int).toNat]? = some (E24 x2),(List.map E3 x2).map V.vw = (List.map E3 x2),(List.map E3 v2).length + (List.map E3 x2).length ≤ 9223372036854775807,((List.map E3 v2).length + (List.map E3 x2).length) * 8 ≤ 140737488355328,Blk.row 3 ((List.map E3 v2) ++ (List.map E3 x2)) [] = Blk.row 3 (List.map E3 (v2 ++ x2)) [],vI (i64 ((p2.length : Int) + 1)) = vI ((p2 ++ [x2]).length : Int)]) (by kernel_rfl) (cj (rng_lt h7) (cj (by omega) (cj (rng_get _ h7) (cj (vw_id (fun _ => rfl) _) (cj (cap1 (capN (by simp) h9)) (cj (cap2 (capN (by simp) h9) (by decide)) (cj (nb_app E3 v2 x2) (cj1 (rng_next h7 h8))))))))) (slices_Concat_int_l1_ok slices h8 t2 (p2 ++ [x2]) (rng_step h7) (v2 ++ x2))) (fun h9 =>
     Pn.none)
def slices_Concat_int (slices : List (List Int)) : Option ((List Int)) :=
 if (capOk slices.length) = true then
 (slices_Concat_int_l0 slices slices 0).bind fun r1 =>
 (slices_Grow_int_nil r1).bind fun r2 =>
 (slices_Concat_int_l1 slices slices r2).bind fun r3 =>
 some r3
 else none
theorem slices_Concat_int_ok (slices : List (List Int)) : Pn (fun y => Fn Try.prog 74 [(false, E112 slices)] (E24 y) []) (slices_Concat_int slices) := by
  unfold slices_Concat_int
  exact
   Pn.ite (fun h4 =>
   Pn.bind (fun r1 h5 =>
   Pn.bind (fun r2 h6 =>
   Pn.bind (fun r3 h10 =>
   Pn.some (Fn.of [.wait 4, .nm 10 (vI (slices.length : Int)), .wait 2, .mask [0, 3, 9, 10, 11], .ren [], .loop (X.out 0) (st 36 [(0, V.sl false 24 (List.map E24 slices)), (3, vI r1)] [] []), .call [] (E24 r2) [], .wait 3, .nm 26 (vI (slices.length : Int)), .wait 2, .mask [6, 25, 26, 27], .ren [0], .loop (X.out 2) (st 36 [(6, V.ow 0)] [Blk.row 3 (List.map E3 r3) []] [])] (p := [vI ((List.map E24 slices).length : Int) = vI (slices.length : Int),Loop Try.prog (sub (codeOf Try.prog 74) [1, 1, 0, 1, 0, 0]) (st 36 [(0, V.sl false 24 (List.map E24 slices)), (3, vI 0), (9, V.sl false 24 (List.map E24 slices)), (10, vI (slices.length : Int)), (11, vI 0)] [] []) (X.out 0) (st 36 [(0, V.sl false 24 (List.map E24 slices)), (3, vI r1)] [] []),Fn Try.prog 97 [(false, V.nl 3), (false, E3 r1)] (E24 r2) [],(true || ((E24 r2).nv && nvL [])) = true,vI ((List.map E24 slices).length : Int) = vI (slices.length : Int),Loop Try.prog (sub (codeOf Try.prog 74) [1, 1, 1, 1, 0, 1, 0, 0]) (st 36 [(6, V.ow 0), (25, V.sl false 24 (List.map E24 slices)), (26, vI (slices.length : Int)), (27, vI 0)] [Blk.row 3 (List.map E3 r2) []] []) (X.out 2) (st 36 [(6, V.ow 0)] [Blk.row 3 (List.map E3 r3) []] [])]) (by kernel_rfl) (cj (len_nm _ _) (cj (slices_Concat_int_l0_ok slices h4 slices [] rfl 0 r1 h5) (cj (slices_Grow_int_nil_ok r1 r2 h6) (cj rfl (cj (len_nm _ _) (cj1 (slices_Concat_int_l1_ok slices h4 slices [] rfl r2 r3 h10)))))))))))) (fun h4 =>
   Pn.none)
def impl_RingOk_l0 (r_ : Ring) (r1 : (List Int)) : List Int → Option (Lo Unit Unit)
  | [] =>
   some (.out ())
  | x1 :: t1 =>
   (impl_isMoney x1).bind fun r2 =>
   if r2 = true then
   impl_RingOk_l0 r_ r1 t1
   else
   some (.ret ())
theorem impl_RingOk_l0_ok (r_ : Ring) (r1 : (List Int)) (h3 : capOk r1.length = true) : ∀ (t1 p1 : List Int) (_ : r1 = p1 ++ t1) , Pn (LpO Try.prog (sub (codeOf Try.prog 40) [1, 1, 0, 1, 0, 0]) (st 43 [(1, V.ptr 0 0), (3, vI (r_.Counts.length : Int)), (14, V.ow 1), (15, vI (r1.length : Int)), (16, vI (p1.length : Int))] [Blk.box 26 [vI r_.Span, vI r_.Head, V.sl false 3 (List.map E3 r_.Counts), V.sl false 3 (List.map E3 r_.Sums)], Blk.row 3 (List.map E3 r1) []] []) (fun (y : Lo Unit Unit) => Lo.elim y (fun s => (X.out 0, st 43 [(1, V.ptr 0 0), (3, vI (r_.Counts.length : Int))] [Blk.box 26 [vI r_.Span, vI r_.Head, V.sl false 3 (List.map E3 r_.Counts), V.sl false 3 (List.map E3 r_.Sums)]] [])) (fun s => (X.ret, st 43 [(2, V.sc (.bool false))] [] [])))) (impl_RingOk_l0 r_ r1 t1)
  | [], p1, h2 => by
    unfold impl_RingOk_l0
    exact
     Pn.some (LpO.out [.bit false, .mask [1, 3], .ren [0]] (p := [(decide ((p1.length : Int) < (r1.length : Int))) = false]) (by kernel_rfl) (show X.out 0 ≠ X.go from nofun) (cj1 (rng_end h2)))
  | x1 :: t1, p1, h2 => by
    unfold impl_RingOk_l0
    exact
     Pn.bind (fun r2 h4 =>
     Pn.ite (fun h5 =>
     LpO.go [.bit true, .el (E3 x1), .call [] (E4 r2) [], .bit false, .wait 2, .mask [1, 3, 14, 15, 16], .ren [0, 1], .nm 16 (vI ((p1 ++ [x1]).length : Int))] (p := [(decide ((p1.length : Int) < (r1.length : Int))) = true,(0 : Int) ≤ (p1.length : Int),((p1.length : Int) : Int) < ((List.map E3 r1).length : Int),look [] ((p1.length : Int).toNat) = none,(List.map E3 r1)[(p1.length : Int).toNat]? = some (E3 x1),Fn Try.prog 38 [(false, E3 x1)] (E4 r2) [],(true || ((E4 r2).nv && nvL [])) = true,(!r2) = false,vI (i64 ((p1.length : Int) + 1)) = vI ((p1 ++ [x1]).length : Int)]) (by kernel_rfl) (cj (rng_lt h2) (cj (by omega) (cj (rng_ltI _ h2) (cj rfl (cj (rng_get _ h2) (cj (impl_isMoney_ok x1 r2 h4) (cj rfl (cj (nf h5) (cj1 (rng_next h2 h3)))))))))) (impl_RingOk_l0_ok r_ r1 h3 t1 (p1 ++ [x1]) (rng_step h2))) (fun h5 =>
     Pn.some (LpO.out [.bit true, .el (E3 x1), .call [] (E4 r2) [], .bit true, .wait 1, .mask [2], .ren []] (p := [(decide ((p1.length : Int) < (r1.length : Int))) = true,(0 : Int) ≤ (p1.length : Int),((p1.length : Int) : Int) < ((List.map E3 r1).length : Int),look [] ((p1.length : Int).toNat) = none,(List.map E3 r1)[(p1.length : Int).toNat]? = some (E3 x1),Fn Try.prog 38 [(false, E3 x1)] (E4 r2) [],(true || ((E4 r2).nv && nvL [])) = true,(!r2) = true]) (by kernel_rfl) (show X.ret ≠ X.go from nofun) (cj (rng_lt h2) (cj (by omega) (cj (rng_ltI _ h2) (cj rfl (cj (rng_get _ h2) (cj (impl_isMoney_ok x1 r2 h4) (cj rfl (cj1 (nt h5))))))))))))
def impl_RingOk (r_ : Ring) : Option (Bool) :=
 (slices_Concat_int [r_.Counts, r_.Sums]).bind fun r1 =>
 if (capOk r1.length) = true then
 (impl_RingOk_l0 r_ r1 r1).bind fun r3 =>
 Lo.elim r3 (fun s1 =>
 (impl_within r_.Span 1 1000).bind fun r4 =>
 if r4 = true then
 (impl_within (r_.Counts.length : Int) 1 8).bind fun r5 =>
 if r5 = true then
 if ((r_.Sums.length : Int) == (r_.Counts.length : Int)) = true then
 (impl_isTime r_.Head).bind fun r6 =>
 some r6
 else
 some false
 else
 some false
 else
 some false) (fun s2 =>
 some false)
 else none
theorem impl_RingOk_ok (r_ : Ring) : Pn (fun y => Fn Try.prog 40 [(false, E26 r_)] (E4 y) []) (impl_RingOk r_) := by
  unfold impl_RingOk
  exact
   Pn.bind (fun r1 h1 =>
   Pn.ite (fun h6 =>
   Pn.bind (fun r3 h7 =>
   Pn.lo (fun s1 h8 =>
   Pn.bind (fun r4 h10 =>
   Pn.ite (fun h11 =>
   Pn.bind (fun r5 h12 =>
   Pn.ite (fun h13 =>
   Pn.ite (fun h14 =>
   Pn.bind (fun r6 h15 =>
   Pn.some (Fn.of [.wait 5, .nm 8 (vI (r_.Counts.length : Int)), .call [] (E24 r1) [], .wait 1, .nm 15 (vI (r1.length : Int)), .wait 2, .mask [1, 3, 14, 15, 16], .ren [0, 2], .loop (X.out 0) (st 43 [(1, V.ptr 0 0), (3, vI (r_.Counts.length : Int))] [Blk.box 26 [vI r_.Span, vI r_.Head, V.sl false 3 (List.map E3 r_.Counts), V.sl false 3 (List.map E3 r_.Sums)]] []), .call [] (E4 r4) [], .bit true, .bit true, .call [] (E4 r5) [], .bit true, .bit true, .bit true, .bit true, .nm 34 (vI (r_.Sums.length : Int)), .bit true, .bit true, .bit true, .bit true, .bit true, .bit true, .call [] (E4 r6) [], .bit true] (p := [vI ((List.map E3 r_.Counts).length : Int) = vI (r_.Counts.length : Int),Fn Try.prog 74 [(false, V.sl true 24 [V.sl false 3 (List.map E3 r_.Counts), V.sl false 3 (List.map E3 r_.Sums)])] (E24 r1) [],(false || ((E24 r1).nv && nvL [])) = true,vI ((List.map E3 r1).length : Int) = vI (r1.length : Int),Loop Try.prog (sub (codeOf Try.prog 40) [1, 1, 0, 1, 0, 0]) (st 43 [(1, V.ptr 0 0), (3, vI (r_.Counts.length : Int)), (14, V.ow 1), (15, vI (r1.length : Int)), (16, vI 0)] [Blk.box 26 [vI r_.Span, vI r_.Head, V.sl false 3 (List.map E3 r_.Counts), V.sl false 3 (List.map E3 r_.Sums)], Blk.row 3 (List.map E3 r1) []] []) (X.out 0) (st 43 [(1, V.ptr 0 0), (3, vI (r_.Counts.length : Int))] [Blk.box 26 [vI r_.Span, vI r_.Head, V.sl false 3 (List.map E3 r_.Counts), V.sl false 3 (List.map E3 r_.Sums)]] []),Fn Try.prog 37 [(false, E3 r_.Span), (false, E3 1), (false, E3 1000)] (E4 r4) [],(true || ((E4 r4).nv && nvL [])) = true,r4 = true,r4 = true,Fn Try.prog 37 [(false, E3 (r_.Counts.length : Int)), (false, E3 1), (false, E3 8)] (E4 r5) [],(true || ((E4 r5).nv && nvL [])) = true,r4 = true,r5 = true,r5 = true,r5 = true,vI ((List.map E3 r_.Sums).length : Int) = vI (r_.Sums.length : Int),r5 = true,r5 = true,r5 = true,((r_.Sums.length : Int) == (r_.Counts.length : Int)) = true,((r_.Sums.length : Int) == (r_.Counts.length : Int)) = true,((r_.Sums.length : Int) == (r_.Counts.length : Int)) = true,Fn Try.prog 33 [(false, E3 r_.Head)] (E4 r6) [],(true || ((E4 r6).nv && nvL [])) = true,((r_.Sums.length : Int) == (r_.Counts.length : Int)) = true]) (by kernel_rfl) (cj (len_nm _ _) (cj (Fn.flag 0 (by kernel_rfl) (slices_Concat_int_ok [r_.Counts, r_.Sums] r1 h1)) (cj (by simp [V.nv, nvL, nvL_all, nv_E3, nv_E24]) (cj (len_nm _ _) (cj ((impl_RingOk_l0_ok r_ r1 h6 r1 [] rfl r3 h7).at h8 :) (cj (impl_within_ok r_.Span 1 1000 r4 h10) (cj rfl (cj h11 (cj h11 (cj (impl_within_ok (r_.Counts.length : Int) 1 8 r5 h12) (cj rfl (cj h11 (cj h13 (cj h13 (cj h13 (cj (len_nm _ _) (cj h13 (cj h13 (cj h13 (cj h14 (cj h14 (cj h14 (cj (impl_isTime_ok r_.Head r6 h15) (cj rfl (cj1 h14)))))))))))))))))))))))))))) (fun h14 =>
   Pn.some (Fn.of [.wait 5, .nm 8 (vI (r_.Counts.length : Int)), .call [] (E24 r1) [], .wait 1, .nm 15 (vI (r1.length : Int)), .wait 2, .mask [1, 3, 14, 15, 16], .ren [0, 2], .loop (X.out 0) (st 43 [(1, V.ptr 0 0), (3, vI (r_.Counts.length : Int))] [Blk.box 26 [vI r_.Span, vI r_.Head, V.sl false 3 (List.map E3 r_.Counts), V.sl false 3 (List.map E3 r_.Sums)]] []), .call [] (E4 r4) [], .bit true, .bit true, .call [] (E4 r5) [], .bit true, .bit true, .bit true, .bit true, .nm 34 (vI (r_.Sums.length : Int)), .bit true, .bit true, .bit true, .bit false, .bit false, .bit false, .bit false] (p := [vI ((List.map E3 r_.Counts).length : Int) = vI (r_.Counts.length : Int),Fn Try.prog 74 [(false, V.sl true 24 [V.sl false 3 (List.map E3 r_.Counts), V.sl false 3 (List.map E3 r_.Sums)])] (E24 r1) [],(false || ((E24 r1).nv && nvL [])) = true,vI ((List.map E3 r1).length : Int) = vI (r1.length : Int),Loop Try.prog (sub (codeOf Try.prog 40) [1, 1, 0, 1, 0, 0]) (st 43 [(1, V.ptr 0 0), (3, vI (r_.Counts.length : Int)), (14, V.ow 1), (15, vI (r1.length : Int)), (16, vI 0)] [Blk.box 26 [vI r_.Span, vI r_.Head, V.sl false 3 (List.map E3 r_.Counts), V.sl false 3 (List.map E3 r_.Sums)], Blk.row 3 (List.map E3 r1) []] []) (X.out 0) (st 43 [(1, V.ptr 0 0), (3, vI (r_.Counts.length : Int))] [Blk.box 26 [vI r_.Span, vI r_.Head, V.sl false 3 (List.map E3 r_.Counts), V.sl false 3 (List.map E3 r_.Sums)]] []),Fn Try.prog 37 [(false, E3 r_.Span), (false, E3 1), (false, E3 1000)] (E4 r4) [],(true || ((E4 r4).nv && nvL [])) = true,r4 = true,r4 = true,Fn Try.prog 37 [(false, E3 (r_.Counts.length : Int)), (false, E3 1), (false, E3 8)] (E4 r5) [],(true || ((E4 r5).nv && nvL [])) = true,r4 = true,r5 = true,r5 = true,r5 = true,vI ((List.map E3 r_.Sums).length : Int) = vI (r_.Sums.length : Int),r5 = true,r5 = true,r5 = true,((r_.Sums.length : Int) == (r_.Counts.length : Int)) = false,((r_.Sums.length : Int) == (r_.Counts.length : Int)) = false,((r_.Sums.length : Int) == (r_.Counts.length : Int)) = false,((r_.Sums.length : Int) == (r_.Counts.length : Int)) = false]) (by kernel_rfl) (cj (len_nm _ _) (cj (Fn.flag 0 (by kernel_rfl) (slices_Concat_int_ok [r_.Counts, r_.Sums] r1 h1)) (cj (by simp [V.nv, nvL, nvL_all, nv_E3, nv_E24]) (cj (len_nm _ _) (cj ((impl_RingOk_l0_ok r_ r1 h6 r1 [] rfl r3 h7).at h8 :) (cj (impl_within_ok r_.Span 1 1000 r4 h10) (cj rfl (cj h11 (cj h11 (cj (impl_within_ok (r_.Counts.length : Int) 1 8 r5 h12) (cj rfl (cj h11 (cj h13 (cj h13 (cj h13 (cj (len_nm _ _) (cj h13 (cj h13 (cj h13 (cj h14 (cj h14 (cj h14 (cj1 h14)))))))))))))))))))))))))) (fun h13 =>
   Pn.some (Fn.of [.wait 5, .nm 8 (vI (r_.Counts.length : Int)), .call [] (E24 r1) [], .wait 1, .nm 15 (vI (r1.length : Int)), .wait 2, .mask [1, 3, 14, 15, 16], .ren [0, 2], .loop (X.out 0) (st 43 [(1, V.ptr 0 0), (3, vI (r_.Counts.length : Int))] [Blk.box 26 [vI r_.Span, vI r_.Head, V.sl false 3 (List.map E3 r_.Counts), V.sl false 3 (List.map E3 r_.Sums)]] []), .call [] (E4 r4) [], .bit true, .bit true, .call [] (E4 r5) [], .bit true, .bit false, .bit false, .bit false, .bit false, .bit false, .bit false, .bit false, .bit false, .bit false, .bit false] (p := [vI ((List.map E3 r_.Counts).length : Int) = vI (r_.Counts.length : Int),Fn Try.prog 74 [(false, V.sl true 24 [V.sl false 3 (List.map E3 r_.Counts), V.sl false 3 (List.map E3 r_.Sums)])] (E24 r1) [],(false || ((E24 r1).nv && nvL [])) = true,vI ((List.map E3 r1).length : Int) = vI (r1.length : Int),Loop Try.prog (sub (codeOf Try.prog 40) [1, 1, 0, 1, 0, 0]) (st 43 [(1, V.ptr 0 0), (3, vI (r_.Counts.length : Int)), (14, V.ow 1), (15, vI (r1.length : Int)), (16, vI 0)] [Blk.box 26 [vI r_.Span, vI r_.Head, V.sl false 3 (List.map E3 r_.Counts), V.sl false 3 (List.map E3 r_.Sums)], Blk.row 3 (List.map E3 r1) []] []) (X.out 0) (st 43 [(1, V.ptr 0 0), (3, vI (r_.Counts.length : Int))] [Blk.box 26 [vI r_.Span, vI r_.Head, V.sl false 3 (List.map E3 r_.Counts), V.sl false 3 (List.map E3 r_.Sums)]] []),Fn Try.prog 37 [(false, E3 r_.Span), (false, E3 1), (false, E3 1000)] (E4 r4) [],(true || ((E4 r4).nv && nvL [])) = true,r4 = true,r4 = true,Fn Try.prog 37 [(false, E3 (r_.Counts.length : Int)), (false, E3 1), (false, E3 8)] (E4 r5) [],(true || ((E4 r5).nv && nvL [])) = true,r4 = true,r5 = false,r5 = false,r5 = false,r5 = false,r5 = false,r5 = false,false = false,false = false,false = false,false = false]) (by kernel_rfl) (cj (len_nm _ _) (cj (Fn.flag 0 (by kernel_rfl) (slices_Concat_int_ok [r_.Counts, r_.Sums] r1 h1)) (cj (by simp [V.nv, nvL, nvL_all, nv_E3, nv_E24]) (cj (len_nm _ _) (cj ((impl_RingOk_l0_ok r_ r1 h6 r1 [] rfl r3 h7).at h8 :) (cj (impl_within_ok r_.Span 1 1000 r4 h10) (cj rfl (cj h11 (cj h11 (cj (impl_within_ok (r_.Counts.length : Int) 1 8 r5 h12) (cj rfl (cj h11 (cj h13 (cj h13 (cj h13 (cj h13 (cj h13 (cj h13 (cj rfl (cj rfl (cj rfl (cj1 rfl)))))))))))))))))))))))))) (fun h11 =>
   Pn.some (Fn.of [.wait 5, .nm 8 (vI (r_.Counts.length : Int)), .call [] (E24 r1) [], .wait 1, .nm 15 (vI (r1.length : Int)), .wait 2, .mask [1, 3, 14, 15, 16], .ren [0, 2], .loop (X.out 0) (st 43 [(1, V.ptr 0 0), (3, vI (r_.Counts.length : Int))] [Blk.box 26 [vI r_.Span, vI r_.Head, V.sl false 3 (List.map E3 r_.Counts), V.sl false 3 (List.map E3 r_.Sums)]] []), .call [] (E4 r4) [], .bit false, .bit false, .bit false, .bit false, .bit false, .bit false, .bit false, .bit false, .bit false, .bit false, .bit false, .bit false, .bit false] (p := [vI ((List.map E3 r_.Counts).length : Int) = vI (r_.Counts.length : Int),Fn Try.prog 74 [(false, V.sl true 24 [V.sl false 3 (List.map E3 r_.Counts), V.sl false 3 (List.map E3 r_.Sums)])] (E24 r1) [],(false || ((E24 r1).nv && nvL [])) = true,vI ((List.map E3 r1).length : Int) = vI (r1.length : Int),Loop Try.prog (sub (codeOf Try.prog 40) [1, 1, 0, 1, 0, 0]) (st 43 [(1, V.ptr 0 0), (3, vI (r_.Counts.length : Int)), (14, V.ow 1), (15, vI (r1.length : Int)), (16, vI 0)] [Blk.box 26 [vI r_.Span, vI r_.Head, V.sl false 3 (List.map E3 r_.Counts), V.sl false 3 (List.map E3 r_.Sums)], Blk.row 3 (List.map E3 r1) []] []) (X.out 0) (st 43 [(1, V.ptr 0 0), (3, vI (r_.Counts.length : Int))] [Blk.box 26 [vI r_.Span, vI r_.Head, V.sl false 3 (List.map E3 r_.Counts), V.sl false 3 (List.map E3 r_.Sums)]] []),Fn Try.prog 37 [(false, E3 r_.Span), (false, E3 1), (false, E3 1000)] (E4 r4) [],(true || ((E4 r4).nv && nvL [])) = true,r4 = false,r4 = false,r4 = false,false = false,false = false,false = false,false = false,false = false,false = false,false = false,false = false,false = false,false = false]) (by kernel_rfl) (cj (len_nm _ _) (cj (Fn.flag 0 (by kernel_rfl) (slices_Concat_int_ok [r_.Counts, r_.Sums] r1 h1)) (cj (by simp [V.nv, nvL, nvL_all, nv_E3, nv_E24]) (cj (len_nm _ _) (cj ((impl_RingOk_l0_ok r_ r1 h6 r1 [] rfl r3 h7).at h8 :) (cj (impl_within_ok r_.Span 1 1000 r4 h10) (cj rfl (cj h11 (cj h11 (cj h11 (cj rfl (cj rfl (cj rfl (cj rfl (cj rfl (cj rfl (cj rfl (cj rfl (cj rfl (cj1 rfl)))))))))))))))))))))))) (fun s2 h9 =>
   Pn.some (Fn.of [.wait 5, .nm 8 (vI (r_.Counts.length : Int)), .call [] (E24 r1) [], .wait 1, .nm 15 (vI (r1.length : Int)), .wait 2, .mask [1, 3, 14, 15, 16], .ren [0, 2], .loop (X.ret) (st 43 [(2, V.sc (.bool false))] [] [])] (p := [vI ((List.map E3 r_.Counts).length : Int) = vI (r_.Counts.length : Int),Fn Try.prog 74 [(false, V.sl true 24 [V.sl false 3 (List.map E3 r_.Counts), V.sl false 3 (List.map E3 r_.Sums)])] (E24 r1) [],(false || ((E24 r1).nv && nvL [])) = true,vI ((List.map E3 r1).length : Int) = vI (r1.length : Int),Loop Try.prog (sub (codeOf Try.prog 40) [1, 1, 0, 1, 0, 0]) (st 43 [(1, V.ptr 0 0), (3, vI (r_.Counts.length : Int)), (14, V.ow 1), (15, vI (r1.length : Int)), (16, vI 0)] [Blk.box 26 [vI r_.Span, vI r_.Head, V.sl false 3 (List.map E3 r_.Counts), V.sl false 3 (List.map E3 r_.Sums)], Blk.row 3 (List.map E3 r1) []] []) (X.ret) (st 43 [(2, V.sc (.bool false))] [] [])]) (by kernel_rfl) (cj (len_nm _ _) (cj (Fn.flag 0 (by kernel_rfl) (slices_Concat_int_ok [r_.Counts, r_.Sums] r1 h1)) (cj (by simp [V.nv, nvL, nvL_all, nv_E3, nv_E24]) (cj (len_nm _ _) (cj1 ((impl_RingOk_l0_ok r_ r1 h6 r1 [] rfl r3 h7).at h9 :)))))))))) (fun h6 =>
   Pn.none))
def impl_isWide (s_ : ByteArray) (n : Int) : Option (Bool) :=
 (impl_Digits s_).bind fun r1 =>
 if r1 = true then
 some ((s_.size : Int) == n)
 else
 some false
theorem impl_isWide_ok (s_ : ByteArray) (n : Int) : Pn (fun y => Fn Try.prog 98 [(false, E9 s_), (false, E3 n)] (E4 y) []) (impl_isWide s_ n) := by
  unfold impl_isWide
  exact
   Pn.bind (fun r1 h1 =>
   Pn.ite (fun h2 =>
   Pn.some (Fn.of [.call [] (E4 r1) [], .bit true, .bit true, .bit true, .bit true, .bit true] (p := [Fn Try.prog 95 [(false, E9 s_)] (E4 r1) [],(true || ((E4 r1).nv && nvL [])) = true,r1 = true,r1 = true,r1 = true,r1 = true,r1 = true]) (by kernel_rfl) (cj (impl_Digits_ok s_ r1 h1) (cj rfl (cj h2 (cj h2 (cj h2 (cj h2 (cj1 h2))))))))) (fun h2 =>
   Pn.some (Fn.of [.call [] (E4 r1) [], .bit false, .bit false, .bit false, .bit false, .bit false] (p := [Fn Try.prog 95 [(false, E9 s_)] (E4 r1) [],(true || ((E4 r1).nv && nvL [])) = true,r1 = false,r1 = false,r1 = false,r1 = false,r1 = false]) (by kernel_rfl) (cj (impl_Digits_ok s_ r1 h1) (cj rfl (cj h2 (cj h2 (cj h2 (cj h2 (cj1 h2))))))))))
def impl_SlotOk (s_ : Slot) : Option (Bool) :=
 (impl_isWide s_.Trace 6).bind fun r1 =>
 if r1 = true then
 (impl_isWide s_.Mti 4).bind fun r2 =>
 if r2 = true then
 (impl_within (s_.Reply.length : Int) 1 200).bind fun r3 =>
 some r3
 else
 some false
 else
 some false
theorem impl_SlotOk_ok (s_ : Slot) : Pn (fun y => Fn Try.prog 75 [(false, E94 s_)] (E4 y) []) (impl_SlotOk s_) := by
  unfold impl_SlotOk
  exact
   Pn.bind (fun r1 h1 =>
   Pn.ite (fun h2 =>
   Pn.bind (fun r2 h3 =>
   Pn.ite (fun h4 =>
   Pn.bind (fun r3 h5 =>
   Pn.some (Fn.of [.call [] (E4 r1) [], .bit true, .bit true, .bit true, .call [] (E4 r2) [], .bit true, .bit true, .bit true, .bit true, .nm 14 (vI (s_.Reply.length : Int)), .bit true, .call [] (E4 r3) [], .bit true] (p := [Fn Try.prog 98 [(false, E9 s_.Trace), (false, E3 6)] (E4 r1) [],(true || ((E4 r1).nv && nvL [])) = true,r1 = true,r1 = true,r1 = true,Fn Try.prog 98 [(false, E9 s_.Mti), (false, E3 4)] (E4 r2) [],(true || ((E4 r2).nv && nvL [])) = true,r1 = true,r2 = true,r2 = true,r2 = true,vI ((List.map E5 s_.Reply).length : Int) = vI (s_.Reply.length : Int),r2 = true,Fn Try.prog 37 [(false, E3 (s_.Reply.length : Int)), (false, E3 1), (false, E3 200)] (E4 r3) [],(true || ((E4 r3).nv && nvL [])) = true,r2 = true]) (by kernel_rfl) (cj (impl_isWide_ok s_.Trace 6 r1 h1) (cj rfl (cj h2 (cj h2 (cj h2 (cj (impl_isWide_ok s_.Mti 4 r2 h3) (cj rfl (cj h2 (cj h4 (cj h4 (cj h4 (cj (len_nm _ _) (cj h4 (cj (impl_within_ok (s_.Reply.length : Int) 1 200 r3 h5) (cj rfl (cj1 h4))))))))))))))))))) (fun h4 =>
   Pn.some (Fn.of [.call [] (E4 r1) [], .bit true, .bit true, .bit true, .call [] (E4 r2) [], .bit true, .bit false, .bit false, .bit false, .bit false, .bit false] (p := [Fn Try.prog 98 [(false, E9 s_.Trace), (false, E3 6)] (E4 r1) [],(true || ((E4 r1).nv && nvL [])) = true,r1 = true,r1 = true,r1 = true,Fn Try.prog 98 [(false, E9 s_.Mti), (false, E3 4)] (E4 r2) [],(true || ((E4 r2).nv && nvL [])) = true,r1 = true,r2 = false,r2 = false,r2 = false,r2 = false,r2 = false]) (by kernel_rfl) (cj (impl_isWide_ok s_.Trace 6 r1 h1) (cj rfl (cj h2 (cj h2 (cj h2 (cj (impl_isWide_ok s_.Mti 4 r2 h3) (cj rfl (cj h2 (cj h4 (cj h4 (cj h4 (cj h4 (cj1 h4))))))))))))))))) (fun h2 =>
   Pn.some (Fn.of [.call [] (E4 r1) [], .bit false, .bit false, .bit false, .bit false, .bit false, .bit false, .bit false, .bit false, .bit false] (p := [Fn Try.prog 98 [(false, E9 s_.Trace), (false, E3 6)] (E4 r1) [],(true || ((E4 r1).nv && nvL [])) = true,r1 = false,r1 = false,r1 = false,r1 = false,false = false,false = false,false = false,false = false,false = false]) (by kernel_rfl) (cj (impl_isWide_ok s_.Trace 6 r1 h1) (cj rfl (cj h2 (cj h2 (cj h2 (cj h2 (cj rfl (cj rfl (cj rfl (cj rfl (cj1 rfl))))))))))))))
def impl_slotAt_1 (s_ : Slot) (c0_0 : ByteArray) (c1_0 : ByteArray) : Option (Bool) :=
 if (s_.Trace == c0_0) = true then
 some (s_.Mti == c1_0)
 else
 some false
theorem impl_slotAt_1_ok (s_ : Slot) (c0_0 : ByteArray) (c1_0 : ByteArray) : Pn (fun y => Fn Try.prog 100 [(false, E94 s_), (false, V.cp [V.sc (.string c0_0)]), (false, V.cp [V.sc (.string c1_0)])] (E4 y) []) (impl_slotAt_1 s_ c0_0 c1_0) := by
  unfold impl_slotAt_1
  exact
   Pn.ite (fun h1 =>
   Pn.some (Fn.of [.bit true, .bit true, .bit true, .bit true, .bit true] (p := [(s_.Trace == c0_0) = true,(s_.Trace == c0_0) = true,(s_.Trace == c0_0) = true,(s_.Trace == c0_0) = true,(s_.Trace == c0_0) = true]) (by kernel_rfl) (cj h1 (cj h1 (cj h1 (cj h1 (cj1 h1))))))) (fun h1 =>
   Pn.some (Fn.of [.bit false, .bit false, .bit false, .bit false, .bit false] (p := [(s_.Trace == c0_0) = false,(s_.Trace == c0_0) = false,(s_.Trace == c0_0) = false,(s_.Trace == c0_0) = false,(s_.Trace == c0_0) = false]) (by kernel_rfl) (cj h1 (cj h1 (cj h1 (cj h1 (cj1 h1)))))))
def slices_IndexFunc_impl_Slot_impl_slotAt_1_l0 (s_ : List Slot) (f0_0 : ByteArray) (f1_0 : ByteArray) : List Slot → List Slot → Option (Lo Unit Int)
  | [], p1 =>
   some (.out ())
  | x1 :: t1, p1 =>
   (impl_slotAt_1 x1 f0_0 f1_0).bind fun r1 =>
   if r1 = true then
   some (.ret (p1.length : Int))
   else
   slices_IndexFunc_impl_Slot_impl_slotAt_1_l0 s_ f0_0 f1_0 t1 (p1 ++ [x1])
theorem slices_IndexFunc_impl_Slot_impl_slotAt_1_l0_ok (s_ : List Slot) (f0_0 : ByteArray) (f1_0 : ByteArray) (h2 : capOk s_.length = true) : ∀ (t1 p1 : List Slot) (_ : s_ = p1 ++ t1) , Pn (LpO Try.prog (sub (codeOf Try.prog 99) [1, 0, 1, 0, 0]) (st 19 [(0, V.sl false 94 (List.map E94 s_)), (1, V.fn 100 [V.cp [V.sc (.string f0_0)], V.cp [V.sc (.string f1_0)]]), (7, vI (s_.length : Int)), (8, vI (p1.length : Int))] [] []) (fun (y : Lo Unit Int) => Lo.elim y (fun s => (X.out 0, st 19 [] [] [])) (fun s => (X.ret, st 19 [(4, vI s)] [] [])))) (slices_IndexFunc_impl_Slot_impl_slotAt_1_l0 s_ f0_0 f1_0 t1 p1)
  | [], p1, h1 => by
    unfold slices_IndexFunc_impl_Slot_impl_slotAt_1_l0
    exact
     Pn.some (LpO.out [.bit false, .mask [], .ren []] (p := [(decide ((p1.length : Int) < (s_.length : Int))) = false]) (by kernel_rfl) (show X.out 0 ≠ X.go from nofun) (cj1 (rng_end h1)))
  | x1 :: t1, p1, h1 => by
    unfold slices_IndexFunc_impl_Slot_impl_slotAt_1_l0
    exact
     Pn.bind (fun r1 h3 =>
     Pn.ite (fun h4 =>
     Pn.some (LpO.out [.bit true, .el (E94 x1), .call [] (E4 r1) [], .bit true, .wait 2, .mask [4], .ren []] (p := [(decide ((p1.length : Int) < (s_.length : Int))) = true,(0 : Int) ≤ (p1.length : Int),(List.map E94 s_)[(p1.length : Int).toNat]? = some (E94 x1),Fn Try.prog 100 [(false, E94 x1), (false, V.cp [V.sc (.string f0_0)]), (false, V.cp [V.sc (.string f1_0)])] (E4 r1) [],(true || ((E4 r1).nv && nvL [])) = true,r1 = true]) (by kernel_rfl) (show X.ret ≠ X.go from nofun) (cj (rng_lt h1) (cj (by omega) (cj (rng_get _ h1) (cj (impl_slotAt_1_ok x1 f0_0 f1_0 r1 h3) (cj rfl (cj1 h4)))))))) (fun h4 =>
     LpO.go [.bit true, .el (E94 x1), .call [] (E4 r1) [], .bit false, .wait 2, .mask [0, 1, 7, 8], .ren [], .nm 8 (vI ((p1 ++ [x1]).length : Int))] (p := [(decide ((p1.length : Int) < (s_.length : Int))) = true,(0 : Int) ≤ (p1.length : Int),(List.map E94 s_)[(p1.length : Int).toNat]? = some (E94 x1),Fn Try.prog 100 [(false, E94 x1), (false, V.cp [V.sc (.string f0_0)]), (false, V.cp [V.sc (.string f1_0)])] (E4 r1) [],(true || ((E4 r1).nv && nvL [])) = true,r1 = false,vI (i64 ((p1.length : Int) + 1)) = vI ((p1 ++ [x1]).length : Int)]) (by kernel_rfl) (cj (rng_lt h1) (cj (by omega) (cj (rng_get _ h1) (cj (impl_slotAt_1_ok x1 f0_0 f1_0 r1 h3) (cj rfl (cj h4 (cj1 (rng_next h1 h2)))))))) (slices_IndexFunc_impl_Slot_impl_slotAt_1_l0_ok s_ f0_0 f1_0 h2 t1 (p1 ++ [x1]) (rng_step h1))))
def slices_IndexFunc_impl_Slot_impl_slotAt_1 (s_ : List Slot) (f0_0 : ByteArray) (f1_0 : ByteArray) : Option (Int) :=
 if (capOk s_.length) = true then
 (slices_IndexFunc_impl_Slot_impl_slotAt_1_l0 s_ f0_0 f1_0 s_ []).bind fun r2 =>
 Lo.elim r2 (fun s1 =>
 some (-1)) (fun s2 =>
 some s2)
 else none
theorem slices_IndexFunc_impl_Slot_impl_slotAt_1_ok (s_ : List Slot) (f0_0 : ByteArray) (f1_0 : ByteArray) : Pn (fun y => Fn Try.prog 99 [(false, E27 s_), (false, V.fn 100 [V.cp [V.sc (.string f0_0)], V.cp [V.sc (.string f1_0)]])] (E3 y) []) (slices_IndexFunc_impl_Slot_impl_slotAt_1 s_ f0_0 f1_0) := by
  unfold slices_IndexFunc_impl_Slot_impl_slotAt_1
  exact
   Pn.ite (fun h5 =>
   Pn.bind (fun r2 h6 =>
   Pn.lo (fun s1 h7 =>
   Pn.some (Fn.of [.wait 3, .nm 7 (vI (s_.length : Int)), .wait 2, .mask [0, 1, 7, 8], .ren [], .loop (X.out 0) (st 19 [] [] [])] (p := [vI ((List.map E94 s_).length : Int) = vI (s_.length : Int),Loop Try.prog (sub (codeOf Try.prog 99) [1, 0, 1, 0, 0]) (st 19 [(0, V.sl false 94 (List.map E94 s_)), (1, V.fn 100 [V.cp [V.sc (.string f0_0)], V.cp [V.sc (.string f1_0)]]), (7, vI (s_.length : Int)), (8, vI 0)] [] []) (X.out 0) (st 19 [] [] [])]) (by kernel_rfl) (cj (len_nm _ _) (cj1 ((slices_IndexFunc_impl_Slot_impl_slotAt_1_l0_ok s_ f0_0 f1_0 h5 s_ [] rfl r2 h6).at h7 :))))) (fun s2 h8 =>
   Pn.some (Fn.of [.wait 3, .nm 7 (vI (s_.length : Int)), .wait 2, .mask [0, 1, 7, 8], .ren [], .loop (X.ret) (st 19 [(4, vI s2)] [] [])] (p := [vI ((List.map E94 s_).length : Int) = vI (s_.length : Int),Loop Try.prog (sub (codeOf Try.prog 99) [1, 0, 1, 0, 0]) (st 19 [(0, V.sl false 94 (List.map E94 s_)), (1, V.fn 100 [V.cp [V.sc (.string f0_0)], V.cp [V.sc (.string f1_0)]]), (7, vI (s_.length : Int)), (8, vI 0)] [] []) (X.ret) (st 19 [(4, vI s2)] [] [])]) (by kernel_rfl) (cj (len_nm _ _) (cj1 ((slices_IndexFunc_impl_Slot_impl_slotAt_1_l0_ok s_ f0_0 f1_0 h5 s_ [] rfl r2 h6).at h8 :))))))) (fun h5 =>
   Pn.none)
def impl_slotAt (l : List Slot) (trace : ByteArray) (mti : ByteArray) : Option (Int) :=
 (slices_IndexFunc_impl_Slot_impl_slotAt_1 l trace mti).bind fun r1 =>
 some r1
theorem impl_slotAt_ok (l : List Slot) (trace : ByteArray) (mti : ByteArray) : Pn (fun y => Fn Try.prog 76 [(false, E27 l), (false, E9 trace), (false, E9 mti)] (E3 y) []) (impl_slotAt l trace mti) := by
  unfold impl_slotAt
  exact
   Pn.bind (fun r1 h1 =>
   Pn.some (Fn.of [.call [] (E3 r1) []] (p := [Fn Try.prog 99 [(false, E27 l), (false, V.fn 100 [V.cp [V.sc (.string trace)], V.cp [V.sc (.string mti)]])] (E3 r1) [],(false || ((E3 r1).nv && nvL [])) = true]) (by kernel_rfl) (cj (slices_IndexFunc_impl_Slot_impl_slotAt_1_ok l trace mti r1 h1) (cj1 (by simp [V.nv, nvL, nvL_all, nv_E3])))))
def impl_SlotsOk_l0 (l : List Slot) : List Slot → List Slot → Option (Lo Unit Unit)
  | [], p1 =>
   some (.out ())
  | x1 :: t1, p1 =>
   (impl_SlotOk x1).bind fun r1 =>
   if r1 = true then
   (impl_slotAt l x1.Trace x1.Mti).bind fun r2 =>
   if (r2 != (p1.length : Int)) = true then
   some (.ret ())
   else
   impl_SlotsOk_l0 l t1 (p1 ++ [x1])
   else
   some (.ret ())
theorem impl_SlotsOk_l0_ok (l : List Slot) (h2 : capOk l.length = true) : ∀ (t1 p1 : List Slot) (_ : l = p1 ++ t1) , Pn (LpO Try.prog (sub (codeOf Try.prog 41) [1, 0, 1, 0, 0]) (st 29 [(0, V.sl false 94 (List.map E94 l)), (5, V.sl false 94 (List.map E94 l)), (6, vI (l.length : Int)), (7, vI (p1.length : Int))] [] []) (fun (y : Lo Unit Unit) => Lo.elim y (fun s => (X.out 0, st 29 [(0, V.sl false 94 (List.map E94 l))] [] [])) (fun s => (X.ret, st 29 [(2, V.sc (.bool false))] [] [])))) (impl_SlotsOk_l0 l t1 p1)
  | [], p1, h1 => by
    unfold impl_SlotsOk_l0
    exact
     Pn.some (LpO.out [.bit false, .mask [0], .ren []] (p := [(decide ((p1.length : Int) < (l.length : Int))) = false]) (by kernel_rfl) (show X.out 0 ≠ X.go from nofun) (cj1 (rng_end h1)))
  | x1 :: t1, p1, h1 => by
    unfold impl_SlotsOk_l0
    exact
     Pn.bind (fun r1 h3 =>
     Pn.ite (fun h4 =>
     Pn.bind (fun r2 h5 =>
     Pn.ite (fun h6 =>
     Pn.some (LpO.out [.bit true, .el (E94 x1), .call [] (E4 r1) [], .bit false, .bit false, .bit false, .bit false, .bit false, .bit false, .call [] (E3 r2) [], .bit false, .bit false, .bit false, .bit true, .wait 1, .mask [2], .ren []] (p := [(decide ((p1.length : Int) < (l.length : Int))) = true,(0 : Int) ≤ (p1.length : Int),(List.map E94 l)[(p1.length : Int).toNat]? = some (E94 x1),Fn Try.prog 75 [(false, E94 x1)] (E4 r1) [],(true || ((E4 r1).nv && nvL [])) = true,(!r1) = false,(!r1) = false,(!r1) = false,(!r1) = false,(!r1) = false,(!r1) = false,Fn Try.prog 76 [(false, E27 l), (false, E9 x1.Trace), (false, E9 x1.Mti)] (E3 r2) [],(true || ((E3 r2).nv && nvL [])) = true,(!r1) = false,(!r1) = false,(!r1) = false,(r2 != (p1.length : Int)) = true]) (by kernel_rfl) (show X.ret ≠ X.go from nofun) (cj (rng_lt h1) (cj (by omega) (cj (rng_get _ h1) (cj (impl_SlotOk_ok x1 r1 h3) (cj rfl (cj (nf h4) (cj (nf h4) (cj (nf h4) (cj (nf h4) (cj (nf h4) (cj (nf h4) (cj (impl_slotAt_ok l x1.Trace x1.Mti r2 h5) (cj rfl (cj (nf h4) (cj (nf h4) (cj (nf h4) (cj1 h6))))))))))))))))))) (fun h6 =>
     LpO.go [.bit true, .el (E94 x1), .call [] (E4 r1) [], .bit false, .bit false, .bit false, .bit false, .bit false, .bit false, .call [] (E3 r2) [], .bit false, .bit false, .bit false, .bit false, .wait 2, .mask [0, 5, 6, 7], .ren [], .nm 7 (vI ((p1 ++ [x1]).length : Int))] (p := [(decide ((p1.length : Int) < (l.length : Int))) = true,(0 : Int) ≤ (p1.length : Int),(List.map E94 l)[(p1.length : Int).toNat]? = some (E94 x1),Fn Try.prog 75 [(false, E94 x1)] (E4 r1) [],(true || ((E4 r1).nv && nvL [])) = true,(!r1) = false,(!r1) = false,(!r1) = false,(!r1) = false,(!r1) = false,(!r1) = false,Fn Try.prog 76 [(false, E27 l), (false, E9 x1.Trace), (false, E9 x1.Mti)] (E3 r2) [],(true || ((E3 r2).nv && nvL [])) = true,(!r1) = false,(!r1) = false,(!r1) = false,(r2 != (p1.length : Int)) = false,vI (i64 ((p1.length : Int) + 1)) = vI ((p1 ++ [x1]).length : Int)]) (by kernel_rfl) (cj (rng_lt h1) (cj (by omega) (cj (rng_get _ h1) (cj (impl_SlotOk_ok x1 r1 h3) (cj rfl (cj (nf h4) (cj (nf h4) (cj (nf h4) (cj (nf h4) (cj (nf h4) (cj (nf h4) (cj (impl_slotAt_ok l x1.Trace x1.Mti r2 h5) (cj rfl (cj (nf h4) (cj (nf h4) (cj (nf h4) (cj h6 (cj1 (rng_next h1 h2))))))))))))))))))) (impl_SlotsOk_l0_ok l h2 t1 (p1 ++ [x1]) (rng_step h1))))) (fun h4 =>
     Pn.some (LpO.out [.bit true, .el (E94 x1), .call [] (E4 r1) [], .bit true, .bit true, .bit true, .bit true, .bit true, .bit true, .bit true, .bit true, .bit true, .bit true, .wait 1, .mask [2], .ren []] (p := [(decide ((p1.length : Int) < (l.length : Int))) = true,(0 : Int) ≤ (p1.length : Int),(List.map E94 l)[(p1.length : Int).toNat]? = some (E94 x1),Fn Try.prog 75 [(false, E94 x1)] (E4 r1) [],(true || ((E4 r1).nv && nvL [])) = true,(!r1) = true,(!r1) = true,(!r1) = true,(!r1) = true,(!r1) = true,(!r1) = true,(!r1) = true,(!r1) = true,(!r1) = true,true = true]) (by kernel_rfl) (show X.ret ≠ X.go from nofun) (cj (rng_lt h1) (cj (by omega) (cj (rng_get _ h1) (cj (impl_SlotOk_ok x1 r1 h3) (cj rfl (cj (nt h4) (cj (nt h4) (cj (nt h4) (cj (nt h4) (cj (nt h4) (cj (nt h4) (cj (nt h4) (cj (nt h4) (cj (nt h4) (cj1 rfl))))))))))))))))))
def impl_SlotsOk (l : List Slot) : Option (Bool) :=
 if (capOk l.length) = true then
 (impl_SlotsOk_l0 l l []).bind fun r3 =>
 Lo.elim r3 (fun s1 =>
 some (decide ((l.length : Int) ≤ 6))) (fun s2 =>
 some false)
 else none
theorem impl_SlotsOk_ok (l : List Slot) : Pn (fun y => Fn Try.prog 41 [(false, E27 l)] (E4 y) []) (impl_SlotsOk l) := by
  unfold impl_SlotsOk
  exact
   Pn.ite (fun h7 =>
   Pn.bind (fun r3 h8 =>
   Pn.lo (fun s1 h9 =>
   Pn.some (Fn.of [.wait 3, .nm 6 (vI (l.length : Int)), .wait 2, .mask [0, 5, 6, 7], .ren [], .loop (X.out 0) (st 29 [(0, V.sl false 94 (List.map E94 l))] [] []), .wait 2, .nm 27 (vI (l.length : Int))] (p := [vI ((List.map E94 l).length : Int) = vI (l.length : Int),Loop Try.prog (sub (codeOf Try.prog 41) [1, 0, 1, 0, 0]) (st 29 [(0, V.sl false 94 (List.map E94 l)), (5, V.sl false 94 (List.map E94 l)), (6, vI (l.length : Int)), (7, vI 0)] [] []) (X.out 0) (st 29 [(0, V.sl false 94 (List.map E94 l))] [] []),vI ((List.map E94 l).length : Int) = vI (l.length : Int)]) (by kernel_rfl) (cj (len_nm _ _) (cj ((impl_SlotsOk_l0_ok l h7 l [] rfl r3 h8).at h9 :) (cj1 (len_nm _ _)))))) (fun s2 h10 =>
   Pn.some (Fn.of [.wait 3, .nm 6 (vI (l.length : Int)), .wait 2, .mask [0, 5, 6, 7], .ren [], .loop (X.ret) (st 29 [(2, V.sc (.bool false))] [] [])] (p := [vI ((List.map E94 l).length : Int) = vI (l.length : Int),Loop Try.prog (sub (codeOf Try.prog 41) [1, 0, 1, 0, 0]) (st 29 [(0, V.sl false 94 (List.map E94 l)), (5, V.sl false 94 (List.map E94 l)), (6, vI (l.length : Int)), (7, vI 0)] [] []) (X.ret) (st 29 [(2, V.sc (.bool false))] [] [])]) (by kernel_rfl) (cj (len_nm _ _) (cj1 ((impl_SlotsOk_l0_ok l h7 l [] rfl r3 h8).at h10 :))))))) (fun h7 =>
   Pn.none)
def impl_AddSat (a : Int) (b : Int) : Option (Int) :=
 if (decide ((i64 (4611686018427387904 - (imax 0 (imin b 4611686018427387904)))) < (imax 0 (imin a 4611686018427387904)))) = true then
 some 4611686018427387904
 else
 some (i64 ((imax 0 (imin a 4611686018427387904)) + (imax 0 (imin b 4611686018427387904))))
theorem impl_AddSat_ok (a : Int) (b : Int) : Pn (fun y => Fn Try.prog 35 [(false, E3 a), (false, E3 b)] (E3 y) []) (impl_AddSat a b) := by
  unfold impl_AddSat
  exact
   Pn.ite (fun h1 =>
   Pn.some (Fn.of [.bit true] (p := [(decide ((i64 (4611686018427387904 - (imax 0 (imin b 4611686018427387904)))) < (imax 0 (imin a 4611686018427387904)))) = true]) (by kernel_rfl) (cj1 h1))) (fun h1 =>
   Pn.some (Fn.of [.bit false] (p := [(decide ((i64 (4611686018427387904 - (imax 0 (imin b 4611686018427387904)))) < (imax 0 (imin a 4611686018427387904)))) = false]) (by kernel_rfl) (cj1 h1)))
def impl_Stored_l0 (l : List Hold) : List Hold → Int → Option (Int)
  | [], v1 =>
   some v1
  | x1 :: t1, v1 =>
   (impl_AddSat v1 x1.Amount).bind fun r1 =>
   impl_Stored_l0 l t1 r1
theorem impl_Stored_l0_ok (l : List Hold) (h2 : capOk l.length = true) : ∀ (t1 p1 : List Hold) (_ : l = p1 ++ t1) (v1 : Int), Pn (LpO Try.prog (sub (codeOf Try.prog 12) [1, 1, 0, 1, 0, 0]) (st 18 [(3, vI v1), (6, V.sl false 36 (List.map E36 l)), (7, vI (l.length : Int)), (8, vI (p1.length : Int))] [] []) (fun (y : Int) => (X.out 0, st 18 [(3, vI y)] [] []))) (impl_Stored_l0 l t1 v1)
  | [], p1, h1, v1 => by
    unfold impl_Stored_l0
    exact
     Pn.some (LpO.out [.bit false, .mask [3], .ren []] (p := [(decide ((p1.length : Int) < (l.length : Int))) = false]) (by kernel_rfl) (show X.out 0 ≠ X.go from nofun) (cj1 (rng_end h1)))
  | x1 :: t1, p1, h1, v1 => by
    unfold impl_Stored_l0
    exact
     Pn.bind (fun r1 h3 =>
     LpO.go [.bit true, .el (E36 x1), .call [] (E3 r1) [], .wait 4, .mask [3, 6, 7, 8], .ren [], .nm 8 (vI ((p1 ++ [x1]).length : Int))] (p := [(decide ((p1.length : Int) < (l.length : Int))) = true,(0 : Int) ≤ (p1.length : Int),(List.map E36 l)[(p1.length : Int).toNat]? = some (E36 x1),Fn Try.prog 35 [(false, E3 v1), (false, E3 x1.Amount)] (E3 r1) [],(true || ((E3 r1).nv && nvL [])) = true,vI (i64 ((p1.length : Int) + 1)) = vI ((p1 ++ [x1]).length : Int)]) (by kernel_rfl) (cj (rng_lt h1) (cj (by omega) (cj (rng_get _ h1) (cj (impl_AddSat_ok v1 x1.Amount r1 h3) (cj rfl (cj1 (rng_next h1 h2))))))) (impl_Stored_l0_ok l h2 t1 (p1 ++ [x1]) (rng_step h1) r1))
def impl_Stored (l : List Hold) : Option (Int) :=
 if (capOk l.length) = true then
 (impl_Stored_l0 l l 0).bind fun r2 =>
 some r2
 else none
theorem impl_Stored_ok (l : List Hold) : Pn (fun y => Fn Try.prog 12 [(false, E23 l)] (E3 y) []) (impl_Stored l) := by
  unfold impl_Stored
  exact
   Pn.ite (fun h4 =>
   Pn.bind (fun r2 h5 =>
   Pn.some (Fn.of [.wait 4, .nm 7 (vI (l.length : Int)), .wait 2, .mask [3, 6, 7, 8], .ren [], .loop (X.out 0) (st 18 [(3, vI r2)] [] [])] (p := [vI ((List.map E36 l).length : Int) = vI (l.length : Int),Loop Try.prog (sub (codeOf Try.prog 12) [1, 1, 0, 1, 0, 0]) (st 18 [(3, vI 0), (6, V.sl false 36 (List.map E36 l)), (7, vI (l.length : Int)), (8, vI 0)] [] []) (X.out 0) (st 18 [(3, vI r2)] [] [])]) (by kernel_rfl) (cj (len_nm _ _) (cj1 (impl_Stored_l0_ok l h4 l [] rfl 0 r2 h5)))))) (fun h4 =>
   Pn.none)
def impl_AcctOk (a : Acct) : Option (Bool) :=
 (impl_AcctIdOk a.Id).bind fun r1 =>
 if r1 = true then
 (impl_within a.Limit 0 9007199254740992).bind fun r2 =>
 if r2 = true then
 (impl_within a.Most 0 1000).bind fun r3 =>
 if r3 = true then
 (impl_within a.MostSum 0 9007199254740992).bind fun r4 =>
 if r4 = true then
 (impl_isMoney a.Posted).bind fun r5 =>
 if r5 = true then
 (impl_HoldsOk a.Holds).bind fun r6 =>
 if r6 = true then
 (impl_RingOk a.Ring).bind fun r7 =>
 if r7 = true then
 (impl_SlotsOk a.Slots).bind fun r8 =>
 if r8 = true then
 (impl_Stored a.Holds).bind fun r9 =>
 (impl_AddSat a.Posted r9).bind fun r10 =>
 some (decide (r10 ≤ a.Limit))
 else
 some false
 else
 some false
 else
 some false
 else
 some false
 else
 some false
 else
 some false
 else
 some false
 else
 some false
theorem impl_AcctOk_ok (a : Acct) : Pn (fun y => Fn Try.prog 13 [(false, E29 a)] (E4 y) []) (impl_AcctOk a) := by
  unfold impl_AcctOk
  exact
   Pn.bind (fun r1 h1 =>
   Pn.ite (fun h2 =>
   Pn.bind (fun r2 h3 =>
   Pn.ite (fun h4 =>
   Pn.bind (fun r3 h5 =>
   Pn.ite (fun h6 =>
   Pn.bind (fun r4 h7 =>
   Pn.ite (fun h8 =>
   Pn.bind (fun r5 h9 =>
   Pn.ite (fun h10 =>
   Pn.bind (fun r6 h11 =>
   Pn.ite (fun h12 =>
   Pn.bind (fun r7 h13 =>
   Pn.ite (fun h14 =>
   Pn.bind (fun r8 h15 =>
   Pn.ite (fun h16 =>
   Pn.bind (fun r9 h17 =>
   Pn.bind (fun r10 h18 =>
   Pn.some (Fn.of [.draw [], .call [] (E4 r1) [], .bit true, .bit true, .bit true, .call [] (E4 r2) [], .bit true, .bit true, .bit true, .bit true, .call [] (E4 r3) [], .bit true, .bit true, .bit true, .bit true, .call [] (E4 r4) [], .bit true, .bit true, .bit true, .bit true, .call [] (E4 r5) [], .bit true, .bit true, .bit true, .bit true, .call [] (E4 r6) [], .bit true, .bit true, .bit true, .bit true, .call [] (E4 r7) [], .bit true, .bit true, .bit true, .bit true, .call [] (E4 r8) [], .bit true, .bit true, .bit true, .bit true, .bit true, .bit true, .bit true, .bit true, .call [] (E3 r9) [], .bit true, .call [] (E3 r10) [], .bit true, .bit true] (p := [Fn Try.prog 36 [(false, E9 a.Id)] (E4 r1) [],(true || ((E4 r1).nv && nvL [])) = true,r1 = true,r1 = true,r1 = true,Fn Try.prog 37 [(false, E3 a.Limit), (false, E3 0), (false, E3 9007199254740992)] (E4 r2) [],(true || ((E4 r2).nv && nvL [])) = true,r1 = true,r2 = true,r2 = true,r2 = true,Fn Try.prog 37 [(false, E3 a.Most), (false, E3 0), (false, E3 1000)] (E4 r3) [],(true || ((E4 r3).nv && nvL [])) = true,r2 = true,r3 = true,r3 = true,r3 = true,Fn Try.prog 37 [(false, E3 a.MostSum), (false, E3 0), (false, E3 9007199254740992)] (E4 r4) [],(true || ((E4 r4).nv && nvL [])) = true,r3 = true,r4 = true,r4 = true,r4 = true,Fn Try.prog 38 [(false, E3 a.Posted)] (E4 r5) [],(true || ((E4 r5).nv && nvL [])) = true,r4 = true,r5 = true,r5 = true,r5 = true,Fn Try.prog 39 [(false, E23 a.Holds)] (E4 r6) [],(true || ((E4 r6).nv && nvL [])) = true,r5 = true,r6 = true,r6 = true,r6 = true,Fn Try.prog 40 [(false, E26 a.Ring)] (E4 r7) [],(true || ((E4 r7).nv && nvL [])) = true,r6 = true,r7 = true,r7 = true,r7 = true,Fn Try.prog 41 [(false, E27 a.Slots)] (E4 r8) [],(true || ((E4 r8).nv && nvL [])) = true,r7 = true,r8 = true,r8 = true,r8 = true,r8 = true,r8 = true,r8 = true,r8 = true,Fn Try.prog 12 [(false, E23 a.Holds)] (E3 r9) [],(true || ((E3 r9).nv && nvL [])) = true,r8 = true,Fn Try.prog 35 [(false, E3 a.Posted), (false, E3 r9)] (E3 r10) [],(true || ((E3 r10).nv && nvL [])) = true,r8 = true,r8 = true]) (by kernel_rfl) (cj (impl_AcctIdOk_ok a.Id r1 h1) (cj rfl (cj h2 (cj h2 (cj h2 (cj (impl_within_ok a.Limit 0 9007199254740992 r2 h3) (cj rfl (cj h2 (cj h4 (cj h4 (cj h4 (cj (impl_within_ok a.Most 0 1000 r3 h5) (cj rfl (cj h4 (cj h6 (cj h6 (cj h6 (cj (impl_within_ok a.MostSum 0 9007199254740992 r4 h7) (cj rfl (cj h6 (cj h8 (cj h8 (cj h8 (cj (impl_isMoney_ok a.Posted r5 h9) (cj rfl (cj h8 (cj h10 (cj h10 (cj h10 (cj (impl_HoldsOk_ok a.Holds r6 h11) (cj rfl (cj h10 (cj h12 (cj h12 (cj h12 (cj (impl_RingOk_ok a.Ring r7 h13) (cj rfl (cj h12 (cj h14 (cj h14 (cj h14 (cj (impl_SlotsOk_ok a.Slots r8 h15) (cj rfl (cj h14 (cj h16 (cj h16 (cj h16 (cj h16 (cj h16 (cj h16 (cj h16 (cj (impl_Stored_ok a.Holds r9 h17) (cj rfl (cj h16 (cj (impl_AddSat_ok a.Posted r9 r10 h18) (cj rfl (cj h16 (cj1 h16)))))))))))))))))))))))))))))))))))))))))))))))))))))))))))))) (fun h16 =>
   Pn.some (Fn.of [.draw [], .call [] (E4 r1) [], .bit true, .bit true, .bit true, .call [] (E4 r2) [], .bit true, .bit true, .bit true, .bit true, .call [] (E4 r3) [], .bit true, .bit true, .bit true, .bit true, .call [] (E4 r4) [], .bit true, .bit true, .bit true, .bit true, .call [] (E4 r5) [], .bit true, .bit true, .bit true, .bit true, .call [] (E4 r6) [], .bit true, .bit true, .bit true, .bit true, .call [] (E4 r7) [], .bit true, .bit true, .bit true, .bit true, .call [] (E4 r8) [], .bit true, .bit false, .bit false, .bit false, .bit false, .bit false, .bit false, .bit false, .bit false, .bit false, .bit false] (p := [Fn Try.prog 36 [(false, E9 a.Id)] (E4 r1) [],(true || ((E4 r1).nv && nvL [])) = true,r1 = true,r1 = true,r1 = true,Fn Try.prog 37 [(false, E3 a.Limit), (false, E3 0), (false, E3 9007199254740992)] (E4 r2) [],(true || ((E4 r2).nv && nvL [])) = true,r1 = true,r2 = true,r2 = true,r2 = true,Fn Try.prog 37 [(false, E3 a.Most), (false, E3 0), (false, E3 1000)] (E4 r3) [],(true || ((E4 r3).nv && nvL [])) = true,r2 = true,r3 = true,r3 = true,r3 = true,Fn Try.prog 37 [(false, E3 a.MostSum), (false, E3 0), (false, E3 9007199254740992)] (E4 r4) [],(true || ((E4 r4).nv && nvL [])) = true,r3 = true,r4 = true,r4 = true,r4 = true,Fn Try.prog 38 [(false, E3 a.Posted)] (E4 r5) [],(true || ((E4 r5).nv && nvL [])) = true,r4 = true,r5 = true,r5 = true,r5 = true,Fn Try.prog 39 [(false, E23 a.Holds)] (E4 r6) [],(true || ((E4 r6).nv && nvL [])) = true,r5 = true,r6 = true,r6 = true,r6 = true,Fn Try.prog 40 [(false, E26 a.Ring)] (E4 r7) [],(true || ((E4 r7).nv && nvL [])) = true,r6 = true,r7 = true,r7 = true,r7 = true,Fn Try.prog 41 [(false, E27 a.Slots)] (E4 r8) [],(true || ((E4 r8).nv && nvL [])) = true,r7 = true,r8 = false,r8 = false,r8 = false,r8 = false,r8 = false,r8 = false,r8 = false,r8 = false,r8 = false,r8 = false]) (by kernel_rfl) (cj (impl_AcctIdOk_ok a.Id r1 h1) (cj rfl (cj h2 (cj h2 (cj h2 (cj (impl_within_ok a.Limit 0 9007199254740992 r2 h3) (cj rfl (cj h2 (cj h4 (cj h4 (cj h4 (cj (impl_within_ok a.Most 0 1000 r3 h5) (cj rfl (cj h4 (cj h6 (cj h6 (cj h6 (cj (impl_within_ok a.MostSum 0 9007199254740992 r4 h7) (cj rfl (cj h6 (cj h8 (cj h8 (cj h8 (cj (impl_isMoney_ok a.Posted r5 h9) (cj rfl (cj h8 (cj h10 (cj h10 (cj h10 (cj (impl_HoldsOk_ok a.Holds r6 h11) (cj rfl (cj h10 (cj h12 (cj h12 (cj h12 (cj (impl_RingOk_ok a.Ring r7 h13) (cj rfl (cj h12 (cj h14 (cj h14 (cj h14 (cj (impl_SlotsOk_ok a.Slots r8 h15) (cj rfl (cj h14 (cj h16 (cj h16 (cj h16 (cj h16 (cj h16 (cj h16 (cj h16 (cj h16 (cj h16 (cj1 h16)))))))))))))))))))))))))))))))))))))))))))))))))))))))))) (fun h14 =>
   Pn.some (Fn.of [.draw [], .call [] (E4 r1) [], .bit true, .bit true, .bit true, .call [] (E4 r2) [], .bit true, .bit true, .bit true, .bit true, .call [] (E4 r3) [], .bit true, .bit true, .bit true, .bit true, .call [] (E4 r4) [], .bit true, .bit true, .bit true, .bit true, .call [] (E4 r5) [], .bit true, .bit true, .bit true, .bit true, .call [] (E4 r6) [], .bit true, .bit true, .bit true, .bit true, .call [] (E4 r7) [], .bit true, .bit false, .bit false, .bit false, .bit false, .bit false, .bit false, .bit false, .bit false, .bit false, .bit false, .bit false, .bit false, .bit false, .bit false] (p := [Fn Try.prog 36 [(false, E9 a.Id)] (E4 r1) [],(true || ((E4 r1).nv && nvL [])) = true,r1 = true,r1 = true,r1 = true,Fn Try.prog 37 [(false, E3 a.Limit), (false, E3 0), (false, E3 9007199254740992)] (E4 r2) [],(true || ((E4 r2).nv && nvL [])) = true,r1 = true,r2 = true,r2 = true,r2 = true,Fn Try.prog 37 [(false, E3 a.Most), (false, E3 0), (false, E3 1000)] (E4 r3) [],(true || ((E4 r3).nv && nvL [])) = true,r2 = true,r3 = true,r3 = true,r3 = true,Fn Try.prog 37 [(false, E3 a.MostSum), (false, E3 0), (false, E3 9007199254740992)] (E4 r4) [],(true || ((E4 r4).nv && nvL [])) = true,r3 = true,r4 = true,r4 = true,r4 = true,Fn Try.prog 38 [(false, E3 a.Posted)] (E4 r5) [],(true || ((E4 r5).nv && nvL [])) = true,r4 = true,r5 = true,r5 = true,r5 = true,Fn Try.prog 39 [(false, E23 a.Holds)] (E4 r6) [],(true || ((E4 r6).nv && nvL [])) = true,r5 = true,r6 = true,r6 = true,r6 = true,Fn Try.prog 40 [(false, E26 a.Ring)] (E4 r7) [],(true || ((E4 r7).nv && nvL [])) = true,r6 = true,r7 = false,r7 = false,r7 = false,r7 = false,false = false,false = false,false = false,false = false,false = false,false = false,false = false,false = false,false = false,false = false]) (by kernel_rfl) (cj (impl_AcctIdOk_ok a.Id r1 h1) (cj rfl (cj h2 (cj h2 (cj h2 (cj (impl_within_ok a.Limit 0 9007199254740992 r2 h3) (cj rfl (cj h2 (cj h4 (cj h4 (cj h4 (cj (impl_within_ok a.Most 0 1000 r3 h5) (cj rfl (cj h4 (cj h6 (cj h6 (cj h6 (cj (impl_within_ok a.MostSum 0 9007199254740992 r4 h7) (cj rfl (cj h6 (cj h8 (cj h8 (cj h8 (cj (impl_isMoney_ok a.Posted r5 h9) (cj rfl (cj h8 (cj h10 (cj h10 (cj h10 (cj (impl_HoldsOk_ok a.Holds r6 h11) (cj rfl (cj h10 (cj h12 (cj h12 (cj h12 (cj (impl_RingOk_ok a.Ring r7 h13) (cj rfl (cj h12 (cj h14 (cj h14 (cj h14 (cj h14 (cj rfl (cj rfl (cj rfl (cj rfl (cj rfl (cj rfl (cj rfl (cj rfl (cj rfl (cj1 rfl)))))))))))))))))))))))))))))))))))))))))))))))))))))))) (fun h12 =>
   Pn.some (Fn.of [.draw [], .call [] (E4 r1) [], .bit true, .bit true, .bit true, .call [] (E4 r2) [], .bit true, .bit true, .bit true, .bit true, .call [] (E4 r3) [], .bit true, .bit true, .bit true, .bit true, .call [] (E4 r4) [], .bit true, .bit true, .bit true, .bit true, .call [] (E4 r5) [], .bit true, .bit true, .bit true, .bit true, .call [] (E4 r6) [], .bit true, .bit false, .bit false, .bit false, .bit false, .bit false, .bit false, .bit false, .bit false, .bit false, .bit false, .bit false, .bit false, .bit false, .bit false, .bit false, .bit false, .bit false, .bit false] (p := [Fn Try.prog 36 [(false, E9 a.Id)] (E4 r1) [],(true || ((E4 r1).nv && nvL [])) = true,r1 = true,r1 = true,r1 = true,Fn Try.prog 37 [(false, E3 a.Limit), (false, E3 0), (false, E3 9007199254740992)] (E4 r2) [],(true || ((E4 r2).nv && nvL [])) = true,r1 = true,r2 = true,r2 = true,r2 = true,Fn Try.prog 37 [(false, E3 a.Most), (false, E3 0), (false, E3 1000)] (E4 r3) [],(true || ((E4 r3).nv && nvL [])) = true,r2 = true,r3 = true,r3 = true,r3 = true,Fn Try.prog 37 [(false, E3 a.MostSum), (false, E3 0), (false, E3 9007199254740992)] (E4 r4) [],(true || ((E4 r4).nv && nvL [])) = true,r3 = true,r4 = true,r4 = true,r4 = true,Fn Try.prog 38 [(false, E3 a.Posted)] (E4 r5) [],(true || ((E4 r5).nv && nvL [])) = true,r4 = true,r5 = true,r5 = true,r5 = true,Fn Try.prog 39 [(false, E23 a.Holds)] (E4 r6) [],(true || ((E4 r6).nv && nvL [])) = true,r5 = true,r6 = false,r6 = false,r6 = false,r6 = false,false = false,false = false,false = false,false = false,false = false,false = false,false = false,false = false,false = false,false = false,false = false,false = false,false = false,false = false]) (by kernel_rfl) (cj (impl_AcctIdOk_ok a.Id r1 h1) (cj rfl (cj h2 (cj h2 (cj h2 (cj (impl_within_ok a.Limit 0 9007199254740992 r2 h3) (cj rfl (cj h2 (cj h4 (cj h4 (cj h4 (cj (impl_within_ok a.Most 0 1000 r3 h5) (cj rfl (cj h4 (cj h6 (cj h6 (cj h6 (cj (impl_within_ok a.MostSum 0 9007199254740992 r4 h7) (cj rfl (cj h6 (cj h8 (cj h8 (cj h8 (cj (impl_isMoney_ok a.Posted r5 h9) (cj rfl (cj h8 (cj h10 (cj h10 (cj h10 (cj (impl_HoldsOk_ok a.Holds r6 h11) (cj rfl (cj h10 (cj h12 (cj h12 (cj h12 (cj h12 (cj rfl (cj rfl (cj rfl (cj rfl (cj rfl (cj rfl (cj rfl (cj rfl (cj rfl (cj rfl (cj rfl (cj rfl (cj rfl (cj1 rfl)))))))))))))))))))))))))))))))))))))))))))))))))))))) (fun h10 =>
   Pn.some (Fn.of [.draw [], .call [] (E4 r1) [], .bit true, .bit true, .bit true, .call [] (E4 r2) [], .bit true, .bit true, .bit true, .bit true, .call [] (E4 r3) [], .bit true, .bit true, .bit true, .bit true, .call [] (E4 r4) [], .bit true, .bit true, .bit true, .bit true, .call [] (E4 r5) [], .bit true, .bit false, .bit false, .bit false, .bit false, .bit false, .bit false, .bit false, .bit false, .bit false, .bit false, .bit false, .bit false, .bit false, .bit false, .bit false, .bit false, .bit false, .bit false, .bit false, .bit false, .bit false, .bit false] (p := [Fn Try.prog 36 [(false, E9 a.Id)] (E4 r1) [],(true || ((E4 r1).nv && nvL [])) = true,r1 = true,r1 = true,r1 = true,Fn Try.prog 37 [(false, E3 a.Limit), (false, E3 0), (false, E3 9007199254740992)] (E4 r2) [],(true || ((E4 r2).nv && nvL [])) = true,r1 = true,r2 = true,r2 = true,r2 = true,Fn Try.prog 37 [(false, E3 a.Most), (false, E3 0), (false, E3 1000)] (E4 r3) [],(true || ((E4 r3).nv && nvL [])) = true,r2 = true,r3 = true,r3 = true,r3 = true,Fn Try.prog 37 [(false, E3 a.MostSum), (false, E3 0), (false, E3 9007199254740992)] (E4 r4) [],(true || ((E4 r4).nv && nvL [])) = true,r3 = true,r4 = true,r4 = true,r4 = true,Fn Try.prog 38 [(false, E3 a.Posted)] (E4 r5) [],(true || ((E4 r5).nv && nvL [])) = true,r4 = true,r5 = false,r5 = false,r5 = false,r5 = false,false = false,false = false,false = false,false = false,false = false,false = false,false = false,false = false,false = false,false = false,false = false,false = false,false = false,false = false,false = false,false = false,false = false,false = false]) (by kernel_rfl) (cj (impl_AcctIdOk_ok a.Id r1 h1) (cj rfl (cj h2 (cj h2 (cj h2 (cj (impl_within_ok a.Limit 0 9007199254740992 r2 h3) (cj rfl (cj h2 (cj h4 (cj h4 (cj h4 (cj (impl_within_ok a.Most 0 1000 r3 h5) (cj rfl (cj h4 (cj h6 (cj h6 (cj h6 (cj (impl_within_ok a.MostSum 0 9007199254740992 r4 h7) (cj rfl (cj h6 (cj h8 (cj h8 (cj h8 (cj (impl_isMoney_ok a.Posted r5 h9) (cj rfl (cj h8 (cj h10 (cj h10 (cj h10 (cj h10 (cj rfl (cj rfl (cj rfl (cj rfl (cj rfl (cj rfl (cj rfl (cj rfl (cj rfl (cj rfl (cj rfl (cj rfl (cj rfl (cj rfl (cj rfl (cj rfl (cj rfl (cj1 rfl)))))))))))))))))))))))))))))))))))))))))))))))))))) (fun h8 =>
   Pn.some (Fn.of [.draw [], .call [] (E4 r1) [], .bit true, .bit true, .bit true, .call [] (E4 r2) [], .bit true, .bit true, .bit true, .bit true, .call [] (E4 r3) [], .bit true, .bit true, .bit true, .bit true, .call [] (E4 r4) [], .bit true, .bit false, .bit false, .bit false, .bit false, .bit false, .bit false, .bit false, .bit false, .bit false, .bit false, .bit false, .bit false, .bit false, .bit false, .bit false, .bit false, .bit false, .bit false, .bit false, .bit false, .bit false, .bit false, .bit false, .bit false, .bit false, .bit false] (p := [Fn Try.prog 36 [(false, E9 a.Id)] (E4 r1) [],(true || ((E4 r1).nv && nvL [])) = true,r1 = true,r1 = true,r1 = true,Fn Try.prog 37 [(false, E3 a.Limit), (false, E3 0), (false, E3 9007199254740992)] (E4 r2) [],(true || ((E4 r2).nv && nvL [])) = true,r1 = true,r2 = true,r2 = true,r2 = true,Fn Try.prog 37 [(false, E3 a.Most), (false, E3 0), (false, E3 1000)] (E4 r3) [],(true || ((E4 r3).nv && nvL [])) = true,r2 = true,r3 = true,r3 = true,r3 = true,Fn Try.prog 37 [(false, E3 a.MostSum), (false, E3 0), (false, E3 9007199254740992)] (E4 r4) [],(true || ((E4 r4).nv && nvL [])) = true,r3 = true,r4 = false,r4 = false,r4 = false,r4 = false,false = false,false = false,false = false,false = false,false = false,false = false,false = false,false = false,false = false,false = false,false = false,false = false,false = false,false = false,false = false,false = false,false = false,false = false,false = false,false = false,false = false,false = false]) (by kernel_rfl) (cj (impl_AcctIdOk_ok a.Id r1 h1) (cj rfl (cj h2 (cj h2 (cj h2 (cj (impl_within_ok a.Limit 0 9007199254740992 r2 h3) (cj rfl (cj h2 (cj h4 (cj h4 (cj h4 (cj (impl_within_ok a.Most 0 1000 r3 h5) (cj rfl (cj h4 (cj h6 (cj h6 (cj h6 (cj (impl_within_ok a.MostSum 0 9007199254740992 r4 h7) (cj rfl (cj h6 (cj h8 (cj h8 (cj h8 (cj h8 (cj rfl (cj rfl (cj rfl (cj rfl (cj rfl (cj rfl (cj rfl (cj rfl (cj rfl (cj rfl (cj rfl (cj rfl (cj rfl (cj rfl (cj rfl (cj rfl (cj rfl (cj rfl (cj rfl (cj rfl (cj rfl (cj1 rfl)))))))))))))))))))))))))))))))))))))))))))))))))) (fun h6 =>
   Pn.some (Fn.of [.draw [], .call [] (E4 r1) [], .bit true, .bit true, .bit true, .call [] (E4 r2) [], .bit true, .bit true, .bit true, .bit true, .call [] (E4 r3) [], .bit true, .bit false, .bit false, .bit false, .bit false, .bit false, .bit false, .bit false, .bit false, .bit false, .bit false, .bit false, .bit false, .bit false, .bit false, .bit false, .bit false, .bit false, .bit false, .bit false, .bit false, .bit false, .bit false, .bit false, .bit false, .bit false, .bit false, .bit false, .bit false, .bit false, .bit false] (p := [Fn Try.prog 36 [(false, E9 a.Id)] (E4 r1) [],(true || ((E4 r1).nv && nvL [])) = true,r1 = true,r1 = true,r1 = true,Fn Try.prog 37 [(false, E3 a.Limit), (false, E3 0), (false, E3 9007199254740992)] (E4 r2) [],(true || ((E4 r2).nv && nvL [])) = true,r1 = true,r2 = true,r2 = true,r2 = true,Fn Try.prog 37 [(false, E3 a.Most), (false, E3 0), (false, E3 1000)] (E4 r3) [],(true || ((E4 r3).nv && nvL [])) = true,r2 = true,r3 = false,r3 = false,r3 = false,r3 = false,false = false,false = false,false = false,false = false,false = false,false = false,false = false,false = false,false = false,false = false,false = false,false = false,false = false,false = false,false = false,false = false,false = false,false = false,false = false,false = false,false = false,false = false,false = false,false = false,false = false,false = false]) (by kernel_rfl) (cj (impl_AcctIdOk_ok a.Id r1 h1) (cj rfl (cj h2 (cj h2 (cj h2 (cj (impl_within_ok a.Limit 0 9007199254740992 r2 h3) (cj rfl (cj h2 (cj h4 (cj h4 (cj h4 (cj (impl_within_ok a.Most 0 1000 r3 h5) (cj rfl (cj h4 (cj h6 (cj h6 (cj h6 (cj h6 (cj rfl (cj rfl (cj rfl (cj rfl (cj rfl (cj rfl (cj rfl (cj rfl (cj rfl (cj rfl (cj rfl (cj rfl (cj rfl (cj rfl (cj rfl (cj rfl (cj rfl (cj rfl (cj rfl (cj rfl (cj rfl (cj rfl (cj rfl (cj rfl (cj rfl (cj1 rfl)))))))))))))))))))))))))))))))))))))))))))))))) (fun h4 =>
   Pn.some (Fn.of [.draw [], .call [] (E4 r1) [], .bit true, .bit true, .bit true, .call [] (E4 r2) [], .bit true, .bit false, .bit false, .bit false, .bit false, .bit false, .bit false, .bit false, .bit false, .bit false, .bit false, .bit false, .bit false, .bit false, .bit false, .bit false, .bit false, .bit false, .bit false, .bit false, .bit false, .bit false, .bit false, .bit false, .bit false, .bit false, .bit false, .bit false, .bit false, .bit false, .bit false, .bit false, .bit false, .bit false, .bit false] (p := [Fn Try.prog 36 [(false, E9 a.Id)] (E4 r1) [],(true || ((E4 r1).nv && nvL [])) = true,r1 = true,r1 = true,r1 = true,Fn Try.prog 37 [(false, E3 a.Limit), (false, E3 0), (false, E3 9007199254740992)] (E4 r2) [],(true || ((E4 r2).nv && nvL [])) = true,r1 = true,r2 = false,r2 = false,r2 = false,r2 = false,false = false,false = false,false = false,false = false,false = false,false = false,false = false,false = false,false = false,false = false,false = false,false = false,false = false,false = false,false = false,false = false,false = false,false = false,false = false,false = false,false = false,false = false,false = false,false = false,false = false,false = false,false = false,false = false,false = false,false = false]) (by kernel_rfl) (cj (impl_AcctIdOk_ok a.Id r1 h1) (cj rfl (cj h2 (cj h2 (cj h2 (cj (impl_within_ok a.Limit 0 9007199254740992 r2 h3) (cj rfl (cj h2 (cj h4 (cj h4 (cj h4 (cj h4 (cj rfl (cj rfl (cj rfl (cj rfl (cj rfl (cj rfl (cj rfl (cj rfl (cj rfl (cj rfl (cj rfl (cj rfl (cj rfl (cj rfl (cj rfl (cj rfl (cj rfl (cj rfl (cj rfl (cj rfl (cj rfl (cj rfl (cj rfl (cj rfl (cj rfl (cj rfl (cj rfl (cj rfl (cj rfl (cj1 rfl)))))))))))))))))))))))))))))))))))))))))))))) (fun h2 =>
   Pn.some (Fn.of [.draw [], .call [] (E4 r1) [], .bit false, .bit false, .bit false, .bit false, .bit false, .bit false, .bit false, .bit false, .bit false, .bit false, .bit false, .bit false, .bit false, .bit false, .bit false, .bit false, .bit false, .bit false, .bit false, .bit false, .bit false, .bit false, .bit false, .bit false, .bit false, .bit false, .bit false, .bit false, .bit false, .bit false, .bit false, .bit false, .bit false, .bit false, .bit false, .bit false, .bit false, .bit false] (p := [Fn Try.prog 36 [(false, E9 a.Id)] (E4 r1) [],(true || ((E4 r1).nv && nvL [])) = true,r1 = false,r1 = false,r1 = false,r1 = false,false = false,false = false,false = false,false = false,false = false,false = false,false = false,false = false,false = false,false = false,false = false,false = false,false = false,false = false,false = false,false = false,false = false,false = false,false = false,false = false,false = false,false = false,false = false,false = false,false = false,false = false,false = false,false = false,false = false,false = false,false = false,false = false,false = false,false = false]) (by kernel_rfl) (cj (impl_AcctIdOk_ok a.Id r1 h1) (cj rfl (cj h2 (cj h2 (cj h2 (cj h2 (cj rfl (cj rfl (cj rfl (cj rfl (cj rfl (cj rfl (cj rfl (cj rfl (cj rfl (cj rfl (cj rfl (cj rfl (cj rfl (cj rfl (cj rfl (cj rfl (cj rfl (cj rfl (cj rfl (cj rfl (cj rfl (cj rfl (cj rfl (cj rfl (cj rfl (cj rfl (cj rfl (cj rfl (cj rfl (cj rfl (cj rfl (cj rfl (cj rfl (cj1 rfl)))))))))))))))))))))))))))))))))))))))))))
def slices_Clone_impl_Hold (s_ : List Hold) : Option (List Hold) := if capOk s_.length = true then some s_ else none
theorem slices_Clone_impl_Hold_ok : ∀ (s_ : List Hold), Pn (fun y => Fn Try.prog 70 [(false, E23 s_)] (E23 y) []) (slices_Clone_impl_Hold s_)
  | [] => by
    unfold slices_Clone_impl_Hold
    exact Pn.ite (fun h => Pn.some (Fn.two [] [.bit true] [.bit false, .cp (List.map E36 []), .nb 1 (.row 36 (List.map E36 []) [])] (p := []) (pT := [true = true]) (pF := [false = false, (List.map E36 []).map V.vw = (List.map E36 []), ([] : List V).length + (List.map E36 []).length ≤ 9223372036854775807, (([] : List V).length + (List.map E36 []).length) * 32 ≤ 140737488355328, Blk.row 36 (([] : List V) ++ (List.map E36 [])) [] = Blk.row 36 (List.map E36 []) []]) (by kernel_rfl) trivial (cj1 rfl) (cj rfl (cj (vw_id (fun _ => rfl) _) (cj (cap1 (capN (by simp) h)) (cj (cap2 (capN (by simp) h) (by decide)) (cj1 rfl))))))) (fun _ => Pn.none)
  | x :: t => by
    unfold slices_Clone_impl_Hold
    exact Pn.ite (fun h => Pn.some (Fn.two [] [.bit true] [.bit false, .cp (List.map E36 (x :: t)), .nb 1 (.row 36 (List.map E36 (x :: t)) [])] (p := []) (pT := [false = false, (List.map E36 (x :: t)).map V.vw = (List.map E36 (x :: t)), ([] : List V).length + (List.map E36 (x :: t)).length ≤ 9223372036854775807, (([] : List V).length + (List.map E36 (x :: t)).length) * 32 ≤ 140737488355328, Blk.row 36 (([] : List V) ++ (List.map E36 (x :: t))) [] = Blk.row 36 (List.map E36 (x :: t)) []]) (pF := [false = false, (List.map E36 (x :: t)).map V.vw = (List.map E36 (x :: t)), ([] : List V).length + (List.map E36 (x :: t)).length ≤ 9223372036854775807, (([] : List V).length + (List.map E36 (x :: t)).length) * 32 ≤ 140737488355328, Blk.row 36 (([] : List V) ++ (List.map E36 (x :: t))) [] = Blk.row 36 (List.map E36 (x :: t)) []]) (by kernel_rfl) trivial (cj rfl (cj (vw_id (fun _ => rfl) _) (cj (cap1 (capN (by simp) h)) (cj (cap2 (capN (by simp) h) (by decide)) (cj1 rfl))))) (cj rfl (cj (vw_id (fun _ => rfl) _) (cj (cap1 (capN (by simp) h)) (cj (cap2 (capN (by simp) h) (by decide)) (cj1 rfl))))))) (fun _ => Pn.none)
def slices_Clone_int (s_ : List Int) : Option (List Int) := if capOk s_.length = true then some s_ else none
theorem slices_Clone_int_ok : ∀ (s_ : List Int), Pn (fun y => Fn Try.prog 101 [(false, E24 s_)] (E24 y) []) (slices_Clone_int s_)
  | [] => by
    unfold slices_Clone_int
    exact Pn.ite (fun h => Pn.some (Fn.two [] [.bit true] [.bit false, .cp (List.map E3 []), .nb 1 (.row 3 (List.map E3 []) [])] (p := []) (pT := [true = true]) (pF := [false = false, (List.map E3 []).map V.vw = (List.map E3 []), ([] : List V).length + (List.map E3 []).length ≤ 9223372036854775807, (([] : List V).length + (List.map E3 []).length) * 8 ≤ 140737488355328, Blk.row 3 (([] : List V) ++ (List.map E3 [])) [] = Blk.row 3 (List.map E3 []) []]) (by kernel_rfl) trivial (cj1 rfl) (cj rfl (cj (vw_id (fun _ => rfl) _) (cj (cap1 (capN (by simp) h)) (cj (cap2 (capN (by simp) h) (by decide)) (cj1 rfl))))))) (fun _ => Pn.none)
  | x :: t => by
    unfold slices_Clone_int
    exact Pn.ite (fun h => Pn.some (Fn.two [] [.bit true] [.bit false, .cp (List.map E3 (x :: t)), .nb 1 (.row 3 (List.map E3 (x :: t)) [])] (p := []) (pT := [false = false, (List.map E3 (x :: t)).map V.vw = (List.map E3 (x :: t)), ([] : List V).length + (List.map E3 (x :: t)).length ≤ 9223372036854775807, (([] : List V).length + (List.map E3 (x :: t)).length) * 8 ≤ 140737488355328, Blk.row 3 (([] : List V) ++ (List.map E3 (x :: t))) [] = Blk.row 3 (List.map E3 (x :: t)) []]) (pF := [false = false, (List.map E3 (x :: t)).map V.vw = (List.map E3 (x :: t)), ([] : List V).length + (List.map E3 (x :: t)).length ≤ 9223372036854775807, (([] : List V).length + (List.map E3 (x :: t)).length) * 8 ≤ 140737488355328, Blk.row 3 (([] : List V) ++ (List.map E3 (x :: t))) [] = Blk.row 3 (List.map E3 (x :: t)) []]) (by kernel_rfl) trivial (cj rfl (cj (vw_id (fun _ => rfl) _) (cj (cap1 (capN (by simp) h)) (cj (cap2 (capN (by simp) h) (by decide)) (cj1 rfl))))) (cj rfl (cj (vw_id (fun _ => rfl) _) (cj (cap1 (capN (by simp) h)) (cj (cap2 (capN (by simp) h) (by decide)) (cj1 rfl))))))) (fun _ => Pn.none)
def impl_Ring_copied (r_ : Ring) : Option (Ring) :=
 (slices_Clone_int r_.Counts).bind fun r1 =>
 (slices_Clone_int r_.Sums).bind fun r2 =>
 some (Ring.mk r_.Span r_.Head r1 r2)
theorem impl_Ring_copied_ok (r_ : Ring) : Pn (fun y => Fn Try.prog 77 [(false, E26 r_)] (E26 y) []) (impl_Ring_copied r_) := by
  unfold impl_Ring_copied
  exact
   Pn.bind (fun r1 h1 =>
   Pn.bind (fun r2 h2 =>
   Pn.some (Fn.of [.draw [7, 9], .call [] (E24 r1) [], .call [] (E24 r2) []] (p := [Fn Try.prog 101 [(false, E24 r_.Counts)] (E24 r1) [],(true || ((E24 r1).nv && nvL [])) = true,Fn Try.prog 101 [(false, E24 r_.Sums)] (E24 r2) [],(true || ((E24 r2).nv && nvL [])) = true]) (by kernel_rfl) (cj (slices_Clone_int_ok r_.Counts r1 h1) (cj rfl (cj (slices_Clone_int_ok r_.Sums r2 h2) (cj1 rfl)))))))
def slices_Clone_byte (s_ : List Int) : Option (List Int) := if capOk s_.length = true then some s_ else none
theorem slices_Clone_byte_ok : ∀ (s_ : List Int), Pn (fun y => Fn Try.prog 102 [(false, E22 s_)] (E22 y) []) (slices_Clone_byte s_)
  | [] => by
    unfold slices_Clone_byte
    exact Pn.ite (fun h => Pn.some (Fn.two [] [.bit true] [.bit false, .cp (List.map E5 []), .nb 1 (.row 5 (List.map E5 []) [])] (p := []) (pT := [true = true]) (pF := [false = false, (List.map E5 []).map V.vw = (List.map E5 []), ([] : List V).length + (List.map E5 []).length ≤ 9223372036854775807, (([] : List V).length + (List.map E5 []).length) * 1 ≤ 140737488355328, Blk.row 5 (([] : List V) ++ (List.map E5 [])) [] = Blk.row 5 (List.map E5 []) []]) (by kernel_rfl) trivial (cj1 rfl) (cj rfl (cj (vw_id (fun _ => rfl) _) (cj (cap1 (capN (by simp) h)) (cj (cap2 (capN (by simp) h) (by decide)) (cj1 rfl))))))) (fun _ => Pn.none)
  | x :: t => by
    unfold slices_Clone_byte
    exact Pn.ite (fun h => Pn.some (Fn.two [] [.bit true] [.bit false, .cp (List.map E5 (x :: t)), .nb 1 (.row 5 (List.map E5 (x :: t)) [])] (p := []) (pT := [false = false, (List.map E5 (x :: t)).map V.vw = (List.map E5 (x :: t)), ([] : List V).length + (List.map E5 (x :: t)).length ≤ 9223372036854775807, (([] : List V).length + (List.map E5 (x :: t)).length) * 1 ≤ 140737488355328, Blk.row 5 (([] : List V) ++ (List.map E5 (x :: t))) [] = Blk.row 5 (List.map E5 (x :: t)) []]) (pF := [false = false, (List.map E5 (x :: t)).map V.vw = (List.map E5 (x :: t)), ([] : List V).length + (List.map E5 (x :: t)).length ≤ 9223372036854775807, (([] : List V).length + (List.map E5 (x :: t)).length) * 1 ≤ 140737488355328, Blk.row 5 (([] : List V) ++ (List.map E5 (x :: t))) [] = Blk.row 5 (List.map E5 (x :: t)) []]) (by kernel_rfl) trivial (cj rfl (cj (vw_id (fun _ => rfl) _) (cj (cap1 (capN (by simp) h)) (cj (cap2 (capN (by simp) h) (by decide)) (cj1 rfl))))) (cj rfl (cj (vw_id (fun _ => rfl) _) (cj (cap1 (capN (by simp) h)) (cj (cap2 (capN (by simp) h) (by decide)) (cj1 rfl))))))) (fun _ => Pn.none)
def impl_copySlots_l0 (l : List Slot) : List Slot → (List Slot) → Option ((List Slot))
  | [], v1 =>
   some v1
  | x1 :: t1, v1 =>
   (slices_Clone_byte x1.Reply).bind fun r1 =>
   if (capOk (v1.length + 1)) = true then
   impl_copySlots_l0 l t1 (v1 ++ [(Slot.mk x1.Trace x1.Mti r1)])
   else none
theorem impl_copySlots_l0_ok (l : List Slot) (h2 : capOk l.length = true) : ∀ (t1 p1 : List Slot) (_ : l = p1 ++ t1) (v1 : List Slot), Pn (LpO Try.prog (sub (codeOf Try.prog 78) [1, 1, 0, 1, 0, 0]) (st 26 [(3, V.ow 0), (7, V.sl false 94 (List.map E94 l)), (8, vI (l.length : Int)), (9, vI (p1.length : Int))] [Blk.row 94 (List.map E94 v1) []] []) (fun (y : (List Slot)) => (X.out 0, st 26 [(3, V.ow 0)] [Blk.row 94 (List.map E94 y) []] []))) (impl_copySlots_l0 l t1 v1)
  | [], p1, h1, v1 => by
    unfold impl_copySlots_l0
    exact
     Pn.some (LpO.out [.bit false, .mask [3], .ren [0]] (p := [(decide ((p1.length : Int) < (l.length : Int))) = false]) (by kernel_rfl) (show X.out 0 ≠ X.go from nofun) (cj1 (rng_end h1)))
  | x1 :: t1, p1, h1, v1 => by
    unfold impl_copySlots_l0
    exact
     Pn.bind (fun r1 h3 =>
     Pn.ite (fun h4 =>
     LpO.go [.bit true, .el (E94 x1), .draw [10], .call [] (E22 r1) [], .wait 2, .shut 3, .mv, .nb 4 (.row 94 (List.map E94 (v1 ++ [(Slot.mk x1.Trace x1.Mti r1)])) []), .wait 4, .mask [3, 7, 8, 9], .ren [4], .nm 9 (vI ((p1 ++ [x1]).length : Int))] (p := [(decide ((p1.length : Int) < (l.length : Int))) = true,(0 : Int) ≤ (p1.length : Int),(List.map E94 l)[(p1.length : Int).toNat]? = some (E94 x1),Fn Try.prog 102 [(false, E22 x1.Reply)] (E22 r1) [],(true || ((E22 r1).nv && nvL [])) = true,(List.map E94 v1).length + [V.agg [V.sc (.string x1.Trace), V.sc (.string x1.Mti), V.sl true 5 (List.map E5 r1)]].length ≤ 9223372036854775807,((List.map E94 v1).length + [V.agg [V.sc (.string x1.Trace), V.sc (.string x1.Mti), V.sl true 5 (List.map E5 r1)]].length) * 56 ≤ 140737488355328,Blk.row 94 ((List.map E94 v1) ++ [V.agg [V.sc (.string x1.Trace), V.sc (.string x1.Mti), V.sl true 5 (List.map E5 r1)]]) [] = Blk.row 94 (List.map E94 (v1 ++ [(Slot.mk x1.Trace x1.Mti r1)])) [],vI (i64 ((p1.length : Int) + 1)) = vI ((p1 ++ [x1]).length : Int)]) (by kernel_rfl) (cj (rng_lt h1) (cj (by omega) (cj (rng_get _ h1) (cj (slices_Clone_byte_ok x1.Reply r1 h3) (cj rfl (cj (cap1 (capN (by simp) h4)) (cj (cap2 (capN (by simp) h4) (by decide)) (cj (nb_app E94 v1 [(Slot.mk x1.Trace x1.Mti r1)]) (cj1 (rng_next h1 h2)))))))))) (impl_copySlots_l0_ok l h2 t1 (p1 ++ [x1]) (rng_step h1) (v1 ++ [(Slot.mk x1.Trace x1.Mti r1)]))) (fun h4 =>
     Pn.none))
def impl_copySlots (l : List Slot) : Option ((List Slot)) :=
 if (capOk l.length) = true then
 (impl_copySlots_l0 l l []).bind fun r2 =>
 some r2
 else none
theorem impl_copySlots_ok (l : List Slot) : Pn (fun y => Fn Try.prog 78 [(false, E27 l)] (E27 y) []) (impl_copySlots l) := by
  unfold impl_copySlots
  exact
   Pn.ite (fun h5 =>
   Pn.bind (fun r2 h6 =>
   Pn.some (Fn.of [.wait 5, .nm 8 (vI (l.length : Int)), .wait 2, .mask [3, 7, 8, 9], .ren [0], .loop (X.out 0) (st 26 [(3, V.ow 0)] [Blk.row 94 (List.map E94 r2) []] [])] (p := [vI ((List.map E94 l).length : Int) = vI (l.length : Int),Loop Try.prog (sub (codeOf Try.prog 78) [1, 1, 0, 1, 0, 0]) (st 26 [(3, V.ow 0), (7, V.sl false 94 (List.map E94 l)), (8, vI (l.length : Int)), (9, vI 0)] [Blk.row 94 ([] : List V) []] []) (X.out 0) (st 26 [(3, V.ow 0)] [Blk.row 94 (List.map E94 r2) []] [])]) (by kernel_rfl) (cj (len_nm _ _) (cj1 (impl_copySlots_l0_ok l h5 l [] rfl [] r2 h6)))))) (fun h5 =>
   Pn.none)
def impl_Acct_copied (a : Acct) : Option (Acct) :=
 (slices_Clone_impl_Hold a.Holds).bind fun r1 =>
 (impl_Ring_copied a.Ring).bind fun r2 =>
 (impl_copySlots a.Slots).bind fun r3 =>
 some (Acct.mk a.Id a.Limit a.Posted a.Most a.MostSum r1 r2 r3)
theorem impl_Acct_copied_ok (a : Acct) : Pn (fun y => Fn Try.prog 45 [(false, E29 a)] (E29 y) []) (impl_Acct_copied a) := by
  unfold impl_Acct_copied
  exact
   Pn.bind (fun r1 h1 =>
   Pn.bind (fun r2 h2 =>
   Pn.bind (fun r3 h3 =>
   Pn.some (Fn.of [.draw [10, 12, 14], .call [] (E23 r1) [], .call [] (E26 r2) [], .call [] (E27 r3) []] (p := [Fn Try.prog 70 [(false, E23 a.Holds)] (E23 r1) [],(true || ((E23 r1).nv && nvL [])) = true,Fn Try.prog 77 [(false, E26 a.Ring)] (E26 r2) [],(true || ((E26 r2).nv && nvL [])) = true,Fn Try.prog 78 [(false, E27 a.Slots)] (E27 r3) [],(true || ((E27 r3).nv && nvL [])) = true]) (by kernel_rfl) (cj (slices_Clone_impl_Hold_ok a.Holds r1 h1) (cj rfl (cj (impl_Ring_copied_ok a.Ring r2 h2) (cj rfl (cj (impl_copySlots_ok a.Slots r3 h3) (cj1 rfl))))))))))
def impl_Live (h_ : Hold) (now : Int) : Option (Bool) :=
 some (decide (now < h_.Due))
theorem impl_Live_ok (h_ : Hold) (now : Int) : Pn (fun y => Fn Try.prog 80 [(false, E36 h_), (false, E3 now)] (E4 y) []) (impl_Live h_ now) := by
  unfold impl_Live
  exact
   Pn.some (Fn.of [] (p := []) (by kernel_rfl) trivial)
def impl_LiveOnes_1 (h_ : Hold) (c0_0 : Int) : Option (Bool) :=
 (impl_Live h_ c0_0).bind fun r1 =>
 some (!r1)
theorem impl_LiveOnes_1_ok (h_ : Hold) (c0_0 : Int) : Pn (fun y => Fn Try.prog 79 [(false, E36 h_), (false, V.cp [vI c0_0])] (E4 y) []) (impl_LiveOnes_1 h_ c0_0) := by
  unfold impl_LiveOnes_1
  exact
   Pn.bind (fun r1 h1 =>
   Pn.some (Fn.of [.call [] (E4 r1) []] (p := [Fn Try.prog 80 [(false, E36 h_), (false, E3 c0_0)] (E4 r1) [],(true || ((E4 r1).nv && nvL [])) = true]) (by kernel_rfl) (cj (impl_Live_ok h_ c0_0 r1 h1) (cj1 rfl))))
def slices_IndexFunc_impl_Hold_impl_LiveOnes_1_l0 (s_ : List Hold) (f0_0 : Int) : List Hold → List Hold → Option (Lo Unit Int)
  | [], p1 =>
   some (.out ())
  | x1 :: t1, p1 =>
   (impl_LiveOnes_1 x1 f0_0).bind fun r1 =>
   if r1 = true then
   some (.ret (p1.length : Int))
   else
   slices_IndexFunc_impl_Hold_impl_LiveOnes_1_l0 s_ f0_0 t1 (p1 ++ [x1])
theorem slices_IndexFunc_impl_Hold_impl_LiveOnes_1_l0_ok (s_ : List Hold) (f0_0 : Int) (h2 : capOk s_.length = true) : ∀ (t1 p1 : List Hold) (_ : s_ = p1 ++ t1) , Pn (LpO Try.prog (sub (codeOf Try.prog 31) [1, 0, 1, 0, 0]) (st 19 [(0, V.sl false 36 (List.map E36 s_)), (1, V.fn 79 [V.cp [vI f0_0]]), (7, vI (s_.length : Int)), (8, vI (p1.length : Int))] [] []) (fun (y : Lo Unit Int) => Lo.elim y (fun s => (X.out 0, st 19 [] [] [])) (fun s => (X.ret, st 19 [(4, vI s)] [] [])))) (slices_IndexFunc_impl_Hold_impl_LiveOnes_1_l0 s_ f0_0 t1 p1)
  | [], p1, h1 => by
    unfold slices_IndexFunc_impl_Hold_impl_LiveOnes_1_l0
    exact
     Pn.some (LpO.out [.bit false, .mask [], .ren []] (p := [(decide ((p1.length : Int) < (s_.length : Int))) = false]) (by kernel_rfl) (show X.out 0 ≠ X.go from nofun) (cj1 (rng_end h1)))
  | x1 :: t1, p1, h1 => by
    unfold slices_IndexFunc_impl_Hold_impl_LiveOnes_1_l0
    exact
     Pn.bind (fun r1 h3 =>
     Pn.ite (fun h4 =>
     Pn.some (LpO.out [.bit true, .el (E36 x1), .call [] (E4 r1) [], .bit true, .wait 2, .mask [4], .ren []] (p := [(decide ((p1.length : Int) < (s_.length : Int))) = true,(0 : Int) ≤ (p1.length : Int),(List.map E36 s_)[(p1.length : Int).toNat]? = some (E36 x1),Fn Try.prog 79 [(false, E36 x1), (false, V.cp [vI f0_0])] (E4 r1) [],(true || ((E4 r1).nv && nvL [])) = true,r1 = true]) (by kernel_rfl) (show X.ret ≠ X.go from nofun) (cj (rng_lt h1) (cj (by omega) (cj (rng_get _ h1) (cj (impl_LiveOnes_1_ok x1 f0_0 r1 h3) (cj rfl (cj1 h4)))))))) (fun h4 =>
     LpO.go [.bit true, .el (E36 x1), .call [] (E4 r1) [], .bit false, .wait 2, .mask [0, 1, 7, 8], .ren [], .nm 8 (vI ((p1 ++ [x1]).length : Int))] (p := [(decide ((p1.length : Int) < (s_.length : Int))) = true,(0 : Int) ≤ (p1.length : Int),(List.map E36 s_)[(p1.length : Int).toNat]? = some (E36 x1),Fn Try.prog 79 [(false, E36 x1), (false, V.cp [vI f0_0])] (E4 r1) [],(true || ((E4 r1).nv && nvL [])) = true,r1 = false,vI (i64 ((p1.length : Int) + 1)) = vI ((p1 ++ [x1]).length : Int)]) (by kernel_rfl) (cj (rng_lt h1) (cj (by omega) (cj (rng_get _ h1) (cj (impl_LiveOnes_1_ok x1 f0_0 r1 h3) (cj rfl (cj h4 (cj1 (rng_next h1 h2)))))))) (slices_IndexFunc_impl_Hold_impl_LiveOnes_1_l0_ok s_ f0_0 h2 t1 (p1 ++ [x1]) (rng_step h1))))
def slices_IndexFunc_impl_Hold_impl_LiveOnes_1 (s_ : List Hold) (f0_0 : Int) : Option (Int) :=
 if (capOk s_.length) = true then
 (slices_IndexFunc_impl_Hold_impl_LiveOnes_1_l0 s_ f0_0 s_ []).bind fun r2 =>
 Lo.elim r2 (fun s1 =>
 some (-1)) (fun s2 =>
 some s2)
 else none
theorem slices_IndexFunc_impl_Hold_impl_LiveOnes_1_ok (s_ : List Hold) (f0_0 : Int) : Pn (fun y => Fn Try.prog 31 [(false, E23 s_), (false, V.fn 79 [V.cp [vI f0_0]])] (E3 y) []) (slices_IndexFunc_impl_Hold_impl_LiveOnes_1 s_ f0_0) := by
  unfold slices_IndexFunc_impl_Hold_impl_LiveOnes_1
  exact
   Pn.ite (fun h5 =>
   Pn.bind (fun r2 h6 =>
   Pn.lo (fun s1 h7 =>
   Pn.some (Fn.of [.wait 3, .nm 7 (vI (s_.length : Int)), .wait 2, .mask [0, 1, 7, 8], .ren [], .loop (X.out 0) (st 19 [] [] [])] (p := [vI ((List.map E36 s_).length : Int) = vI (s_.length : Int),Loop Try.prog (sub (codeOf Try.prog 31) [1, 0, 1, 0, 0]) (st 19 [(0, V.sl false 36 (List.map E36 s_)), (1, V.fn 79 [V.cp [vI f0_0]]), (7, vI (s_.length : Int)), (8, vI 0)] [] []) (X.out 0) (st 19 [] [] [])]) (by kernel_rfl) (cj (len_nm _ _) (cj1 ((slices_IndexFunc_impl_Hold_impl_LiveOnes_1_l0_ok s_ f0_0 h5 s_ [] rfl r2 h6).at h7 :))))) (fun s2 h8 =>
   Pn.some (Fn.of [.wait 3, .nm 7 (vI (s_.length : Int)), .wait 2, .mask [0, 1, 7, 8], .ren [], .loop (X.ret) (st 19 [(4, vI s2)] [] [])] (p := [vI ((List.map E36 s_).length : Int) = vI (s_.length : Int),Loop Try.prog (sub (codeOf Try.prog 31) [1, 0, 1, 0, 0]) (st 19 [(0, V.sl false 36 (List.map E36 s_)), (1, V.fn 79 [V.cp [vI f0_0]]), (7, vI (s_.length : Int)), (8, vI 0)] [] []) (X.ret) (st 19 [(4, vI s2)] [] [])]) (by kernel_rfl) (cj (len_nm _ _) (cj1 ((slices_IndexFunc_impl_Hold_impl_LiveOnes_1_l0_ok s_ f0_0 h5 s_ [] rfl r2 h6).at h8 :))))))) (fun h5 =>
   Pn.none)
def slices_DeleteFunc_impl_Hold_impl_LiveOnes_1_l0 (del0_0 : Int) : Nat → Int → Int → (List Hold) → Option (Int × (List Hold))
  | 0, _, _, _ => none
  | fuel + 1, v1, v2, v3 =>
   if (decide (v2 < (v3.length : Int))) = true then
   if (decide (0 ≤ v2)) = true then
   (v3[v2.toNat]?).bind fun x1 =>
   (impl_LiveOnes_1 x1 del0_0).bind fun r2 =>
   if r2 = true then
   slices_DeleteFunc_impl_Hold_impl_LiveOnes_1_l0 del0_0 fuel v1 (i64 (v2 + 1)) v3
   else
   if (decide (0 ≤ v1)) = true then
   (v3[v1.toNat]?).bind fun x2 =>
   slices_DeleteFunc_impl_Hold_impl_LiveOnes_1_l0 del0_0 fuel (i64 (v1 + 1)) (i64 (v2 + 1)) (v3.set v1.toNat x1)
   else none
   else none
   else
   some (v1, v3)
theorem slices_DeleteFunc_impl_Hold_impl_LiveOnes_1_l0_ok (del0_0 : Int) : ∀ (fuel : Nat) (v1 : Int) (v2 : Int) (v3 : List Hold), Pn (LpO Try.prog (sub (codeOf Try.prog 69) [1, 1, 1, 0, 1, 0, 0]) (st 42 [(0, V.ow 0), (1, V.fn 79 [V.cp [vI del0_0]]), (5, vI v1), (6, vI v2)] [Blk.row 36 (List.map E36 v3) []] [some 0]) (fun (y : Int × (List Hold)) => (X.out 0, st 42 [(0, V.ow 0), (5, vI y.1)] [Blk.row 36 (List.map E36 y.2) []] [some 0]))) (slices_DeleteFunc_impl_Hold_impl_LiveOnes_1_l0 del0_0 fuel v1 v2 v3)
  | 0, _, _, _ => Pn.none
  | fuel + 1, v1, v2, v3 => by
    unfold slices_DeleteFunc_impl_Hold_impl_LiveOnes_1_l0
    exact
     Pn.ite (fun h3 =>
     Pn.ite (fun h4 =>
     Pn.bind (fun x1 h5 =>
     Pn.bind (fun r2 h6 =>
     Pn.ite (fun h7 =>
     LpO.go [.wait 3, .nm 18 (vI (v3.length : Int)), .bit true, .el (E36 x1), .call [] (E4 r2) [], .bit false, .wait 3, .mask [0, 1, 5, 6], .ren [0]] (p := [vI ((List.map E36 v3).length : Int) = vI (v3.length : Int),(decide (v2 < (v3.length : Int))) = true,(0 : Int) ≤ v2,(v2 : Int) < ((List.map E36 v3).length : Int),look [] v2.toNat = none,(List.map E36 v3)[v2.toNat]? = some (E36 x1),Fn Try.prog 79 [(false, E36 x1), (false, V.cp [vI del0_0])] (E4 r2) [],(true || ((E4 r2).nv && nvL [])) = true,(!r2) = false]) (by kernel_rfl) (cj (len_nm _ _) (cj h3 (cj (od h4) (cj (map_ltN (od h4) h5) (cj rfl (cj (map_get h5) (cj (impl_LiveOnes_1_ok x1 del0_0 r2 h6) (cj rfl (cj1 (nf h7)))))))))) (slices_DeleteFunc_impl_Hold_impl_LiveOnes_1_l0_ok del0_0 fuel v1 (i64 (v2 + 1)) v3)) (fun h7 =>
     Pn.ite (fun h8 =>
     Pn.bind (fun x2 h9 =>
     LpO.go [.wait 3, .nm 18 (vI (v3.length : Int)), .bit true, .el (E36 x1), .call [] (E4 r2) [], .bit true, .el (E36 x2), .nb 0 (.row 36 (List.map E36 (v3.set v1.toNat x1)) []), .wait 7, .mask [0, 1, 5, 6], .ren [0]] (p := [vI ((List.map E36 v3).length : Int) = vI (v3.length : Int),(decide (v2 < (v3.length : Int))) = true,(0 : Int) ≤ v2,(v2 : Int) < ((List.map E36 v3).length : Int),look [] v2.toNat = none,(List.map E36 v3)[v2.toNat]? = some (E36 x1),Fn Try.prog 79 [(false, E36 x1), (false, V.cp [vI del0_0])] (E4 r2) [],(true || ((E4 r2).nv && nvL [])) = true,(!r2) = true,(0 : Int) ≤ v1,(v1 : Int) < ((List.map E36 v3).length : Int),look [] v1.toNat = none,(List.map E36 v3)[v1.toNat]? = some (E36 x2),Blk.row 36 ((List.map E36 v3).set v1.toNat (V.agg [V.sc (.string x1.Id), vI x1.Amount, vI x1.Due])) [] = Blk.row 36 (List.map E36 (v3.set v1.toNat x1)) []]) (by kernel_rfl) (cj (len_nm _ _) (cj h3 (cj (od h4) (cj (map_ltN (od h4) h5) (cj rfl (cj (map_get h5) (cj (impl_LiveOnes_1_ok x1 del0_0 r2 h6) (cj rfl (cj (nt h7) (cj (od h8) (cj (map_ltN (od h8) h9) (cj rfl (cj (map_get h9) (cj1 (nb_set E36 _ _ x1))))))))))))))) (slices_DeleteFunc_impl_Hold_impl_LiveOnes_1_l0_ok del0_0 fuel (i64 (v1 + 1)) (i64 (v2 + 1)) (v3.set v1.toNat x1)))) (fun h8 =>
     Pn.none))))) (fun h4 =>
     Pn.none)) (fun h3 =>
     Pn.some (LpO.out [.wait 3, .nm 18 (vI (v3.length : Int)), .bit false, .mask [0, 5], .ren [0]] (p := [vI ((List.map E36 v3).length : Int) = vI (v3.length : Int),(decide (v2 < (v3.length : Int))) = false]) (by kernel_rfl) (show X.out 0 ≠ X.go from nofun) (cj (len_nm _ _) (cj1 h3))))
def slices_DeleteFunc_impl_Hold_impl_LiveOnes_1 (s_ : List Hold) (del0_0 : Int) : Option ((List Hold)) :=
 (slices_IndexFunc_impl_Hold_impl_LiveOnes_1 s_ del0_0).bind fun r1 =>
 if (r1 == (-1)) = true then
 some s_
 else
 (slices_DeleteFunc_impl_Hold_impl_LiveOnes_1_l0 del0_0 FUEL r1 (i64 (r1 + 1)) s_).bind fun r3 =>
 if (decide (0 ≤ r3.1)) = true then
 if (decide (r3.1 ≤ (r3.2.length : Int))) = true then
 if (decide (r3.1 ≤ ((r3.2.take r3.1.toNat ++ (List.replicate (r3.2.length - r3.1.toNat) (Hold.mk ByteArray.empty 0 0) ++ r3.2.drop (r3.1.toNat + (r3.2.length - r3.1.toNat)))).length : Int))) = true then
 some ((r3.2.take r3.1.toNat ++ (List.replicate (r3.2.length - r3.1.toNat) (Hold.mk ByteArray.empty 0 0) ++ r3.2.drop (r3.1.toNat + (r3.2.length - r3.1.toNat)))).take r3.1.toNat)
 else none
 else none
 else none
theorem slices_DeleteFunc_impl_Hold_impl_LiveOnes_1_ok (s_ : List Hold) (del0_0 : Int) : Pn (fun y => Fn Try.prog 69 [(true, E23 s_), (false, V.fn 79 [V.cp [vI del0_0]])] (E23 y) [V.un]) (slices_DeleteFunc_impl_Hold_impl_LiveOnes_1 s_ del0_0) := by
  unfold slices_DeleteFunc_impl_Hold_impl_LiveOnes_1
  exact
   Pn.bind (fun r1 h1 =>
   Pn.ite (fun h2 =>
   Pn.some (Fn.of [.call [] (E3 r1) [], .bit true] (p := [Fn Try.prog 31 [(false, E23 s_), (false, V.fn 79 [V.cp [vI del0_0]])] (E3 r1) [],(false || ((E3 r1).nv && nvL [])) = true,(r1 == (-1)) = true]) (by kernel_rfl) (cj (slices_IndexFunc_impl_Hold_impl_LiveOnes_1_ok s_ del0_0 r1 h1) (cj (by simp [V.nv, nvL, nvL_all, nv_E3]) (cj1 h2))))) (fun h2 =>
   Pn.bind (fun r3 h10 =>
   Pn.ite (fun h11 =>
   Pn.ite (fun h12 =>
   Pn.ite (fun h13 =>
   Pn.some (Fn.as (res := V.sl true 36 ((List.map E36 (r3.2.take r3.1.toNat ++ (List.replicate (r3.2.length - r3.1.toNat) (Hold.mk ByteArray.empty 0 0) ++ r3.2.drop (r3.1.toNat + (r3.2.length - r3.1.toNat))))).take r3.1.toNat)) (sb_take _ _ _) rfl (Fn.of [.call [] (E3 r1) [], .bit false, .wait 3, .mask [0, 1, 5, 6], .ren [0], .loop (X.out 0) (st 42 [(0, V.ow 0), (5, vI r3.1)] [Blk.row 36 (List.map E36 r3.2) []] [some 0]), .wait 3, .nm 38 (V.sb 0 3 r3.1.toNat (r3.2.length - r3.1.toNat)), .wait 1, .nb 0 (.row 36 (List.map E36 (r3.2.take r3.1.toNat ++ (List.replicate (r3.2.length - r3.1.toNat) (Hold.mk ByteArray.empty 0 0) ++ r3.2.drop (r3.1.toNat + (r3.2.length - r3.1.toNat))))) [])] (p := [Fn Try.prog 31 [(false, E23 s_), (false, V.fn 79 [V.cp [vI del0_0]])] (E3 r1) [],(false || ((E3 r1).nv && nvL [])) = true,(r1 == (-1)) = false,Loop Try.prog (sub (codeOf Try.prog 69) [1, 1, 1, 0, 1, 0, 0]) (st 42 [(0, V.ow 0), (1, V.fn 79 [V.cp [vI del0_0]]), (5, vI r1), (6, vI (i64 (r1 + 1)))] [Blk.row 36 (List.map E36 s_) []] [some 0]) (X.out 0) (st 42 [(0, V.ow 0), (5, vI r3.1)] [Blk.row 36 (List.map E36 r3.2) []] [some 0]),(0 : Int) ≤ r3.1,(r3.1 : Int) ≤ ((List.map E36 r3.2).length : Int),(((List.map E36 r3.2).length : Int) : Int) ≤ ((List.map E36 r3.2).length : Int),V.sb 0 3 r3.1.toNat ((((List.map E36 r3.2).length : Int).toNat) - (r3.1.toNat)) = V.sb 0 3 r3.1.toNat (r3.2.length - r3.1.toNat),Blk.row 36 ((List.map E36 r3.2).take r3.1.toNat ++ (List.replicate (r3.2.length - r3.1.toNat) (V.agg [V.sc (.string ByteArray.empty), vI 0, vI 0]) ++ (List.map E36 r3.2).drop (r3.1.toNat + (r3.2.length - r3.1.toNat)))) [] = Blk.row 36 (List.map E36 (r3.2.take r3.1.toNat ++ (List.replicate (r3.2.length - r3.1.toNat) (Hold.mk ByteArray.empty 0 0) ++ r3.2.drop (r3.1.toNat + (r3.2.length - r3.1.toNat))))) [],(0 : Int) ≤ 0,(0 : Int) ≤ r3.1,(r3.1 : Int) ≤ ((List.map E36 (r3.2.take r3.1.toNat ++ (List.replicate (r3.2.length - r3.1.toNat) (Hold.mk ByteArray.empty 0 0) ++ r3.2.drop (r3.1.toNat + (r3.2.length - r3.1.toNat))))).length : Int)]) (by kernel_rfl) (cj (slices_IndexFunc_impl_Hold_impl_LiveOnes_1_ok s_ del0_0 r1 h1) (cj (by simp [V.nv, nvL, nvL_all, nv_E3]) (cj h2 (cj (slices_DeleteFunc_impl_Hold_impl_LiveOnes_1_l0_ok del0_0 FUEL r1 (i64 (r1 + 1)) s_ r3 h10) (cj (od h11) (cj (by rw [List.length_map]; exact (od h12)) (cj (Int.le_refl _) (cj (by simp) (cj (nb_clr E36 _ _ _ (Hold.mk ByteArray.empty 0 0)) (cj (by decide) (cj (od h11) (cj1 (by rw [List.length_map]; exact (od h13))))))))))))))))) (fun h13 =>
   Pn.none)) (fun h12 =>
   Pn.none)) (fun h11 =>
   Pn.none))))
def impl_LiveOnes (l : List Hold) (now : Int) : Option ((List Hold)) :=
 (slices_Clone_impl_Hold l).bind fun r1 =>
 (slices_DeleteFunc_impl_Hold_impl_LiveOnes_1 r1 now).bind fun r2 =>
 some r2
theorem impl_LiveOnes_ok (l : List Hold) (now : Int) : Pn (fun y => Fn Try.prog 46 [(false, E23 l), (false, E3 now)] (E23 y) []) (impl_LiveOnes l now) := by
  unfold impl_LiveOnes
  exact
   Pn.bind (fun r1 h1 =>
   Pn.bind (fun r2 h2 =>
   Pn.some (Fn.of [.call [] (E23 r1) [], .call [true, false] (E23 r2) [V.un]] (p := [Fn Try.prog 70 [(false, E23 l)] (E23 r1) [],(true || ((E23 r1).nv && nvL [])) = true,Fn Try.prog 69 [(true, E23 r1), (false, V.fn 79 [V.cp [vI now]])] (E23 r2) [V.un],(false || ((E23 r2).nv && nvL [V.un])) = true]) (by kernel_rfl) (cj (slices_Clone_impl_Hold_ok l r1 h1) (cj rfl (cj (slices_DeleteFunc_impl_Hold_impl_LiveOnes_1_ok r1 now r2 h2) (cj1 (by simp [V.nv, nvL, nvL_all, nv_E3, nv_E9, nv_E23, nv_E36]))))))))
def impl_AcctSwept (a : Acct) (now : Int) : Option (Acct) :=
 (impl_Acct_copied a).bind fun r1 =>
 (impl_AcctOk a).bind fun r2 =>
 if r2 = true then
 (impl_isTime now).bind fun r3 =>
 if r3 = true then
 (impl_LiveOnes a.Holds now).bind fun r4 =>
 some (Acct.mk r1.Id r1.Limit r1.Posted r1.Most r1.MostSum r4 r1.Ring r1.Slots)
 else
 some r1
 else
 some r1
theorem impl_AcctSwept_ok (a : Acct) (now : Int) : Pn (fun y => Fn Try.prog 16 [(false, E29 a), (false, E3 now)] (E29 y) []) (impl_AcctSwept a now) := by
  unfold impl_AcctSwept
  exact
   Pn.bind (fun r1 h1 =>
   Pn.bind (fun r2 h2 =>
   Pn.ite (fun h3 =>
   Pn.bind (fun r3 h4 =>
   Pn.ite (fun h5 =>
   Pn.bind (fun r4 h6 =>
   Pn.some (Fn.of [.call [] (E29 r1) [], .call [] (E4 r2) [], .bit true, .bit true, .call [] (E4 r3) [], .bit true, .bit true, .call [] (E23 r4) []] (p := [Fn Try.prog 45 [(false, E29 a)] (E29 r1) [],(true || ((E29 r1).nv && nvL [])) = true,Fn Try.prog 13 [(false, E29 a)] (E4 r2) [],(true || ((E4 r2).nv && nvL [])) = true,r2 = true,r2 = true,Fn Try.prog 33 [(false, E3 now)] (E4 r3) [],(true || ((E4 r3).nv && nvL [])) = true,r2 = true,r3 = true,Fn Try.prog 46 [(false, E23 a.Holds), (false, E3 now)] (E23 r4) [],(true || ((E23 r4).nv && nvL [])) = true]) (by kernel_rfl) (cj (impl_Acct_copied_ok a r1 h1) (cj rfl (cj (impl_AcctOk_ok a r2 h2) (cj rfl (cj h3 (cj h3 (cj (impl_isTime_ok now r3 h4) (cj rfl (cj h3 (cj h5 (cj (impl_LiveOnes_ok a.Holds now r4 h6) (cj1 rfl))))))))))))))) (fun h5 =>
   Pn.some (Fn.of [.call [] (E29 r1) [], .call [] (E4 r2) [], .bit true, .bit true, .call [] (E4 r3) [], .bit true, .bit false] (p := [Fn Try.prog 45 [(false, E29 a)] (E29 r1) [],(true || ((E29 r1).nv && nvL [])) = true,Fn Try.prog 13 [(false, E29 a)] (E4 r2) [],(true || ((E4 r2).nv && nvL [])) = true,r2 = true,r2 = true,Fn Try.prog 33 [(false, E3 now)] (E4 r3) [],(true || ((E4 r3).nv && nvL [])) = true,r2 = true,r3 = false]) (by kernel_rfl) (cj (impl_Acct_copied_ok a r1 h1) (cj rfl (cj (impl_AcctOk_ok a r2 h2) (cj rfl (cj h3 (cj h3 (cj (impl_isTime_ok now r3 h4) (cj rfl (cj h3 (cj1 h5)))))))))))))) (fun h3 =>
   Pn.some (Fn.of [.call [] (E29 r1) [], .call [] (E4 r2) [], .bit false, .bit false, .bit false, .bit false] (p := [Fn Try.prog 45 [(false, E29 a)] (E29 r1) [],(true || ((E29 r1).nv && nvL [])) = true,Fn Try.prog 13 [(false, E29 a)] (E4 r2) [],(true || ((E4 r2).nv && nvL [])) = true,r2 = false,r2 = false,r2 = false,false = false]) (by kernel_rfl) (cj (impl_Acct_copied_ok a r1 h1) (cj rfl (cj (impl_AcctOk_ok a r2 h2) (cj rfl (cj h3 (cj h3 (cj h3 (cj1 rfl))))))))))))
def impl_begin (a : Acct) (now : Int) : Option (Acct × Int) :=
 (impl_AcctOk a).bind fun r1 =>
 if r1 = true then
 (impl_isTime now).bind fun r2 =>
 if r2 = true then
 (impl_AcctSwept a now).bind fun r3 =>
 some (r3, 0)
 else
 some ((Acct.mk ByteArray.empty 0 0 0 0 [] (Ring.mk 0 0 [] []) []), 1)
 else
 some ((Acct.mk ByteArray.empty 0 0 0 0 [] (Ring.mk 0 0 [] []) []), 1)
theorem impl_begin_ok (a : Acct) (now : Int) : Pn (fun y => Fn Try.prog 27 [(false, E29 a), (false, E3 now)] (V.tup [E29 y.1, E3 y.2]) []) (impl_begin a now) := by
  unfold impl_begin
  exact
   Pn.bind (fun r1 h1 =>
   Pn.ite (fun h2 =>
   Pn.bind (fun r2 h3 =>
   Pn.ite (fun h4 =>
   Pn.bind (fun r3 h5 =>
   Pn.some (Fn.of [.call [] (E4 r1) [], .bit false, .bit false, .call [] (E4 r2) [], .bit false, .bit false, .bit false, .call [] (E29 r3) []] (p := [Fn Try.prog 13 [(false, E29 a)] (E4 r1) [],(true || ((E4 r1).nv && nvL [])) = true,(!r1) = false,(!r1) = false,Fn Try.prog 33 [(false, E3 now)] (E4 r2) [],(true || ((E4 r2).nv && nvL [])) = true,(!r1) = false,(!r1) = false,(!r2) = false,Fn Try.prog 16 [(false, E29 a), (false, E3 now)] (E29 r3) [],(true || ((E29 r3).nv && nvL [])) = true]) (by kernel_rfl) (cj (impl_AcctOk_ok a r1 h1) (cj rfl (cj (nf h2) (cj (nf h2) (cj (impl_isTime_ok now r2 h3) (cj rfl (cj (nf h2) (cj (nf h2) (cj (nf h4) (cj (impl_AcctSwept_ok a now r3 h5) (cj1 rfl)))))))))))))) (fun h4 =>
   Pn.some (Fn.of [.call [] (E4 r1) [], .bit false, .bit false, .call [] (E4 r2) [], .bit false, .bit false, .bit true] (p := [Fn Try.prog 13 [(false, E29 a)] (E4 r1) [],(true || ((E4 r1).nv && nvL [])) = true,(!r1) = false,(!r1) = false,Fn Try.prog 33 [(false, E3 now)] (E4 r2) [],(true || ((E4 r2).nv && nvL [])) = true,(!r1) = false,(!r1) = false,(!r2) = true]) (by kernel_rfl) (cj (impl_AcctOk_ok a r1 h1) (cj rfl (cj (nf h2) (cj (nf h2) (cj (impl_isTime_ok now r2 h3) (cj rfl (cj (nf h2) (cj (nf h2) (cj1 (nt h4)))))))))))))) (fun h2 =>
   Pn.some (Fn.of [.call [] (E4 r1) [], .bit true, .bit true, .bit true, .bit true, .bit true] (p := [Fn Try.prog 13 [(false, E29 a)] (E4 r1) [],(true || ((E4 r1).nv && nvL [])) = true,(!r1) = true,(!r1) = true,(!r1) = true,(!r1) = true,true = true]) (by kernel_rfl) (cj (impl_AcctOk_ok a r1 h1) (cj rfl (cj (nt h2) (cj (nt h2) (cj (nt h2) (cj (nt h2) (cj1 rfl))))))))))
def impl_HoldAt_1 (h_ : Hold) (c0_0 : ByteArray) : Option (Bool) :=
 some (h_.Id == c0_0)
theorem impl_HoldAt_1_ok (h_ : Hold) (c0_0 : ByteArray) : Pn (fun y => Fn Try.prog 32 [(false, E36 h_), (false, V.cp [V.sc (.string c0_0)])] (E4 y) []) (impl_HoldAt_1 h_ c0_0) := by
  unfold impl_HoldAt_1
  exact
   Pn.some (Fn.of [] (p := []) (by kernel_rfl) trivial)
def slices_IndexFunc_impl_Hold_impl_HoldAt_1_l0 (s_ : List Hold) (f0_0 : ByteArray) : List Hold → List Hold → Option (Lo Unit Int)
  | [], p1 =>
   some (.out ())
  | x1 :: t1, p1 =>
   (impl_HoldAt_1 x1 f0_0).bind fun r1 =>
   if r1 = true then
   some (.ret (p1.length : Int))
   else
   slices_IndexFunc_impl_Hold_impl_HoldAt_1_l0 s_ f0_0 t1 (p1 ++ [x1])
theorem slices_IndexFunc_impl_Hold_impl_HoldAt_1_l0_ok (s_ : List Hold) (f0_0 : ByteArray) (h2 : capOk s_.length = true) : ∀ (t1 p1 : List Hold) (_ : s_ = p1 ++ t1) , Pn (LpO Try.prog (sub (codeOf Try.prog 31) [1, 0, 1, 0, 0]) (st 19 [(0, V.sl false 36 (List.map E36 s_)), (1, V.fn 32 [V.cp [V.sc (.string f0_0)]]), (7, vI (s_.length : Int)), (8, vI (p1.length : Int))] [] []) (fun (y : Lo Unit Int) => Lo.elim y (fun s => (X.out 0, st 19 [] [] [])) (fun s => (X.ret, st 19 [(4, vI s)] [] [])))) (slices_IndexFunc_impl_Hold_impl_HoldAt_1_l0 s_ f0_0 t1 p1)
  | [], p1, h1 => by
    unfold slices_IndexFunc_impl_Hold_impl_HoldAt_1_l0
    exact
     Pn.some (LpO.out [.bit false, .mask [], .ren []] (p := [(decide ((p1.length : Int) < (s_.length : Int))) = false]) (by kernel_rfl) (show X.out 0 ≠ X.go from nofun) (cj1 (rng_end h1)))
  | x1 :: t1, p1, h1 => by
    unfold slices_IndexFunc_impl_Hold_impl_HoldAt_1_l0
    exact
     Pn.bind (fun r1 h3 =>
     Pn.ite (fun h4 =>
     Pn.some (LpO.out [.bit true, .el (E36 x1), .call [] (E4 r1) [], .bit true, .wait 2, .mask [4], .ren []] (p := [(decide ((p1.length : Int) < (s_.length : Int))) = true,(0 : Int) ≤ (p1.length : Int),(List.map E36 s_)[(p1.length : Int).toNat]? = some (E36 x1),Fn Try.prog 32 [(false, E36 x1), (false, V.cp [V.sc (.string f0_0)])] (E4 r1) [],(true || ((E4 r1).nv && nvL [])) = true,r1 = true]) (by kernel_rfl) (show X.ret ≠ X.go from nofun) (cj (rng_lt h1) (cj (by omega) (cj (rng_get _ h1) (cj (impl_HoldAt_1_ok x1 f0_0 r1 h3) (cj rfl (cj1 h4)))))))) (fun h4 =>
     LpO.go [.bit true, .el (E36 x1), .call [] (E4 r1) [], .bit false, .wait 2, .mask [0, 1, 7, 8], .ren [], .nm 8 (vI ((p1 ++ [x1]).length : Int))] (p := [(decide ((p1.length : Int) < (s_.length : Int))) = true,(0 : Int) ≤ (p1.length : Int),(List.map E36 s_)[(p1.length : Int).toNat]? = some (E36 x1),Fn Try.prog 32 [(false, E36 x1), (false, V.cp [V.sc (.string f0_0)])] (E4 r1) [],(true || ((E4 r1).nv && nvL [])) = true,r1 = false,vI (i64 ((p1.length : Int) + 1)) = vI ((p1 ++ [x1]).length : Int)]) (by kernel_rfl) (cj (rng_lt h1) (cj (by omega) (cj (rng_get _ h1) (cj (impl_HoldAt_1_ok x1 f0_0 r1 h3) (cj rfl (cj h4 (cj1 (rng_next h1 h2)))))))) (slices_IndexFunc_impl_Hold_impl_HoldAt_1_l0_ok s_ f0_0 h2 t1 (p1 ++ [x1]) (rng_step h1))))
def slices_IndexFunc_impl_Hold_impl_HoldAt_1 (s_ : List Hold) (f0_0 : ByteArray) : Option (Int) :=
 if (capOk s_.length) = true then
 (slices_IndexFunc_impl_Hold_impl_HoldAt_1_l0 s_ f0_0 s_ []).bind fun r2 =>
 Lo.elim r2 (fun s1 =>
 some (-1)) (fun s2 =>
 some s2)
 else none
theorem slices_IndexFunc_impl_Hold_impl_HoldAt_1_ok (s_ : List Hold) (f0_0 : ByteArray) : Pn (fun y => Fn Try.prog 31 [(false, E23 s_), (false, V.fn 32 [V.cp [V.sc (.string f0_0)]])] (E3 y) []) (slices_IndexFunc_impl_Hold_impl_HoldAt_1 s_ f0_0) := by
  unfold slices_IndexFunc_impl_Hold_impl_HoldAt_1
  exact
   Pn.ite (fun h5 =>
   Pn.bind (fun r2 h6 =>
   Pn.lo (fun s1 h7 =>
   Pn.some (Fn.of [.wait 3, .nm 7 (vI (s_.length : Int)), .wait 2, .mask [0, 1, 7, 8], .ren [], .loop (X.out 0) (st 19 [] [] [])] (p := [vI ((List.map E36 s_).length : Int) = vI (s_.length : Int),Loop Try.prog (sub (codeOf Try.prog 31) [1, 0, 1, 0, 0]) (st 19 [(0, V.sl false 36 (List.map E36 s_)), (1, V.fn 32 [V.cp [V.sc (.string f0_0)]]), (7, vI (s_.length : Int)), (8, vI 0)] [] []) (X.out 0) (st 19 [] [] [])]) (by kernel_rfl) (cj (len_nm _ _) (cj1 ((slices_IndexFunc_impl_Hold_impl_HoldAt_1_l0_ok s_ f0_0 h5 s_ [] rfl r2 h6).at h7 :))))) (fun s2 h8 =>
   Pn.some (Fn.of [.wait 3, .nm 7 (vI (s_.length : Int)), .wait 2, .mask [0, 1, 7, 8], .ren [], .loop (X.ret) (st 19 [(4, vI s2)] [] [])] (p := [vI ((List.map E36 s_).length : Int) = vI (s_.length : Int),Loop Try.prog (sub (codeOf Try.prog 31) [1, 0, 1, 0, 0]) (st 19 [(0, V.sl false 36 (List.map E36 s_)), (1, V.fn 32 [V.cp [V.sc (.string f0_0)]]), (7, vI (s_.length : Int)), (8, vI 0)] [] []) (X.ret) (st 19 [(4, vI s2)] [] [])]) (by kernel_rfl) (cj (len_nm _ _) (cj1 ((slices_IndexFunc_impl_Hold_impl_HoldAt_1_l0_ok s_ f0_0 h5 s_ [] rfl r2 h6).at h8 :))))))) (fun h5 =>
   Pn.none)
def impl_HoldAt (l : List Hold) (id : ByteArray) : Option (Int) :=
 (slices_IndexFunc_impl_Hold_impl_HoldAt_1 l id).bind fun r1 =>
 some r1
theorem impl_HoldAt_ok (l : List Hold) (id : ByteArray) : Pn (fun y => Fn Try.prog 9 [(false, E23 l), (false, E9 id)] (E3 y) []) (impl_HoldAt l id) := by
  unfold impl_HoldAt
  exact
   Pn.bind (fun r1 h1 =>
   Pn.some (Fn.of [.call [] (E3 r1) []] (p := [Fn Try.prog 31 [(false, E23 l), (false, V.fn 32 [V.cp [V.sc (.string id)]])] (E3 r1) [],(false || ((E3 r1).nv && nvL [])) = true]) (by kernel_rfl) (cj (slices_IndexFunc_impl_Hold_impl_HoldAt_1_ok l id r1 h1) (cj1 (by simp [V.nv, nvL, nvL_all, nv_E3])))))
def impl_LiveSum (l : List Hold) (now : Int) : Option (Int) :=
 (impl_LiveOnes l now).bind fun r1 =>
 (impl_Stored r1).bind fun r2 =>
 some r2
theorem impl_LiveSum_ok (l : List Hold) (now : Int) : Pn (fun y => Fn Try.prog 34 [(false, E23 l), (false, E3 now)] (E3 y) []) (impl_LiveSum l now) := by
  unfold impl_LiveSum
  exact
   Pn.bind (fun r1 h1 =>
   Pn.bind (fun r2 h2 =>
   Pn.some (Fn.of [.call [] (E23 r1) [], .call [] (E3 r2) []] (p := [Fn Try.prog 46 [(false, E23 l), (false, E3 now)] (E23 r1) [],(true || ((E23 r1).nv && nvL [])) = true,Fn Try.prog 12 [(false, E23 r1)] (E3 r2) [],(false || ((E3 r2).nv && nvL [])) = true]) (by kernel_rfl) (cj (impl_LiveOnes_ok l now r1 h1) (cj rfl (cj (impl_Stored_ok r1 r2 h2) (cj1 (by simp [V.nv, nvL, nvL_all, nv_E3]))))))))
def impl_Room (a : Acct) (now : Int) : Option (Int) :=
 (impl_AcctOk a).bind fun r1 =>
 if r1 = true then
 (impl_isTime now).bind fun r2 =>
 if r2 = true then
 (impl_LiveSum a.Holds now).bind fun r3 =>
 some (i64 ((i64 (a.Limit - a.Posted)) - r3))
 else
 some 0
 else
 some 0
theorem impl_Room_ok (a : Acct) (now : Int) : Pn (fun y => Fn Try.prog 10 [(false, E29 a), (false, E3 now)] (E3 y) []) (impl_Room a now) := by
  unfold impl_Room
  exact
   Pn.bind (fun r1 h1 =>
   Pn.ite (fun h2 =>
   Pn.bind (fun r2 h3 =>
   Pn.ite (fun h4 =>
   Pn.bind (fun r3 h5 =>
   Pn.some (Fn.of [.call [] (E4 r1) [], .bit false, .bit false, .call [] (E4 r2) [], .bit false, .bit false, .bit false, .draw [], .call [] (E3 r3) []] (p := [Fn Try.prog 13 [(false, E29 a)] (E4 r1) [],(true || ((E4 r1).nv && nvL [])) = true,(!r1) = false,(!r1) = false,Fn Try.prog 33 [(false, E3 now)] (E4 r2) [],(true || ((E4 r2).nv && nvL [])) = true,(!r1) = false,(!r1) = false,(!r2) = false,Fn Try.prog 34 [(false, E23 a.Holds), (false, E3 now)] (E3 r3) [],(true || ((E3 r3).nv && nvL [])) = true]) (by kernel_rfl) (cj (impl_AcctOk_ok a r1 h1) (cj rfl (cj (nf h2) (cj (nf h2) (cj (impl_isTime_ok now r2 h3) (cj rfl (cj (nf h2) (cj (nf h2) (cj (nf h4) (cj (impl_LiveSum_ok a.Holds now r3 h5) (cj1 rfl)))))))))))))) (fun h4 =>
   Pn.some (Fn.of [.call [] (E4 r1) [], .bit false, .bit false, .call [] (E4 r2) [], .bit false, .bit false, .bit true] (p := [Fn Try.prog 13 [(false, E29 a)] (E4 r1) [],(true || ((E4 r1).nv && nvL [])) = true,(!r1) = false,(!r1) = false,Fn Try.prog 33 [(false, E3 now)] (E4 r2) [],(true || ((E4 r2).nv && nvL [])) = true,(!r1) = false,(!r1) = false,(!r2) = true]) (by kernel_rfl) (cj (impl_AcctOk_ok a r1 h1) (cj rfl (cj (nf h2) (cj (nf h2) (cj (impl_isTime_ok now r2 h3) (cj rfl (cj (nf h2) (cj (nf h2) (cj1 (nt h4)))))))))))))) (fun h2 =>
   Pn.some (Fn.of [.call [] (E4 r1) [], .bit true, .bit true, .bit true, .bit true, .bit true] (p := [Fn Try.prog 13 [(false, E29 a)] (E4 r1) [],(true || ((E4 r1).nv && nvL [])) = true,(!r1) = true,(!r1) = true,(!r1) = true,(!r1) = true,true = true]) (by kernel_rfl) (cj (impl_AcctOk_ok a r1 h1) (cj rfl (cj (nt h2) (cj (nt h2) (cj (nt h2) (cj (nt h2) (cj1 rfl))))))))))
def impl_shifted_l0 (l : List Int) (by_ : Int) : List Int → List Int → (List Int) → Option ((List Int))
  | [], p1, v1 =>
   some v1
  | x1 :: t1, p1, v1 =>
   if (decide (by_ ≤ (p1.length : Int))) = true then
   if (decide (0 ≤ (i64 ((p1.length : Int) - by_)))) = true then
   (l[(i64 ((p1.length : Int) - by_)).toNat]?).bind fun x2 =>
   (v1[(p1.length : Int).toNat]?).bind fun x3 =>
   impl_shifted_l0 l by_ t1 (p1 ++ [x1]) (v1.set ((p1.length : Int).toNat) x2)
   else none
   else
   impl_shifted_l0 l by_ t1 (p1 ++ [x1]) v1
theorem impl_shifted_l0_ok (l : List Int) (by_ : Int) (h4 : capOk l.length = true) : ∀ (t1 p1 : List Int) (_ : l = p1 ++ t1) (v1 : List Int), Pn (LpO Try.prog (sub (codeOf Try.prog 81) [1, 1, 0, 1, 0, 0]) (st 29 [(0, V.sl false 3 (List.map E3 l)), (1, vI by_), (5, V.ow 0), (11, vI (l.length : Int)), (12, vI (p1.length : Int))] [Blk.row 3 (List.map E3 v1) []] []) (fun (y : (List Int)) => (X.out 0, st 29 [(5, V.ow 0)] [Blk.row 3 (List.map E3 y) []] []))) (impl_shifted_l0 l by_ t1 p1 v1)
  | [], p1, h3, v1 => by
    unfold impl_shifted_l0
    exact
     Pn.some (LpO.out [.bit false, .mask [5], .ren [0]] (p := [(decide ((p1.length : Int) < (l.length : Int))) = false]) (by kernel_rfl) (show X.out 0 ≠ X.go from nofun) (cj1 (rng_end h3)))
  | x1 :: t1, p1, h3, v1 => by
    unfold impl_shifted_l0
    exact
     Pn.ite (fun h5 =>
     Pn.ite (fun h6 =>
     Pn.bind (fun x2 h7 =>
     Pn.bind (fun x3 h8 =>
     LpO.go [.bit true, .bit true, .el (E3 x2), .el (E3 x3), .nb 0 (.row 3 (List.map E3 (v1.set ((p1.length : Int).toNat) x2)) []), .wait 3, .mask [0, 1, 5, 11, 12], .ren [0], .nm 12 (vI ((p1 ++ [x1]).length : Int))] (p := [(decide ((p1.length : Int) < (l.length : Int))) = true,(decide (by_ ≤ (p1.length : Int))) = true,(0 : Int) ≤ (i64 ((p1.length : Int) - by_)),(List.map E3 l)[(i64 ((p1.length : Int) - by_)).toNat]? = some (E3 x2),(0 : Int) ≤ (p1.length : Int),((p1.length : Int) : Int) < ((List.map E3 v1).length : Int),look [] ((p1.length : Int).toNat) = none,(List.map E3 v1)[(p1.length : Int).toNat]? = some (E3 x3),Blk.row 3 ((List.map E3 v1).set ((p1.length : Int).toNat) (vI x2)) [] = Blk.row 3 (List.map E3 (v1.set ((p1.length : Int).toNat) x2)) [],vI (i64 ((p1.length : Int) + 1)) = vI ((p1 ++ [x1]).length : Int)]) (by kernel_rfl) (cj (rng_lt h3) (cj h5 (cj (od h6) (cj (map_get h7) (cj (by omega) (cj (map_ltN (by omega) h8) (cj rfl (cj (map_get h8) (cj (nb_set E3 _ _ x2) (cj1 (rng_next h3 h4))))))))))) (impl_shifted_l0_ok l by_ h4 t1 (p1 ++ [x1]) (rng_step h3) (v1.set ((p1.length : Int).toNat) x2))))) (fun h6 =>
     Pn.none)) (fun h5 =>
     LpO.go [.bit true, .bit false, .wait 2, .mask [0, 1, 5, 11, 12], .ren [0], .nm 12 (vI ((p1 ++ [x1]).length : Int))] (p := [(decide ((p1.length : Int) < (l.length : Int))) = true,(decide (by_ ≤ (p1.length : Int))) = false,vI (i64 ((p1.length : Int) + 1)) = vI ((p1 ++ [x1]).length : Int)]) (by kernel_rfl) (cj (rng_lt h3) (cj h5 (cj1 (rng_next h3 h4)))) (impl_shifted_l0_ok l by_ h4 t1 (p1 ++ [x1]) (rng_step h3) v1))
def impl_shifted (l : List Int) (by_ : Int) : Option ((List Int)) :=
 if (decide (0 ≤ (l.length : Int))) = true then
 if (capOk (l.length : Int).toNat) = true then
 if (capOk l.length) = true then
 (impl_shifted_l0 l by_ l [] (List.replicate ((l.length : Int).toNat) 0)).bind fun r1 =>
 some r1
 else none
 else none
 else none
theorem impl_shifted_ok (l : List Int) (by_ : Int) : Pn (fun y => Fn Try.prog 81 [(false, E24 l), (false, E3 by_)] (E24 y) []) (impl_shifted l by_) := by
  unfold impl_shifted
  exact
   Pn.ite (fun h1 =>
   Pn.ite (fun h2 =>
   Pn.ite (fun h9 =>
   Pn.bind (fun r1 h10 =>
   Pn.some (Fn.of [.wait 3, .nm 8 (vI (l.length : Int)), .wait 1, .nb 0 (.row 3 (List.map E3 (List.replicate ((l.length : Int).toNat) 0)) []), .wait 3, .nm 11 (vI (l.length : Int)), .wait 2, .mask [0, 1, 5, 11, 12], .ren [0], .loop (X.out 0) (st 29 [(5, V.ow 0)] [Blk.row 3 (List.map E3 r1) []] [])] (p := [vI ((List.map E3 l).length : Int) = vI (l.length : Int),((l.length : Int) : Int) = (l.length : Int),(0 : Int) ≤ (l.length : Int),((l.length : Int) : Int) ≤ 9223372036854775807,8 * (l.length : Int).toNat ≤ 281474976710656,Blk.row 3 (List.replicate ((l.length : Int).toNat) (vI 0)) [] = Blk.row 3 (List.map E3 (List.replicate ((l.length : Int).toNat) 0)) [],vI ((List.map E3 l).length : Int) = vI (l.length : Int),Loop Try.prog (sub (codeOf Try.prog 81) [1, 1, 0, 1, 0, 0]) (st 29 [(0, V.sl false 3 (List.map E3 l)), (1, vI by_), (5, V.ow 0), (11, vI (l.length : Int)), (12, vI 0)] [Blk.row 3 (List.map E3 (List.replicate ((l.length : Int).toNat) 0)) []] []) (X.out 0) (st 29 [(5, V.ow 0)] [Blk.row 3 (List.map E3 r1) []] [])]) (by kernel_rfl) (cj (len_nm _ _) (cj rfl (cj (od h1) (cj (cap3 h1 h2) (cj (cap4 h2 (by decide)) (cj (nb_rep E3 _ 0) (cj (len_nm _ _) (cj1 (impl_shifted_l0_ok l by_ h9 l [] rfl (List.replicate ((l.length : Int).toNat) 0) r1 h10)))))))))))) (fun h9 =>
   Pn.none)) (fun h2 =>
   Pn.none)) (fun h1 =>
   Pn.none)
def impl_RingRoll (r_ : Ring) (now : Int) : Option (Ring) :=
 (impl_Ring_copied r_).bind fun r1 =>
 (impl_RingOk r_).bind fun r2 =>
 if r2 = true then
 (impl_isTime now).bind fun r3 =>
 if r3 = true then
 if (decide (r_.Span ≠ 0)) = true then
 if (decide ((i64 (Int.tdiv now r_.Span)) ≤ r_.Head)) = true then
 some r1
 else
 (impl_shifted r_.Counts (i64 ((i64 (Int.tdiv now r_.Span)) - r_.Head))).bind fun r4 =>
 (impl_shifted r_.Sums (i64 ((i64 (Int.tdiv now r_.Span)) - r_.Head))).bind fun r5 =>
 some (Ring.mk r_.Span (i64 (Int.tdiv now r_.Span)) r4 r5)
 else none
 else
 some r1
 else
 some r1
theorem impl_RingRoll_ok (r_ : Ring) (now : Int) : Pn (fun y => Fn Try.prog 48 [(false, E26 r_), (false, E3 now)] (E26 y) []) (impl_RingRoll r_ now) := by
  unfold impl_RingRoll
  exact
   Pn.bind (fun r1 h1 =>
   Pn.bind (fun r2 h2 =>
   Pn.ite (fun h3 =>
   Pn.bind (fun r3 h4 =>
   Pn.ite (fun h5 =>
   Pn.ite (fun h6 =>
   Pn.ite (fun h7 =>
   Pn.some (Fn.of [.call [] (E26 r1) [], .draw [], .call [] (E4 r2) [], .bit false, .bit false, .call [] (E4 r3) [], .bit false, .bit false, .bit false, .bit false, .bit false, .bit false, .bit false, .bit false, .bit false, .bit false, .bit true] (p := [Fn Try.prog 77 [(false, E26 r_)] (E26 r1) [],(true || ((E26 r1).nv && nvL [])) = true,Fn Try.prog 40 [(false, E26 r_)] (E4 r2) [],(true || ((E4 r2).nv && nvL [])) = true,(!r2) = false,(!r2) = false,Fn Try.prog 33 [(false, E3 now)] (E4 r3) [],(true || ((E4 r3).nv && nvL [])) = true,(!r2) = false,(!r2) = false,(!r3) = false,(!r3) = false,(!r3) = false,(!r3) = false,(r_.Span : Int) ≠ 0,(!r3) = false,(!r3) = false,(!r3) = false,(!r3) = false,(decide ((i64 (Int.tdiv now r_.Span)) ≤ r_.Head)) = true]) (by kernel_rfl) (cj (impl_Ring_copied_ok r_ r1 h1) (cj rfl (cj (impl_RingOk_ok r_ r2 h2) (cj rfl (cj (nf h3) (cj (nf h3) (cj (impl_isTime_ok now r3 h4) (cj rfl (cj (nf h3) (cj (nf h3) (cj (nf h5) (cj (nf h5) (cj (nf h5) (cj (nf h5) (cj (od h6) (cj (nf h5) (cj (nf h5) (cj (nf h5) (cj (nf h5) (cj1 h7)))))))))))))))))))))) (fun h7 =>
   Pn.bind (fun r4 h8 =>
   Pn.bind (fun r5 h9 =>
   Pn.some (Fn.of [.call [] (E26 r1) [], .draw [], .call [] (E4 r2) [], .bit false, .bit false, .call [] (E4 r3) [], .bit false, .bit false, .bit false, .bit false, .bit false, .bit false, .bit false, .bit false, .bit false, .bit false, .bit false, .draw [], .draw [15], .call [] (E24 r4) [], .call [] (E24 r5) []] (p := [Fn Try.prog 77 [(false, E26 r_)] (E26 r1) [],(true || ((E26 r1).nv && nvL [])) = true,Fn Try.prog 40 [(false, E26 r_)] (E4 r2) [],(true || ((E4 r2).nv && nvL [])) = true,(!r2) = false,(!r2) = false,Fn Try.prog 33 [(false, E3 now)] (E4 r3) [],(true || ((E4 r3).nv && nvL [])) = true,(!r2) = false,(!r2) = false,(!r3) = false,(!r3) = false,(!r3) = false,(!r3) = false,(r_.Span : Int) ≠ 0,(!r3) = false,(!r3) = false,(!r3) = false,(!r3) = false,(decide ((i64 (Int.tdiv now r_.Span)) ≤ r_.Head)) = false,(r_.Span : Int) ≠ 0,(r_.Span : Int) ≠ 0,Fn Try.prog 81 [(false, E24 r_.Counts), (false, E3 (i64 ((i64 (Int.tdiv now r_.Span)) - r_.Head)))] (E24 r4) [],(true || ((E24 r4).nv && nvL [])) = true,Fn Try.prog 81 [(false, E24 r_.Sums), (false, E3 (i64 ((i64 (Int.tdiv now r_.Span)) - r_.Head)))] (E24 r5) [],(true || ((E24 r5).nv && nvL [])) = true]) (by kernel_rfl) (cj (impl_Ring_copied_ok r_ r1 h1) (cj rfl (cj (impl_RingOk_ok r_ r2 h2) (cj rfl (cj (nf h3) (cj (nf h3) (cj (impl_isTime_ok now r3 h4) (cj rfl (cj (nf h3) (cj (nf h3) (cj (nf h5) (cj (nf h5) (cj (nf h5) (cj (nf h5) (cj (od h6) (cj (nf h5) (cj (nf h5) (cj (nf h5) (cj (nf h5) (cj h7 (cj (od h6) (cj (od h6) (cj (impl_shifted_ok r_.Counts (i64 ((i64 (Int.tdiv now r_.Span)) - r_.Head)) r4 h8) (cj rfl (cj (impl_shifted_ok r_.Sums (i64 ((i64 (Int.tdiv now r_.Span)) - r_.Head)) r5 h9) (cj1 rfl))))))))))))))))))))))))))))))) (fun h6 =>
   Pn.none)) (fun h5 =>
   Pn.some (Fn.of [.call [] (E26 r1) [], .draw [], .call [] (E4 r2) [], .bit false, .bit false, .call [] (E4 r3) [], .bit false, .bit false, .bit true, .bit true, .bit true, .bit true, .bit true, .bit true, .bit true, .bit true, .bit true] (p := [Fn Try.prog 77 [(false, E26 r_)] (E26 r1) [],(true || ((E26 r1).nv && nvL [])) = true,Fn Try.prog 40 [(false, E26 r_)] (E4 r2) [],(true || ((E4 r2).nv && nvL [])) = true,(!r2) = false,(!r2) = false,Fn Try.prog 33 [(false, E3 now)] (E4 r3) [],(true || ((E4 r3).nv && nvL [])) = true,(!r2) = false,(!r2) = false,(!r3) = true,(!r3) = true,(!r3) = true,(!r3) = true,(!r3) = true,(!r3) = true,(!r3) = true,(!r3) = true,true = true]) (by kernel_rfl) (cj (impl_Ring_copied_ok r_ r1 h1) (cj rfl (cj (impl_RingOk_ok r_ r2 h2) (cj rfl (cj (nf h3) (cj (nf h3) (cj (impl_isTime_ok now r3 h4) (cj rfl (cj (nf h3) (cj (nf h3) (cj (nt h5) (cj (nt h5) (cj (nt h5) (cj (nt h5) (cj (nt h5) (cj (nt h5) (cj (nt h5) (cj (nt h5) (cj1 rfl))))))))))))))))))))))) (fun h3 =>
   Pn.some (Fn.of [.call [] (E26 r1) [], .draw [], .call [] (E4 r2) [], .bit true, .bit true, .bit true, .bit true, .bit true, .bit true, .bit true, .bit true, .bit true, .bit true, .bit true, .bit true, .bit true] (p := [Fn Try.prog 77 [(false, E26 r_)] (E26 r1) [],(true || ((E26 r1).nv && nvL [])) = true,Fn Try.prog 40 [(false, E26 r_)] (E4 r2) [],(true || ((E4 r2).nv && nvL [])) = true,(!r2) = true,(!r2) = true,(!r2) = true,(!r2) = true,true = true,true = true,true = true,true = true,true = true,true = true,true = true,true = true,true = true]) (by kernel_rfl) (cj (impl_Ring_copied_ok r_ r1 h1) (cj rfl (cj (impl_RingOk_ok r_ r2 h2) (cj rfl (cj (nt h3) (cj (nt h3) (cj (nt h3) (cj (nt h3) (cj rfl (cj rfl (cj rfl (cj rfl (cj rfl (cj rfl (cj rfl (cj rfl (cj1 rfl)))))))))))))))))))))
def impl_total_l0 (l : List Int) : List Int → Int → Option (Int)
  | [], v1 =>
   some v1
  | x1 :: t1, v1 =>
   (impl_AddSat v1 x1).bind fun r1 =>
   impl_total_l0 l t1 r1
theorem impl_total_l0_ok (l : List Int) (h2 : capOk l.length = true) : ∀ (t1 p1 : List Int) (_ : l = p1 ++ t1) (v1 : Int), Pn (LpO Try.prog (sub (codeOf Try.prog 47) [1, 1, 0, 1, 0, 0]) (st 17 [(3, vI v1), (6, V.sl false 3 (List.map E3 l)), (7, vI (l.length : Int)), (8, vI (p1.length : Int))] [] []) (fun (y : Int) => (X.out 0, st 17 [(3, vI y)] [] []))) (impl_total_l0 l t1 v1)
  | [], p1, h1, v1 => by
    unfold impl_total_l0
    exact
     Pn.some (LpO.out [.bit false, .mask [3], .ren []] (p := [(decide ((p1.length : Int) < (l.length : Int))) = false]) (by kernel_rfl) (show X.out 0 ≠ X.go from nofun) (cj1 (rng_end h1)))
  | x1 :: t1, p1, h1, v1 => by
    unfold impl_total_l0
    exact
     Pn.bind (fun r1 h3 =>
     LpO.go [.bit true, .el (E3 x1), .call [] (E3 r1) [], .wait 4, .mask [3, 6, 7, 8], .ren [], .nm 8 (vI ((p1 ++ [x1]).length : Int))] (p := [(decide ((p1.length : Int) < (l.length : Int))) = true,(0 : Int) ≤ (p1.length : Int),(List.map E3 l)[(p1.length : Int).toNat]? = some (E3 x1),Fn Try.prog 35 [(false, E3 v1), (false, E3 x1)] (E3 r1) [],(true || ((E3 r1).nv && nvL [])) = true,vI (i64 ((p1.length : Int) + 1)) = vI ((p1 ++ [x1]).length : Int)]) (by kernel_rfl) (cj (rng_lt h1) (cj (by omega) (cj (rng_get _ h1) (cj (impl_AddSat_ok v1 x1 r1 h3) (cj rfl (cj1 (rng_next h1 h2))))))) (impl_total_l0_ok l h2 t1 (p1 ++ [x1]) (rng_step h1) r1))
def impl_total (l : List Int) : Option (Int) :=
 if (capOk l.length) = true then
 (impl_total_l0 l l 0).bind fun r2 =>
 some r2
 else none
theorem impl_total_ok (l : List Int) : Pn (fun y => Fn Try.prog 47 [(false, E24 l)] (E3 y) []) (impl_total l) := by
  unfold impl_total
  exact
   Pn.ite (fun h4 =>
   Pn.bind (fun r2 h5 =>
   Pn.some (Fn.of [.wait 4, .nm 7 (vI (l.length : Int)), .wait 2, .mask [3, 6, 7, 8], .ren [], .loop (X.out 0) (st 17 [(3, vI r2)] [] [])] (p := [vI ((List.map E3 l).length : Int) = vI (l.length : Int),Loop Try.prog (sub (codeOf Try.prog 47) [1, 1, 0, 1, 0, 0]) (st 17 [(3, vI 0), (6, V.sl false 3 (List.map E3 l)), (7, vI (l.length : Int)), (8, vI 0)] [] []) (X.out 0) (st 17 [(3, vI r2)] [] [])]) (by kernel_rfl) (cj (len_nm _ _) (cj1 (impl_total_l0_ok l h4 l [] rfl 0 r2 h5)))))) (fun h4 =>
   Pn.none)
def impl_RingCount (r_ : Ring) (now : Int) : Option (Int) :=
 (impl_RingOk r_).bind fun r1 =>
 if r1 = true then
 (impl_isTime now).bind fun r2 =>
 if r2 = true then
 (impl_RingRoll r_ now).bind fun r3 =>
 (impl_total r3.Counts).bind fun r4 =>
 some r4
 else
 some 0
 else
 some 0
theorem impl_RingCount_ok (r_ : Ring) (now : Int) : Pn (fun y => Fn Try.prog 17 [(false, E26 r_), (false, E3 now)] (E3 y) []) (impl_RingCount r_ now) := by
  unfold impl_RingCount
  exact
   Pn.bind (fun r1 h1 =>
   Pn.ite (fun h2 =>
   Pn.bind (fun r2 h3 =>
   Pn.ite (fun h4 =>
   Pn.bind (fun r3 h5 =>
   Pn.bind (fun r4 h6 =>
   Pn.some (Fn.of [.call [] (E4 r1) [], .bit false, .bit false, .call [] (E4 r2) [], .bit false, .bit false, .bit false, .call [] (E26 r3) [], .call [] (E3 r4) []] (p := [Fn Try.prog 40 [(false, E26 r_)] (E4 r1) [],(true || ((E4 r1).nv && nvL [])) = true,(!r1) = false,(!r1) = false,Fn Try.prog 33 [(false, E3 now)] (E4 r2) [],(true || ((E4 r2).nv && nvL [])) = true,(!r1) = false,(!r1) = false,(!r2) = false,Fn Try.prog 48 [(false, E26 r_), (false, E3 now)] (E26 r3) [],(true || ((E26 r3).nv && nvL [])) = true,Fn Try.prog 47 [(false, E24 r3.Counts)] (E3 r4) [],(false || ((E3 r4).nv && nvL [])) = true]) (by kernel_rfl) (cj (impl_RingOk_ok r_ r1 h1) (cj rfl (cj (nf h2) (cj (nf h2) (cj (impl_isTime_ok now r2 h3) (cj rfl (cj (nf h2) (cj (nf h2) (cj (nf h4) (cj (impl_RingRoll_ok r_ now r3 h5) (cj rfl (cj (impl_total_ok r3.Counts r4 h6) (cj1 (by simp [V.nv, nvL, nvL_all, nv_E3])))))))))))))))))) (fun h4 =>
   Pn.some (Fn.of [.call [] (E4 r1) [], .bit false, .bit false, .call [] (E4 r2) [], .bit false, .bit false, .bit true] (p := [Fn Try.prog 40 [(false, E26 r_)] (E4 r1) [],(true || ((E4 r1).nv && nvL [])) = true,(!r1) = false,(!r1) = false,Fn Try.prog 33 [(false, E3 now)] (E4 r2) [],(true || ((E4 r2).nv && nvL [])) = true,(!r1) = false,(!r1) = false,(!r2) = true]) (by kernel_rfl) (cj (impl_RingOk_ok r_ r1 h1) (cj rfl (cj (nf h2) (cj (nf h2) (cj (impl_isTime_ok now r2 h3) (cj rfl (cj (nf h2) (cj (nf h2) (cj1 (nt h4)))))))))))))) (fun h2 =>
   Pn.some (Fn.of [.call [] (E4 r1) [], .bit true, .bit true, .bit true, .bit true, .bit true] (p := [Fn Try.prog 40 [(false, E26 r_)] (E4 r1) [],(true || ((E4 r1).nv && nvL [])) = true,(!r1) = true,(!r1) = true,(!r1) = true,(!r1) = true,true = true]) (by kernel_rfl) (cj (impl_RingOk_ok r_ r1 h1) (cj rfl (cj (nt h2) (cj (nt h2) (cj (nt h2) (cj (nt h2) (cj1 rfl))))))))))
def impl_RingSum (r_ : Ring) (now : Int) : Option (Int) :=
 (impl_RingOk r_).bind fun r1 =>
 if r1 = true then
 (impl_isTime now).bind fun r2 =>
 if r2 = true then
 (impl_RingRoll r_ now).bind fun r3 =>
 (impl_total r3.Sums).bind fun r4 =>
 some r4
 else
 some 0
 else
 some 0
theorem impl_RingSum_ok (r_ : Ring) (now : Int) : Pn (fun y => Fn Try.prog 18 [(false, E26 r_), (false, E3 now)] (E3 y) []) (impl_RingSum r_ now) := by
  unfold impl_RingSum
  exact
   Pn.bind (fun r1 h1 =>
   Pn.ite (fun h2 =>
   Pn.bind (fun r2 h3 =>
   Pn.ite (fun h4 =>
   Pn.bind (fun r3 h5 =>
   Pn.bind (fun r4 h6 =>
   Pn.some (Fn.of [.call [] (E4 r1) [], .bit false, .bit false, .call [] (E4 r2) [], .bit false, .bit false, .bit false, .call [] (E26 r3) [], .call [] (E3 r4) []] (p := [Fn Try.prog 40 [(false, E26 r_)] (E4 r1) [],(true || ((E4 r1).nv && nvL [])) = true,(!r1) = false,(!r1) = false,Fn Try.prog 33 [(false, E3 now)] (E4 r2) [],(true || ((E4 r2).nv && nvL [])) = true,(!r1) = false,(!r1) = false,(!r2) = false,Fn Try.prog 48 [(false, E26 r_), (false, E3 now)] (E26 r3) [],(true || ((E26 r3).nv && nvL [])) = true,Fn Try.prog 47 [(false, E24 r3.Sums)] (E3 r4) [],(false || ((E3 r4).nv && nvL [])) = true]) (by kernel_rfl) (cj (impl_RingOk_ok r_ r1 h1) (cj rfl (cj (nf h2) (cj (nf h2) (cj (impl_isTime_ok now r2 h3) (cj rfl (cj (nf h2) (cj (nf h2) (cj (nf h4) (cj (impl_RingRoll_ok r_ now r3 h5) (cj rfl (cj (impl_total_ok r3.Sums r4 h6) (cj1 (by simp [V.nv, nvL, nvL_all, nv_E3])))))))))))))))))) (fun h4 =>
   Pn.some (Fn.of [.call [] (E4 r1) [], .bit false, .bit false, .call [] (E4 r2) [], .bit false, .bit false, .bit true] (p := [Fn Try.prog 40 [(false, E26 r_)] (E4 r1) [],(true || ((E4 r1).nv && nvL [])) = true,(!r1) = false,(!r1) = false,Fn Try.prog 33 [(false, E3 now)] (E4 r2) [],(true || ((E4 r2).nv && nvL [])) = true,(!r1) = false,(!r1) = false,(!r2) = true]) (by kernel_rfl) (cj (impl_RingOk_ok r_ r1 h1) (cj rfl (cj (nf h2) (cj (nf h2) (cj (impl_isTime_ok now r2 h3) (cj rfl (cj (nf h2) (cj (nf h2) (cj1 (nt h4)))))))))))))) (fun h2 =>
   Pn.some (Fn.of [.call [] (E4 r1) [], .bit true, .bit true, .bit true, .bit true, .bit true] (p := [Fn Try.prog 40 [(false, E26 r_)] (E4 r1) [],(true || ((E4 r1).nv && nvL [])) = true,(!r1) = true,(!r1) = true,(!r1) = true,(!r1) = true,true = true]) (by kernel_rfl) (cj (impl_RingOk_ok r_ r1 h1) (cj rfl (cj (nt h2) (cj (nt h2) (cj (nt h2) (cj (nt h2) (cj1 rfl))))))))))
def impl_checks (a : Acct) (amount : Int) (now : Int) : Option (Int) :=
 (impl_Room a now).bind fun r1 =>
 if (decide (r1 < amount)) = true then
 some 7
 else
 (impl_RingCount a.Ring now).bind fun r2 =>
 (impl_AddSat r2 1).bind fun r3 =>
 if (decide (a.Most < r3)) = true then
 some 8
 else
 (impl_RingSum a.Ring now).bind fun r4 =>
 (impl_AddSat r4 amount).bind fun r5 =>
 if (decide (a.MostSum < r5)) = true then
 some 9
 else
 some 0
theorem impl_checks_ok (a : Acct) (amount : Int) (now : Int) : Pn (fun y => Fn Try.prog 43 [(false, E29 a), (false, E3 amount), (false, E3 now)] (E3 y) []) (impl_checks a amount now) := by
  unfold impl_checks
  exact
   Pn.bind (fun r1 h1 =>
   Pn.ite (fun h2 =>
   Pn.some (Fn.of [.call [] (E3 r1) [], .bit true] (p := [Fn Try.prog 10 [(false, E29 a), (false, E3 now)] (E3 r1) [],(true || ((E3 r1).nv && nvL [])) = true,(decide (r1 < amount)) = true]) (by kernel_rfl) (cj (impl_Room_ok a now r1 h1) (cj rfl (cj1 h2))))) (fun h2 =>
   Pn.bind (fun r2 h3 =>
   Pn.bind (fun r3 h4 =>
   Pn.ite (fun h5 =>
   Pn.some (Fn.of [.call [] (E3 r1) [], .bit false, .draw [], .call [] (E3 r2) [], .call [] (E3 r3) [], .bit true] (p := [Fn Try.prog 10 [(false, E29 a), (false, E3 now)] (E3 r1) [],(true || ((E3 r1).nv && nvL [])) = true,(decide (r1 < amount)) = false,Fn Try.prog 17 [(false, E26 a.Ring), (false, E3 now)] (E3 r2) [],(true || ((E3 r2).nv && nvL [])) = true,Fn Try.prog 35 [(false, E3 r2), (false, E3 1)] (E3 r3) [],(true || ((E3 r3).nv && nvL [])) = true,(decide (a.Most < r3)) = true]) (by kernel_rfl) (cj (impl_Room_ok a now r1 h1) (cj rfl (cj h2 (cj (impl_RingCount_ok a.Ring now r2 h3) (cj rfl (cj (impl_AddSat_ok r2 1 r3 h4) (cj rfl (cj1 h5)))))))))) (fun h5 =>
   Pn.bind (fun r4 h6 =>
   Pn.bind (fun r5 h7 =>
   Pn.ite (fun h8 =>
   Pn.some (Fn.of [.call [] (E3 r1) [], .bit false, .draw [], .call [] (E3 r2) [], .call [] (E3 r3) [], .bit false, .draw [], .call [] (E3 r4) [], .call [] (E3 r5) [], .bit true] (p := [Fn Try.prog 10 [(false, E29 a), (false, E3 now)] (E3 r1) [],(true || ((E3 r1).nv && nvL [])) = true,(decide (r1 < amount)) = false,Fn Try.prog 17 [(false, E26 a.Ring), (false, E3 now)] (E3 r2) [],(true || ((E3 r2).nv && nvL [])) = true,Fn Try.prog 35 [(false, E3 r2), (false, E3 1)] (E3 r3) [],(true || ((E3 r3).nv && nvL [])) = true,(decide (a.Most < r3)) = false,Fn Try.prog 18 [(false, E26 a.Ring), (false, E3 now)] (E3 r4) [],(true || ((E3 r4).nv && nvL [])) = true,Fn Try.prog 35 [(false, E3 r4), (false, E3 amount)] (E3 r5) [],(true || ((E3 r5).nv && nvL [])) = true,(decide (a.MostSum < r5)) = true]) (by kernel_rfl) (cj (impl_Room_ok a now r1 h1) (cj rfl (cj h2 (cj (impl_RingCount_ok a.Ring now r2 h3) (cj rfl (cj (impl_AddSat_ok r2 1 r3 h4) (cj rfl (cj h5 (cj (impl_RingSum_ok a.Ring now r4 h6) (cj rfl (cj (impl_AddSat_ok r4 amount r5 h7) (cj rfl (cj1 h8))))))))))))))) (fun h8 =>
   Pn.some (Fn.of [.call [] (E3 r1) [], .bit false, .draw [], .call [] (E3 r2) [], .call [] (E3 r3) [], .bit false, .draw [], .call [] (E3 r4) [], .call [] (E3 r5) [], .bit false] (p := [Fn Try.prog 10 [(false, E29 a), (false, E3 now)] (E3 r1) [],(true || ((E3 r1).nv && nvL [])) = true,(decide (r1 < amount)) = false,Fn Try.prog 17 [(false, E26 a.Ring), (false, E3 now)] (E3 r2) [],(true || ((E3 r2).nv && nvL [])) = true,Fn Try.prog 35 [(false, E3 r2), (false, E3 1)] (E3 r3) [],(true || ((E3 r3).nv && nvL [])) = true,(decide (a.Most < r3)) = false,Fn Try.prog 18 [(false, E26 a.Ring), (false, E3 now)] (E3 r4) [],(true || ((E3 r4).nv && nvL [])) = true,Fn Try.prog 35 [(false, E3 r4), (false, E3 amount)] (E3 r5) [],(true || ((E3 r5).nv && nvL [])) = true,(decide (a.MostSum < r5)) = false]) (by kernel_rfl) (cj (impl_Room_ok a now r1 h1) (cj rfl (cj h2 (cj (impl_RingCount_ok a.Ring now r2 h3) (cj rfl (cj (impl_AddSat_ok r2 1 r3 h4) (cj rfl (cj h5 (cj (impl_RingSum_ok a.Ring now r4 h6) (cj rfl (cj (impl_AddSat_ok r4 amount r5 h7) (cj rfl (cj1 h8))))))))))))))))))))))
def impl_HoldDrop_1 (h_ : Hold) (c0_0 : ByteArray) : Option (Bool) :=
 some (h_.Id == c0_0)
theorem impl_HoldDrop_1_ok (h_ : Hold) (c0_0 : ByteArray) : Pn (fun y => Fn Try.prog 71 [(false, E36 h_), (false, V.cp [V.sc (.string c0_0)])] (E4 y) []) (impl_HoldDrop_1 h_ c0_0) := by
  unfold impl_HoldDrop_1
  exact
   Pn.some (Fn.of [] (p := []) (by kernel_rfl) trivial)
def slices_IndexFunc_impl_Hold_impl_HoldDrop_1_l0 (s_ : List Hold) (f0_0 : ByteArray) : List Hold → List Hold → Option (Lo Unit Int)
  | [], p1 =>
   some (.out ())
  | x1 :: t1, p1 =>
   (impl_HoldDrop_1 x1 f0_0).bind fun r1 =>
   if r1 = true then
   some (.ret (p1.length : Int))
   else
   slices_IndexFunc_impl_Hold_impl_HoldDrop_1_l0 s_ f0_0 t1 (p1 ++ [x1])
theorem slices_IndexFunc_impl_Hold_impl_HoldDrop_1_l0_ok (s_ : List Hold) (f0_0 : ByteArray) (h2 : capOk s_.length = true) : ∀ (t1 p1 : List Hold) (_ : s_ = p1 ++ t1) , Pn (LpO Try.prog (sub (codeOf Try.prog 31) [1, 0, 1, 0, 0]) (st 19 [(0, V.sl false 36 (List.map E36 s_)), (1, V.fn 71 [V.cp [V.sc (.string f0_0)]]), (7, vI (s_.length : Int)), (8, vI (p1.length : Int))] [] []) (fun (y : Lo Unit Int) => Lo.elim y (fun s => (X.out 0, st 19 [] [] [])) (fun s => (X.ret, st 19 [(4, vI s)] [] [])))) (slices_IndexFunc_impl_Hold_impl_HoldDrop_1_l0 s_ f0_0 t1 p1)
  | [], p1, h1 => by
    unfold slices_IndexFunc_impl_Hold_impl_HoldDrop_1_l0
    exact
     Pn.some (LpO.out [.bit false, .mask [], .ren []] (p := [(decide ((p1.length : Int) < (s_.length : Int))) = false]) (by kernel_rfl) (show X.out 0 ≠ X.go from nofun) (cj1 (rng_end h1)))
  | x1 :: t1, p1, h1 => by
    unfold slices_IndexFunc_impl_Hold_impl_HoldDrop_1_l0
    exact
     Pn.bind (fun r1 h3 =>
     Pn.ite (fun h4 =>
     Pn.some (LpO.out [.bit true, .el (E36 x1), .call [] (E4 r1) [], .bit true, .wait 2, .mask [4], .ren []] (p := [(decide ((p1.length : Int) < (s_.length : Int))) = true,(0 : Int) ≤ (p1.length : Int),(List.map E36 s_)[(p1.length : Int).toNat]? = some (E36 x1),Fn Try.prog 71 [(false, E36 x1), (false, V.cp [V.sc (.string f0_0)])] (E4 r1) [],(true || ((E4 r1).nv && nvL [])) = true,r1 = true]) (by kernel_rfl) (show X.ret ≠ X.go from nofun) (cj (rng_lt h1) (cj (by omega) (cj (rng_get _ h1) (cj (impl_HoldDrop_1_ok x1 f0_0 r1 h3) (cj rfl (cj1 h4)))))))) (fun h4 =>
     LpO.go [.bit true, .el (E36 x1), .call [] (E4 r1) [], .bit false, .wait 2, .mask [0, 1, 7, 8], .ren [], .nm 8 (vI ((p1 ++ [x1]).length : Int))] (p := [(decide ((p1.length : Int) < (s_.length : Int))) = true,(0 : Int) ≤ (p1.length : Int),(List.map E36 s_)[(p1.length : Int).toNat]? = some (E36 x1),Fn Try.prog 71 [(false, E36 x1), (false, V.cp [V.sc (.string f0_0)])] (E4 r1) [],(true || ((E4 r1).nv && nvL [])) = true,r1 = false,vI (i64 ((p1.length : Int) + 1)) = vI ((p1 ++ [x1]).length : Int)]) (by kernel_rfl) (cj (rng_lt h1) (cj (by omega) (cj (rng_get _ h1) (cj (impl_HoldDrop_1_ok x1 f0_0 r1 h3) (cj rfl (cj h4 (cj1 (rng_next h1 h2)))))))) (slices_IndexFunc_impl_Hold_impl_HoldDrop_1_l0_ok s_ f0_0 h2 t1 (p1 ++ [x1]) (rng_step h1))))
def slices_IndexFunc_impl_Hold_impl_HoldDrop_1 (s_ : List Hold) (f0_0 : ByteArray) : Option (Int) :=
 if (capOk s_.length) = true then
 (slices_IndexFunc_impl_Hold_impl_HoldDrop_1_l0 s_ f0_0 s_ []).bind fun r2 =>
 Lo.elim r2 (fun s1 =>
 some (-1)) (fun s2 =>
 some s2)
 else none
theorem slices_IndexFunc_impl_Hold_impl_HoldDrop_1_ok (s_ : List Hold) (f0_0 : ByteArray) : Pn (fun y => Fn Try.prog 31 [(false, E23 s_), (false, V.fn 71 [V.cp [V.sc (.string f0_0)]])] (E3 y) []) (slices_IndexFunc_impl_Hold_impl_HoldDrop_1 s_ f0_0) := by
  unfold slices_IndexFunc_impl_Hold_impl_HoldDrop_1
  exact
   Pn.ite (fun h5 =>
   Pn.bind (fun r2 h6 =>
   Pn.lo (fun s1 h7 =>
   Pn.some (Fn.of [.wait 3, .nm 7 (vI (s_.length : Int)), .wait 2, .mask [0, 1, 7, 8], .ren [], .loop (X.out 0) (st 19 [] [] [])] (p := [vI ((List.map E36 s_).length : Int) = vI (s_.length : Int),Loop Try.prog (sub (codeOf Try.prog 31) [1, 0, 1, 0, 0]) (st 19 [(0, V.sl false 36 (List.map E36 s_)), (1, V.fn 71 [V.cp [V.sc (.string f0_0)]]), (7, vI (s_.length : Int)), (8, vI 0)] [] []) (X.out 0) (st 19 [] [] [])]) (by kernel_rfl) (cj (len_nm _ _) (cj1 ((slices_IndexFunc_impl_Hold_impl_HoldDrop_1_l0_ok s_ f0_0 h5 s_ [] rfl r2 h6).at h7 :))))) (fun s2 h8 =>
   Pn.some (Fn.of [.wait 3, .nm 7 (vI (s_.length : Int)), .wait 2, .mask [0, 1, 7, 8], .ren [], .loop (X.ret) (st 19 [(4, vI s2)] [] [])] (p := [vI ((List.map E36 s_).length : Int) = vI (s_.length : Int),Loop Try.prog (sub (codeOf Try.prog 31) [1, 0, 1, 0, 0]) (st 19 [(0, V.sl false 36 (List.map E36 s_)), (1, V.fn 71 [V.cp [V.sc (.string f0_0)]]), (7, vI (s_.length : Int)), (8, vI 0)] [] []) (X.ret) (st 19 [(4, vI s2)] [] [])]) (by kernel_rfl) (cj (len_nm _ _) (cj1 ((slices_IndexFunc_impl_Hold_impl_HoldDrop_1_l0_ok s_ f0_0 h5 s_ [] rfl r2 h6).at h8 :))))))) (fun h5 =>
   Pn.none)
end Go.Proofs.YtlkkfamdlicaeaaM
