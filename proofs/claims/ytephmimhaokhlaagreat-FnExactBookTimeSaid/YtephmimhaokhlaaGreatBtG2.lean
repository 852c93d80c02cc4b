/- Printed by gen.py: functions on plain data, and that the program computes them. No condition. -/
import Derived.Test.YtephmimhaokhlaaGreatBtG1
namespace Go.Proofs.YtephmimhaokhlaaGreatM
set_option linter.unusedVariables false
set_option linter.unusedSimpArgs false
open Go.RowKit
set_option maxRecDepth 100000

def laws_FnExactBookTime (o : Book) (o_ : Int) : Option (Bool) :=
 (laws_szBook o 1048576).bind fun r1 =>
 if (decide (r1 < 0)) = true then
  some true
 else
  (laws_toBook o).bind fun r2 =>
  (spec_BookTime r2 o_).bind fun r3 =>
  (laws_toBook o).bind fun r4 =>
  (impl_BookTime r4 o_).bind fun r5 =>
  (laws_eqBook r5 r3).bind fun r6 =>
  if r6 = true then
   (laws_toBook o).bind fun r7 =>
   (laws_eqBook r4 r7).bind fun r8 =>
   if r8 = true then
    (laws_markBook r4 1).bind fun r9 =>
    if (decide (r9.1 < 0)) = true then
     some false
    else
     (laws_eqBook r5 r3).bind fun r10 =>
     if r10 = true then
      (laws_markBook r5 1).bind fun r11 =>
      (laws_heldBook (Book.mk r11.2) 1).bind fun r12 =>
      if (decide (r12 < 0)) = true then
       some false
      else
       if (r12 != r11.1) = true then
        some false
       else
        (laws_toBook o).bind fun r13 =>
        (impl_BookTime r13 o_).bind fun r14 =>
        (laws_eqBook r14 r3).bind fun r15 =>
        if r15 = true then
         (laws_heldBook (Book.mk r11.2) 1).bind fun r16 =>
         if (decide (r16 < 0)) = true then
          some false
         else
          if (r16 != r11.1) = true then
           some false
          else
           some true
        else
         some false
     else
      some false
   else
    some false
  else
   some false
theorem laws_FnExactBookTime_ok (o : Book) (o_ : Int) : Pn (fun y => Fn Tryz.prog 7 [(false, E24 o), (false, E3 o_)] (E4 y) []) (laws_FnExactBookTime o o_) := by
  unfold laws_FnExactBookTime
  exact
   Pn.bind (fun r1 h1 =>
    Pn.ite (fun h2 =>
     Pn.some (Fn.of [.call [] (E3 r1) [], .bit true] (p := [Fn Tryz.prog 9 [(false, E24 o), (false, E3 1048576)] (E3 r1) [],
      (true || ((E3 r1).nv && nvL [])) = true,
      (decide (r1 < 0)) = true]) (by kernel_rfl) (cj (laws_szBook_ok o 1048576 r1 h1) (cj rfl (cj1 h2))))) (fun h2 =>
     Pn.bind (fun r2 h3 =>
      Pn.bind (fun r3 h4 =>
       Pn.bind (fun r4 h5 =>
        Pn.bind (fun r5 h6 =>
         Pn.bind (fun r6 h7 =>
          Pn.ite (fun h8 =>
           Pn.bind (fun r7 h9 =>
            Pn.bind (fun r8 h10 =>
             Pn.ite (fun h11 =>
              Pn.bind (fun r9 h12 =>
               Pn.ite (fun h13 =>
                Pn.some (Fn.of [.call [] (E3 r1) [], .bit false, .call [] (E28 r2) [], .call [] (E28 r3) [], .call [] (E28 r4) [], .call [] (E28 r5) [], .call [] (E4 r6) [], .bit false, .draw [], .call [] (E28 r7) [], .call [] (E4 r8) [], .bit false, .call [true, false] (E3 r9.1) [V.sl true 48 (List.map E48 r9.2)], .bit true, .bit true, .bit true, .bit true, .bit true, .bit true] (p := [Fn Tryz.prog 9 [(false, E24 o), (false, E3 1048576)] (E3 r1) [],
                 (true || ((E3 r1).nv && nvL [])) = true,
                 (decide (r1 < 0)) = false,
                 Fn Tryz.prog 11 [(false, E24 o)] (E28 r2) [],
                 (true || ((E28 r2).nv && nvL [])) = true,
                 Fn Tryz.prog 31 [(false, E28 r2), (false, E3 o_)] (E28 r3) [],
                 (false || ((E28 r3).nv && nvL [])) = true,
                 Fn Tryz.prog 11 [(false, E24 o)] (E28 r4) [],
                 (true || ((E28 r4).nv && nvL [])) = true,
                 Fn Tryz.prog 32 [(false, E28 r4), (false, E3 o_)] (E28 r5) [],
                 (false || ((E28 r5).nv && nvL [])) = true,
                 Fn Tryz.prog 13 [(false, E28 r5), (false, E28 r3)] (E4 r6) [],
                 (false || ((E4 r6).nv && nvL [])) = true,
                 (!r6) = false,
                 Fn Tryz.prog 11 [(false, E24 o)] (E28 r7) [],
                 (true || ((E28 r7).nv && nvL [])) = true,
                 Fn Tryz.prog 13 [(false, E28 r4), (false, E28 r7)] (E4 r8) [],
                 (false || ((E4 r8).nv && nvL [])) = true,
                 (!r8) = false,
                 Fn Tryz.prog 14 [(true, E28 r4), (false, E3 1)] (E3 r9.1) [V.sl true 48 (List.map E48 r9.2)],
                 (true || ((E3 r9.1).nv && nvL [V.sl true 48 (List.map E48 r9.2)])) = true,
                 (decide (r9.1 < 0)) = true,
                 (decide (r9.1 < 0)) = true,
                 (decide (r9.1 < 0)) = true,
                 (decide (r9.1 < 0)) = true,
                 (decide (r9.1 < 0)) = true,
                 true = true]) (by kernel_rfl) (cj (laws_szBook_ok o 1048576 r1 h1) (cj rfl (cj h2 (cj (laws_toBook_ok o r2 h3) (cj rfl (cj (spec_BookTime_ok r2 o_ r3 h4) (cj (by simp [V.nv, nvL, nvL_all, nv_E3, nv_E5, nv_E9, nv_E26, nv_E28, nv_E35, nv_E44, nv_E45, nv_E46, nv_E48, nv_E118, nv_E129, nv_E132]) (cj (laws_toBook_ok o r4 h5) (cj rfl (cj (impl_BookTime_ok r4 o_ r5 h6) (cj (by simp [V.nv, nvL, nvL_all, nv_E3, nv_E5, nv_E9, nv_E26, nv_E28, nv_E35, nv_E44, nv_E45, nv_E46, nv_E48, nv_E118, nv_E129, nv_E132]) (cj (laws_eqBook_ok r5 r3 r6 h7) (cj (by simp [V.nv, nvL, nvL_all, nv_E4]) (cj (nf h8) (cj (laws_toBook_ok o r7 h9) (cj rfl (cj (laws_eqBook_ok r4 r7 r8 h10) (cj (by simp [V.nv, nvL, nvL_all, nv_E4]) (cj (nf h11) (cj (laws_markBook_ok r4 1 r9 h12) (cj rfl (cj h13 (cj h13 (cj h13 (cj h13 (cj h13 (cj1 rfl))))))))))))))))))))))))))))) (fun h13 =>
                Pn.bind (fun r10 h14 =>
                 Pn.ite (fun h15 =>
                  Pn.bind (fun r11 h16 =>
                   Pn.bind (fun r12 h17 =>
                    Pn.ite (fun h18 =>
                     Pn.some (Fn.of [.call [] (E3 r1) [], .bit false, .call [] (E28 r2) [], .call [] (E28 r3) [], .call [] (E28 r4) [], .call [] (E28 r5) [], .call [] (E4 r6) [], .bit false, .draw [], .call [] (E28 r7) [], .call [] (E4 r8) [], .bit false, .call [true, false] (E3 r9.1) [V.sl true 48 (List.map E48 r9.2)], .bit false, .bit false, .bit false, .call [] (E4 r10) [], .bit false, .bit false, .bit false, .call [true, false] (E3 r11.1) [V.sl true 48 (List.map E48 r11.2)], .call [] (E3 r12) [], .bit true] (p := [Fn Tryz.prog 9 [(false, E24 o), (false, E3 1048576)] (E3 r1) [],
                      (true || ((E3 r1).nv && nvL [])) = true,
                      (decide (r1 < 0)) = false,
                      Fn Tryz.prog 11 [(false, E24 o)] (E28 r2) [],
                      (true || ((E28 r2).nv && nvL [])) = true,
                      Fn Tryz.prog 31 [(false, E28 r2), (false, E3 o_)] (E28 r3) [],
                      (false || ((E28 r3).nv && nvL [])) = true,
                      Fn Tryz.prog 11 [(false, E24 o)] (E28 r4) [],
                      (true || ((E28 r4).nv && nvL [])) = true,
                      Fn Tryz.prog 32 [(false, E28 r4), (false, E3 o_)] (E28 r5) [],
                      (false || ((E28 r5).nv && nvL [])) = true,
                      Fn Tryz.prog 13 [(false, E28 r5), (false, E28 r3)] (E4 r6) [],
                      (false || ((E4 r6).nv && nvL [])) = true,
                      (!r6) = false,
                      Fn Tryz.prog 11 [(false, E24 o)] (E28 r7) [],
                      (true || ((E28 r7).nv && nvL [])) = true,
                      Fn Tryz.prog 13 [(false, E28 r4), (false, E28 r7)] (E4 r8) [],
                      (false || ((E4 r8).nv && nvL [])) = true,
                      (!r8) = false,
                      Fn Tryz.prog 14 [(true, E28 r4), (false, E3 1)] (E3 r9.1) [V.sl true 48 (List.map E48 r9.2)],
                      (true || ((E3 r9.1).nv && nvL [V.sl true 48 (List.map E48 r9.2)])) = true,
                      (decide (r9.1 < 0)) = false,
                      (decide (r9.1 < 0)) = false,
                      (decide (r9.1 < 0)) = false,
                      Fn Tryz.prog 13 [(false, E28 r5), (false, E28 r3)] (E4 r10) [],
                      (false || ((E4 r10).nv && nvL [])) = true,
                      (decide (r9.1 < 0)) = false,
                      (decide (r9.1 < 0)) = false,
                      (!r10) = false,
                      Fn Tryz.prog 14 [(true, E28 r5), (false, E3 1)] (E3 r11.1) [V.sl true 48 (List.map E48 r11.2)],
                      (true || ((E3 r11.1).nv && nvL [V.sl true 48 (List.map E48 r11.2)])) = true,
                      Fn Tryz.prog 15 [(false, E28 (Book.mk r11.2)), (false, E3 1)] (E3 r12) [],
                      (false || ((E3 r12).nv && nvL [])) = true,
                      (decide (r12 < 0)) = true]) (by kernel_rfl) (cj (laws_szBook_ok o 1048576 r1 h1) (cj rfl (cj h2 (cj (laws_toBook_ok o r2 h3) (cj rfl (cj (spec_BookTime_ok r2 o_ r3 h4) (cj (by simp [V.nv, nvL, nvL_all, nv_E3, nv_E5, nv_E9, nv_E26, nv_E28, nv_E35, nv_E44, nv_E45, nv_E46, nv_E48, nv_E118, nv_E129, nv_E132]) (cj (laws_toBook_ok o r4 h5) (cj rfl (cj (impl_BookTime_ok r4 o_ r5 h6) (cj (by simp [V.nv, nvL, nvL_all, nv_E3, nv_E5, nv_E9, nv_E26, nv_E28, nv_E35, nv_E44, nv_E45, nv_E46, nv_E48, nv_E118, nv_E129, nv_E132]) (cj (laws_eqBook_ok r5 r3 r6 h7) (cj (by simp [V.nv, nvL, nvL_all, nv_E4]) (cj (nf h8) (cj (laws_toBook_ok o r7 h9) (cj rfl (cj (laws_eqBook_ok r4 r7 r8 h10) (cj (by simp [V.nv, nvL, nvL_all, nv_E4]) (cj (nf h11) (cj (laws_markBook_ok r4 1 r9 h12) (cj rfl (cj h13 (cj h13 (cj h13 (cj (laws_eqBook_ok r5 r3 r10 h14) (cj (by simp [V.nv, nvL, nvL_all, nv_E4]) (cj h13 (cj h13 (cj (nf h15) (cj (laws_markBook_ok r5 1 r11 h16) (cj rfl (cj (laws_heldBook_ok (Book.mk r11.2) 1 r12 h17) (cj (by simp [V.nv, nvL, nvL_all, nv_E3]) (cj1 h18)))))))))))))))))))))))))))))))))))) (fun h18 =>
                     Pn.ite (fun h19 =>
                      Pn.some (Fn.of [.call [] (E3 r1) [], .bit false, .call [] (E28 r2) [], .call [] (E28 r3) [], .call [] (E28 r4) [], .call [] (E28 r5) [], .call [] (E4 r6) [], .bit false, .draw [], .call [] (E28 r7) [], .call [] (E4 r8) [], .bit false, .call [true, false] (E3 r9.1) [V.sl true 48 (List.map E48 r9.2)], .bit false, .bit false, .bit false, .call [] (E4 r10) [], .bit false, .bit false, .bit false, .call [true, false] (E3 r11.1) [V.sl true 48 (List.map E48 r11.2)], .call [] (E3 r12) [], .bit false, .bit true] (p := [Fn Tryz.prog 9 [(false, E24 o), (false, E3 1048576)] (E3 r1) [],
                       (true || ((E3 r1).nv && nvL [])) = true,
                       (decide (r1 < 0)) = false,
                       Fn Tryz.prog 11 [(false, E24 o)] (E28 r2) [],
                       (true || ((E28 r2).nv && nvL [])) = true,
                       Fn Tryz.prog 31 [(false, E28 r2), (false, E3 o_)] (E28 r3) [],
                       (false || ((E28 r3).nv && nvL [])) = true,
                       Fn Tryz.prog 11 [(false, E24 o)] (E28 r4) [],
                       (true || ((E28 r4).nv && nvL [])) = true,
                       Fn Tryz.prog 32 [(false, E28 r4), (false, E3 o_)] (E28 r5) [],
                       (false || ((E28 r5).nv && nvL [])) = true,
                       Fn Tryz.prog 13 [(false, E28 r5), (false, E28 r3)] (E4 r6) [],
                       (false || ((E4 r6).nv && nvL [])) = true,
                       (!r6) = false,
                       Fn Tryz.prog 11 [(false, E24 o)] (E28 r7) [],
                       (true || ((E28 r7).nv && nvL [])) = true,
                       Fn Tryz.prog 13 [(false, E28 r4), (false, E28 r7)] (E4 r8) [],
                       (false || ((E4 r8).nv && nvL [])) = true,
                       (!r8) = false,
                       Fn Tryz.prog 14 [(true, E28 r4), (false, E3 1)] (E3 r9.1) [V.sl true 48 (List.map E48 r9.2)],
                       (true || ((E3 r9.1).nv && nvL [V.sl true 48 (List.map E48 r9.2)])) = true,
                       (decide (r9.1 < 0)) = false,
                       (decide (r9.1 < 0)) = false,
                       (decide (r9.1 < 0)) = false,
                       Fn Tryz.prog 13 [(false, E28 r5), (false, E28 r3)] (E4 r10) [],
                       (false || ((E4 r10).nv && nvL [])) = true,
                       (decide (r9.1 < 0)) = false,
                       (decide (r9.1 < 0)) = false,
                       (!r10) = false,
                       Fn Tryz.prog 14 [(true, E28 r5), (false, E3 1)] (E3 r11.1) [V.sl true 48 (List.map E48 r11.2)],
                       (true || ((E3 r11.1).nv && nvL [V.sl true 48 (List.map E48 r11.2)])) = true,
                       Fn Tryz.prog 15 [(false, E28 (Book.mk r11.2)), (false, E3 1)] (E3 r12) [],
                       (false || ((E3 r12).nv && nvL [])) = true,
                       (decide (r12 < 0)) = false,
                       (r12 != r11.1) = true]) (by kernel_rfl) (cj (laws_szBook_ok o 1048576 r1 h1) (cj rfl (cj h2 (cj (laws_toBook_ok o r2 h3) (cj rfl (cj (spec_BookTime_ok r2 o_ r3 h4) (cj (by simp [V.nv, nvL, nvL_all, nv_E3, nv_E5, nv_E9, nv_E26, nv_E28, nv_E35, nv_E44, nv_E45, nv_E46, nv_E48, nv_E118, nv_E129, nv_E132]) (cj (laws_toBook_ok o r4 h5) (cj rfl (cj (impl_BookTime_ok r4 o_ r5 h6) (cj (by simp [V.nv, nvL, nvL_all, nv_E3, nv_E5, nv_E9, nv_E26, nv_E28, nv_E35, nv_E44, nv_E45, nv_E46, nv_E48, nv_E118, nv_E129, nv_E132]) (cj (laws_eqBook_ok r5 r3 r6 h7) (cj (by simp [V.nv, nvL, nvL_all, nv_E4]) (cj (nf h8) (cj (laws_toBook_ok o r7 h9) (cj rfl (cj (laws_eqBook_ok r4 r7 r8 h10) (cj (by simp [V.nv, nvL, nvL_all, nv_E4]) (cj (nf h11) (cj (laws_markBook_ok r4 1 r9 h12) (cj rfl (cj h13 (cj h13 (cj h13 (cj (laws_eqBook_ok r5 r3 r10 h14) (cj (by simp [V.nv, nvL, nvL_all, nv_E4]) (cj h13 (cj h13 (cj (nf h15) (cj (laws_markBook_ok r5 1 r11 h16) (cj rfl (cj (laws_heldBook_ok (Book.mk r11.2) 1 r12 h17) (cj (by simp [V.nv, nvL, nvL_all, nv_E3]) (cj h18 (cj1 h19))))))))))))))))))))))))))))))))))))) (fun h19 =>
                      Pn.bind (fun r13 h20 =>
                       Pn.bind (fun r14 h21 =>
                        Pn.bind (fun r15 h22 =>
                         Pn.ite (fun h23 =>
                          Pn.bind (fun r16 h24 =>
                           Pn.ite (fun h25 =>
                            Pn.some (Fn.of [.call [] (E3 r1) [], .bit false, .call [] (E28 r2) [], .call [] (E28 r3) [], .call [] (E28 r4) [], .call [] (E28 r5) [], .call [] (E4 r6) [], .bit false, .draw [], .call [] (E28 r7) [], .call [] (E4 r8) [], .bit false, .call [true, false] (E3 r9.1) [V.sl true 48 (List.map E48 r9.2)], .bit false, .bit false, .bit false, .call [] (E4 r10) [], .bit false, .bit false, .bit false, .call [true, false] (E3 r11.1) [V.sl true 48 (List.map E48 r11.2)], .call [] (E3 r12) [], .bit false, .bit false, .call [] (E28 r13) [], .call [] (E28 r14) [], .call [] (E4 r15) [], .bit false, .call [] (E3 r16) [], .bit true] (p := [Fn Tryz.prog 9 [(false, E24 o), (false, E3 1048576)] (E3 r1) [],
                             (true || ((E3 r1).nv && nvL [])) = true,
                             (decide (r1 < 0)) = false,
                             Fn Tryz.prog 11 [(false, E24 o)] (E28 r2) [],
                             (true || ((E28 r2).nv && nvL [])) = true,
                             Fn Tryz.prog 31 [(false, E28 r2), (false, E3 o_)] (E28 r3) [],
                             (false || ((E28 r3).nv && nvL [])) = true,
                             Fn Tryz.prog 11 [(false, E24 o)] (E28 r4) [],
                             (true || ((E28 r4).nv && nvL [])) = true,
                             Fn Tryz.prog 32 [(false, E28 r4), (false, E3 o_)] (E28 r5) [],
                             (false || ((E28 r5).nv && nvL [])) = true,
                             Fn Tryz.prog 13 [(false, E28 r5), (false, E28 r3)] (E4 r6) [],
                             (false || ((E4 r6).nv && nvL [])) = true,
                             (!r6) = false,
                             Fn Tryz.prog 11 [(false, E24 o)] (E28 r7) [],
                             (true || ((E28 r7).nv && nvL [])) = true,
                             Fn Tryz.prog 13 [(false, E28 r4), (false, E28 r7)] (E4 r8) [],
                             (false || ((E4 r8).nv && nvL [])) = true,
                             (!r8) = false,
                             Fn Tryz.prog 14 [(true, E28 r4), (false, E3 1)] (E3 r9.1) [V.sl true 48 (List.map E48 r9.2)],
                             (true || ((E3 r9.1).nv && nvL [V.sl true 48 (List.map E48 r9.2)])) = true,
                             (decide (r9.1 < 0)) = false,
                             (decide (r9.1 < 0)) = false,
                             (decide (r9.1 < 0)) = false,
                             Fn Tryz.prog 13 [(false, E28 r5), (false, E28 r3)] (E4 r10) [],
                             (false || ((E4 r10).nv && nvL [])) = true,
                             (decide (r9.1 < 0)) = false,
                             (decide (r9.1 < 0)) = false,
                             (!r10) = false,
                             Fn Tryz.prog 14 [(true, E28 r5), (false, E3 1)] (E3 r11.1) [V.sl true 48 (List.map E48 r11.2)],
                             (true || ((E3 r11.1).nv && nvL [V.sl true 48 (List.map E48 r11.2)])) = true,
                             Fn Tryz.prog 15 [(false, E28 (Book.mk r11.2)), (false, E3 1)] (E3 r12) [],
                             (false || ((E3 r12).nv && nvL [])) = true,
                             (decide (r12 < 0)) = false,
                             (r12 != r11.1) = false,
                             Fn Tryz.prog 11 [(false, E24 o)] (E28 r13) [],
                             (true || ((E28 r13).nv && nvL [])) = true,
                             Fn Tryz.prog 32 [(false, E28 r13), (false, E3 o_)] (E28 r14) [],
                             (false || ((E28 r14).nv && nvL [])) = true,
                             Fn Tryz.prog 13 [(false, E28 r14), (false, E28 r3)] (E4 r15) [],
                             (false || ((E4 r15).nv && nvL [])) = true,
                             (!r15) = false,
                             Fn Tryz.prog 15 [(false, E28 (Book.mk r11.2)), (false, E3 1)] (E3 r16) [],
                             (false || ((E3 r16).nv && nvL [])) = true,
                             (decide (r16 < 0)) = true]) (by kernel_rfl) (cj (laws_szBook_ok o 1048576 r1 h1) (cj rfl (cj h2 (cj (laws_toBook_ok o r2 h3) (cj rfl (cj (spec_BookTime_ok r2 o_ r3 h4) (cj (by simp [V.nv, nvL, nvL_all, nv_E3, nv_E5, nv_E9, nv_E26, nv_E28, nv_E35, nv_E44, nv_E45, nv_E46, nv_E48, nv_E118, nv_E129, nv_E132]) (cj (laws_toBook_ok o r4 h5) (cj rfl (cj (impl_BookTime_ok r4 o_ r5 h6) (cj (by simp [V.nv, nvL, nvL_all, nv_E3, nv_E5, nv_E9, nv_E26, nv_E28, nv_E35, nv_E44, nv_E45, nv_E46, nv_E48, nv_E118, nv_E129, nv_E132]) (cj (laws_eqBook_ok r5 r3 r6 h7) (cj (by simp [V.nv, nvL, nvL_all, nv_E4]) (cj (nf h8) (cj (laws_toBook_ok o r7 h9) (cj rfl (cj (laws_eqBook_ok r4 r7 r8 h10) (cj (by simp [V.nv, nvL, nvL_all, nv_E4]) (cj (nf h11) (cj (laws_markBook_ok r4 1 r9 h12) (cj rfl (cj h13 (cj h13 (cj h13 (cj (laws_eqBook_ok r5 r3 r10 h14) (cj (by simp [V.nv, nvL, nvL_all, nv_E4]) (cj h13 (cj h13 (cj (nf h15) (cj (laws_markBook_ok r5 1 r11 h16) (cj rfl (cj (laws_heldBook_ok (Book.mk r11.2) 1 r12 h17) (cj (by simp [V.nv, nvL, nvL_all, nv_E3]) (cj h18 (cj h19 (cj (laws_toBook_ok o r13 h20) (cj rfl (cj (impl_BookTime_ok r13 o_ r14 h21) (cj (by simp [V.nv, nvL, nvL_all, nv_E3, nv_E5, nv_E9, nv_E26, nv_E28, nv_E35, nv_E44, nv_E45, nv_E46, nv_E48, nv_E118, nv_E129, nv_E132]) (cj (laws_eqBook_ok r14 r3 r15 h22) (cj (by simp [V.nv, nvL, nvL_all, nv_E4]) (cj (nf h23) (cj (laws_heldBook_ok (Book.mk r11.2) 1 r16 h24) (cj (by simp [V.nv, nvL, nvL_all, nv_E3]) (cj1 h25))))))))))))))))))))))))))))))))))))))))))))))) (fun h25 =>
                            Pn.ite (fun h26 =>
                             Pn.some (Fn.of [.call [] (E3 r1) [], .bit false, .call [] (E28 r2) [], .call [] (E28 r3) [], .call [] (E28 r4) [], .call [] (E28 r5) [], .call [] (E4 r6) [], .bit false, .draw [], .call [] (E28 r7) [], .call [] (E4 r8) [], .bit false, .call [true, false] (E3 r9.1) [V.sl true 48 (List.map E48 r9.2)], .bit false, .bit false, .bit false, .call [] (E4 r10) [], .bit false, .bit false, .bit false, .call [true, false] (E3 r11.1) [V.sl true 48 (List.map E48 r11.2)], .call [] (E3 r12) [], .bit false, .bit false, .call [] (E28 r13) [], .call [] (E28 r14) [], .call [] (E4 r15) [], .bit false, .call [] (E3 r16) [], .bit false, .bit true] (p := [Fn Tryz.prog 9 [(false, E24 o), (false, E3 1048576)] (E3 r1) [],
                              (true || ((E3 r1).nv && nvL [])) = true,
                              (decide (r1 < 0)) = false,
                              Fn Tryz.prog 11 [(false, E24 o)] (E28 r2) [],
                              (true || ((E28 r2).nv && nvL [])) = true,
                              Fn Tryz.prog 31 [(false, E28 r2), (false, E3 o_)] (E28 r3) [],
                              (false || ((E28 r3).nv && nvL [])) = true,
                              Fn Tryz.prog 11 [(false, E24 o)] (E28 r4) [],
                              (true || ((E28 r4).nv && nvL [])) = true,
                              Fn Tryz.prog 32 [(false, E28 r4), (false, E3 o_)] (E28 r5) [],
                              (false || ((E28 r5).nv && nvL [])) = true,
                              Fn Tryz.prog 13 [(false, E28 r5), (false, E28 r3)] (E4 r6) [],
                              (false || ((E4 r6).nv && nvL [])) = true,
                              (!r6) = false,
                              Fn Tryz.prog 11 [(false, E24 o)] (E28 r7) [],
                              (true || ((E28 r7).nv && nvL [])) = true,
                              Fn Tryz.prog 13 [(false, E28 r4), (false, E28 r7)] (E4 r8) [],
                              (false || ((E4 r8).nv && nvL [])) = true,
                              (!r8) = false,
                              Fn Tryz.prog 14 [(true, E28 r4), (false, E3 1)] (E3 r9.1) [V.sl true 48 (List.map E48 r9.2)],
                              (true || ((E3 r9.1).nv && nvL [V.sl true 48 (List.map E48 r9.2)])) = true,
                              (decide (r9.1 < 0)) = false,
                              (decide (r9.1 < 0)) = false,
                              (decide (r9.1 < 0)) = false,
                              Fn Tryz.prog 13 [(false, E28 r5), (false, E28 r3)] (E4 r10) [],
                              (false || ((E4 r10).nv && nvL [])) = true,
                              (decide (r9.1 < 0)) = false,
                              (decide (r9.1 < 0)) = false,
                              (!r10) = false,
                              Fn Tryz.prog 14 [(true, E28 r5), (false, E3 1)] (E3 r11.1) [V.sl true 48 (List.map E48 r11.2)],
                              (true || ((E3 r11.1).nv && nvL [V.sl true 48 (List.map E48 r11.2)])) = true,
                              Fn Tryz.prog 15 [(false, E28 (Book.mk r11.2)), (false, E3 1)] (E3 r12) [],
                              (false || ((E3 r12).nv && nvL [])) = true,
                              (decide (r12 < 0)) = false,
                              (r12 != r11.1) = false,
                              Fn Tryz.prog 11 [(false, E24 o)] (E28 r13) [],
                              (true || ((E28 r13).nv && nvL [])) = true,
                              Fn Tryz.prog 32 [(false, E28 r13), (false, E3 o_)] (E28 r14) [],
                              (false || ((E28 r14).nv && nvL [])) = true,
                              Fn Tryz.prog 13 [(false, E28 r14), (false, E28 r3)] (E4 r15) [],
                              (false || ((E4 r15).nv && nvL [])) = true,
                              (!r15) = false,
                              Fn Tryz.prog 15 [(false, E28 (Book.mk r11.2)), (false, E3 1)] (E3 r16) [],
                              (false || ((E3 r16).nv && nvL [])) = true,
                              (decide (r16 < 0)) = false,
                              (r16 != r11.1) = true]) (by kernel_rfl) (cj (laws_szBook_ok o 1048576 r1 h1) (cj rfl (cj h2 (cj (laws_toBook_ok o r2 h3) (cj rfl (cj (spec_BookTime_ok r2 o_ r3 h4) (cj (by simp [V.nv, nvL, nvL_all, nv_E3, nv_E5, nv_E9, nv_E26, nv_E28, nv_E35, nv_E44, nv_E45, nv_E46, nv_E48, nv_E118, nv_E129, nv_E132]) (cj (laws_toBook_ok o r4 h5) (cj rfl (cj (impl_BookTime_ok r4 o_ r5 h6) (cj (by simp [V.nv, nvL, nvL_all, nv_E3, nv_E5, nv_E9, nv_E26, nv_E28, nv_E35, nv_E44, nv_E45, nv_E46, nv_E48, nv_E118, nv_E129, nv_E132]) (cj (laws_eqBook_ok r5 r3 r6 h7) (cj (by simp [V.nv, nvL, nvL_all, nv_E4]) (cj (nf h8) (cj (laws_toBook_ok o r7 h9) (cj rfl (cj (laws_eqBook_ok r4 r7 r8 h10) (cj (by simp [V.nv, nvL, nvL_all, nv_E4]) (cj (nf h11) (cj (laws_markBook_ok r4 1 r9 h12) (cj rfl (cj h13 (cj h13 (cj h13 (cj (laws_eqBook_ok r5 r3 r10 h14) (cj (by simp [V.nv, nvL, nvL_all, nv_E4]) (cj h13 (cj h13 (cj (nf h15) (cj (laws_markBook_ok r5 1 r11 h16) (cj rfl (cj (laws_heldBook_ok (Book.mk r11.2) 1 r12 h17) (cj (by simp [V.nv, nvL, nvL_all, nv_E3]) (cj h18 (cj h19 (cj (laws_toBook_ok o r13 h20) (cj rfl (cj (impl_BookTime_ok r13 o_ r14 h21) (cj (by simp [V.nv, nvL, nvL_all, nv_E3, nv_E5, nv_E9, nv_E26, nv_E28, nv_E35, nv_E44, nv_E45, nv_E46, nv_E48, nv_E118, nv_E129, nv_E132]) (cj (laws_eqBook_ok r14 r3 r15 h22) (cj (by simp [V.nv, nvL, nvL_all, nv_E4]) (cj (nf h23) (cj (laws_heldBook_ok (Book.mk r11.2) 1 r16 h24) (cj (by simp [V.nv, nvL, nvL_all, nv_E3]) (cj h25 (cj1 h26)))))))))))))))))))))))))))))))))))))))))))))))) (fun h26 =>
                             Pn.some (Fn.of [.call [] (E3 r1) [], .bit false, .call [] (E28 r2) [], .call [] (E28 r3) [], .call [] (E28 r4) [], .call [] (E28 r5) [], .call [] (E4 r6) [], .bit false, .draw [], .call [] (E28 r7) [], .call [] (E4 r8) [], .bit false, .call [true, false] (E3 r9.1) [V.sl true 48 (List.map E48 r9.2)], .bit false, .bit false, .bit false, .call [] (E4 r10) [], .bit false, .bit false, .bit false, .call [true, false] (E3 r11.1) [V.sl true 48 (List.map E48 r11.2)], .call [] (E3 r12) [], .bit false, .bit false, .call [] (E28 r13) [], .call [] (E28 r14) [], .call [] (E4 r15) [], .bit false, .call [] (E3 r16) [], .bit false, .bit false] (p := [Fn Tryz.prog 9 [(false, E24 o), (false, E3 1048576)] (E3 r1) [],
                              (true || ((E3 r1).nv && nvL [])) = true,
                              (decide (r1 < 0)) = false,
                              Fn Tryz.prog 11 [(false, E24 o)] (E28 r2) [],
                              (true || ((E28 r2).nv && nvL [])) = true,
                              Fn Tryz.prog 31 [(false, E28 r2), (false, E3 o_)] (E28 r3) [],
                              (false || ((E28 r3).nv && nvL [])) = true,
                              Fn Tryz.prog 11 [(false, E24 o)] (E28 r4) [],
                              (true || ((E28 r4).nv && nvL [])) = true,
                              Fn Tryz.prog 32 [(false, E28 r4), (false, E3 o_)] (E28 r5) [],
                              (false || ((E28 r5).nv && nvL [])) = true,
                              Fn Tryz.prog 13 [(false, E28 r5), (false, E28 r3)] (E4 r6) [],
                              (false || ((E4 r6).nv && nvL [])) = true,
                              (!r6) = false,
                              Fn Tryz.prog 11 [(false, E24 o)] (E28 r7) [],
                              (true || ((E28 r7).nv && nvL [])) = true,
                              Fn Tryz.prog 13 [(false, E28 r4), (false, E28 r7)] (E4 r8) [],
                              (false || ((E4 r8).nv && nvL [])) = true,
                              (!r8) = false,
                              Fn Tryz.prog 14 [(true, E28 r4), (false, E3 1)] (E3 r9.1) [V.sl true 48 (List.map E48 r9.2)],
                              (true || ((E3 r9.1).nv && nvL [V.sl true 48 (List.map E48 r9.2)])) = true,
                              (decide (r9.1 < 0)) = false,
                              (decide (r9.1 < 0)) = false,
                              (decide (r9.1 < 0)) = false,
                              Fn Tryz.prog 13 [(false, E28 r5), (false, E28 r3)] (E4 r10) [],
                              (false || ((E4 r10).nv && nvL [])) = true,
                              (decide (r9.1 < 0)) = false,
                              (decide (r9.1 < 0)) = false,
                              (!r10) = false,
                              Fn Tryz.prog 14 [(true, E28 r5), (false, E3 1)] (E3 r11.1) [V.sl true 48 (List.map E48 r11.2)],
                              (true || ((E3 r11.1).nv && nvL [V.sl true 48 (List.map E48 r11.2)])) = true,
                              Fn Tryz.prog 15 [(false, E28 (Book.mk r11.2)), (false, E3 1)] (E3 r12) [],
                              (false || ((E3 r12).nv && nvL [])) = true,
                              (decide (r12 < 0)) = false,
                              (r12 != r11.1) = false,
                              Fn Tryz.prog 11 [(false, E24 o)] (E28 r13) [],
                              (true || ((E28 r13).nv && nvL [])) = true,
                              Fn Tryz.prog 32 [(false, E28 r13), (false, E3 o_)] (E28 r14) [],
                              (false || ((E28 r14).nv && nvL [])) = true,
                              Fn Tryz.prog 13 [(false, E28 r14), (false, E28 r3)] (E4 r15) [],
                              (false || ((E4 r15).nv && nvL [])) = true,
                              (!r15) = false,
                              Fn Tryz.prog 15 [(false, E28 (Book.mk r11.2)), (false, E3 1)] (E3 r16) [],
                              (false || ((E3 r16).nv && nvL [])) = true,
                              (decide (r16 < 0)) = false,
                              (r16 != r11.1) = false]) (by kernel_rfl) (cj (laws_szBook_ok o 1048576 r1 h1) (cj rfl (cj h2 (cj (laws_toBook_ok o r2 h3) (cj rfl (cj (spec_BookTime_ok r2 o_ r3 h4) (cj (by simp [V.nv, nvL, nvL_all, nv_E3, nv_E5, nv_E9, nv_E26, nv_E28, nv_E35, nv_E44, nv_E45, nv_E46, nv_E48, nv_E118, nv_E129, nv_E132]) (cj (laws_toBook_ok o r4 h5) (cj rfl (cj (impl_BookTime_ok r4 o_ r5 h6) (cj (by simp [V.nv, nvL, nvL_all, nv_E3, nv_E5, nv_E9, nv_E26, nv_E28, nv_E35, nv_E44, nv_E45, nv_E46, nv_E48, nv_E118, nv_E129, nv_E132]) (cj (laws_eqBook_ok r5 r3 r6 h7) (cj (by simp [V.nv, nvL, nvL_all, nv_E4]) (cj (nf h8) (cj (laws_toBook_ok o r7 h9) (cj rfl (cj (laws_eqBook_ok r4 r7 r8 h10) (cj (by simp [V.nv, nvL, nvL_all, nv_E4]) (cj (nf h11) (cj (laws_markBook_ok r4 1 r9 h12) (cj rfl (cj h13 (cj h13 (cj h13 (cj (laws_eqBook_ok r5 r3 r10 h14) (cj (by simp [V.nv, nvL, nvL_all, nv_E4]) (cj h13 (cj h13 (cj (nf h15) (cj (laws_markBook_ok r5 1 r11 h16) (cj rfl (cj (laws_heldBook_ok (Book.mk r11.2) 1 r12 h17) (cj (by simp [V.nv, nvL, nvL_all, nv_E3]) (cj h18 (cj h19 (cj (laws_toBook_ok o r13 h20) (cj rfl (cj (impl_BookTime_ok r13 o_ r14 h21) (cj (by simp [V.nv, nvL, nvL_all, nv_E3, nv_E5, nv_E9, nv_E26, nv_E28, nv_E35, nv_E44, nv_E45, nv_E46, nv_E48, nv_E118, nv_E129, nv_E132]) (cj (laws_eqBook_ok r14 r3 r15 h22) (cj (by simp [V.nv, nvL, nvL_all, nv_E4]) (cj (nf h23) (cj (laws_heldBook_ok (Book.mk r11.2) 1 r16 h24) (cj (by simp [V.nv, nvL, nvL_all, nv_E3]) (cj h25 (cj1 h26))))))))))))))))))))))))))))))))))))))))))))))))))) (fun h23 =>
                          Pn.some (Fn.of [.call [] (E3 r1) [], .bit false, .call [] (E28 r2) [], .call [] (E28 r3) [], .call [] (E28 r4) [], .call [] (E28 r5) [], .call [] (E4 r6) [], .bit false, .draw [], .call [] (E28 r7) [], .call [] (E4 r8) [], .bit false, .call [true, false] (E3 r9.1) [V.sl true 48 (List.map E48 r9.2)], .bit false, .bit false, .bit false, .call [] (E4 r10) [], .bit false, .bit false, .bit false, .call [true, false] (E3 r11.1) [V.sl true 48 (List.map E48 r11.2)], .call [] (E3 r12) [], .bit false, .bit false, .call [] (E28 r13) [], .call [] (E28 r14) [], .call [] (E4 r15) [], .bit true] (p := [Fn Tryz.prog 9 [(false, E24 o), (false, E3 1048576)] (E3 r1) [],
                           (true || ((E3 r1).nv && nvL [])) = true,
                           (decide (r1 < 0)) = false,
                           Fn Tryz.prog 11 [(false, E24 o)] (E28 r2) [],
                           (true || ((E28 r2).nv && nvL [])) = true,
                           Fn Tryz.prog 31 [(false, E28 r2), (false, E3 o_)] (E28 r3) [],
                           (false || ((E28 r3).nv && nvL [])) = true,
                           Fn Tryz.prog 11 [(false, E24 o)] (E28 r4) [],
                           (true || ((E28 r4).nv && nvL [])) = true,
                           Fn Tryz.prog 32 [(false, E28 r4), (false, E3 o_)] (E28 r5) [],
                           (false || ((E28 r5).nv && nvL [])) = true,
                           Fn Tryz.prog 13 [(false, E28 r5), (false, E28 r3)] (E4 r6) [],
                           (false || ((E4 r6).nv && nvL [])) = true,
                           (!r6) = false,
                           Fn Tryz.prog 11 [(false, E24 o)] (E28 r7) [],
                           (true || ((E28 r7).nv && nvL [])) = true,
                           Fn Tryz.prog 13 [(false, E28 r4), (false, E28 r7)] (E4 r8) [],
                           (false || ((E4 r8).nv && nvL [])) = true,
                           (!r8) = false,
                           Fn Tryz.prog 14 [(true, E28 r4), (false, E3 1)] (E3 r9.1) [V.sl true 48 (List.map E48 r9.2)],
                           (true || ((E3 r9.1).nv && nvL [V.sl true 48 (List.map E48 r9.2)])) = true,
                           (decide (r9.1 < 0)) = false,
                           (decide (r9.1 < 0)) = false,
                           (decide (r9.1 < 0)) = false,
                           Fn Tryz.prog 13 [(false, E28 r5), (false, E28 r3)] (E4 r10) [],
                           (false || ((E4 r10).nv && nvL [])) = true,
                           (decide (r9.1 < 0)) = false,
                           (decide (r9.1 < 0)) = false,
                           (!r10) = false,
                           Fn Tryz.prog 14 [(true, E28 r5), (false, E3 1)] (E3 r11.1) [V.sl true 48 (List.map E48 r11.2)],
                           (true || ((E3 r11.1).nv && nvL [V.sl true 48 (List.map E48 r11.2)])) = true,
                           Fn Tryz.prog 15 [(false, E28 (Book.mk r11.2)), (false, E3 1)] (E3 r12) [],
                           (false || ((E3 r12).nv && nvL [])) = true,
                           (decide (r12 < 0)) = false,
                           (r12 != r11.1) = false,
                           Fn Tryz.prog 11 [(false, E24 o)] (E28 r13) [],
                           (true || ((E28 r13).nv && nvL [])) = true,
                           Fn Tryz.prog 32 [(false, E28 r13), (false, E3 o_)] (E28 r14) [],
                           (false || ((E28 r14).nv && nvL [])) = true,
                           Fn Tryz.prog 13 [(false, E28 r14), (false, E28 r3)] (E4 r15) [],
                           (false || ((E4 r15).nv && nvL [])) = true,
                           (!r15) = true]) (by kernel_rfl) (cj (laws_szBook_ok o 1048576 r1 h1) (cj rfl (cj h2 (cj (laws_toBook_ok o r2 h3) (cj rfl (cj (spec_BookTime_ok r2 o_ r3 h4) (cj (by simp [V.nv, nvL, nvL_all, nv_E3, nv_E5, nv_E9, nv_E26, nv_E28, nv_E35, nv_E44, nv_E45, nv_E46, nv_E48, nv_E118, nv_E129, nv_E132]) (cj (laws_toBook_ok o r4 h5) (cj rfl (cj (impl_BookTime_ok r4 o_ r5 h6) (cj (by simp [V.nv, nvL, nvL_all, nv_E3, nv_E5, nv_E9, nv_E26, nv_E28, nv_E35, nv_E44, nv_E45, nv_E46, nv_E48, nv_E118, nv_E129, nv_E132]) (cj (laws_eqBook_ok r5 r3 r6 h7) (cj (by simp [V.nv, nvL, nvL_all, nv_E4]) (cj (nf h8) (cj (laws_toBook_ok o r7 h9) (cj rfl (cj (laws_eqBook_ok r4 r7 r8 h10) (cj (by simp [V.nv, nvL, nvL_all, nv_E4]) (cj (nf h11) (cj (laws_markBook_ok r4 1 r9 h12) (cj rfl (cj h13 (cj h13 (cj h13 (cj (laws_eqBook_ok r5 r3 r10 h14) (cj (by simp [V.nv, nvL, nvL_all, nv_E4]) (cj h13 (cj h13 (cj (nf h15) (cj (laws_markBook_ok r5 1 r11 h16) (cj rfl (cj (laws_heldBook_ok (Book.mk r11.2) 1 r12 h17) (cj (by simp [V.nv, nvL, nvL_all, nv_E3]) (cj h18 (cj h19 (cj (laws_toBook_ok o r13 h20) (cj rfl (cj (impl_BookTime_ok r13 o_ r14 h21) (cj (by simp [V.nv, nvL, nvL_all, nv_E3, nv_E5, nv_E9, nv_E26, nv_E28, nv_E35, nv_E44, nv_E45, nv_E46, nv_E48, nv_E118, nv_E129, nv_E132]) (cj (laws_eqBook_ok r14 r3 r15 h22) (cj (by simp [V.nv, nvL, nvL_all, nv_E4]) (cj1 (nt h23))))))))))))))))))))))))))))))))))))))))))))))))))))) (fun h15 =>
                  Pn.some (Fn.of [.call [] (E3 r1) [], .bit false, .call [] (E28 r2) [], .call [] (E28 r3) [], .call [] (E28 r4) [], .call [] (E28 r5) [], .call [] (E4 r6) [], .bit false, .draw [], .call [] (E28 r7) [], .call [] (E4 r8) [], .bit false, .call [true, false] (E3 r9.1) [V.sl true 48 (List.map E48 r9.2)], .bit false, .bit false, .bit false, .call [] (E4 r10) [], .bit false, .bit false, .bit true] (p := [Fn Tryz.prog 9 [(false, E24 o), (false, E3 1048576)] (E3 r1) [],
                   (true || ((E3 r1).nv && nvL [])) = true,
                   (decide (r1 < 0)) = false,
                   Fn Tryz.prog 11 [(false, E24 o)] (E28 r2) [],
                   (true || ((E28 r2).nv && nvL [])) = true,
                   Fn Tryz.prog 31 [(false, E28 r2), (false, E3 o_)] (E28 r3) [],
                   (false || ((E28 r3).nv && nvL [])) = true,
                   Fn Tryz.prog 11 [(false, E24 o)] (E28 r4) [],
                   (true || ((E28 r4).nv && nvL [])) = true,
                   Fn Tryz.prog 32 [(false, E28 r4), (false, E3 o_)] (E28 r5) [],
                   (false || ((E28 r5).nv && nvL [])) = true,
                   Fn Tryz.prog 13 [(false, E28 r5), (false, E28 r3)] (E4 r6) [],
                   (false || ((E4 r6).nv && nvL [])) = true,
                   (!r6) = false,
                   Fn Tryz.prog 11 [(false, E24 o)] (E28 r7) [],
                   (true || ((E28 r7).nv && nvL [])) = true,
                   Fn Tryz.prog 13 [(false, E28 r4), (false, E28 r7)] (E4 r8) [],
                   (false || ((E4 r8).nv && nvL [])) = true,
                   (!r8) = false,
                   Fn Tryz.prog 14 [(true, E28 r4), (false, E3 1)] (E3 r9.1) [V.sl true 48 (List.map E48 r9.2)],
                   (true || ((E3 r9.1).nv && nvL [V.sl true 48 (List.map E48 r9.2)])) = true,
                   (decide (r9.1 < 0)) = false,
                   (decide (r9.1 < 0)) = false,
                   (decide (r9.1 < 0)) = false,
                   Fn Tryz.prog 13 [(false, E28 r5), (false, E28 r3)] (E4 r10) [],
                   (false || ((E4 r10).nv && nvL [])) = true,
                   (decide (r9.1 < 0)) = false,
                   (decide (r9.1 < 0)) = false,
                   (!r10) = true]) (by kernel_rfl) (cj (laws_szBook_ok o 1048576 r1 h1) (cj rfl (cj h2 (cj (laws_toBook_ok o r2 h3) (cj rfl (cj (spec_BookTime_ok r2 o_ r3 h4) (cj (by simp [V.nv, nvL, nvL_all, nv_E3, nv_E5, nv_E9, nv_E26, nv_E28, nv_E35, nv_E44, nv_E45, nv_E46, nv_E48, nv_E118, nv_E129, nv_E132]) (cj (laws_toBook_ok o r4 h5) (cj rfl (cj (impl_BookTime_ok r4 o_ r5 h6) (cj (by simp [V.nv, nvL, nvL_all, nv_E3, nv_E5, nv_E9, nv_E26, nv_E28, nv_E35, nv_E44, nv_E45, nv_E46, nv_E48, nv_E118, nv_E129, nv_E132]) (cj (laws_eqBook_ok r5 r3 r6 h7) (cj (by simp [V.nv, nvL, nvL_all, nv_E4]) (cj (nf h8) (cj (laws_toBook_ok o r7 h9) (cj rfl (cj (laws_eqBook_ok r4 r7 r8 h10) (cj (by simp [V.nv, nvL, nvL_all, nv_E4]) (cj (nf h11) (cj (laws_markBook_ok r4 1 r9 h12) (cj rfl (cj h13 (cj h13 (cj h13 (cj (laws_eqBook_ok r5 r3 r10 h14) (cj (by simp [V.nv, nvL, nvL_all, nv_E4]) (cj h13 (cj h13 (cj1 (nt h15)))))))))))))))))))))))))))))))))))) (fun h11 =>
              Pn.some (Fn.of [.call [] (E3 r1) [], .bit false, .call [] (E28 r2) [], .call [] (E28 r3) [], .call [] (E28 r4) [], .call [] (E28 r5) [], .call [] (E4 r6) [], .bit false, .draw [], .call [] (E28 r7) [], .call [] (E4 r8) [], .bit true] (p := [Fn Tryz.prog 9 [(false, E24 o), (false, E3 1048576)] (E3 r1) [],
               (true || ((E3 r1).nv && nvL [])) = true,
               (decide (r1 < 0)) = false,
               Fn Tryz.prog 11 [(false, E24 o)] (E28 r2) [],
               (true || ((E28 r2).nv && nvL [])) = true,
               Fn Tryz.prog 31 [(false, E28 r2), (false, E3 o_)] (E28 r3) [],
               (false || ((E28 r3).nv && nvL [])) = true,
               Fn Tryz.prog 11 [(false, E24 o)] (E28 r4) [],
               (true || ((E28 r4).nv && nvL [])) = true,
               Fn Tryz.prog 32 [(false, E28 r4), (false, E3 o_)] (E28 r5) [],
               (false || ((E28 r5).nv && nvL [])) = true,
               Fn Tryz.prog 13 [(false, E28 r5), (false, E28 r3)] (E4 r6) [],
               (false || ((E4 r6).nv && nvL [])) = true,
               (!r6) = false,
               Fn Tryz.prog 11 [(false, E24 o)] (E28 r7) [],
               (true || ((E28 r7).nv && nvL [])) = true,
               Fn Tryz.prog 13 [(false, E28 r4), (false, E28 r7)] (E4 r8) [],
               (false || ((E4 r8).nv && nvL [])) = true,
               (!r8) = true]) (by kernel_rfl) (cj (laws_szBook_ok o 1048576 r1 h1) (cj rfl (cj h2 (cj (laws_toBook_ok o r2 h3) (cj rfl (cj (spec_BookTime_ok r2 o_ r3 h4) (cj (by simp [V.nv, nvL, nvL_all, nv_E3, nv_E5, nv_E9, nv_E26, nv_E28, nv_E35, nv_E44, nv_E45, nv_E46, nv_E48, nv_E118, nv_E129, nv_E132]) (cj (laws_toBook_ok o r4 h5) (cj rfl (cj (impl_BookTime_ok r4 o_ r5 h6) (cj (by simp [V.nv, nvL, nvL_all, nv_E3, nv_E5, nv_E9, nv_E26, nv_E28, nv_E35, nv_E44, nv_E45, nv_E46, nv_E48, nv_E118, nv_E129, nv_E132]) (cj (laws_eqBook_ok r5 r3 r6 h7) (cj (by simp [V.nv, nvL, nvL_all, nv_E4]) (cj (nf h8) (cj (laws_toBook_ok o r7 h9) (cj rfl (cj (laws_eqBook_ok r4 r7 r8 h10) (cj (by simp [V.nv, nvL, nvL_all, nv_E4]) (cj1 (nt h11))))))))))))))))))))))))) (fun h8 =>
           Pn.some (Fn.of [.call [] (E3 r1) [], .bit false, .call [] (E28 r2) [], .call [] (E28 r3) [], .call [] (E28 r4) [], .call [] (E28 r5) [], .call [] (E4 r6) [], .bit true] (p := [Fn Tryz.prog 9 [(false, E24 o), (false, E3 1048576)] (E3 r1) [],
            (true || ((E3 r1).nv && nvL [])) = true,
            (decide (r1 < 0)) = false,
            Fn Tryz.prog 11 [(false, E24 o)] (E28 r2) [],
            (true || ((E28 r2).nv && nvL [])) = true,
            Fn Tryz.prog 31 [(false, E28 r2), (false, E3 o_)] (E28 r3) [],
            (false || ((E28 r3).nv && nvL [])) = true,
            Fn Tryz.prog 11 [(false, E24 o)] (E28 r4) [],
            (true || ((E28 r4).nv && nvL [])) = true,
            Fn Tryz.prog 32 [(false, E28 r4), (false, E3 o_)] (E28 r5) [],
            (false || ((E28 r5).nv && nvL [])) = true,
            Fn Tryz.prog 13 [(false, E28 r5), (false, E28 r3)] (E4 r6) [],
            (false || ((E4 r6).nv && nvL [])) = true,
            (!r6) = true]) (by kernel_rfl) (cj (laws_szBook_ok o 1048576 r1 h1) (cj rfl (cj h2 (cj (laws_toBook_ok o r2 h3) (cj rfl (cj (spec_BookTime_ok r2 o_ r3 h4) (cj (by simp [V.nv, nvL, nvL_all, nv_E3, nv_E5, nv_E9, nv_E26, nv_E28, nv_E35, nv_E44, nv_E45, nv_E46, nv_E48, nv_E118, nv_E129, nv_E132]) (cj (laws_toBook_ok o r4 h5) (cj rfl (cj (impl_BookTime_ok r4 o_ r5 h6) (cj (by simp [V.nv, nvL, nvL_all, nv_E3, nv_E5, nv_E9, nv_E26, nv_E28, nv_E35, nv_E44, nv_E45, nv_E46, nv_E48, nv_E118, nv_E129, nv_E132]) (cj (laws_eqBook_ok r5 r3 r6 h7) (cj (by simp [V.nv, nvL, nvL_all, nv_E4]) (cj1 (nt h8))))))))))))))))))))))))
end Go.Proofs.YtephmimhaokhlaaGreatM
