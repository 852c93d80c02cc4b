/- Printed by gen.py: functions on plain data, and that the program computes them. No condition. -/
import Derived.Test.YtdpbcmajmojolaaGa1
namespace Go.Proofs.YtdpbcmajmojolaaM
set_option linter.unusedVariables false
set_option linter.unusedSimpArgs false
open Go.RowKit
set_option maxRecDepth 100000

def laws_FnExactTakeLock (o : List Stripe) (o_ : Int) (a2 : Int) : Option (Bool) :=
 (laws_szStripeS o 1048576).bind fun r1 =>
 if (decide (r1 < 0)) = true then
  some true
 else
  (laws_toStripeS o).bind fun r2 =>
  (spec_TakeLock r2 o_ a2).bind fun r3 =>
  (laws_toStripeS o).bind fun r4 =>
  (impl_TakeLock r4 o_ a2).bind fun r5 =>
  (laws_eqStripeS r5.1 r3.1).bind fun r6 =>
  if r6 = true then
   if (r5.2 == r3.2) = true then
    (laws_toStripeS o).bind fun r7 =>
    (laws_eqStripeS r4 r7).bind fun r8 =>
    if r8 = true then
     (laws_markStripeS r4 1).bind fun r9 =>
     if (decide (r9.1 < 0)) = true then
      some false
     else
      (laws_eqStripeS r5.1 r3.1).bind fun r10 =>
      if r10 = true then
       (laws_markStripeS r5.1 1).bind fun r11 =>
       (laws_heldStripeS r11.2 1).bind fun r12 =>
       if (decide (r12 < 0)) = true then
        some false
       else
        if (r12 != r11.1) = true then
         some false
        else
         (laws_toStripeS o).bind fun r13 =>
         (impl_TakeLock r13 o_ a2).bind fun r14 =>
         (laws_eqStripeS r14.1 r3.1).bind fun r15 =>
         if r15 = true then
          if (r14.2 == r3.2) = true then
           (laws_heldStripeS r11.2 1).bind fun r16 =>
           if (decide (r16 < 0)) = true then
            some false
           else
            if (r16 != r11.1) = true then
             some false
            else
             some true
          else
           some false
         else
          some false
      else
       some false
    else
     some false
   else
    some false
  else
   some false
theorem laws_FnExactTakeLock_ok (o : List Stripe) (o_ : Int) (a2 : Int) : Pn (fun y => Fn Try.prog 9 [(false, E22 o), (false, E3 o_), (false, E3 a2)] (E4 y) []) (laws_FnExactTakeLock o o_ a2) := by
  unfold laws_FnExactTakeLock
  exact
   Pn.bind (fun r1 h1 =>
    Pn.ite (fun h2 =>
     Pn.some (Fn.of [.call [] (E3 r1) [], .bit true] (p := [Fn Try.prog 42 [(false, E22 o), (false, E3 1048576)] (E3 r1) [],
      (true || ((E3 r1).nv && nvL [])) = true,
      (decide (r1 < 0)) = true]) (by kernel_rfl) (cj (laws_szStripeS_ok o 1048576 r1 h1) (cj rfl (cj1 h2))))) (fun h2 =>
     Pn.bind (fun r2 h3 =>
      Pn.bind (fun r3 h4 =>
       Pn.bind (fun r4 h5 =>
        Pn.bind (fun r5 h6 =>
         Pn.bind (fun r6 h7 =>
          Pn.ite (fun h8 =>
           Pn.ite (fun h9 =>
            Pn.bind (fun r7 h10 =>
             Pn.bind (fun r8 h11 =>
              Pn.ite (fun h12 =>
               Pn.bind (fun r9 h13 =>
                Pn.ite (fun h14 =>
                 Pn.some (Fn.of [.call [] (E3 r1) [], .bit false, .call [] (E28 r2) [], .call [] (V.tup [E28 r3.1, E4 r3.2]) [], .call [] (E28 r4) [], .call [] (V.tup [E28 r5.1, E4 r5.2]) [], .call [] (E4 r6) [], .bit false, .bit false, .bit false, .bit false, .bit false, .call [] (E28 r7) [], .call [] (E4 r8) [], .bit false, .call [true, false] (E3 r9.1) [V.sl true 124 (List.map E124 r9.2)], .bit true, .bit true, .bit true, .bit true, .bit true, .bit true, .bit true, .bit true, .bit true, .bit true] (p := [Fn Try.prog 42 [(false, E22 o), (false, E3 1048576)] (E3 r1) [],
                  (true || ((E3 r1).nv && nvL [])) = true,
                  (decide (r1 < 0)) = false,
                  Fn Try.prog 44 [(false, E22 o)] (E28 r2) [],
                  (true || ((E28 r2).nv && nvL [])) = true,
                  Fn Try.prog 49 [(false, E28 r2), (false, E3 o_), (false, E3 a2)] (V.tup [E28 r3.1, E4 r3.2]) [],
                  (false || ((V.tup [E28 r3.1, E4 r3.2]).nv && nvL [])) = true,
                  Fn Try.prog 44 [(false, E22 o)] (E28 r4) [],
                  (true || ((E28 r4).nv && nvL [])) = true,
                  Fn Try.prog 50 [(false, E28 r4), (false, E3 o_), (false, E3 a2)] (V.tup [E28 r5.1, E4 r5.2]) [],
                  (false || ((V.tup [E28 r5.1, E4 r5.2]).nv && nvL [])) = true,
                  Fn Try.prog 46 [(false, E28 r5.1), (false, E28 r3.1)] (E4 r6) [],
                  (false || ((E4 r6).nv && nvL [])) = true,
                  (!r6) = false,
                  (!r6) = false,
                  (!r6) = false,
                  (!r6) = false,
                  (!(r5.2 == r3.2)) = false,
                  Fn Try.prog 44 [(false, E22 o)] (E28 r7) [],
                  (true || ((E28 r7).nv && nvL [])) = true,
                  Fn Try.prog 46 [(false, E28 r4), (false, E28 r7)] (E4 r8) [],
                  (false || ((E4 r8).nv && nvL [])) = true,
                  (!r8) = false,
                  Fn Try.prog 47 [(true, E28 r4), (false, E3 1)] (E3 r9.1) [V.sl true 124 (List.map E124 r9.2)],
                  (true || ((E3 r9.1).nv && nvL [V.sl true 124 (List.map E124 r9.2)])) = true,
                  (decide (r9.1 < 0)) = true,
                  (decide (r9.1 < 0)) = true,
                  (decide (r9.1 < 0)) = true,
                  (decide (r9.1 < 0)) = true,
                  (decide (r9.1 < 0)) = true,
                  true = true,
                  true = true,
                  true = true,
                  true = true,
                  true = true]) (by kernel_rfl) (cj (laws_szStripeS_ok o 1048576 r1 h1) (cj rfl (cj h2 (cj (laws_toStripeS_ok o r2 h3) (cj rfl (cj (spec_TakeLock_ok r2 o_ a2 r3 h4) (cj (by simp [V.nv, nvL, nvL_all, nv_E3, nv_E4, nv_E5, nv_E9, nv_E28, nv_E39, nv_E47, nv_E48, nv_E49, nv_E51, nv_E52, nv_E54, nv_E61, nv_E124, nv_E177]) (cj (laws_toStripeS_ok o r4 h5) (cj rfl (cj (impl_TakeLock_ok r4 o_ a2 r5 h6) (cj (by simp [V.nv, nvL, nvL_all, nv_E3, nv_E4, nv_E5, nv_E9, nv_E28, nv_E39, nv_E47, nv_E48, nv_E49, nv_E51, nv_E52, nv_E54, nv_E61, nv_E124, nv_E177]) (cj (laws_eqStripeS_ok r5.1 r3.1 r6 h7) (cj (by simp [V.nv, nvL, nvL_all, nv_E4]) (cj (nf h8) (cj (nf h8) (cj (nf h8) (cj (nf h8) (cj (nf h9) (cj (laws_toStripeS_ok o r7 h10) (cj rfl (cj (laws_eqStripeS_ok r4 r7 r8 h11) (cj (by simp [V.nv, nvL, nvL_all, nv_E4]) (cj (nf h12) (cj (laws_markStripeS_ok r4 1 r9 h13) (cj rfl (cj h14 (cj h14 (cj h14 (cj h14 (cj h14 (cj rfl (cj rfl (cj rfl (cj rfl (cj1 rfl))))))))))))))))))))))))))))))))))))) (fun h14 =>
                 Pn.bind (fun r10 h15 =>
                  Pn.ite (fun h16 =>
                   Pn.bind (fun r11 h17 =>
                    Pn.bind (fun r12 h18 =>
                     Pn.ite (fun h19 =>
                      Pn.some (Fn.of [.call [] (E3 r1) [], .bit false, .call [] (E28 r2) [], .call [] (V.tup [E28 r3.1, E4 r3.2]) [], .call [] (E28 r4) [], .call [] (V.tup [E28 r5.1, E4 r5.2]) [], .call [] (E4 r6) [], .bit false, .bit false, .bit false, .bit false, .bit false, .call [] (E28 r7) [], .call [] (E4 r8) [], .bit false, .call [true, false] (E3 r9.1) [V.sl true 124 (List.map E124 r9.2)], .bit false, .bit false, .bit false, .call [] (E4 r10) [], .bit false, .bit false, .bit false, .bit false, .bit false, .bit false, .bit false, .call [true, false] (E3 r11.1) [V.sl true 124 (List.map E124 r11.2)], .call [] (E3 r12) [], .bit true] (p := [Fn Try.prog 42 [(false, E22 o), (false, E3 1048576)] (E3 r1) [],
                       (true || ((E3 r1).nv && nvL [])) = true,
                       (decide (r1 < 0)) = false,
                       Fn Try.prog 44 [(false, E22 o)] (E28 r2) [],
                       (true || ((E28 r2).nv && nvL [])) = true,
                       Fn Try.prog 49 [(false, E28 r2), (false, E3 o_), (false, E3 a2)] (V.tup [E28 r3.1, E4 r3.2]) [],
                       (false || ((V.tup [E28 r3.1, E4 r3.2]).nv && nvL [])) = true,
                       Fn Try.prog 44 [(false, E22 o)] (E28 r4) [],
                       (true || ((E28 r4).nv && nvL [])) = true,
                       Fn Try.prog 50 [(false, E28 r4), (false, E3 o_), (false, E3 a2)] (V.tup [E28 r5.1, E4 r5.2]) [],
                       (false || ((V.tup [E28 r5.1, E4 r5.2]).nv && nvL [])) = true,
                       Fn Try.prog 46 [(false, E28 r5.1), (false, E28 r3.1)] (E4 r6) [],
                       (false || ((E4 r6).nv && nvL [])) = true,
                       (!r6) = false,
                       (!r6) = false,
                       (!r6) = false,
                       (!r6) = false,
                       (!(r5.2 == r3.2)) = false,
                       Fn Try.prog 44 [(false, E22 o)] (E28 r7) [],
                       (true || ((E28 r7).nv && nvL [])) = true,
                       Fn Try.prog 46 [(false, E28 r4), (false, E28 r7)] (E4 r8) [],
                       (false || ((E4 r8).nv && nvL [])) = true,
                       (!r8) = false,
                       Fn Try.prog 47 [(true, E28 r4), (false, E3 1)] (E3 r9.1) [V.sl true 124 (List.map E124 r9.2)],
                       (true || ((E3 r9.1).nv && nvL [V.sl true 124 (List.map E124 r9.2)])) = true,
                       (decide (r9.1 < 0)) = false,
                       (decide (r9.1 < 0)) = false,
                       (decide (r9.1 < 0)) = false,
                       Fn Try.prog 46 [(false, E28 r5.1), (false, E28 r3.1)] (E4 r10) [],
                       (false || ((E4 r10).nv && nvL [])) = true,
                       (decide (r9.1 < 0)) = false,
                       (decide (r9.1 < 0)) = false,
                       (!r10) = false,
                       (!r10) = false,
                       (!r10) = false,
                       (!r10) = false,
                       (!(r5.2 == r3.2)) = false,
                       Fn Try.prog 47 [(true, E28 r5.1), (false, E3 1)] (E3 r11.1) [V.sl true 124 (List.map E124 r11.2)],
                       (true || ((E3 r11.1).nv && nvL [V.sl true 124 (List.map E124 r11.2)])) = true,
                       Fn Try.prog 48 [(false, E28 r11.2), (false, E3 1)] (E3 r12) [],
                       (false || ((E3 r12).nv && nvL [])) = true,
                       (decide (r12 < 0)) = true]) (by kernel_rfl) (cj (laws_szStripeS_ok o 1048576 r1 h1) (cj rfl (cj h2 (cj (laws_toStripeS_ok o r2 h3) (cj rfl (cj (spec_TakeLock_ok r2 o_ a2 r3 h4) (cj (by simp [V.nv, nvL, nvL_all, nv_E3, nv_E4, nv_E5, nv_E9, nv_E28, nv_E39, nv_E47, nv_E48, nv_E49, nv_E51, nv_E52, nv_E54, nv_E61, nv_E124, nv_E177]) (cj (laws_toStripeS_ok o r4 h5) (cj rfl (cj (impl_TakeLock_ok r4 o_ a2 r5 h6) (cj (by simp [V.nv, nvL, nvL_all, nv_E3, nv_E4, nv_E5, nv_E9, nv_E28, nv_E39, nv_E47, nv_E48, nv_E49, nv_E51, nv_E52, nv_E54, nv_E61, nv_E124, nv_E177]) (cj (laws_eqStripeS_ok r5.1 r3.1 r6 h7) (cj (by simp [V.nv, nvL, nvL_all, nv_E4]) (cj (nf h8) (cj (nf h8) (cj (nf h8) (cj (nf h8) (cj (nf h9) (cj (laws_toStripeS_ok o r7 h10) (cj rfl (cj (laws_eqStripeS_ok r4 r7 r8 h11) (cj (by simp [V.nv, nvL, nvL_all, nv_E4]) (cj (nf h12) (cj (laws_markStripeS_ok r4 1 r9 h13) (cj rfl (cj h14 (cj h14 (cj h14 (cj (laws_eqStripeS_ok r5.1 r3.1 r10 h15) (cj (by simp [V.nv, nvL, nvL_all, nv_E4]) (cj h14 (cj h14 (cj (nf h16) (cj (nf h16) (cj (nf h16) (cj (nf h16) (cj (nf h9) (cj (laws_markStripeS_ok r5.1 1 r11 h17) (cj rfl (cj (laws_heldStripeS_ok r11.2 1 r12 h18) (cj (by simp [V.nv, nvL, nvL_all, nv_E3]) (cj1 h19)))))))))))))))))))))))))))))))))))))))))))) (fun h19 =>
                      Pn.ite (fun h20 =>
                       Pn.some (Fn.of [.call [] (E3 r1) [], .bit false, .call [] (E28 r2) [], .call [] (V.tup [E28 r3.1, E4 r3.2]) [], .call [] (E28 r4) [], .call [] (V.tup [E28 r5.1, E4 r5.2]) [], .call [] (E4 r6) [], .bit false, .bit false, .bit false, .bit false, .bit false, .call [] (E28 r7) [], .call [] (E4 r8) [], .bit false, .call [true, false] (E3 r9.1) [V.sl true 124 (List.map E124 r9.2)], .bit false, .bit false, .bit false, .call [] (E4 r10) [], .bit false, .bit false, .bit false, .bit false, .bit false, .bit false, .bit false, .call [true, false] (E3 r11.1) [V.sl true 124 (List.map E124 r11.2)], .call [] (E3 r12) [], .bit false, .bit true] (p := [Fn Try.prog 42 [(false, E22 o), (false, E3 1048576)] (E3 r1) [],
                        (true || ((E3 r1).nv && nvL [])) = true,
                        (decide (r1 < 0)) = false,
                        Fn Try.prog 44 [(false, E22 o)] (E28 r2) [],
                        (true || ((E28 r2).nv && nvL [])) = true,
                        Fn Try.prog 49 [(false, E28 r2), (false, E3 o_), (false, E3 a2)] (V.tup [E28 r3.1, E4 r3.2]) [],
                        (false || ((V.tup [E28 r3.1, E4 r3.2]).nv && nvL [])) = true,
                        Fn Try.prog 44 [(false, E22 o)] (E28 r4) [],
                        (true || ((E28 r4).nv && nvL [])) = true,
                        Fn Try.prog 50 [(false, E28 r4), (false, E3 o_), (false, E3 a2)] (V.tup [E28 r5.1, E4 r5.2]) [],
                        (false || ((V.tup [E28 r5.1, E4 r5.2]).nv && nvL [])) = true,
                        Fn Try.prog 46 [(false, E28 r5.1), (false, E28 r3.1)] (E4 r6) [],
                        (false || ((E4 r6).nv && nvL [])) = true,
                        (!r6) = false,
                        (!r6) = false,
                        (!r6) = false,
                        (!r6) = false,
                        (!(r5.2 == r3.2)) = false,
                        Fn Try.prog 44 [(false, E22 o)] (E28 r7) [],
                        (true || ((E28 r7).nv && nvL [])) = true,
                        Fn Try.prog 46 [(false, E28 r4), (false, E28 r7)] (E4 r8) [],
                        (false || ((E4 r8).nv && nvL [])) = true,
                        (!r8) = false,
                        Fn Try.prog 47 [(true, E28 r4), (false, E3 1)] (E3 r9.1) [V.sl true 124 (List.map E124 r9.2)],
                        (true || ((E3 r9.1).nv && nvL [V.sl true 124 (List.map E124 r9.2)])) = true,
                        (decide (r9.1 < 0)) = false,
                        (decide (r9.1 < 0)) = false,
                        (decide (r9.1 < 0)) = false,
                        Fn Try.prog 46 [(false, E28 r5.1), (false, E28 r3.1)] (E4 r10) [],
                        (false || ((E4 r10).nv && nvL [])) = true,
                        (decide (r9.1 < 0)) = false,
                        (decide (r9.1 < 0)) = false,
                        (!r10) = false,
                        (!r10) = false,
                        (!r10) = false,
                        (!r10) = false,
                        (!(r5.2 == r3.2)) = false,
                        Fn Try.prog 47 [(true, E28 r5.1), (false, E3 1)] (E3 r11.1) [V.sl true 124 (List.map E124 r11.2)],
                        (true || ((E3 r11.1).nv && nvL [V.sl true 124 (List.map E124 r11.2)])) = true,
                        Fn Try.prog 48 [(false, E28 r11.2), (false, E3 1)] (E3 r12) [],
                        (false || ((E3 r12).nv && nvL [])) = true,
                        (decide (r12 < 0)) = false,
                        (r12 != r11.1) = true]) (by kernel_rfl) (cj (laws_szStripeS_ok o 1048576 r1 h1) (cj rfl (cj h2 (cj (laws_toStripeS_ok o r2 h3) (cj rfl (cj (spec_TakeLock_ok r2 o_ a2 r3 h4) (cj (by simp [V.nv, nvL, nvL_all, nv_E3, nv_E4, nv_E5, nv_E9, nv_E28, nv_E39, nv_E47, nv_E48, nv_E49, nv_E51, nv_E52, nv_E54, nv_E61, nv_E124, nv_E177]) (cj (laws_toStripeS_ok o r4 h5) (cj rfl (cj (impl_TakeLock_ok r4 o_ a2 r5 h6) (cj (by simp [V.nv, nvL, nvL_all, nv_E3, nv_E4, nv_E5, nv_E9, nv_E28, nv_E39, nv_E47, nv_E48, nv_E49, nv_E51, nv_E52, nv_E54, nv_E61, nv_E124, nv_E177]) (cj (laws_eqStripeS_ok r5.1 r3.1 r6 h7) (cj (by simp [V.nv, nvL, nvL_all, nv_E4]) (cj (nf h8) (cj (nf h8) (cj (nf h8) (cj (nf h8) (cj (nf h9) (cj (laws_toStripeS_ok o r7 h10) (cj rfl (cj (laws_eqStripeS_ok r4 r7 r8 h11) (cj (by simp [V.nv, nvL, nvL_all, nv_E4]) (cj (nf h12) (cj (laws_markStripeS_ok r4 1 r9 h13) (cj rfl (cj h14 (cj h14 (cj h14 (cj (laws_eqStripeS_ok r5.1 r3.1 r10 h15) (cj (by simp [V.nv, nvL, nvL_all, nv_E4]) (cj h14 (cj h14 (cj (nf h16) (cj (nf h16) (cj (nf h16) (cj (nf h16) (cj (nf h9) (cj (laws_markStripeS_ok r5.1 1 r11 h17) (cj rfl (cj (laws_heldStripeS_ok r11.2 1 r12 h18) (cj (by simp [V.nv, nvL, nvL_all, nv_E3]) (cj h19 (cj1 h20))))))))))))))))))))))))))))))))))))))))))))) (fun h20 =>
                       Pn.bind (fun r13 h21 =>
                        Pn.bind (fun r14 h22 =>
                         Pn.bind (fun r15 h23 =>
                          Pn.ite (fun h24 =>
                           Pn.ite (fun h25 =>
                            Pn.bind (fun r16 h26 =>
                             Pn.ite (fun h27 =>
                              Pn.some (Fn.of [.call [] (E3 r1) [], .bit false, .call [] (E28 r2) [], .call [] (V.tup [E28 r3.1, E4 r3.2]) [], .call [] (E28 r4) [], .call [] (V.tup [E28 r5.1, E4 r5.2]) [], .call [] (E4 r6) [], .bit false, .bit false, .bit false, .bit false, .bit false, .call [] (E28 r7) [], .call [] (E4 r8) [], .bit false, .call [true, false] (E3 r9.1) [V.sl true 124 (List.map E124 r9.2)], .bit false, .bit false, .bit false, .call [] (E4 r10) [], .bit false, .bit false, .bit false, .bit false, .bit false, .bit false, .bit false, .call [true, false] (E3 r11.1) [V.sl true 124 (List.map E124 r11.2)], .call [] (E3 r12) [], .bit false, .bit false, .call [] (E28 r13) [], .call [] (V.tup [E28 r14.1, E4 r14.2]) [], .call [] (E4 r15) [], .bit false, .bit false, .bit false, .bit false, .bit false, .call [] (E3 r16) [], .bit true] (p := [Fn Try.prog 42 [(false, E22 o), (false, E3 1048576)] (E3 r1) [],
                               (true || ((E3 r1).nv && nvL [])) = true,
                               (decide (r1 < 0)) = false,
                               Fn Try.prog 44 [(false, E22 o)] (E28 r2) [],
                               (true || ((E28 r2).nv && nvL [])) = true,
                               Fn Try.prog 49 [(false, E28 r2), (false, E3 o_), (false, E3 a2)] (V.tup [E28 r3.1, E4 r3.2]) [],
                               (false || ((V.tup [E28 r3.1, E4 r3.2]).nv && nvL [])) = true,
                               Fn Try.prog 44 [(false, E22 o)] (E28 r4) [],
                               (true || ((E28 r4).nv && nvL [])) = true,
                               Fn Try.prog 50 [(false, E28 r4), (false, E3 o_), (false, E3 a2)] (V.tup [E28 r5.1, E4 r5.2]) [],
                               (false || ((V.tup [E28 r5.1, E4 r5.2]).nv && nvL [])) = true,
                               Fn Try.prog 46 [(false, E28 r5.1), (false, E28 r3.1)] (E4 r6) [],
                               (false || ((E4 r6).nv && nvL [])) = true,
                               (!r6) = false,
                               (!r6) = false,
                               (!r6) = false,
                               (!r6) = false,
                               (!(r5.2 == r3.2)) = false,
                               Fn Try.prog 44 [(false, E22 o)] (E28 r7) [],
                               (true || ((E28 r7).nv && nvL [])) = true,
                               Fn Try.prog 46 [(false, E28 r4), (false, E28 r7)] (E4 r8) [],
                               (false || ((E4 r8).nv && nvL [])) = true,
                               (!r8) = false,
                               Fn Try.prog 47 [(true, E28 r4), (false, E3 1)] (E3 r9.1) [V.sl true 124 (List.map E124 r9.2)],
                               (true || ((E3 r9.1).nv && nvL [V.sl true 124 (List.map E124 r9.2)])) = true,
                               (decide (r9.1 < 0)) = false,
                               (decide (r9.1 < 0)) = false,
                               (decide (r9.1 < 0)) = false,
                               Fn Try.prog 46 [(false, E28 r5.1), (false, E28 r3.1)] (E4 r10) [],
                               (false || ((E4 r10).nv && nvL [])) = true,
                               (decide (r9.1 < 0)) = false,
                               (decide (r9.1 < 0)) = false,
                               (!r10) = false,
                               (!r10) = false,
                               (!r10) = false,
                               (!r10) = false,
                               (!(r5.2 == r3.2)) = false,
                               Fn Try.prog 47 [(true, E28 r5.1), (false, E3 1)] (E3 r11.1) [V.sl true 124 (List.map E124 r11.2)],
                               (true || ((E3 r11.1).nv && nvL [V.sl true 124 (List.map E124 r11.2)])) = true,
                               Fn Try.prog 48 [(false, E28 r11.2), (false, E3 1)] (E3 r12) [],
                               (false || ((E3 r12).nv && nvL [])) = true,
                               (decide (r12 < 0)) = false,
                               (r12 != r11.1) = false,
                               Fn Try.prog 44 [(false, E22 o)] (E28 r13) [],
                               (true || ((E28 r13).nv && nvL [])) = true,
                               Fn Try.prog 50 [(false, E28 r13), (false, E3 o_), (false, E3 a2)] (V.tup [E28 r14.1, E4 r14.2]) [],
                               (false || ((V.tup [E28 r14.1, E4 r14.2]).nv && nvL [])) = true,
                               Fn Try.prog 46 [(false, E28 r14.1), (false, E28 r3.1)] (E4 r15) [],
                               (false || ((E4 r15).nv && nvL [])) = true,
                               (!r15) = false,
                               (!r15) = false,
                               (!r15) = false,
                               (!r15) = false,
                               (!(r14.2 == r3.2)) = false,
                               Fn Try.prog 48 [(false, E28 r11.2), (false, E3 1)] (E3 r16) [],
                               (false || ((E3 r16).nv && nvL [])) = true,
                               (decide (r16 < 0)) = true]) (by kernel_rfl) (cj (laws_szStripeS_ok o 1048576 r1 h1) (cj rfl (cj h2 (cj (laws_toStripeS_ok o r2 h3) (cj rfl (cj (spec_TakeLock_ok r2 o_ a2 r3 h4) (cj (by simp [V.nv, nvL, nvL_all, nv_E3, nv_E4, nv_E5, nv_E9, nv_E28, nv_E39, nv_E47, nv_E48, nv_E49, nv_E51, nv_E52, nv_E54, nv_E61, nv_E124, nv_E177]) (cj (laws_toStripeS_ok o r4 h5) (cj rfl (cj (impl_TakeLock_ok r4 o_ a2 r5 h6) (cj (by simp [V.nv, nvL, nvL_all, nv_E3, nv_E4, nv_E5, nv_E9, nv_E28, nv_E39, nv_E47, nv_E48, nv_E49, nv_E51, nv_E52, nv_E54, nv_E61, nv_E124, nv_E177]) (cj (laws_eqStripeS_ok r5.1 r3.1 r6 h7) (cj (by simp [V.nv, nvL, nvL_all, nv_E4]) (cj (nf h8) (cj (nf h8) (cj (nf h8) (cj (nf h8) (cj (nf h9) (cj (laws_toStripeS_ok o r7 h10) (cj rfl (cj (laws_eqStripeS_ok r4 r7 r8 h11) (cj (by simp [V.nv, nvL, nvL_all, nv_E4]) (cj (nf h12) (cj (laws_markStripeS_ok r4 1 r9 h13) (cj rfl (cj h14 (cj h14 (cj h14 (cj (laws_eqStripeS_ok r5.1 r3.1 r10 h15) (cj (by simp [V.nv, nvL, nvL_all, nv_E4]) (cj h14 (cj h14 (cj (nf h16) (cj (nf h16) (cj (nf h16) (cj (nf h16) (cj (nf h9) (cj (laws_markStripeS_ok r5.1 1 r11 h17) (cj rfl (cj (laws_heldStripeS_ok r11.2 1 r12 h18) (cj (by simp [V.nv, nvL, nvL_all, nv_E3]) (cj h19 (cj h20 (cj (laws_toStripeS_ok o r13 h21) (cj rfl (cj (impl_TakeLock_ok r13 o_ a2 r14 h22) (cj (by simp [V.nv, nvL, nvL_all, nv_E3, nv_E4, nv_E5, nv_E9, nv_E28, nv_E39, nv_E47, nv_E48, nv_E49, nv_E51, nv_E52, nv_E54, nv_E61, nv_E124, nv_E177]) (cj (laws_eqStripeS_ok r14.1 r3.1 r15 h23) (cj (by simp [V.nv, nvL, nvL_all, nv_E4]) (cj (nf h24) (cj (nf h24) (cj (nf h24) (cj (nf h24) (cj (nf h25) (cj (laws_heldStripeS_ok r11.2 1 r16 h26) (cj (by simp [V.nv, nvL, nvL_all, nv_E3]) (cj1 h27))))))))))))))))))))))))))))))))))))))))))))))))))))))))))) (fun h27 =>
                              Pn.ite (fun h28 =>
                               Pn.some (Fn.of [.call [] (E3 r1) [], .bit false, .call [] (E28 r2) [], .call [] (V.tup [E28 r3.1, E4 r3.2]) [], .call [] (E28 r4) [], .call [] (V.tup [E28 r5.1, E4 r5.2]) [], .call [] (E4 r6) [], .bit false, .bit false, .bit false, .bit false, .bit false, .call [] (E28 r7) [], .call [] (E4 r8) [], .bit false, .call [true, false] (E3 r9.1) [V.sl true 124 (List.map E124 r9.2)], .bit false, .bit false, .bit false, .call [] (E4 r10) [], .bit false, .bit false, .bit false, .bit false, .bit false, .bit false, .bit false, .call [true, false] (E3 r11.1) [V.sl true 124 (List.map E124 r11.2)], .call [] (E3 r12) [], .bit false, .bit false, .call [] (E28 r13) [], .call [] (V.tup [E28 r14.1, E4 r14.2]) [], .call [] (E4 r15) [], .bit false, .bit false, .bit false, .bit false, .bit false, .call [] (E3 r16) [], .bit false, .bit true] (p := [Fn Try.prog 42 [(false, E22 o), (false, E3 1048576)] (E3 r1) [],
                                (true || ((E3 r1).nv && nvL [])) = true,
                                (decide (r1 < 0)) = false,
                                Fn Try.prog 44 [(false, E22 o)] (E28 r2) [],
                                (true || ((E28 r2).nv && nvL [])) = true,
                                Fn Try.prog 49 [(false, E28 r2), (false, E3 o_), (false, E3 a2)] (V.tup [E28 r3.1, E4 r3.2]) [],
                                (false || ((V.tup [E28 r3.1, E4 r3.2]).nv && nvL [])) = true,
                                Fn Try.prog 44 [(false, E22 o)] (E28 r4) [],
                                (true || ((E28 r4).nv && nvL [])) = true,
                                Fn Try.prog 50 [(false, E28 r4), (false, E3 o_), (false, E3 a2)] (V.tup [E28 r5.1, E4 r5.2]) [],
                                (false || ((V.tup [E28 r5.1, E4 r5.2]).nv && nvL [])) = true,
                                Fn Try.prog 46 [(false, E28 r5.1), (false, E28 r3.1)] (E4 r6) [],
                                (false || ((E4 r6).nv && nvL [])) = true,
                                (!r6) = false,
                                (!r6) = false,
                                (!r6) = false,
                                (!r6) = false,
                                (!(r5.2 == r3.2)) = false,
                                Fn Try.prog 44 [(false, E22 o)] (E28 r7) [],
                                (true || ((E28 r7).nv && nvL [])) = true,
                                Fn Try.prog 46 [(false, E28 r4), (false, E28 r7)] (E4 r8) [],
                                (false || ((E4 r8).nv && nvL [])) = true,
                                (!r8) = false,
                                Fn Try.prog 47 [(true, E28 r4), (false, E3 1)] (E3 r9.1) [V.sl true 124 (List.map E124 r9.2)],
                                (true || ((E3 r9.1).nv && nvL [V.sl true 124 (List.map E124 r9.2)])) = true,
                                (decide (r9.1 < 0)) = false,
                                (decide (r9.1 < 0)) = false,
                                (decide (r9.1 < 0)) = false,
                                Fn Try.prog 46 [(false, E28 r5.1), (false, E28 r3.1)] (E4 r10) [],
                                (false || ((E4 r10).nv && nvL [])) = true,
                                (decide (r9.1 < 0)) = false,
                                (decide (r9.1 < 0)) = false,
                                (!r10) = false,
                                (!r10) = false,
                                (!r10) = false,
                                (!r10) = false,
                                (!(r5.2 == r3.2)) = false,
                                Fn Try.prog 47 [(true, E28 r5.1), (false, E3 1)] (E3 r11.1) [V.sl true 124 (List.map E124 r11.2)],
                                (true || ((E3 r11.1).nv && nvL [V.sl true 124 (List.map E124 r11.2)])) = true,
                                Fn Try.prog 48 [(false, E28 r11.2), (false, E3 1)] (E3 r12) [],
                                (false || ((E3 r12).nv && nvL [])) = true,
                                (decide (r12 < 0)) = false,
                                (r12 != r11.1) = false,
                                Fn Try.prog 44 [(false, E22 o)] (E28 r13) [],
                                (true || ((E28 r13).nv && nvL [])) = true,
                                Fn Try.prog 50 [(false, E28 r13), (false, E3 o_), (false, E3 a2)] (V.tup [E28 r14.1, E4 r14.2]) [],
                                (false || ((V.tup [E28 r14.1, E4 r14.2]).nv && nvL [])) = true,
                                Fn Try.prog 46 [(false, E28 r14.1), (false, E28 r3.1)] (E4 r15) [],
                                (false || ((E4 r15).nv && nvL [])) = true,
                                (!r15) = false,
                                (!r15) = false,
                                (!r15) = false,
                                (!r15) = false,
                                (!(r14.2 == r3.2)) = false,
                                Fn Try.prog 48 [(false, E28 r11.2), (false, E3 1)] (E3 r16) [],
                                (false || ((E3 r16).nv && nvL [])) = true,
                                (decide (r16 < 0)) = false,
                                (r16 != r11.1) = true]) (by kernel_rfl) (cj (laws_szStripeS_ok o 1048576 r1 h1) (cj rfl (cj h2 (cj (laws_toStripeS_ok o r2 h3) (cj rfl (cj (spec_TakeLock_ok r2 o_ a2 r3 h4) (cj (by simp [V.nv, nvL, nvL_all, nv_E3, nv_E4, nv_E5, nv_E9, nv_E28, nv_E39, nv_E47, nv_E48, nv_E49, nv_E51, nv_E52, nv_E54, nv_E61, nv_E124, nv_E177]) (cj (laws_toStripeS_ok o r4 h5) (cj rfl (cj (impl_TakeLock_ok r4 o_ a2 r5 h6) (cj (by simp [V.nv, nvL, nvL_all, nv_E3, nv_E4, nv_E5, nv_E9, nv_E28, nv_E39, nv_E47, nv_E48, nv_E49, nv_E51, nv_E52, nv_E54, nv_E61, nv_E124, nv_E177]) (cj (laws_eqStripeS_ok r5.1 r3.1 r6 h7) (cj (by simp [V.nv, nvL, nvL_all, nv_E4]) (cj (nf h8) (cj (nf h8) (cj (nf h8) (cj (nf h8) (cj (nf h9) (cj (laws_toStripeS_ok o r7 h10) (cj rfl (cj (laws_eqStripeS_ok r4 r7 r8 h11) (cj (by simp [V.nv, nvL, nvL_all, nv_E4]) (cj (nf h12) (cj (laws_markStripeS_ok r4 1 r9 h13) (cj rfl (cj h14 (cj h14 (cj h14 (cj (laws_eqStripeS_ok r5.1 r3.1 r10 h15) (cj (by simp [V.nv, nvL, nvL_all, nv_E4]) (cj h14 (cj h14 (cj (nf h16) (cj (nf h16) (cj (nf h16) (cj (nf h16) (cj (nf h9) (cj (laws_markStripeS_ok r5.1 1 r11 h17) (cj rfl (cj (laws_heldStripeS_ok r11.2 1 r12 h18) (cj (by simp [V.nv, nvL, nvL_all, nv_E3]) (cj h19 (cj h20 (cj (laws_toStripeS_ok o r13 h21) (cj rfl (cj (impl_TakeLock_ok r13 o_ a2 r14 h22) (cj (by simp [V.nv, nvL, nvL_all, nv_E3, nv_E4, nv_E5, nv_E9, nv_E28, nv_E39, nv_E47, nv_E48, nv_E49, nv_E51, nv_E52, nv_E54, nv_E61, nv_E124, nv_E177]) (cj (laws_eqStripeS_ok r14.1 r3.1 r15 h23) (cj (by simp [V.nv, nvL, nvL_all, nv_E4]) (cj (nf h24) (cj (nf h24) (cj (nf h24) (cj (nf h24) (cj (nf h25) (cj (laws_heldStripeS_ok r11.2 1 r16 h26) (cj (by simp [V.nv, nvL, nvL_all, nv_E3]) (cj h27 (cj1 h28)))))))))))))))))))))))))))))))))))))))))))))))))))))))))))) (fun h28 =>
                               Pn.some (Fn.of [.call [] (E3 r1) [], .bit false, .call [] (E28 r2) [], .call [] (V.tup [E28 r3.1, E4 r3.2]) [], .call [] (E28 r4) [], .call [] (V.tup [E28 r5.1, E4 r5.2]) [], .call [] (E4 r6) [], .bit false, .bit false, .bit false, .bit false, .bit false, .call [] (E28 r7) [], .call [] (E4 r8) [], .bit false, .call [true, false] (E3 r9.1) [V.sl true 124 (List.map E124 r9.2)], .bit false, .bit false, .bit false, .call [] (E4 r10) [], .bit false, .bit false, .bit false, .bit false, .bit false, .bit false, .bit false, .call [true, false] (E3 r11.1) [V.sl true 124 (List.map E124 r11.2)], .call [] (E3 r12) [], .bit false, .bit false, .call [] (E28 r13) [], .call [] (V.tup [E28 r14.1, E4 r14.2]) [], .call [] (E4 r15) [], .bit false, .bit false, .bit false, .bit false, .bit false, .call [] (E3 r16) [], .bit false, .bit false] (p := [Fn Try.prog 42 [(false, E22 o), (false, E3 1048576)] (E3 r1) [],
                                (true || ((E3 r1).nv && nvL [])) = true,
                                (decide (r1 < 0)) = false,
                                Fn Try.prog 44 [(false, E22 o)] (E28 r2) [],
                                (true || ((E28 r2).nv && nvL [])) = true,
                                Fn Try.prog 49 [(false, E28 r2), (false, E3 o_), (false, E3 a2)] (V.tup [E28 r3.1, E4 r3.2]) [],
                                (false || ((V.tup [E28 r3.1, E4 r3.2]).nv && nvL [])) = true,
                                Fn Try.prog 44 [(false, E22 o)] (E28 r4) [],
                                (true || ((E28 r4).nv && nvL [])) = true,
                                Fn Try.prog 50 [(false, E28 r4), (false, E3 o_), (false, E3 a2)] (V.tup [E28 r5.1, E4 r5.2]) [],
                                (false || ((V.tup [E28 r5.1, E4 r5.2]).nv && nvL [])) = true,
                                Fn Try.prog 46 [(false, E28 r5.1), (false, E28 r3.1)] (E4 r6) [],
                                (false || ((E4 r6).nv && nvL [])) = true,
                                (!r6) = false,
                                (!r6) = false,
                                (!r6) = false,
                                (!r6) = false,
                                (!(r5.2 == r3.2)) = false,
                                Fn Try.prog 44 [(false, E22 o)] (E28 r7) [],
                                (true || ((E28 r7).nv && nvL [])) = true,
                                Fn Try.prog 46 [(false, E28 r4), (false, E28 r7)] (E4 r8) [],
                                (false || ((E4 r8).nv && nvL [])) = true,
                                (!r8) = false,
                                Fn Try.prog 47 [(true, E28 r4), (false, E3 1)] (E3 r9.1) [V.sl true 124 (List.map E124 r9.2)],
                                (true || ((E3 r9.1).nv && nvL [V.sl true 124 (List.map E124 r9.2)])) = true,
                                (decide (r9.1 < 0)) = false,
                                (decide (r9.1 < 0)) = false,
                                (decide (r9.1 < 0)) = false,
                                Fn Try.prog 46 [(false, E28 r5.1), (false, E28 r3.1)] (E4 r10) [],
                                (false || ((E4 r10).nv && nvL [])) = true,
                                (decide (r9.1 < 0)) = false,
                                (decide (r9.1 < 0)) = false,
                                (!r10) = false,
                                (!r10) = false,
                                (!r10) = false,
                                (!r10) = false,
                                (!(r5.2 == r3.2)) = false,
                                Fn Try.prog 47 [(true, E28 r5.1), (false, E3 1)] (E3 r11.1) [V.sl true 124 (List.map E124 r11.2)],
                                (true || ((E3 r11.1).nv && nvL [V.sl true 124 (List.map E124 r11.2)])) = true,
                                Fn Try.prog 48 [(false, E28 r11.2), (false, E3 1)] (E3 r12) [],
                                (false || ((E3 r12).nv && nvL [])) = true,
                                (decide (r12 < 0)) = false,
                                (r12 != r11.1) = false,
                                Fn Try.prog 44 [(false, E22 o)] (E28 r13) [],
                                (true || ((E28 r13).nv && nvL [])) = true,
                                Fn Try.prog 50 [(false, E28 r13), (false, E3 o_), (false, E3 a2)] (V.tup [E28 r14.1, E4 r14.2]) [],
                                (false || ((V.tup [E28 r14.1, E4 r14.2]).nv && nvL [])) = true,
                                Fn Try.prog 46 [(false, E28 r14.1), (false, E28 r3.1)] (E4 r15) [],
                                (false || ((E4 r15).nv && nvL [])) = true,
                                (!r15) = false,
                                (!r15) = false,
                                (!r15) = false,
                                (!r15) = false,
                                (!(r14.2 == r3.2)) = false,
                                Fn Try.prog 48 [(false, E28 r11.2), (false, E3 1)] (E3 r16) [],
                                (false || ((E3 r16).nv && nvL [])) = true,
                                (decide (r16 < 0)) = false,
                                (r16 != r11.1) = false]) (by kernel_rfl) (cj (laws_szStripeS_ok o 1048576 r1 h1) (cj rfl (cj h2 (cj (laws_toStripeS_ok o r2 h3) (cj rfl (cj (spec_TakeLock_ok r2 o_ a2 r3 h4) (cj (by simp [V.nv, nvL, nvL_all, nv_E3, nv_E4, nv_E5, nv_E9, nv_E28, nv_E39, nv_E47, nv_E48, nv_E49, nv_E51, nv_E52, nv_E54, nv_E61, nv_E124, nv_E177]) (cj (laws_toStripeS_ok o r4 h5) (cj rfl (cj (impl_TakeLock_ok r4 o_ a2 r5 h6) (cj (by simp [V.nv, nvL, nvL_all, nv_E3, nv_E4, nv_E5, nv_E9, nv_E28, nv_E39, nv_E47, nv_E48, nv_E49, nv_E51, nv_E52, nv_E54, nv_E61, nv_E124, nv_E177]) (cj (laws_eqStripeS_ok r5.1 r3.1 r6 h7) (cj (by simp [V.nv, nvL, nvL_all, nv_E4]) (cj (nf h8) (cj (nf h8) (cj (nf h8) (cj (nf h8) (cj (nf h9) (cj (laws_toStripeS_ok o r7 h10) (cj rfl (cj (laws_eqStripeS_ok r4 r7 r8 h11) (cj (by simp [V.nv, nvL, nvL_all, nv_E4]) (cj (nf h12) (cj (laws_markStripeS_ok r4 1 r9 h13) (cj rfl (cj h14 (cj h14 (cj h14 (cj (laws_eqStripeS_ok r5.1 r3.1 r10 h15) (cj (by simp [V.nv, nvL, nvL_all, nv_E4]) (cj h14 (cj h14 (cj (nf h16) (cj (nf h16) (cj (nf h16) (cj (nf h16) (cj (nf h9) (cj (laws_markStripeS_ok r5.1 1 r11 h17) (cj rfl (cj (laws_heldStripeS_ok r11.2 1 r12 h18) (cj (by simp [V.nv, nvL, nvL_all, nv_E3]) (cj h19 (cj h20 (cj (laws_toStripeS_ok o r13 h21) (cj rfl (cj (impl_TakeLock_ok r13 o_ a2 r14 h22) (cj (by simp [V.nv, nvL, nvL_all, nv_E3, nv_E4, nv_E5, nv_E9, nv_E28, nv_E39, nv_E47, nv_E48, nv_E49, nv_E51, nv_E52, nv_E54, nv_E61, nv_E124, nv_E177]) (cj (laws_eqStripeS_ok r14.1 r3.1 r15 h23) (cj (by simp [V.nv, nvL, nvL_all, nv_E4]) (cj (nf h24) (cj (nf h24) (cj (nf h24) (cj (nf h24) (cj (nf h25) (cj (laws_heldStripeS_ok r11.2 1 r16 h26) (cj (by simp [V.nv, nvL, nvL_all, nv_E3]) (cj h27 (cj1 h28))))))))))))))))))))))))))))))))))))))))))))))))))))))))))))))) (fun h25 =>
                            Pn.some (Fn.of [.call [] (E3 r1) [], .bit false, .call [] (E28 r2) [], .call [] (V.tup [E28 r3.1, E4 r3.2]) [], .call [] (E28 r4) [], .call [] (V.tup [E28 r5.1, E4 r5.2]) [], .call [] (E4 r6) [], .bit false, .bit false, .bit false, .bit false, .bit false, .call [] (E28 r7) [], .call [] (E4 r8) [], .bit false, .call [true, false] (E3 r9.1) [V.sl true 124 (List.map E124 r9.2)], .bit false, .bit false, .bit false, .call [] (E4 r10) [], .bit false, .bit false, .bit false, .bit false, .bit false, .bit false, .bit false, .call [true, false] (E3 r11.1) [V.sl true 124 (List.map E124 r11.2)], .call [] (E3 r12) [], .bit false, .bit false, .call [] (E28 r13) [], .call [] (V.tup [E28 r14.1, E4 r14.2]) [], .call [] (E4 r15) [], .bit false, .bit false, .bit false, .bit false, .bit true] (p := [Fn Try.prog 42 [(false, E22 o), (false, E3 1048576)] (E3 r1) [],
                             (true || ((E3 r1).nv && nvL [])) = true,
                             (decide (r1 < 0)) = false,
                             Fn Try.prog 44 [(false, E22 o)] (E28 r2) [],
                             (true || ((E28 r2).nv && nvL [])) = true,
                             Fn Try.prog 49 [(false, E28 r2), (false, E3 o_), (false, E3 a2)] (V.tup [E28 r3.1, E4 r3.2]) [],
                             (false || ((V.tup [E28 r3.1, E4 r3.2]).nv && nvL [])) = true,
                             Fn Try.prog 44 [(false, E22 o)] (E28 r4) [],
                             (true || ((E28 r4).nv && nvL [])) = true,
                             Fn Try.prog 50 [(false, E28 r4), (false, E3 o_), (false, E3 a2)] (V.tup [E28 r5.1, E4 r5.2]) [],
                             (false || ((V.tup [E28 r5.1, E4 r5.2]).nv && nvL [])) = true,
                             Fn Try.prog 46 [(false, E28 r5.1), (false, E28 r3.1)] (E4 r6) [],
                             (false || ((E4 r6).nv && nvL [])) = true,
                             (!r6) = false,
                             (!r6) = false,
                             (!r6) = false,
                             (!r6) = false,
                             (!(r5.2 == r3.2)) = false,
                             Fn Try.prog 44 [(false, E22 o)] (E28 r7) [],
                             (true || ((E28 r7).nv && nvL [])) = true,
                             Fn Try.prog 46 [(false, E28 r4), (false, E28 r7)] (E4 r8) [],
                             (false || ((E4 r8).nv && nvL [])) = true,
                             (!r8) = false,
                             Fn Try.prog 47 [(true, E28 r4), (false, E3 1)] (E3 r9.1) [V.sl true 124 (List.map E124 r9.2)],
                             (true || ((E3 r9.1).nv && nvL [V.sl true 124 (List.map E124 r9.2)])) = true,
                             (decide (r9.1 < 0)) = false,
                             (decide (r9.1 < 0)) = false,
                             (decide (r9.1 < 0)) = false,
                             Fn Try.prog 46 [(false, E28 r5.1), (false, E28 r3.1)] (E4 r10) [],
                             (false || ((E4 r10).nv && nvL [])) = true,
                             (decide (r9.1 < 0)) = false,
                             (decide (r9.1 < 0)) = false,
                             (!r10) = false,
                             (!r10) = false,
                             (!r10) = false,
                             (!r10) = false,
                             (!(r5.2 == r3.2)) = false,
                             Fn Try.prog 47 [(true, E28 r5.1), (false, E3 1)] (E3 r11.1) [V.sl true 124 (List.map E124 r11.2)],
                             (true || ((E3 r11.1).nv && nvL [V.sl true 124 (List.map E124 r11.2)])) = true,
                             Fn Try.prog 48 [(false, E28 r11.2), (false, E3 1)] (E3 r12) [],
                             (false || ((E3 r12).nv && nvL [])) = true,
                             (decide (r12 < 0)) = false,
                             (r12 != r11.1) = false,
                             Fn Try.prog 44 [(false, E22 o)] (E28 r13) [],
                             (true || ((E28 r13).nv && nvL [])) = true,
                             Fn Try.prog 50 [(false, E28 r13), (false, E3 o_), (false, E3 a2)] (V.tup [E28 r14.1, E4 r14.2]) [],
                             (false || ((V.tup [E28 r14.1, E4 r14.2]).nv && nvL [])) = true,
                             Fn Try.prog 46 [(false, E28 r14.1), (false, E28 r3.1)] (E4 r15) [],
                             (false || ((E4 r15).nv && nvL [])) = true,
                             (!r15) = false,
                             (!r15) = false,
                             (!r15) = false,
                             (!r15) = false,
                             (!(r14.2 == r3.2)) = true]) (by kernel_rfl) (cj (laws_szStripeS_ok o 1048576 r1 h1) (cj rfl (cj h2 (cj (laws_toStripeS_ok o r2 h3) (cj rfl (cj (spec_TakeLock_ok r2 o_ a2 r3 h4) (cj (by simp [V.nv, nvL, nvL_all, nv_E3, nv_E4, nv_E5, nv_E9, nv_E28, nv_E39, nv_E47, nv_E48, nv_E49, nv_E51, nv_E52, nv_E54, nv_E61, nv_E124, nv_E177]) (cj (laws_toStripeS_ok o r4 h5) (cj rfl (cj (impl_TakeLock_ok r4 o_ a2 r5 h6) (cj (by simp [V.nv, nvL, nvL_all, nv_E3, nv_E4, nv_E5, nv_E9, nv_E28, nv_E39, nv_E47, nv_E48, nv_E49, nv_E51, nv_E52, nv_E54, nv_E61, nv_E124, nv_E177]) (cj (laws_eqStripeS_ok r5.1 r3.1 r6 h7) (cj (by simp [V.nv, nvL, nvL_all, nv_E4]) (cj (nf h8) (cj (nf h8) (cj (nf h8) (cj (nf h8) (cj (nf h9) (cj (laws_toStripeS_ok o r7 h10) (cj rfl (cj (laws_eqStripeS_ok r4 r7 r8 h11) (cj (by simp [V.nv, nvL, nvL_all, nv_E4]) (cj (nf h12) (cj (laws_markStripeS_ok r4 1 r9 h13) (cj rfl (cj h14 (cj h14 (cj h14 (cj (laws_eqStripeS_ok r5.1 r3.1 r10 h15) (cj (by simp [V.nv, nvL, nvL_all, nv_E4]) (cj h14 (cj h14 (cj (nf h16) (cj (nf h16) (cj (nf h16) (cj (nf h16) (cj (nf h9) (cj (laws_markStripeS_ok r5.1 1 r11 h17) (cj rfl (cj (laws_heldStripeS_ok r11.2 1 r12 h18) (cj (by simp [V.nv, nvL, nvL_all, nv_E3]) (cj h19 (cj h20 (cj (laws_toStripeS_ok o r13 h21) (cj rfl (cj (impl_TakeLock_ok r13 o_ a2 r14 h22) (cj (by simp [V.nv, nvL, nvL_all, nv_E3, nv_E4, nv_E5, nv_E9, nv_E28, nv_E39, nv_E47, nv_E48, nv_E49, nv_E51, nv_E52, nv_E54, nv_E61, nv_E124, nv_E177]) (cj (laws_eqStripeS_ok r14.1 r3.1 r15 h23) (cj (by simp [V.nv, nvL, nvL_all, nv_E4]) (cj (nf h24) (cj (nf h24) (cj (nf h24) (cj (nf h24) (cj1 (nt h25)))))))))))))))))))))))))))))))))))))))))))))))))))))))))) (fun h24 =>
                           Pn.some (Fn.of [.call [] (E3 r1) [], .bit false, .call [] (E28 r2) [], .call [] (V.tup [E28 r3.1, E4 r3.2]) [], .call [] (E28 r4) [], .call [] (V.tup [E28 r5.1, E4 r5.2]) [], .call [] (E4 r6) [], .bit false, .bit false, .bit false, .bit false, .bit false, .call [] (E28 r7) [], .call [] (E4 r8) [], .bit false, .call [true, false] (E3 r9.1) [V.sl true 124 (List.map E124 r9.2)], .bit false, .bit false, .bit false, .call [] (E4 r10) [], .bit false, .bit false, .bit false, .bit false, .bit false, .bit false, .bit false, .call [true, false] (E3 r11.1) [V.sl true 124 (List.map E124 r11.2)], .call [] (E3 r12) [], .bit false, .bit false, .call [] (E28 r13) [], .call [] (V.tup [E28 r14.1, E4 r14.2]) [], .call [] (E4 r15) [], .bit true, .bit true, .bit true, .bit true, .bit true] (p := [Fn Try.prog 42 [(false, E22 o), (false, E3 1048576)] (E3 r1) [],
                            (true || ((E3 r1).nv && nvL [])) = true,
                            (decide (r1 < 0)) = false,
                            Fn Try.prog 44 [(false, E22 o)] (E28 r2) [],
                            (true || ((E28 r2).nv && nvL [])) = true,
                            Fn Try.prog 49 [(false, E28 r2), (false, E3 o_), (false, E3 a2)] (V.tup [E28 r3.1, E4 r3.2]) [],
                            (false || ((V.tup [E28 r3.1, E4 r3.2]).nv && nvL [])) = true,
                            Fn Try.prog 44 [(false, E22 o)] (E28 r4) [],
                            (true || ((E28 r4).nv && nvL [])) = true,
                            Fn Try.prog 50 [(false, E28 r4), (false, E3 o_), (false, E3 a2)] (V.tup [E28 r5.1, E4 r5.2]) [],
                            (false || ((V.tup [E28 r5.1, E4 r5.2]).nv && nvL [])) = true,
                            Fn Try.prog 46 [(false, E28 r5.1), (false, E28 r3.1)] (E4 r6) [],
                            (false || ((E4 r6).nv && nvL [])) = true,
                            (!r6) = false,
                            (!r6) = false,
                            (!r6) = false,
                            (!r6) = false,
                            (!(r5.2 == r3.2)) = false,
                            Fn Try.prog 44 [(false, E22 o)] (E28 r7) [],
                            (true || ((E28 r7).nv && nvL [])) = true,
                            Fn Try.prog 46 [(false, E28 r4), (false, E28 r7)] (E4 r8) [],
                            (false || ((E4 r8).nv && nvL [])) = true,
                            (!r8) = false,
                            Fn Try.prog 47 [(true, E28 r4), (false, E3 1)] (E3 r9.1) [V.sl true 124 (List.map E124 r9.2)],
                            (true || ((E3 r9.1).nv && nvL [V.sl true 124 (List.map E124 r9.2)])) = true,
                            (decide (r9.1 < 0)) = false,
                            (decide (r9.1 < 0)) = false,
                            (decide (r9.1 < 0)) = false,
                            Fn Try.prog 46 [(false, E28 r5.1), (false, E28 r3.1)] (E4 r10) [],
                            (false || ((E4 r10).nv && nvL [])) = true,
                            (decide (r9.1 < 0)) = false,
                            (decide (r9.1 < 0)) = false,
                            (!r10) = false,
                            (!r10) = false,
                            (!r10) = false,
                            (!r10) = false,
                            (!(r5.2 == r3.2)) = false,
                            Fn Try.prog 47 [(true, E28 r5.1), (false, E3 1)] (E3 r11.1) [V.sl true 124 (List.map E124 r11.2)],
                            (true || ((E3 r11.1).nv && nvL [V.sl true 124 (List.map E124 r11.2)])) = true,
                            Fn Try.prog 48 [(false, E28 r11.2), (false, E3 1)] (E3 r12) [],
                            (false || ((E3 r12).nv && nvL [])) = true,
                            (decide (r12 < 0)) = false,
                            (r12 != r11.1) = false,
                            Fn Try.prog 44 [(false, E22 o)] (E28 r13) [],
                            (true || ((E28 r13).nv && nvL [])) = true,
                            Fn Try.prog 50 [(false, E28 r13), (false, E3 o_), (false, E3 a2)] (V.tup [E28 r14.1, E4 r14.2]) [],
                            (false || ((V.tup [E28 r14.1, E4 r14.2]).nv && nvL [])) = true,
                            Fn Try.prog 46 [(false, E28 r14.1), (false, E28 r3.1)] (E4 r15) [],
                            (false || ((E4 r15).nv && nvL [])) = true,
                            (!r15) = true,
                            (!r15) = true,
                            (!r15) = true,
                            (!r15) = true,
                            true = true]) (by kernel_rfl) (cj (laws_szStripeS_ok o 1048576 r1 h1) (cj rfl (cj h2 (cj (laws_toStripeS_ok o r2 h3) (cj rfl (cj (spec_TakeLock_ok r2 o_ a2 r3 h4) (cj (by simp [V.nv, nvL, nvL_all, nv_E3, nv_E4, nv_E5, nv_E9, nv_E28, nv_E39, nv_E47, nv_E48, nv_E49, nv_E51, nv_E52, nv_E54, nv_E61, nv_E124, nv_E177]) (cj (laws_toStripeS_ok o r4 h5) (cj rfl (cj (impl_TakeLock_ok r4 o_ a2 r5 h6) (cj (by simp [V.nv, nvL, nvL_all, nv_E3, nv_E4, nv_E5, nv_E9, nv_E28, nv_E39, nv_E47, nv_E48, nv_E49, nv_E51, nv_E52, nv_E54, nv_E61, nv_E124, nv_E177]) (cj (laws_eqStripeS_ok r5.1 r3.1 r6 h7) (cj (by simp [V.nv, nvL, nvL_all, nv_E4]) (cj (nf h8) (cj (nf h8) (cj (nf h8) (cj (nf h8) (cj (nf h9) (cj (laws_toStripeS_ok o r7 h10) (cj rfl (cj (laws_eqStripeS_ok r4 r7 r8 h11) (cj (by simp [V.nv, nvL, nvL_all, nv_E4]) (cj (nf h12) (cj (laws_markStripeS_ok r4 1 r9 h13) (cj rfl (cj h14 (cj h14 (cj h14 (cj (laws_eqStripeS_ok r5.1 r3.1 r10 h15) (cj (by simp [V.nv, nvL, nvL_all, nv_E4]) (cj h14 (cj h14 (cj (nf h16) (cj (nf h16) (cj (nf h16) (cj (nf h16) (cj (nf h9) (cj (laws_markStripeS_ok r5.1 1 r11 h17) (cj rfl (cj (laws_heldStripeS_ok r11.2 1 r12 h18) (cj (by simp [V.nv, nvL, nvL_all, nv_E3]) (cj h19 (cj h20 (cj (laws_toStripeS_ok o r13 h21) (cj rfl (cj (impl_TakeLock_ok r13 o_ a2 r14 h22) (cj (by simp [V.nv, nvL, nvL_all, nv_E3, nv_E4, nv_E5, nv_E9, nv_E28, nv_E39, nv_E47, nv_E48, nv_E49, nv_E51, nv_E52, nv_E54, nv_E61, nv_E124, nv_E177]) (cj (laws_eqStripeS_ok r14.1 r3.1 r15 h23) (cj (by simp [V.nv, nvL, nvL_all, nv_E4]) (cj (nt h24) (cj (nt h24) (cj (nt h24) (cj (nt h24) (cj1 rfl)))))))))))))))))))))))))))))))))))))))))))))))))))))))))))))))) (fun h16 =>
                   Pn.some (Fn.of [.call [] (E3 r1) [], .bit false, .call [] (E28 r2) [], .call [] (V.tup [E28 r3.1, E4 r3.2]) [], .call [] (E28 r4) [], .call [] (V.tup [E28 r5.1, E4 r5.2]) [], .call [] (E4 r6) [], .bit false, .bit false, .bit false, .bit false, .bit false, .call [] (E28 r7) [], .call [] (E4 r8) [], .bit false, .call [true, false] (E3 r9.1) [V.sl true 124 (List.map E124 r9.2)], .bit false, .bit false, .bit false, .call [] (E4 r10) [], .bit false, .bit false, .bit true, .bit true, .bit true, .bit true, .bit true] (p := [Fn Try.prog 42 [(false, E22 o), (false, E3 1048576)] (E3 r1) [],
                    (true || ((E3 r1).nv && nvL [])) = true,
                    (decide (r1 < 0)) = false,
                    Fn Try.prog 44 [(false, E22 o)] (E28 r2) [],
                    (true || ((E28 r2).nv && nvL [])) = true,
                    Fn Try.prog 49 [(false, E28 r2), (false, E3 o_), (false, E3 a2)] (V.tup [E28 r3.1, E4 r3.2]) [],
                    (false || ((V.tup [E28 r3.1, E4 r3.2]).nv && nvL [])) = true,
                    Fn Try.prog 44 [(false, E22 o)] (E28 r4) [],
                    (true || ((E28 r4).nv && nvL [])) = true,
                    Fn Try.prog 50 [(false, E28 r4), (false, E3 o_), (false, E3 a2)] (V.tup [E28 r5.1, E4 r5.2]) [],
                    (false || ((V.tup [E28 r5.1, E4 r5.2]).nv && nvL [])) = true,
                    Fn Try.prog 46 [(false, E28 r5.1), (false, E28 r3.1)] (E4 r6) [],
                    (false || ((E4 r6).nv && nvL [])) = true,
                    (!r6) = false,
                    (!r6) = false,
                    (!r6) = false,
                    (!r6) = false,
                    (!(r5.2 == r3.2)) = false,
                    Fn Try.prog 44 [(false, E22 o)] (E28 r7) [],
                    (true || ((E28 r7).nv && nvL [])) = true,
                    Fn Try.prog 46 [(false, E28 r4), (false, E28 r7)] (E4 r8) [],
                    (false || ((E4 r8).nv && nvL [])) = true,
                    (!r8) = false,
                    Fn Try.prog 47 [(true, E28 r4), (false, E3 1)] (E3 r9.1) [V.sl true 124 (List.map E124 r9.2)],
                    (true || ((E3 r9.1).nv && nvL [V.sl true 124 (List.map E124 r9.2)])) = true,
                    (decide (r9.1 < 0)) = false,
                    (decide (r9.1 < 0)) = false,
                    (decide (r9.1 < 0)) = false,
                    Fn Try.prog 46 [(false, E28 r5.1), (false, E28 r3.1)] (E4 r10) [],
                    (false || ((E4 r10).nv && nvL [])) = true,
                    (decide (r9.1 < 0)) = false,
                    (decide (r9.1 < 0)) = false,
                    (!r10) = true,
                    (!r10) = true,
                    (!r10) = true,
                    (!r10) = true,
                    true = true]) (by kernel_rfl) (cj (laws_szStripeS_ok o 1048576 r1 h1) (cj rfl (cj h2 (cj (laws_toStripeS_ok o r2 h3) (cj rfl (cj (spec_TakeLock_ok r2 o_ a2 r3 h4) (cj (by simp [V.nv, nvL, nvL_all, nv_E3, nv_E4, nv_E5, nv_E9, nv_E28, nv_E39, nv_E47, nv_E48, nv_E49, nv_E51, nv_E52, nv_E54, nv_E61, nv_E124, nv_E177]) (cj (laws_toStripeS_ok o r4 h5) (cj rfl (cj (impl_TakeLock_ok r4 o_ a2 r5 h6) (cj (by simp [V.nv, nvL, nvL_all, nv_E3, nv_E4, nv_E5, nv_E9, nv_E28, nv_E39, nv_E47, nv_E48, nv_E49, nv_E51, nv_E52, nv_E54, nv_E61, nv_E124, nv_E177]) (cj (laws_eqStripeS_ok r5.1 r3.1 r6 h7) (cj (by simp [V.nv, nvL, nvL_all, nv_E4]) (cj (nf h8) (cj (nf h8) (cj (nf h8) (cj (nf h8) (cj (nf h9) (cj (laws_toStripeS_ok o r7 h10) (cj rfl (cj (laws_eqStripeS_ok r4 r7 r8 h11) (cj (by simp [V.nv, nvL, nvL_all, nv_E4]) (cj (nf h12) (cj (laws_markStripeS_ok r4 1 r9 h13) (cj rfl (cj h14 (cj h14 (cj h14 (cj (laws_eqStripeS_ok r5.1 r3.1 r10 h15) (cj (by simp [V.nv, nvL, nvL_all, nv_E4]) (cj h14 (cj h14 (cj (nt h16) (cj (nt h16) (cj (nt h16) (cj (nt h16) (cj1 rfl))))))))))))))))))))))))))))))))))))))))))) (fun h12 =>
               Pn.some (Fn.of [.call [] (E3 r1) [], .bit false, .call [] (E28 r2) [], .call [] (V.tup [E28 r3.1, E4 r3.2]) [], .call [] (E28 r4) [], .call [] (V.tup [E28 r5.1, E4 r5.2]) [], .call [] (E4 r6) [], .bit false, .bit false, .bit false, .bit false, .bit false, .call [] (E28 r7) [], .call [] (E4 r8) [], .bit true] (p := [Fn Try.prog 42 [(false, E22 o), (false, E3 1048576)] (E3 r1) [],
                (true || ((E3 r1).nv && nvL [])) = true,
                (decide (r1 < 0)) = false,
                Fn Try.prog 44 [(false, E22 o)] (E28 r2) [],
                (true || ((E28 r2).nv && nvL [])) = true,
                Fn Try.prog 49 [(false, E28 r2), (false, E3 o_), (false, E3 a2)] (V.tup [E28 r3.1, E4 r3.2]) [],
                (false || ((V.tup [E28 r3.1, E4 r3.2]).nv && nvL [])) = true,
                Fn Try.prog 44 [(false, E22 o)] (E28 r4) [],
                (true || ((E28 r4).nv && nvL [])) = true,
                Fn Try.prog 50 [(false, E28 r4), (false, E3 o_), (false, E3 a2)] (V.tup [E28 r5.1, E4 r5.2]) [],
                (false || ((V.tup [E28 r5.1, E4 r5.2]).nv && nvL [])) = true,
                Fn Try.prog 46 [(false, E28 r5.1), (false, E28 r3.1)] (E4 r6) [],
                (false || ((E4 r6).nv && nvL [])) = true,
                (!r6) = false,
                (!r6) = false,
                (!r6) = false,
                (!r6) = false,
                (!(r5.2 == r3.2)) = false,
                Fn Try.prog 44 [(false, E22 o)] (E28 r7) [],
                (true || ((E28 r7).nv && nvL [])) = true,
                Fn Try.prog 46 [(false, E28 r4), (false, E28 r7)] (E4 r8) [],
                (false || ((E4 r8).nv && nvL [])) = true,
                (!r8) = true]) (by kernel_rfl) (cj (laws_szStripeS_ok o 1048576 r1 h1) (cj rfl (cj h2 (cj (laws_toStripeS_ok o r2 h3) (cj rfl (cj (spec_TakeLock_ok r2 o_ a2 r3 h4) (cj (by simp [V.nv, nvL, nvL_all, nv_E3, nv_E4, nv_E5, nv_E9, nv_E28, nv_E39, nv_E47, nv_E48, nv_E49, nv_E51, nv_E52, nv_E54, nv_E61, nv_E124, nv_E177]) (cj (laws_toStripeS_ok o r4 h5) (cj rfl (cj (impl_TakeLock_ok r4 o_ a2 r5 h6) (cj (by simp [V.nv, nvL, nvL_all, nv_E3, nv_E4, nv_E5, nv_E9, nv_E28, nv_E39, nv_E47, nv_E48, nv_E49, nv_E51, nv_E52, nv_E54, nv_E61, nv_E124, nv_E177]) (cj (laws_eqStripeS_ok r5.1 r3.1 r6 h7) (cj (by simp [V.nv, nvL, nvL_all, nv_E4]) (cj (nf h8) (cj (nf h8) (cj (nf h8) (cj (nf h8) (cj (nf h9) (cj (laws_toStripeS_ok o r7 h10) (cj rfl (cj (laws_eqStripeS_ok r4 r7 r8 h11) (cj (by simp [V.nv, nvL, nvL_all, nv_E4]) (cj1 (nt h12))))))))))))))))))))))))))))) (fun h9 =>
            Pn.some (Fn.of [.call [] (E3 r1) [], .bit false, .call [] (E28 r2) [], .call [] (V.tup [E28 r3.1, E4 r3.2]) [], .call [] (E28 r4) [], .call [] (V.tup [E28 r5.1, E4 r5.2]) [], .call [] (E4 r6) [], .bit false, .bit false, .bit false, .bit false, .bit true] (p := [Fn Try.prog 42 [(false, E22 o), (false, E3 1048576)] (E3 r1) [],
             (true || ((E3 r1).nv && nvL [])) = true,
             (decide (r1 < 0)) = false,
             Fn Try.prog 44 [(false, E22 o)] (E28 r2) [],
             (true || ((E28 r2).nv && nvL [])) = true,
             Fn Try.prog 49 [(false, E28 r2), (false, E3 o_), (false, E3 a2)] (V.tup [E28 r3.1, E4 r3.2]) [],
             (false || ((V.tup [E28 r3.1, E4 r3.2]).nv && nvL [])) = true,
             Fn Try.prog 44 [(false, E22 o)] (E28 r4) [],
             (true || ((E28 r4).nv && nvL [])) = true,
             Fn Try.prog 50 [(false, E28 r4), (false, E3 o_), (false, E3 a2)] (V.tup [E28 r5.1, E4 r5.2]) [],
             (false || ((V.tup [E28 r5.1, E4 r5.2]).nv && nvL [])) = true,
             Fn Try.prog 46 [(false, E28 r5.1), (false, E28 r3.1)] (E4 r6) [],
             (false || ((E4 r6).nv && nvL [])) = true,
             (!r6) = false,
             (!r6) = false,
             (!r6) = false,
             (!r6) = false,
             (!(r5.2 == r3.2)) = true]) (by kernel_rfl) (cj (laws_szStripeS_ok o 1048576 r1 h1) (cj rfl (cj h2 (cj (laws_toStripeS_ok o r2 h3) (cj rfl (cj (spec_TakeLock_ok r2 o_ a2 r3 h4) (cj (by simp [V.nv, nvL, nvL_all, nv_E3, nv_E4, nv_E5, nv_E9, nv_E28, nv_E39, nv_E47, nv_E48, nv_E49, nv_E51, nv_E52, nv_E54, nv_E61, nv_E124, nv_E177]) (cj (laws_toStripeS_ok o r4 h5) (cj rfl (cj (impl_TakeLock_ok r4 o_ a2 r5 h6) (cj (by simp [V.nv, nvL, nvL_all, nv_E3, nv_E4, nv_E5, nv_E9, nv_E28, nv_E39, nv_E47, nv_E48, nv_E49, nv_E51, nv_E52, nv_E54, nv_E61, nv_E124, nv_E177]) (cj (laws_eqStripeS_ok r5.1 r3.1 r6 h7) (cj (by simp [V.nv, nvL, nvL_all, nv_E4]) (cj (nf h8) (cj (nf h8) (cj (nf h8) (cj (nf h8) (cj1 (nt h9)))))))))))))))))))))) (fun h8 =>
           Pn.some (Fn.of [.call [] (E3 r1) [], .bit false, .call [] (E28 r2) [], .call [] (V.tup [E28 r3.1, E4 r3.2]) [], .call [] (E28 r4) [], .call [] (V.tup [E28 r5.1, E4 r5.2]) [], .call [] (E4 r6) [], .bit true, .bit true, .bit true, .bit true, .bit true] (p := [Fn Try.prog 42 [(false, E22 o), (false, E3 1048576)] (E3 r1) [],
            (true || ((E3 r1).nv && nvL [])) = true,
            (decide (r1 < 0)) = false,
            Fn Try.prog 44 [(false, E22 o)] (E28 r2) [],
            (true || ((E28 r2).nv && nvL [])) = true,
            Fn Try.prog 49 [(false, E28 r2), (false, E3 o_), (false, E3 a2)] (V.tup [E28 r3.1, E4 r3.2]) [],
            (false || ((V.tup [E28 r3.1, E4 r3.2]).nv && nvL [])) = true,
            Fn Try.prog 44 [(false, E22 o)] (E28 r4) [],
            (true || ((E28 r4).nv && nvL [])) = true,
            Fn Try.prog 50 [(false, E28 r4), (false, E3 o_), (false, E3 a2)] (V.tup [E28 r5.1, E4 r5.2]) [],
            (false || ((V.tup [E28 r5.1, E4 r5.2]).nv && nvL [])) = true,
            Fn Try.prog 46 [(false, E28 r5.1), (false, E28 r3.1)] (E4 r6) [],
            (false || ((E4 r6).nv && nvL [])) = true,
            (!r6) = true,
            (!r6) = true,
            (!r6) = true,
            (!r6) = true,
            true = true]) (by kernel_rfl) (cj (laws_szStripeS_ok o 1048576 r1 h1) (cj rfl (cj h2 (cj (laws_toStripeS_ok o r2 h3) (cj rfl (cj (spec_TakeLock_ok r2 o_ a2 r3 h4) (cj (by simp [V.nv, nvL, nvL_all, nv_E3, nv_E4, nv_E5, nv_E9, nv_E28, nv_E39, nv_E47, nv_E48, nv_E49, nv_E51, nv_E52, nv_E54, nv_E61, nv_E124, nv_E177]) (cj (laws_toStripeS_ok o r4 h5) (cj rfl (cj (impl_TakeLock_ok r4 o_ a2 r5 h6) (cj (by simp [V.nv, nvL, nvL_all, nv_E3, nv_E4, nv_E5, nv_E9, nv_E28, nv_E39, nv_E47, nv_E48, nv_E49, nv_E51, nv_E52, nv_E54, nv_E61, nv_E124, nv_E177]) (cj (laws_eqStripeS_ok r5.1 r3.1 r6 h7) (cj (by simp [V.nv, nvL, nvL_all, nv_E4]) (cj (nt h8) (cj (nt h8) (cj (nt h8) (cj (nt h8) (cj1 rfl)))))))))))))))))))))))))))
def spec_Fnv_l0 (s_ : ByteArray) : Nat → Int → Int → Option (Int)
  | 0, _, _ => none
  | n + 1, v1, v2 =>
   if (decide (v2 < (s_.size : Int))) = true then
    if (decide (0 ≤ v2)) = true then
     if (decide ((v2 : Int) < (s_.size : Int))) = true then
      spec_Fnv_l0 s_ n (band .i64 (i64 ((bxor .i64 v1 (i64 (sAt s_ v2))) * 16777619)) 4294967295) (i64 (v2 + 1))
     else none
    else none
   else
    some v1
theorem spec_Fnv_l0_ok (s_ : ByteArray) : ∀ (n : Nat) (v1 : Int) (v2 : Int), Pn (LpO Try.prog (sub (codeOf Try.prog 162) [1, 1, 0, 1, 0, 0]) (st 20 [(0, V.sc (.string s_)), (3, V.sc (.int .i64 v1)), (4, V.sc (.int .i64 v2))] [] []) (fun (y : Int) => (X.out 0, st 20 [(3, V.sc (.int .i64 y))] [] []))) (spec_Fnv_l0 s_ n v1 v2)
  | 0, _, _ => Pn.none
  | n + 1, v1, v2 => by
    unfold spec_Fnv_l0
    exact
     Pn.ite (fun h1 =>
      Pn.ite (fun h2 =>
       Pn.ite (fun h3 =>
        LpO.go [.bit true, .wait 12, .mask [0, 3, 4], .ren []] (p := [(decide (v2 < (s_.size : Int))) = true,
         (0 : Int) ≤ v2,
         (v2 : Int) < s_.size]) (by kernel_rfl) (cj h1 (cj (od h2) (cj1 (od h3)))) (spec_Fnv_l0_ok s_ n (band .i64 (i64 ((bxor .i64 v1 (i64 (sAt s_ v2))) * 16777619)) 4294967295) (i64 (v2 + 1)))) (fun h3 =>
        Pn.none)) (fun h2 =>
       Pn.none)) (fun h1 =>
      Pn.some (LpO.out [.bit false, .mask [3], .ren []] (p := [(decide (v2 < (s_.size : Int))) = false]) (by kernel_rfl) (show X.out 0 ≠ X.go from nofun) (cj1 h1)))
def spec_Fnv (s_ : ByteArray) : Option (Int) :=
 (spec_Fnv_l0 s_ FUEL 2166136261 0).bind fun r1 =>
 some r1
theorem spec_Fnv_ok (s_ : ByteArray) : Pn (fun y => Fn Try.prog 162 [(false, E9 s_)] (E3 y) []) (spec_Fnv s_) := by
  unfold spec_Fnv
  exact
   Pn.bind (fun r1 h4 =>
    Pn.some (Fn.of [.wait 4, .mask [0, 3, 4], .ren [], .loop (X.out 0) (st 20 [(3, V.sc (.int .i64 r1))] [] [])] (p := [Loop Try.prog (sub (codeOf Try.prog 162) [1, 1, 0, 1, 0, 0]) (st 20 [(0, V.sc (.string s_)), (3, V.sc (.int .i64 2166136261)), (4, V.sc (.int .i64 0))] [] []) (X.out 0) (st 20 [(3, V.sc (.int .i64 r1))] [] [])]) (by kernel_rfl) (cj1 (spec_Fnv_l0_ok s_ FUEL 2166136261 0 r1 h4))))
def spec_StripeNo (id : ByteArray) (n : Int) : Option (Int) :=
 if (decide (n < 1)) = true then
  some 0
 else
  (spec_Fnv id).bind fun r1 =>
  if (decide (n ≠ 0)) = true then
   some (Int.tmod r1 n)
  else none
theorem spec_StripeNo_ok (id : ByteArray) (n : Int) : Pn (fun y => Fn Try.prog 109 [(false, E9 id), (false, E3 n)] (E3 y) []) (spec_StripeNo id n) := by
  unfold spec_StripeNo
  exact
   Pn.ite (fun h1 =>
    Pn.some (Fn.of [.bit true] (p := [(decide (n < 1)) = true]) (by kernel_rfl) (cj1 h1))) (fun h1 =>
    Pn.bind (fun r1 h2 =>
     Pn.ite (fun h3 =>
      Pn.some (Fn.of [.bit false, .call [] (E3 r1) []] (p := [(decide (n < 1)) = false,
       Fn Try.prog 162 [(false, E9 id)] (E3 r1) [],
       (true || ((E3 r1).nv && nvL [])) = true,
       (n : Int) ≠ 0]) (by kernel_rfl) (cj h1 (cj (spec_Fnv_ok id r1 h2) (cj rfl (cj1 (od h3))))))) (fun h3 =>
      Pn.none)))
def spec_BookAt_l0 (b : Book) (id : ByteArray) : List Acct → List Acct → Option (Lo Unit Int)
  | [], p1 =>
   some (.out ())
  | x1 :: t1, p1 =>
   if (x1.Id == id) = true then
    some (.ret (p1.length : Int))
   else
    spec_BookAt_l0 b id t1 (p1 ++ [x1])
theorem spec_BookAt_l0_ok (b : Book) (id : ByteArray) (h2 : capOk b.Accts.length = true) : ∀ (t1 p1 : List Acct) (_ : b.Accts = p1 ++ t1) , Pn (LpO Try.prog (sub (codeOf Try.prog 110) [1, 0, 1, 0, 0]) (st 21 [(1, V.sc (.string id)), (8, V.sl false 54 (List.map E54 b.Accts)), (9, V.sc (.int .i64 (b.Accts.length : Int))), (10, V.sc (.int .i64 (p1.length : Int)))] [] []) (fun (y : Lo Unit Int) => Lo.elim y (fun s => (X.out 0, st 21 [] [] [])) (fun s => (X.ret, st 21 [(4, V.sc (.int .i64 s))] [] [])))) (spec_BookAt_l0 b id t1 p1)
  | [], p1, h1 => by
    unfold spec_BookAt_l0
    exact
     Pn.some (LpO.out [.bit false, .mask [], .ren []] (p := [(decide ((p1.length : Int) < (b.Accts.length : Int))) = false]) (by kernel_rfl) (show X.out 0 ≠ X.go from nofun) (cj1 (rng_end h1)))
  | x1 :: t1, p1, h1 => by
    unfold spec_BookAt_l0
    exact
     Pn.ite (fun h3 =>
      Pn.some (LpO.out [.bit true, .el (E54 x1), .bit true, .wait 2, .mask [4], .ren []] (p := [(decide ((p1.length : Int) < (b.Accts.length : Int))) = true,
       (0 : Int) ≤ (p1.length : Int),
       (List.map E54 b.Accts)[(p1.length : Int).toNat]? = some (E54 x1),
       (x1.Id == id) = true]) (by kernel_rfl) (show X.ret ≠ X.go from nofun) (cj (rng_lt h1) (cj (by omega) (cj (rng_get _ h1) (cj1 h3)))))) (fun h3 =>
      LpO.go [.bit true, .el (E54 x1), .bit false, .wait 2, .mask [1, 8, 9, 10], .ren [], .nm 10 (V.sc (.int .i64 ((p1 ++ [x1]).length : Int)))] (p := [(decide ((p1.length : Int) < (b.Accts.length : Int))) = true,
       (0 : Int) ≤ (p1.length : Int),
       (List.map E54 b.Accts)[(p1.length : Int).toNat]? = some (E54 x1),
       (x1.Id == id) = false,
       V.sc (.int .i64 (i64 ((p1.length : Int) + 1))) = V.sc (.int .i64 ((p1 ++ [x1]).length : Int))]) (by kernel_rfl) (cj (rng_lt h1) (cj (by omega) (cj (rng_get _ h1) (cj h3 (cj1 (rng_next h1 h2)))))) (spec_BookAt_l0_ok b id h2 t1 (p1 ++ [x1]) (rng_step h1)))
def spec_BookAt (b : Book) (id : ByteArray) : Option (Int) :=
 if (capOk b.Accts.length) = true then
  (spec_BookAt_l0 b id b.Accts []).bind fun r1 =>
  Lo.elim r1 (fun s1 =>
   some (-1)) (fun s2 =>
   some s2)
 else none
theorem spec_BookAt_ok (b : Book) (id : ByteArray) : Pn (fun y => Fn Try.prog 110 [(false, E41 b), (false, E9 id)] (E3 y) []) (spec_BookAt b id) := by
  unfold spec_BookAt
  exact
   Pn.ite (fun h4 =>
    Pn.bind (fun r1 h5 =>
     Pn.lo (fun s1 h6 =>
      Pn.some (Fn.of [.wait 5, .nm 9 (V.sc (.int .i64 (b.Accts.length : Int))), .wait 2, .mask [1, 8, 9, 10], .ren [], .loop (X.out 0) (st 21 [] [] [])] (p := [V.sc (.int .i64 ((List.map E54 b.Accts).length : Int)) = V.sc (.int .i64 (b.Accts.length : Int)),
       Loop Try.prog (sub (codeOf Try.prog 110) [1, 0, 1, 0, 0]) (st 21 [(1, V.sc (.string id)), (8, V.sl false 54 (List.map E54 b.Accts)), (9, V.sc (.int .i64 (b.Accts.length : Int))), (10, V.sc (.int .i64 0))] [] []) (X.out 0) (st 21 [] [] [])]) (by kernel_rfl) (cj (len_nm _ _) (cj1 ((spec_BookAt_l0_ok b id h4 b.Accts [] rfl r1 h5).at h6))))) (fun s2 h7 =>
      Pn.some (Fn.of [.wait 5, .nm 9 (V.sc (.int .i64 (b.Accts.length : Int))), .wait 2, .mask [1, 8, 9, 10], .ren [], .loop (X.ret) (st 21 [(4, V.sc (.int .i64 s2))] [] [])] (p := [V.sc (.int .i64 ((List.map E54 b.Accts).length : Int)) = V.sc (.int .i64 (b.Accts.length : Int)),
       Loop Try.prog (sub (codeOf Try.prog 110) [1, 0, 1, 0, 0]) (st 21 [(1, V.sc (.string id)), (8, V.sl false 54 (List.map E54 b.Accts)), (9, V.sc (.int .i64 (b.Accts.length : Int))), (10, V.sc (.int .i64 0))] [] []) (X.ret) (st 21 [(4, V.sc (.int .i64 s2))] [] [])]) (by kernel_rfl) (cj (len_nm _ _) (cj1 ((spec_BookAt_l0_ok b id h4 b.Accts [] rfl r1 h5).at h7))))))) (fun h4 =>
    Pn.none)
def spec_Lay_l0 (l : List Stripe) (b : Book) : List Acct → (List Stripe) → Option ((List Stripe))
  | [], v1 =>
   some v1
  | x1 :: t1, v1 =>
   (spec_StripeNo x1.Id (l.length : Int)).bind fun r2 =>
   if (decide ((v1.length : Int) ≤ r2)) = true then
    spec_Lay_l0 l b t1 v1
   else
    if (decide (0 ≤ r2)) = true then
     (v1[r2.toNat]?).bind fun x2 =>
     (spec_BookAt (Book.mk x2.Accts) x1.Id).bind fun r3 =>
     if (decide (0 ≤ r3)) = true then
      (spec_l09Copy x1).bind fun r4 =>
      (x2.Accts[r3.toNat]?).bind fun x3 =>
      spec_Lay_l0 l b t1 (v1.set r2.toNat (Stripe.mk x2.Owner (x2.Accts.set r3.toNat r4)))
     else
      spec_Lay_l0 l b t1 (v1.set r2.toNat x2)
    else none
theorem spec_Lay_l0_ok (l : List Stripe) (b : Book) (h3 : capOk b.Accts.length = true) : ∀ (t1 p1 : List Acct) (_ : b.Accts = p1 ++ t1) (v1 : List Stripe), Pn (LpO Try.prog (sub (codeOf Try.prog 54) [1, 1, 0, 1, 0, 0]) (st 50 [(0, V.sl false 124 (List.map E124 l)), (5, V.ow 0), (13, V.sl false 54 (List.map E54 b.Accts)), (14, V.sc (.int .i64 (b.Accts.length : Int))), (15, V.sc (.int .i64 (p1.length : Int)))] [Blk.row 124 (List.map E124 v1) []] []) (fun (y : (List Stripe)) => (X.out 0, st 50 [(5, V.ow 0)] [Blk.row 124 (List.map E124 y) []] []))) (spec_Lay_l0 l b t1 v1)
  | [], p1, h2, v1 => by
    unfold spec_Lay_l0
    exact
     Pn.some (LpO.out [.bit false, .mask [5], .ren [0]] (p := [(decide ((p1.length : Int) < (b.Accts.length : Int))) = false]) (by kernel_rfl) (show X.out 0 ≠ X.go from nofun) (cj1 (rng_end h2)))
  | x1 :: t1, p1, h2, v1 => by
    unfold spec_Lay_l0
    exact
     Pn.bind (fun r2 h4 =>
      Pn.ite (fun h5 =>
       LpO.go [.bit true, .el (E54 x1), .wait 7, .nm 22 (V.sc (.int .i64 (l.length : Int))), .call [] (E3 r2) [], .wait 4, .nm 26 (V.sc (.int .i64 (v1.length : Int))), .bit true, .wait 2, .mask [0, 5, 13, 14, 15], .ren [0], .nm 15 (V.sc (.int .i64 ((p1 ++ [x1]).length : Int)))] (p := [(decide ((p1.length : Int) < (b.Accts.length : Int))) = true,
        (0 : Int) ≤ (p1.length : Int),
        (List.map E54 b.Accts)[(p1.length : Int).toNat]? = some (E54 x1),
        V.sc (.int .i64 ((List.map E124 l).length : Int)) = V.sc (.int .i64 (l.length : Int)),
        Fn Try.prog 109 [(false, E9 x1.Id), (false, E3 (l.length : Int))] (E3 r2) [],
        (true || ((E3 r2).nv && nvL [])) = true,
        V.sc (.int .i64 ((List.map E124 v1).length : Int)) = V.sc (.int .i64 (v1.length : Int)),
        (decide ((v1.length : Int) ≤ r2)) = true,
        V.sc (.int .i64 (i64 ((p1.length : Int) + 1))) = V.sc (.int .i64 ((p1 ++ [x1]).length : Int))]) (by kernel_rfl) (cj (rng_lt h2) (cj (by omega) (cj (rng_get _ h2) (cj (len_nm _ _) (cj (spec_StripeNo_ok x1.Id (l.length : Int) r2 h4) (cj rfl (cj (len_nm _ _) (cj h5 (cj1 (rng_next h2 h3)))))))))) (spec_Lay_l0_ok l b h3 t1 (p1 ++ [x1]) (rng_step h2) v1)) (fun h5 =>
       Pn.ite (fun h6 =>
        Pn.bind (fun x2 h7 =>
         Pn.bind (fun r3 h8 =>
          Pn.ite (fun h9 =>
           Pn.bind (fun r4 h10 =>
            Pn.bind (fun x3 h11 =>
             LpO.go [.bit true, .el (E54 x1), .wait 7, .nm 22 (V.sc (.int .i64 (l.length : Int))), .call [] (E3 r2) [], .wait 4, .nm 26 (V.sc (.int .i64 (v1.length : Int))), .bit false, .draw [], .wait 2, .foc 0 r2.toNat (E124 x2), .fo 0, .call [] (E3 r3) [], .bit true, .draw [9], .fo 0, .call [] (E54 r4) [], .wait 1, .foc 2 r3.toNat (E54 x3), .fo 0, .wait 3, .shut 2, .nb 2 (.row 54 (List.map E54 (x2.Accts.set r3.toNat r4)) []), .shut 0, .nb 0 (.row 124 (List.map E124 (v1.set r2.toNat (Stripe.mk x2.Owner (x2.Accts.set r3.toNat r4)))) []), .mask [0, 5, 13, 14, 15], .ren [0], .nm 15 (V.sc (.int .i64 ((p1 ++ [x1]).length : Int)))] (p := [(decide ((p1.length : Int) < (b.Accts.length : Int))) = true,
              (0 : Int) ≤ (p1.length : Int),
              (List.map E54 b.Accts)[(p1.length : Int).toNat]? = some (E54 x1),
              V.sc (.int .i64 ((List.map E124 l).length : Int)) = V.sc (.int .i64 (l.length : Int)),
              Fn Try.prog 109 [(false, E9 x1.Id), (false, E3 (l.length : Int))] (E3 r2) [],
              (true || ((E3 r2).nv && nvL [])) = true,
              V.sc (.int .i64 ((List.map E124 v1).length : Int)) = V.sc (.int .i64 (v1.length : Int)),
              (decide ((v1.length : Int) ≤ r2)) = false,
              (0 : Int) ≤ r2,
              (r2 : Int) < ((List.map E124 v1).length : Int),
              look [] r2.toNat = none,
              (List.map E124 v1)[r2.toNat]? = some (E124 x2),
              look [(r2.toNat, V.agg [V.sc (.int .i64 x2.Owner), V.ow 2])] r2.toNat = some (V.agg [V.sc (.int .i64 x2.Owner), V.ow 2]),
              r2.toNat < (List.map E124 v1).length,
              Fn Try.prog 110 [(false, E41 (Book.mk x2.Accts)), (false, E9 x1.Id)] (E3 r3) [],
              (false || ((E3 r3).nv && nvL [])) = true,
              (decide (0 ≤ r3)) = true,
              (0 : Int) ≤ r2,
              (r2 : Int) < ((List.map E124 v1).length : Int),
              look [(r2.toNat, V.agg [V.sc (.int .i64 x2.Owner), V.ow 2])] r2.toNat = some (V.agg [V.sc (.int .i64 x2.Owner), V.ow 2]),
              r2.toNat < (List.map E124 v1).length,
              Fn Try.prog 80 [(false, E54 x1)] (E54 r4) [],
              (true || ((E54 r4).nv && nvL [])) = true,
              (0 : Int) ≤ r3,
              (r3 : Int) < ((List.map E54 x2.Accts).length : Int),
              look [] r3.toNat = none,
              (List.map E54 x2.Accts)[r3.toNat]? = some (E54 x3),
              look [(r3.toNat, V.agg [V.sc (.string x3.Id), V.sc (.int .i64 x3.Limit), V.sc (.int .i64 x3.Posted), V.sc (.int .i64 x3.Most), V.sc (.int .i64 x3.MostSum), V.ow 7, V.sc (.int .i64 x3.Ring.Span), V.sc (.int .i64 x3.Ring.Head), V.ow 8, V.ow 9, V.ow 10])] r3.toNat = some (V.agg [V.sc (.string x3.Id), V.sc (.int .i64 x3.Limit), V.sc (.int .i64 x3.Posted), V.sc (.int .i64 x3.Most), V.sc (.int .i64 x3.MostSum), V.ow 7, V.sc (.int .i64 x3.Ring.Span), V.sc (.int .i64 x3.Ring.Head), V.ow 8, V.ow 9, V.ow 10]),
              r3.toNat < (List.map E54 x2.Accts).length,
              r3.toNat = r3.toNat,
              Blk.row 54 ((List.map E54 x2.Accts).set r3.toNat (V.agg [V.sc (.string r4.Id), V.sc (.int .i64 r4.Limit), V.sc (.int .i64 r4.Posted), V.sc (.int .i64 r4.Most), V.sc (.int .i64 r4.MostSum), V.sl true 61 (List.map E61 r4.Holds), V.sc (.int .i64 r4.Ring.Span), V.sc (.int .i64 r4.Ring.Head), V.sl true 3 (List.map E3 r4.Ring.Counts), V.sl true 3 (List.map E3 r4.Ring.Sums), V.sl true 177 (List.map E177 r4.Slots)])) [] = Blk.row 54 (List.map E54 (x2.Accts.set r3.toNat r4)) [],
              Blk.row 124 ((List.map E124 v1).set r2.toNat (V.agg [V.sc (.int .i64 x2.Owner), V.sl true 54 (List.map E54 (x2.Accts.set r3.toNat r4))])) [] = Blk.row 124 (List.map E124 (v1.set r2.toNat (Stripe.mk x2.Owner (x2.Accts.set r3.toNat r4)))) [],
              V.sc (.int .i64 (i64 ((p1.length : Int) + 1))) = V.sc (.int .i64 ((p1 ++ [x1]).length : Int))]) (by kernel_rfl) (cj (rng_lt h2) (cj (by omega) (cj (rng_get _ h2) (cj (len_nm _ _) (cj (spec_StripeNo_ok x1.Id (l.length : Int) r2 h4) (cj rfl (cj (len_nm _ _) (cj h5 (cj (od h6) (cj (map_ltN (od h6) h7) (cj rfl (cj (map_get h7) (cj (look_cons_self _ _ _) (cj (map_lt h7) (cj (spec_BookAt_ok (Book.mk x2.Accts) x1.Id r3 h8) (cj (by simp [V.nv, nvL, nvL_all, nv_E3]) (cj h9 (cj (od h6) (cj (map_ltN (od h6) h7) (cj (look_cons_self _ _ _) (cj (map_lt h7) (cj (spec_l09Copy_ok x1 r4 h10) (cj rfl (cj (od h9) (cj (map_ltN (od h9) h11) (cj rfl (cj (map_get h11) (cj (look_cons_self _ _ _) (cj (map_lt h11) (cj rfl (cj (nb_set E54 _ _ r4) (cj (nb_set E124 _ _ (Stripe.mk x2.Owner (x2.Accts.set r3.toNat r4))) (cj1 (rng_next h2 h3)))))))))))))))))))))))))))))))))) (spec_Lay_l0_ok l b h3 t1 (p1 ++ [x1]) (rng_step h2) (v1.set r2.toNat (Stripe.mk x2.Owner (x2.Accts.set r3.toNat r4))))))) (fun h9 =>
           LpO.go [.bit true, .el (E54 x1), .wait 7, .nm 22 (V.sc (.int .i64 (l.length : Int))), .call [] (E3 r2) [], .wait 4, .nm 26 (V.sc (.int .i64 (v1.length : Int))), .bit false, .draw [], .wait 2, .foc 0 r2.toNat (E124 x2), .fo 0, .call [] (E3 r3) [], .bit false, .wait 2, .shut 0, .nb 0 (.row 124 (List.map E124 (v1.set r2.toNat x2)) []), .mask [0, 5, 13, 14, 15], .ren [0], .nm 15 (V.sc (.int .i64 ((p1 ++ [x1]).length : Int)))] (p := [(decide ((p1.length : Int) < (b.Accts.length : Int))) = true,
            (0 : Int) ≤ (p1.length : Int),
            (List.map E54 b.Accts)[(p1.length : Int).toNat]? = some (E54 x1),
            V.sc (.int .i64 ((List.map E124 l).length : Int)) = V.sc (.int .i64 (l.length : Int)),
            Fn Try.prog 109 [(false, E9 x1.Id), (false, E3 (l.length : Int))] (E3 r2) [],
            (true || ((E3 r2).nv && nvL [])) = true,
            V.sc (.int .i64 ((List.map E124 v1).length : Int)) = V.sc (.int .i64 (v1.length : Int)),
            (decide ((v1.length : Int) ≤ r2)) = false,
            (0 : Int) ≤ r2,
            (r2 : Int) < ((List.map E124 v1).length : Int),
            look [] r2.toNat = none,
            (List.map E124 v1)[r2.toNat]? = some (E124 x2),
            look [(r2.toNat, V.agg [V.sc (.int .i64 x2.Owner), V.ow 2])] r2.toNat = some (V.agg [V.sc (.int .i64 x2.Owner), V.ow 2]),
            r2.toNat < (List.map E124 v1).length,
            Fn Try.prog 110 [(false, E41 (Book.mk x2.Accts)), (false, E9 x1.Id)] (E3 r3) [],
            (false || ((E3 r3).nv && nvL [])) = true,
            (decide (0 ≤ r3)) = false,
            Blk.row 124 ((List.map E124 v1).set r2.toNat (V.agg [V.sc (.int .i64 x2.Owner), V.sl true 54 (List.map E54 x2.Accts)])) [] = Blk.row 124 (List.map E124 (v1.set r2.toNat x2)) [],
            V.sc (.int .i64 (i64 ((p1.length : Int) + 1))) = V.sc (.int .i64 ((p1 ++ [x1]).length : Int))]) (by kernel_rfl) (cj (rng_lt h2) (cj (by omega) (cj (rng_get _ h2) (cj (len_nm _ _) (cj (spec_StripeNo_ok x1.Id (l.length : Int) r2 h4) (cj rfl (cj (len_nm _ _) (cj h5 (cj (od h6) (cj (map_ltN (od h6) h7) (cj rfl (cj (map_get h7) (cj (look_cons_self _ _ _) (cj (map_lt h7) (cj (spec_BookAt_ok (Book.mk x2.Accts) x1.Id r3 h8) (cj (by simp [V.nv, nvL, nvL_all, nv_E3]) (cj h9 (cj (nb_set E124 _ _ x2) (cj1 (rng_next h2 h3)))))))))))))))))))) (spec_Lay_l0_ok l b h3 t1 (p1 ++ [x1]) (rng_step h2) (v1.set r2.toNat x2)))))) (fun h6 =>
        Pn.none)))
def spec_Lay (l : List Stripe) (b : Book) : Option ((List Stripe)) :=
 (spec_l13Copy l).bind fun r1 =>
 if (capOk b.Accts.length) = true then
  (spec_Lay_l0 l b b.Accts r1).bind fun r5 =>
  some r5
 else none
theorem spec_Lay_ok (l : List Stripe) (b : Book) : Pn (fun y => Fn Try.prog 54 [(false, E28 l), (false, E41 b)] (E28 y) []) (spec_Lay l b) := by
  unfold spec_Lay
  exact
   Pn.bind (fun r1 h1 =>
    Pn.ite (fun h12 =>
     Pn.bind (fun r5 h13 =>
      Pn.some (Fn.of [.call [] (E28 r1) [], .wait 4, .nm 14 (V.sc (.int .i64 (b.Accts.length : Int))), .wait 2, .mask [0, 5, 13, 14, 15], .ren [1], .loop (X.out 0) (st 50 [(5, V.ow 0)] [Blk.row 124 (List.map E124 r5) []] [])] (p := [Fn Try.prog 102 [(false, E28 l)] (E28 r1) [],
       (true || ((E28 r1).nv && nvL [])) = true,
       V.sc (.int .i64 ((List.map E54 b.Accts).length : Int)) = V.sc (.int .i64 (b.Accts.length : Int)),
       Loop Try.prog (sub (codeOf Try.prog 54) [1, 1, 0, 1, 0, 0]) (st 50 [(0, V.sl false 124 (List.map E124 l)), (5, V.ow 0), (13, V.sl false 54 (List.map E54 b.Accts)), (14, V.sc (.int .i64 (b.Accts.length : Int))), (15, V.sc (.int .i64 0))] [Blk.row 124 (List.map E124 r1) []] []) (X.out 0) (st 50 [(5, V.ow 0)] [Blk.row 124 (List.map E124 r5) []] [])]) (by kernel_rfl) (cj (spec_l13Copy_ok l r1 h1) (cj rfl (cj (len_nm _ _) (cj1 (spec_Lay_l0_ok l b h12 b.Accts [] rfl r1 r5 h13)))))))) (fun h12 =>
     Pn.none))
def impl_Fnv_l0 (s_ : ByteArray) : Nat → Int → Int → Option (Int)
  | 0, _, _ => none
  | n + 1, v1, v2 =>
   if (decide (v2 < (s_.size : Int))) = true then
    if (decide (0 ≤ v2)) = true then
     if (decide ((v2 : Int) < (s_.size : Int))) = true then
      impl_Fnv_l0 s_ n (u32 ((bxor .u32 v1 (u32 (sAt s_ v2))) * 16777619)) (i64 (v2 + 1))
     else none
    else none
   else
    some v1
theorem impl_Fnv_l0_ok (s_ : ByteArray) : ∀ (n : Nat) (v1 : Int) (v2 : Int), Pn (LpO Try.prog (sub (codeOf Try.prog 164) [1, 1, 0, 1, 0, 0]) (st 20 [(0, V.sc (.string s_)), (3, V.sc (.int .u32 v1)), (6, V.sc (.int .i64 (s_.size : Int))), (7, V.sc (.int .i64 v2))] [] []) (fun (y : Int) => (X.out 0, st 20 [(3, V.sc (.int .u32 y))] [] []))) (impl_Fnv_l0 s_ n v1 v2)
  | 0, _, _ => Pn.none
  | n + 1, v1, v2 => by
    unfold impl_Fnv_l0
    exact
     Pn.ite (fun h1 =>
      Pn.ite (fun h2 =>
       Pn.ite (fun h3 =>
        LpO.go [.bit true, .wait 12, .mask [0, 3, 6, 7], .ren []] (p := [(decide (v2 < (s_.size : Int))) = true,
         (0 : Int) ≤ v2,
         (v2 : Int) < s_.size]) (by kernel_rfl) (cj h1 (cj (od h2) (cj1 (od h3)))) (impl_Fnv_l0_ok s_ n (u32 ((bxor .u32 v1 (u32 (sAt s_ v2))) * 16777619)) (i64 (v2 + 1)))) (fun h3 =>
        Pn.none)) (fun h2 =>
       Pn.none)) (fun h1 =>
      Pn.some (LpO.out [.bit false, .mask [3], .ren []] (p := [(decide (v2 < (s_.size : Int))) = false]) (by kernel_rfl) (show X.out 0 ≠ X.go from nofun) (cj1 h1)))
def impl_Fnv (s_ : ByteArray) : Option (Int) :=
 (impl_Fnv_l0 s_ FUEL 2166136261 0).bind fun r1 =>
 some (i64 r1)
theorem impl_Fnv_ok (s_ : ByteArray) : Pn (fun y => Fn Try.prog 164 [(false, E9 s_)] (E3 y) []) (impl_Fnv s_) := by
  unfold impl_Fnv
  exact
   Pn.bind (fun r1 h4 =>
    Pn.some (Fn.of [.wait 6, .mask [0, 3, 6, 7], .ren [], .loop (X.out 0) (st 20 [(3, V.sc (.int .u32 r1))] [] [])] (p := [Loop Try.prog (sub (codeOf Try.prog 164) [1, 1, 0, 1, 0, 0]) (st 20 [(0, V.sc (.string s_)), (3, V.sc (.int .u32 2166136261)), (6, V.sc (.int .i64 (s_.size : Int))), (7, V.sc (.int .i64 0))] [] []) (X.out 0) (st 20 [(3, V.sc (.int .u32 r1))] [] [])]) (by kernel_rfl) (cj1 (impl_Fnv_l0_ok s_ FUEL 2166136261 0 r1 h4))))
def impl_StripeNo (id : ByteArray) (n : Int) : Option (Int) :=
 if (decide (n < 1)) = true then
  some 0
 else
  (impl_Fnv id).bind fun r1 =>
  if (decide (n ≠ 0)) = true then
   some (Int.tmod r1 n)
  else none
theorem impl_StripeNo_ok (id : ByteArray) (n : Int) : Pn (fun y => Fn Try.prog 112 [(false, E9 id), (false, E3 n)] (E3 y) []) (impl_StripeNo id n) := by
  unfold impl_StripeNo
  exact
   Pn.ite (fun h1 =>
    Pn.some (Fn.of [.bit true] (p := [(decide (n < 1)) = true]) (by kernel_rfl) (cj1 h1))) (fun h1 =>
    Pn.bind (fun r1 h2 =>
     Pn.ite (fun h3 =>
      Pn.some (Fn.of [.bit false, .call [] (E3 r1) []] (p := [(decide (n < 1)) = false,
       Fn Try.prog 164 [(false, E9 id)] (E3 r1) [],
       (true || ((E3 r1).nv && nvL [])) = true,
       (n : Int) ≠ 0]) (by kernel_rfl) (cj h1 (cj (impl_Fnv_ok id r1 h2) (cj rfl (cj1 (od h3))))))) (fun h3 =>
      Pn.none)))
def impl_BookAt_1 (a : Acct) (c0_0 : ByteArray) : Option (Bool) :=
 some (a.Id == c0_0)
theorem impl_BookAt_1_ok (a : Acct) (c0_0 : ByteArray) : Pn (fun y => Fn Try.prog 166 [(false, E54 a), (false, V.cp [V.sc (.string c0_0)])] (E4 y) []) (impl_BookAt_1 a c0_0) := by
  unfold impl_BookAt_1
  exact
   Pn.some (Fn.of [] (p := []) (by kernel_rfl) trivial)
def slices_IndexFunc_impl_Acct_impl_BookAt_1_l0 (s_ : List Acct) (f0_0 : ByteArray) : List Acct → List Acct → Option (Lo Unit Int)
  | [], p1 =>
   some (.out ())
  | x1 :: t1, p1 =>
   (impl_BookAt_1 x1 f0_0).bind fun r1 =>
   if r1 = true then
    some (.ret (p1.length : Int))
   else
    slices_IndexFunc_impl_Acct_impl_BookAt_1_l0 s_ f0_0 t1 (p1 ++ [x1])
theorem slices_IndexFunc_impl_Acct_impl_BookAt_1_l0_ok (s_ : List Acct) (f0_0 : ByteArray) (h2 : capOk s_.length = true) : ∀ (t1 p1 : List Acct) (_ : s_ = p1 ++ t1) , Pn (LpO Try.prog (sub (codeOf Try.prog 165) [1, 0, 1, 0, 0]) (st 19 [(0, V.sl false 54 (List.map E54 s_)), (1, V.fn 166 [V.cp [V.sc (.string f0_0)]]), (7, V.sc (.int .i64 (s_.length : Int))), (8, V.sc (.int .i64 (p1.length : Int)))] [] []) (fun (y : Lo Unit Int) => Lo.elim y (fun s => (X.out 0, st 19 [] [] [])) (fun s => (X.ret, st 19 [(4, V.sc (.int .i64 s))] [] [])))) (slices_IndexFunc_impl_Acct_impl_BookAt_1_l0 s_ f0_0 t1 p1)
  | [], p1, h1 => by
    unfold slices_IndexFunc_impl_Acct_impl_BookAt_1_l0
    exact
     Pn.some (LpO.out [.bit false, .mask [], .ren []] (p := [(decide ((p1.length : Int) < (s_.length : Int))) = false]) (by kernel_rfl) (show X.out 0 ≠ X.go from nofun) (cj1 (rng_end h1)))
  | x1 :: t1, p1, h1 => by
    unfold slices_IndexFunc_impl_Acct_impl_BookAt_1_l0
    exact
     Pn.bind (fun r1 h3 =>
      Pn.ite (fun h4 =>
       Pn.some (LpO.out [.bit true, .el (E54 x1), .call [] (E4 r1) [], .bit true, .wait 2, .mask [4], .ren []] (p := [(decide ((p1.length : Int) < (s_.length : Int))) = true,
        (0 : Int) ≤ (p1.length : Int),
        (List.map E54 s_)[(p1.length : Int).toNat]? = some (E54 x1),
        Fn Try.prog 166 [(false, E54 x1), (false, V.cp [V.sc (.string f0_0)])] (E4 r1) [],
        (true || ((E4 r1).nv && nvL [])) = true,
        r1 = true]) (by kernel_rfl) (show X.ret ≠ X.go from nofun) (cj (rng_lt h1) (cj (by omega) (cj (rng_get _ h1) (cj (impl_BookAt_1_ok x1 f0_0 r1 h3) (cj rfl (cj1 h4)))))))) (fun h4 =>
       LpO.go [.bit true, .el (E54 x1), .call [] (E4 r1) [], .bit false, .wait 2, .mask [0, 1, 7, 8], .ren [], .nm 8 (V.sc (.int .i64 ((p1 ++ [x1]).length : Int)))] (p := [(decide ((p1.length : Int) < (s_.length : Int))) = true,
        (0 : Int) ≤ (p1.length : Int),
        (List.map E54 s_)[(p1.length : Int).toNat]? = some (E54 x1),
        Fn Try.prog 166 [(false, E54 x1), (false, V.cp [V.sc (.string f0_0)])] (E4 r1) [],
        (true || ((E4 r1).nv && nvL [])) = true,
        r1 = false,
        V.sc (.int .i64 (i64 ((p1.length : Int) + 1))) = V.sc (.int .i64 ((p1 ++ [x1]).length : Int))]) (by kernel_rfl) (cj (rng_lt h1) (cj (by omega) (cj (rng_get _ h1) (cj (impl_BookAt_1_ok x1 f0_0 r1 h3) (cj rfl (cj h4 (cj1 (rng_next h1 h2)))))))) (slices_IndexFunc_impl_Acct_impl_BookAt_1_l0_ok s_ f0_0 h2 t1 (p1 ++ [x1]) (rng_step h1))))
def slices_IndexFunc_impl_Acct_impl_BookAt_1 (s_ : List Acct) (f0_0 : ByteArray) : Option (Int) :=
 if (capOk s_.length) = true then
  (slices_IndexFunc_impl_Acct_impl_BookAt_1_l0 s_ f0_0 s_ []).bind fun r2 =>
  Lo.elim r2 (fun s1 =>
   some (-1)) (fun s2 =>
   some s2)
 else none
theorem slices_IndexFunc_impl_Acct_impl_BookAt_1_ok (s_ : List Acct) (f0_0 : ByteArray) : Pn (fun y => Fn Try.prog 165 [(false, E39 s_), (false, V.fn 166 [V.cp [V.sc (.string f0_0)]])] (E3 y) []) (slices_IndexFunc_impl_Acct_impl_BookAt_1 s_ f0_0) := by
  unfold slices_IndexFunc_impl_Acct_impl_BookAt_1
  exact
   Pn.ite (fun h5 =>
    Pn.bind (fun r2 h6 =>
     Pn.lo (fun s1 h7 =>
      Pn.some (Fn.of [.wait 3, .nm 7 (V.sc (.int .i64 (s_.length : Int))), .wait 2, .mask [0, 1, 7, 8], .ren [], .loop (X.out 0) (st 19 [] [] [])] (p := [V.sc (.int .i64 ((List.map E54 s_).length : Int)) = V.sc (.int .i64 (s_.length : Int)),
       Loop Try.prog (sub (codeOf Try.prog 165) [1, 0, 1, 0, 0]) (st 19 [(0, V.sl false 54 (List.map E54 s_)), (1, V.fn 166 [V.cp [V.sc (.string f0_0)]]), (7, V.sc (.int .i64 (s_.length : Int))), (8, V.sc (.int .i64 0))] [] []) (X.out 0) (st 19 [] [] [])]) (by kernel_rfl) (cj (len_nm _ _) (cj1 ((slices_IndexFunc_impl_Acct_impl_BookAt_1_l0_ok s_ f0_0 h5 s_ [] rfl r2 h6).at h7))))) (fun s2 h8 =>
      Pn.some (Fn.of [.wait 3, .nm 7 (V.sc (.int .i64 (s_.length : Int))), .wait 2, .mask [0, 1, 7, 8], .ren [], .loop (X.ret) (st 19 [(4, V.sc (.int .i64 s2))] [] [])] (p := [V.sc (.int .i64 ((List.map E54 s_).length : Int)) = V.sc (.int .i64 (s_.length : Int)),
       Loop Try.prog (sub (codeOf Try.prog 165) [1, 0, 1, 0, 0]) (st 19 [(0, V.sl false 54 (List.map E54 s_)), (1, V.fn 166 [V.cp [V.sc (.string f0_0)]]), (7, V.sc (.int .i64 (s_.length : Int))), (8, V.sc (.int .i64 0))] [] []) (X.ret) (st 19 [(4, V.sc (.int .i64 s2))] [] [])]) (by kernel_rfl) (cj (len_nm _ _) (cj1 ((slices_IndexFunc_impl_Acct_impl_BookAt_1_l0_ok s_ f0_0 h5 s_ [] rfl r2 h6).at h8))))))) (fun h5 =>
    Pn.none)
def impl_BookAt (b : Book) (id : ByteArray) : Option (Int) :=
 (slices_IndexFunc_impl_Acct_impl_BookAt_1 b.Accts id).bind fun r1 =>
 some r1
theorem impl_BookAt_ok (b : Book) (id : ByteArray) : Pn (fun y => Fn Try.prog 113 [(false, E41 b), (false, E9 id)] (E3 y) []) (impl_BookAt b id) := by
  unfold impl_BookAt
  exact
   Pn.bind (fun r1 h1 =>
    Pn.some (Fn.of [.call [] (E3 r1) []] (p := [Fn Try.prog 165 [(false, E39 b.Accts), (false, V.fn 166 [V.cp [V.sc (.string id)]])] (E3 r1) [],
     (false || ((E3 r1).nv && nvL [])) = true]) (by kernel_rfl) (cj (slices_IndexFunc_impl_Acct_impl_BookAt_1_ok b.Accts id r1 h1) (cj1 (by simp [V.nv, nvL, nvL_all, nv_E3])))))
def impl_Lay_l0 (l : List Stripe) (b : Book) : List Acct → (List Stripe) → Option ((List Stripe))
  | [], v1 =>
   some v1
  | x1 :: t1, v1 =>
   (impl_StripeNo x1.Id (l.length : Int)).bind fun r2 =>
   if (decide ((v1.length : Int) ≤ r2)) = true then
    impl_Lay_l0 l b t1 v1
   else
    if (decide (0 ≤ r2)) = true then
     (v1[r2.toNat]?).bind fun x2 =>
     (impl_BookAt (Book.mk x2.Accts) x1.Id).bind fun r3 =>
     if (decide (0 ≤ r3)) = true then
      (impl_Acct_copied x1).bind fun r4 =>
      (x2.Accts[r3.toNat]?).bind fun x3 =>
      impl_Lay_l0 l b t1 (v1.set r2.toNat (Stripe.mk x2.Owner (x2.Accts.set r3.toNat r4)))
     else
      impl_Lay_l0 l b t1 (v1.set r2.toNat x2)
    else none
theorem impl_Lay_l0_ok (l : List Stripe) (b : Book) (h3 : capOk b.Accts.length = true) : ∀ (t1 p1 : List Acct) (_ : b.Accts = p1 ++ t1) (v1 : List Stripe), Pn (LpO Try.prog (sub (codeOf Try.prog 55) [1, 1, 0, 1, 0, 0]) (st 50 [(0, V.sl false 124 (List.map E124 l)), (5, V.ow 0), (13, V.sl false 54 (List.map E54 b.Accts)), (14, V.sc (.int .i64 (b.Accts.length : Int))), (15, V.sc (.int .i64 (p1.length : Int)))] [Blk.row 124 (List.map E124 v1) []] []) (fun (y : (List Stripe)) => (X.out 0, st 50 [(5, V.ow 0)] [Blk.row 124 (List.map E124 y) []] []))) (impl_Lay_l0 l b t1 v1)
  | [], p1, h2, v1 => by
    unfold impl_Lay_l0
    exact
     Pn.some (LpO.out [.bit false, .mask [5], .ren [0]] (p := [(decide ((p1.length : Int) < (b.Accts.length : Int))) = false]) (by kernel_rfl) (show X.out 0 ≠ X.go from nofun) (cj1 (rng_end h2)))
  | x1 :: t1, p1, h2, v1 => by
    unfold impl_Lay_l0
    exact
     Pn.bind (fun r2 h4 =>
      Pn.ite (fun h5 =>
       LpO.go [.bit true, .el (E54 x1), .wait 7, .nm 22 (V.sc (.int .i64 (l.length : Int))), .call [] (E3 r2) [], .wait 4, .nm 26 (V.sc (.int .i64 (v1.length : Int))), .bit true, .wait 2, .mask [0, 5, 13, 14, 15], .ren [0], .nm 15 (V.sc (.int .i64 ((p1 ++ [x1]).length : Int)))] (p := [(decide ((p1.length : Int) < (b.Accts.length : Int))) = true,
        (0 : Int) ≤ (p1.length : Int),
        (List.map E54 b.Accts)[(p1.length : Int).toNat]? = some (E54 x1),
        V.sc (.int .i64 ((List.map E124 l).length : Int)) = V.sc (.int .i64 (l.length : Int)),
        Fn Try.prog 112 [(false, E9 x1.Id), (false, E3 (l.length : Int))] (E3 r2) [],
        (true || ((E3 r2).nv && nvL [])) = true,
        V.sc (.int .i64 ((List.map E124 v1).length : Int)) = V.sc (.int .i64 (v1.length : Int)),
        (decide ((v1.length : Int) ≤ r2)) = true,
        V.sc (.int .i64 (i64 ((p1.length : Int) + 1))) = V.sc (.int .i64 ((p1 ++ [x1]).length : Int))]) (by kernel_rfl) (cj (rng_lt h2) (cj (by omega) (cj (rng_get _ h2) (cj (len_nm _ _) (cj (impl_StripeNo_ok x1.Id (l.length : Int) r2 h4) (cj rfl (cj (len_nm _ _) (cj h5 (cj1 (rng_next h2 h3)))))))))) (impl_Lay_l0_ok l b h3 t1 (p1 ++ [x1]) (rng_step h2) v1)) (fun h5 =>
       Pn.ite (fun h6 =>
        Pn.bind (fun x2 h7 =>
         Pn.bind (fun r3 h8 =>
          Pn.ite (fun h9 =>
           Pn.bind (fun r4 h10 =>
            Pn.bind (fun x3 h11 =>
             LpO.go [.bit true, .el (E54 x1), .wait 7, .nm 22 (V.sc (.int .i64 (l.length : Int))), .call [] (E3 r2) [], .wait 4, .nm 26 (V.sc (.int .i64 (v1.length : Int))), .bit false, .draw [], .wait 2, .foc 0 r2.toNat (E124 x2), .fo 0, .call [] (E3 r3) [], .bit true, .draw [9], .fo 0, .call [] (E54 r4) [], .wait 1, .foc 2 r3.toNat (E54 x3), .fo 0, .wait 3, .shut 2, .nb 2 (.row 54 (List.map E54 (x2.Accts.set r3.toNat r4)) []), .shut 0, .nb 0 (.row 124 (List.map E124 (v1.set r2.toNat (Stripe.mk x2.Owner (x2.Accts.set r3.toNat r4)))) []), .mask [0, 5, 13, 14, 15], .ren [0], .nm 15 (V.sc (.int .i64 ((p1 ++ [x1]).length : Int)))] (p := [(decide ((p1.length : Int) < (b.Accts.length : Int))) = true,
              (0 : Int) ≤ (p1.length : Int),
              (List.map E54 b.Accts)[(p1.length : Int).toNat]? = some (E54 x1),
              V.sc (.int .i64 ((List.map E124 l).length : Int)) = V.sc (.int .i64 (l.length : Int)),
              Fn Try.prog 112 [(false, E9 x1.Id), (false, E3 (l.length : Int))] (E3 r2) [],
              (true || ((E3 r2).nv && nvL [])) = true,
              V.sc (.int .i64 ((List.map E124 v1).length : Int)) = V.sc (.int .i64 (v1.length : Int)),
              (decide ((v1.length : Int) ≤ r2)) = false,
              (0 : Int) ≤ r2,
              (r2 : Int) < ((List.map E124 v1).length : Int),
              look [] r2.toNat = none,
              (List.map E124 v1)[r2.toNat]? = some (E124 x2),
              look [(r2.toNat, V.agg [V.sc (.int .i64 x2.Owner), V.ow 2])] r2.toNat = some (V.agg [V.sc (.int .i64 x2.Owner), V.ow 2]),
              r2.toNat < (List.map E124 v1).length,
              Fn Try.prog 113 [(false, E41 (Book.mk x2.Accts)), (false, E9 x1.Id)] (E3 r3) [],
              (false || ((E3 r3).nv && nvL [])) = true,
              (decide (0 ≤ r3)) = true,
              (0 : Int) ≤ r2,
              (r2 : Int) < ((List.map E124 v1).length : Int),
              look [(r2.toNat, V.agg [V.sc (.int .i64 x2.Owner), V.ow 2])] r2.toNat = some (V.agg [V.sc (.int .i64 x2.Owner), V.ow 2]),
              r2.toNat < (List.map E124 v1).length,
              Fn Try.prog 71 [(false, E54 x1)] (E54 r4) [],
              (true || ((E54 r4).nv && nvL [])) = true,
              (0 : Int) ≤ r3,
              (r3 : Int) < ((List.map E54 x2.Accts).length : Int),
              look [] r3.toNat = none,
              (List.map E54 x2.Accts)[r3.toNat]? = some (E54 x3),
              look [(r3.toNat, V.agg [V.sc (.string x3.Id), V.sc (.int .i64 x3.Limit), V.sc (.int .i64 x3.Posted), V.sc (.int .i64 x3.Most), V.sc (.int .i64 x3.MostSum), V.ow 7, V.sc (.int .i64 x3.Ring.Span), V.sc (.int .i64 x3.Ring.Head), V.ow 8, V.ow 9, V.ow 10])] r3.toNat = some (V.agg [V.sc (.string x3.Id), V.sc (.int .i64 x3.Limit), V.sc (.int .i64 x3.Posted), V.sc (.int .i64 x3.Most), V.sc (.int .i64 x3.MostSum), V.ow 7, V.sc (.int .i64 x3.Ring.Span), V.sc (.int .i64 x3.Ring.Head), V.ow 8, V.ow 9, V.ow 10]),
              r3.toNat < (List.map E54 x2.Accts).length,
              r3.toNat = r3.toNat,
              Blk.row 54 ((List.map E54 x2.Accts).set r3.toNat (V.agg [V.sc (.string r4.Id), V.sc (.int .i64 r4.Limit), V.sc (.int .i64 r4.Posted), V.sc (.int .i64 r4.Most), V.sc (.int .i64 r4.MostSum), V.sl true 61 (List.map E61 r4.Holds), V.sc (.int .i64 r4.Ring.Span), V.sc (.int .i64 r4.Ring.Head), V.sl true 3 (List.map E3 r4.Ring.Counts), V.sl true 3 (List.map E3 r4.Ring.Sums), V.sl true 177 (List.map E177 r4.Slots)])) [] = Blk.row 54 (List.map E54 (x2.Accts.set r3.toNat r4)) [],
              Blk.row 124 ((List.map E124 v1).set r2.toNat (V.agg [V.sc (.int .i64 x2.Owner), V.sl true 54 (List.map E54 (x2.Accts.set r3.toNat r4))])) [] = Blk.row 124 (List.map E124 (v1.set r2.toNat (Stripe.mk x2.Owner (x2.Accts.set r3.toNat r4)))) [],
              V.sc (.int .i64 (i64 ((p1.length : Int) + 1))) = V.sc (.int .i64 ((p1 ++ [x1]).length : Int))]) (by kernel_rfl) (cj (rng_lt h2) (cj (by omega) (cj (rng_get _ h2) (cj (len_nm _ _) (cj (impl_StripeNo_ok x1.Id (l.length : Int) r2 h4) (cj rfl (cj (len_nm _ _) (cj h5 (cj (od h6) (cj (map_ltN (od h6) h7) (cj rfl (cj (map_get h7) (cj (look_cons_self _ _ _) (cj (map_lt h7) (cj (impl_BookAt_ok (Book.mk x2.Accts) x1.Id r3 h8) (cj (by simp [V.nv, nvL, nvL_all, nv_E3]) (cj h9 (cj (od h6) (cj (map_ltN (od h6) h7) (cj (look_cons_self _ _ _) (cj (map_lt h7) (cj (impl_Acct_copied_ok x1 r4 h10) (cj rfl (cj (od h9) (cj (map_ltN (od h9) h11) (cj rfl (cj (map_get h11) (cj (look_cons_self _ _ _) (cj (map_lt h11) (cj rfl (cj (nb_set E54 _ _ r4) (cj (nb_set E124 _ _ (Stripe.mk x2.Owner (x2.Accts.set r3.toNat r4))) (cj1 (rng_next h2 h3)))))))))))))))))))))))))))))))))) (impl_Lay_l0_ok l b h3 t1 (p1 ++ [x1]) (rng_step h2) (v1.set r2.toNat (Stripe.mk x2.Owner (x2.Accts.set r3.toNat r4))))))) (fun h9 =>
           LpO.go [.bit true, .el (E54 x1), .wait 7, .nm 22 (V.sc (.int .i64 (l.length : Int))), .call [] (E3 r2) [], .wait 4, .nm 26 (V.sc (.int .i64 (v1.length : Int))), .bit false, .draw [], .wait 2, .foc 0 r2.toNat (E124 x2), .fo 0, .call [] (E3 r3) [], .bit false, .wait 2, .shut 0, .nb 0 (.row 124 (List.map E124 (v1.set r2.toNat x2)) []), .mask [0, 5, 13, 14, 15], .ren [0], .nm 15 (V.sc (.int .i64 ((p1 ++ [x1]).length : Int)))] (p := [(decide ((p1.length : Int) < (b.Accts.length : Int))) = true,
            (0 : Int) ≤ (p1.length : Int),
            (List.map E54 b.Accts)[(p1.length : Int).toNat]? = some (E54 x1),
            V.sc (.int .i64 ((List.map E124 l).length : Int)) = V.sc (.int .i64 (l.length : Int)),
            Fn Try.prog 112 [(false, E9 x1.Id), (false, E3 (l.length : Int))] (E3 r2) [],
            (true || ((E3 r2).nv && nvL [])) = true,
            V.sc (.int .i64 ((List.map E124 v1).length : Int)) = V.sc (.int .i64 (v1.length : Int)),
            (decide ((v1.length : Int) ≤ r2)) = false,
            (0 : Int) ≤ r2,
            (r2 : Int) < ((List.map E124 v1).length : Int),
            look [] r2.toNat = none,
            (List.map E124 v1)[r2.toNat]? = some (E124 x2),
            look [(r2.toNat, V.agg [V.sc (.int .i64 x2.Owner), V.ow 2])] r2.toNat = some (V.agg [V.sc (.int .i64 x2.Owner), V.ow 2]),
            r2.toNat < (List.map E124 v1).length,
            Fn Try.prog 113 [(false, E41 (Book.mk x2.Accts)), (false, E9 x1.Id)] (E3 r3) [],
            (false || ((E3 r3).nv && nvL [])) = true,
            (decide (0 ≤ r3)) = false,
            Blk.row 124 ((List.map E124 v1).set r2.toNat (V.agg [V.sc (.int .i64 x2.Owner), V.sl true 54 (List.map E54 x2.Accts)])) [] = Blk.row 124 (List.map E124 (v1.set r2.toNat x2)) [],
            V.sc (.int .i64 (i64 ((p1.length : Int) + 1))) = V.sc (.int .i64 ((p1 ++ [x1]).length : Int))]) (by kernel_rfl) (cj (rng_lt h2) (cj (by omega) (cj (rng_get _ h2) (cj (len_nm _ _) (cj (impl_StripeNo_ok x1.Id (l.length : Int) r2 h4) (cj rfl (cj (len_nm _ _) (cj h5 (cj (od h6) (cj (map_ltN (od h6) h7) (cj rfl (cj (map_get h7) (cj (look_cons_self _ _ _) (cj (map_lt h7) (cj (impl_BookAt_ok (Book.mk x2.Accts) x1.Id r3 h8) (cj (by simp [V.nv, nvL, nvL_all, nv_E3]) (cj h9 (cj (nb_set E124 _ _ x2) (cj1 (rng_next h2 h3)))))))))))))))))))) (impl_Lay_l0_ok l b h3 t1 (p1 ++ [x1]) (rng_step h2) (v1.set r2.toNat x2)))))) (fun h6 =>
        Pn.none)))
def impl_Lay (l : List Stripe) (b : Book) : Option ((List Stripe)) :=
 (impl_copyStripes l).bind fun r1 =>
 if (capOk b.Accts.length) = true then
  (impl_Lay_l0 l b b.Accts r1).bind fun r5 =>
  some r5
 else none
theorem impl_Lay_ok (l : List Stripe) (b : Book) : Pn (fun y => Fn Try.prog 55 [(false, E28 l), (false, E41 b)] (E28 y) []) (impl_Lay l b) := by
  unfold impl_Lay
  exact
   Pn.bind (fun r1 h1 =>
    Pn.ite (fun h12 =>
     Pn.bind (fun r5 h13 =>
      Pn.some (Fn.of [.call [] (E28 r1) [], .wait 4, .nm 14 (V.sc (.int .i64 (b.Accts.length : Int))), .wait 2, .mask [0, 5, 13, 14, 15], .ren [1], .loop (X.out 0) (st 50 [(5, V.ow 0)] [Blk.row 124 (List.map E124 r5) []] [])] (p := [Fn Try.prog 111 [(false, E28 l)] (E28 r1) [],
       (true || ((E28 r1).nv && nvL [])) = true,
       V.sc (.int .i64 ((List.map E54 b.Accts).length : Int)) = V.sc (.int .i64 (b.Accts.length : Int)),
       Loop Try.prog (sub (codeOf Try.prog 55) [1, 1, 0, 1, 0, 0]) (st 50 [(0, V.sl false 124 (List.map E124 l)), (5, V.ow 0), (13, V.sl false 54 (List.map E54 b.Accts)), (14, V.sc (.int .i64 (b.Accts.length : Int))), (15, V.sc (.int .i64 0))] [Blk.row 124 (List.map E124 r1) []] []) (X.out 0) (st 50 [(5, V.ow 0)] [Blk.row 124 (List.map E124 r5) []] [])]) (by kernel_rfl) (cj (impl_copyStripes_ok l r1 h1) (cj rfl (cj (len_nm _ _) (cj1 (impl_Lay_l0_ok l b h12 b.Accts [] rfl r1 r5 h13)))))))) (fun h12 =>
     Pn.none))
def laws_FnExactLay (o : List Stripe) (o_ : Book) : Option (Bool) :=
 (laws_szStripeS o 1048576).bind fun r1 =>
 if (decide (r1 < 0)) = true then
  some true
 else
  (laws_szBook o_ r1).bind fun r2 =>
  if (decide (r2 < 0)) = true then
   some true
  else
   (laws_toStripeS o).bind fun r3 =>
   (laws_toBook o_).bind fun r4 =>
   (spec_Lay r3 (Book.mk r4.Accts)).bind fun r5 =>
   (laws_toStripeS o).bind fun r6 =>
   (laws_toBook o_).bind fun r7 =>
   (impl_Lay r6 r7).bind fun r8 =>
   (laws_eqStripeS r8 r5).bind fun r9 =>
   if r9 = true then
    (laws_toStripeS o).bind fun r10 =>
    (laws_eqStripeS r6 r10).bind fun r11 =>
    if r11 = true then
     (laws_toBook o_).bind fun r12 =>
     (laws_eqBook r7 r12).bind fun r13 =>
     if r13 = true then
      (laws_markStripeS r6 1).bind fun r14 =>
      (laws_markBook r7 r14.1).bind fun r15 =>
      if (decide (r15.1 < 0)) = true then
       some false
      else
       (laws_eqStripeS r8 r5).bind fun r16 =>
       if r16 = true then
        (laws_markStripeS r8 1).bind fun r17 =>
        (laws_heldStripeS r17.2 1).bind fun r18 =>
        if (decide (r18 < 0)) = true then
         some false
        else
         if (r18 != r17.1) = true then
          some false
         else
          (laws_toStripeS o).bind fun r19 =>
          (laws_toBook o_).bind fun r20 =>
          (impl_Lay r19 r20).bind fun r21 =>
          (laws_eqStripeS r21 r5).bind fun r22 =>
          if r22 = true then
           (laws_heldStripeS r17.2 1).bind fun r23 =>
           if (decide (r23 < 0)) = true then
            some false
           else
            if (r23 != r17.1) = true then
             some false
            else
             some true
          else
           some false
       else
        some false
     else
      some false
    else
     some false
   else
    some false
theorem laws_FnExactLay_ok (o : List Stripe) (o_ : Book) : Pn (fun y => Fn Try.prog 11 [(false, E22 o), (false, E37 o_)] (E4 y) []) (laws_FnExactLay o o_) := by
  unfold laws_FnExactLay
  exact
   Pn.bind (fun r1 h1 =>
    Pn.ite (fun h2 =>
     Pn.some (Fn.of [.call [] (E3 r1) [], .bit true] (p := [Fn Try.prog 42 [(false, E22 o), (false, E3 1048576)] (E3 r1) [],
      (true || ((E3 r1).nv && nvL [])) = true,
      (decide (r1 < 0)) = true]) (by kernel_rfl) (cj (laws_szStripeS_ok o 1048576 r1 h1) (cj rfl (cj1 h2))))) (fun h2 =>
     Pn.bind (fun r2 h3 =>
      Pn.ite (fun h4 =>
       Pn.some (Fn.of [.call [] (E3 r1) [], .bit false, .call [] (E3 r2) [], .bit true] (p := [Fn Try.prog 42 [(false, E22 o), (false, E3 1048576)] (E3 r1) [],
        (true || ((E3 r1).nv && nvL [])) = true,
        (decide (r1 < 0)) = false,
        Fn Try.prog 18 [(false, E37 o_), (false, E3 r1)] (E3 r2) [],
        (true || ((E3 r2).nv && nvL [])) = true,
        (decide (r2 < 0)) = true]) (by kernel_rfl) (cj (laws_szStripeS_ok o 1048576 r1 h1) (cj rfl (cj h2 (cj (laws_szBook_ok o_ r1 r2 h3) (cj rfl (cj1 h4)))))))) (fun h4 =>
       Pn.bind (fun r3 h5 =>
        Pn.bind (fun r4 h6 =>
         Pn.bind (fun r5 h7 =>
          Pn.bind (fun r6 h8 =>
           Pn.bind (fun r7 h9 =>
            Pn.bind (fun r8 h10 =>
             Pn.bind (fun r9 h11 =>
              Pn.ite (fun h12 =>
               Pn.bind (fun r10 h13 =>
                Pn.bind (fun r11 h14 =>
                 Pn.ite (fun h15 =>
                  Pn.bind (fun r12 h16 =>
                   Pn.bind (fun r13 h17 =>
                    Pn.ite (fun h18 =>
                     Pn.bind (fun r14 h19 =>
                      Pn.bind (fun r15 h20 =>
                       Pn.ite (fun h21 =>
                        Pn.some (Fn.of [.call [] (E3 r1) [], .bit false, .call [] (E3 r2) [], .bit false, .draw [], .call [] (E28 r3) [], .call [] (E41 r4) [], .call [] (E28 r5) [], .call [] (E28 r6) [], .call [] (E41 r7) [], .call [] (E28 r8) [], .call [] (E4 r9) [], .bit false, .call [] (E28 r10) [], .call [] (E4 r11) [], .bit false, .draw [], .call [] (E41 r12) [], .call [] (E4 r13) [], .bit false, .call [true, false] (E3 r14.1) [V.sl true 124 (List.map E124 r14.2)], .call [true, false] (E3 r15.1) [V.sl true 54 (List.map E54 r15.2)], .bit true, .bit true, .bit true, .bit true, .bit true, .bit true] (p := [Fn Try.prog 42 [(false, E22 o), (false, E3 1048576)] (E3 r1) [],
                         (true || ((E3 r1).nv && nvL [])) = true,
                         (decide (r1 < 0)) = false,
                         Fn Try.prog 18 [(false, E37 o_), (false, E3 r1)] (E3 r2) [],
                         (true || ((E3 r2).nv && nvL [])) = true,
                         (decide (r2 < 0)) = false,
                         Fn Try.prog 44 [(false, E22 o)] (E28 r3) [],
                         (true || ((E28 r3).nv && nvL [])) = true,
                         Fn Try.prog 20 [(false, E37 o_)] (E41 r4) [],
                         (true || ((E41 r4).nv && nvL [])) = true,
                         Fn Try.prog 54 [(false, E28 r3), (false, E41 (Book.mk r4.Accts))] (E28 r5) [],
                         (false || ((E28 r5).nv && nvL [])) = true,
                         Fn Try.prog 44 [(false, E22 o)] (E28 r6) [],
                         (true || ((E28 r6).nv && nvL [])) = true,
                         Fn Try.prog 20 [(false, E37 o_)] (E41 r7) [],
                         (true || ((E41 r7).nv && nvL [])) = true,
                         Fn Try.prog 55 [(false, E28 r6), (false, E41 r7)] (E28 r8) [],
                         (false || ((E28 r8).nv && nvL [])) = true,
                         Fn Try.prog 46 [(false, E28 r8), (false, E28 r5)] (E4 r9) [],
                         (false || ((E4 r9).nv && nvL [])) = true,
                         (!r9) = false,
                         Fn Try.prog 44 [(false, E22 o)] (E28 r10) [],
                         (true || ((E28 r10).nv && nvL [])) = true,
                         Fn Try.prog 46 [(false, E28 r6), (false, E28 r10)] (E4 r11) [],
                         (false || ((E4 r11).nv && nvL [])) = true,
                         (!r11) = false,
                         Fn Try.prog 20 [(false, E37 o_)] (E41 r12) [],
                         (true || ((E41 r12).nv && nvL [])) = true,
                         Fn Try.prog 22 [(false, E41 r7), (false, E41 r12)] (E4 r13) [],
                         (false || ((E4 r13).nv && nvL [])) = true,
                         (!r13) = false,
                         Fn Try.prog 47 [(true, E28 r6), (false, E3 1)] (E3 r14.1) [V.sl true 124 (List.map E124 r14.2)],
                         (true || ((E3 r14.1).nv && nvL [V.sl true 124 (List.map E124 r14.2)])) = true,
                         Fn Try.prog 23 [(true, E41 r7), (false, E3 r14.1)] (E3 r15.1) [V.sl true 54 (List.map E54 r15.2)],
                         (true || ((E3 r15.1).nv && nvL [V.sl true 54 (List.map E54 r15.2)])) = true,
                         (decide (r15.1 < 0)) = true,
                         (decide (r15.1 < 0)) = true,
                         (decide (r15.1 < 0)) = true,
                         (decide (r15.1 < 0)) = true,
                         (decide (r15.1 < 0)) = true,
                         true = true]) (by kernel_rfl) (cj (laws_szStripeS_ok o 1048576 r1 h1) (cj rfl (cj h2 (cj (laws_szBook_ok o_ r1 r2 h3) (cj rfl (cj h4 (cj (laws_toStripeS_ok o r3 h5) (cj rfl (cj (laws_toBook_ok o_ r4 h6) (cj rfl (cj (spec_Lay_ok r3 (Book.mk r4.Accts) r5 h7) (cj (by simp [V.nv, nvL, nvL_all, nv_E3, nv_E5, nv_E9, nv_E28, nv_E39, nv_E47, nv_E48, nv_E49, nv_E51, nv_E52, nv_E54, nv_E61, nv_E124, nv_E177]) (cj (laws_toStripeS_ok o r6 h8) (cj rfl (cj (laws_toBook_ok o_ r7 h9) (cj rfl (cj (impl_Lay_ok r6 r7 r8 h10) (cj (by simp [V.nv, nvL, nvL_all, nv_E3, nv_E5, nv_E9, nv_E28, nv_E39, nv_E47, nv_E48, nv_E49, nv_E51, nv_E52, nv_E54, nv_E61, nv_E124, nv_E177]) (cj (laws_eqStripeS_ok r8 r5 r9 h11) (cj (by simp [V.nv, nvL, nvL_all, nv_E4]) (cj (nf h12) (cj (laws_toStripeS_ok o r10 h13) (cj rfl (cj (laws_eqStripeS_ok r6 r10 r11 h14) (cj (by simp [V.nv, nvL, nvL_all, nv_E4]) (cj (nf h15) (cj (laws_toBook_ok o_ r12 h16) (cj rfl (cj (laws_eqBook_ok r7 r12 r13 h17) (cj (by simp [V.nv, nvL, nvL_all, nv_E4]) (cj (nf h18) (cj (laws_markStripeS_ok r6 1 r14 h19) (cj rfl (cj (laws_markBook_ok r7 r14.1 r15 h20) (cj rfl (cj h21 (cj h21 (cj h21 (cj h21 (cj h21 (cj1 rfl))))))))))))))))))))))))))))))))))))))))))) (fun h21 =>
                        Pn.bind (fun r16 h22 =>
                         Pn.ite (fun h23 =>
                          Pn.bind (fun r17 h24 =>
                           Pn.bind (fun r18 h25 =>
                            Pn.ite (fun h26 =>
                             Pn.some (Fn.of [.call [] (E3 r1) [], .bit false, .call [] (E3 r2) [], .bit false, .draw [], .call [] (E28 r3) [], .call [] (E41 r4) [], .call [] (E28 r5) [], .call [] (E28 r6) [], .call [] (E41 r7) [], .call [] (E28 r8) [], .call [] (E4 r9) [], .bit false, .call [] (E28 r10) [], .call [] (E4 r11) [], .bit false, .draw [], .call [] (E41 r12) [], .call [] (E4 r13) [], .bit false, .call [true, false] (E3 r14.1) [V.sl true 124 (List.map E124 r14.2)], .call [true, false] (E3 r15.1) [V.sl true 54 (List.map E54 r15.2)], .bit false, .bit false, .bit false, .call [] (E4 r16) [], .bit false, .bit false, .bit false, .call [true, false] (E3 r17.1) [V.sl true 124 (List.map E124 r17.2)], .call [] (E3 r18) [], .bit true] (p := [Fn Try.prog 42 [(false, E22 o), (false, E3 1048576)] (E3 r1) [],
                              (true || ((E3 r1).nv && nvL [])) = true,
                              (decide (r1 < 0)) = false,
                              Fn Try.prog 18 [(false, E37 o_), (false, E3 r1)] (E3 r2) [],
                              (true || ((E3 r2).nv && nvL [])) = true,
                              (decide (r2 < 0)) = false,
                              Fn Try.prog 44 [(false, E22 o)] (E28 r3) [],
                              (true || ((E28 r3).nv && nvL [])) = true,
                              Fn Try.prog 20 [(false, E37 o_)] (E41 r4) [],
                              (true || ((E41 r4).nv && nvL [])) = true,
                              Fn Try.prog 54 [(false, E28 r3), (false, E41 (Book.mk r4.Accts))] (E28 r5) [],
                              (false || ((E28 r5).nv && nvL [])) = true,
                              Fn Try.prog 44 [(false, E22 o)] (E28 r6) [],
                              (true || ((E28 r6).nv && nvL [])) = true,
                              Fn Try.prog 20 [(false, E37 o_)] (E41 r7) [],
                              (true || ((E41 r7).nv && nvL [])) = true,
                              Fn Try.prog 55 [(false, E28 r6), (false, E41 r7)] (E28 r8) [],
                              (false || ((E28 r8).nv && nvL [])) = true,
                              Fn Try.prog 46 [(false, E28 r8), (false, E28 r5)] (E4 r9) [],
                              (false || ((E4 r9).nv && nvL [])) = true,
                              (!r9) = false,
                              Fn Try.prog 44 [(false, E22 o)] (E28 r10) [],
                              (true || ((E28 r10).nv && nvL [])) = true,
                              Fn Try.prog 46 [(false, E28 r6), (false, E28 r10)] (E4 r11) [],
                              (false || ((E4 r11).nv && nvL [])) = true,
                              (!r11) = false,
                              Fn Try.prog 20 [(false, E37 o_)] (E41 r12) [],
                              (true || ((E41 r12).nv && nvL [])) = true,
                              Fn Try.prog 22 [(false, E41 r7), (false, E41 r12)] (E4 r13) [],
                              (false || ((E4 r13).nv && nvL [])) = true,
                              (!r13) = false,
                              Fn Try.prog 47 [(true, E28 r6), (false, E3 1)] (E3 r14.1) [V.sl true 124 (List.map E124 r14.2)],
                              (true || ((E3 r14.1).nv && nvL [V.sl true 124 (List.map E124 r14.2)])) = true,
                              Fn Try.prog 23 [(true, E41 r7), (false, E3 r14.1)] (E3 r15.1) [V.sl true 54 (List.map E54 r15.2)],
                              (true || ((E3 r15.1).nv && nvL [V.sl true 54 (List.map E54 r15.2)])) = true,
                              (decide (r15.1 < 0)) = false,
                              (decide (r15.1 < 0)) = false,
                              (decide (r15.1 < 0)) = false,
                              Fn Try.prog 46 [(false, E28 r8), (false, E28 r5)] (E4 r16) [],
                              (false || ((E4 r16).nv && nvL [])) = true,
                              (decide (r15.1 < 0)) = false,
                              (decide (r15.1 < 0)) = false,
                              (!r16) = false,
                              Fn Try.prog 47 [(true, E28 r8), (false, E3 1)] (E3 r17.1) [V.sl true 124 (List.map E124 r17.2)],
                              (true || ((E3 r17.1).nv && nvL [V.sl true 124 (List.map E124 r17.2)])) = true,
                              Fn Try.prog 48 [(false, E28 r17.2), (false, E3 1)] (E3 r18) [],
                              (false || ((E3 r18).nv && nvL [])) = true,
                              (decide (r18 < 0)) = true]) (by kernel_rfl) (cj (laws_szStripeS_ok o 1048576 r1 h1) (cj rfl (cj h2 (cj (laws_szBook_ok o_ r1 r2 h3) (cj rfl (cj h4 (cj (laws_toStripeS_ok o r3 h5) (cj rfl (cj (laws_toBook_ok o_ r4 h6) (cj rfl (cj (spec_Lay_ok r3 (Book.mk r4.Accts) r5 h7) (cj (by simp [V.nv, nvL, nvL_all, nv_E3, nv_E5, nv_E9, nv_E28, nv_E39, nv_E47, nv_E48, nv_E49, nv_E51, nv_E52, nv_E54, nv_E61, nv_E124, nv_E177]) (cj (laws_toStripeS_ok o r6 h8) (cj rfl (cj (laws_toBook_ok o_ r7 h9) (cj rfl (cj (impl_Lay_ok r6 r7 r8 h10) (cj (by simp [V.nv, nvL, nvL_all, nv_E3, nv_E5, nv_E9, nv_E28, nv_E39, nv_E47, nv_E48, nv_E49, nv_E51, nv_E52, nv_E54, nv_E61, nv_E124, nv_E177]) (cj (laws_eqStripeS_ok r8 r5 r9 h11) (cj (by simp [V.nv, nvL, nvL_all, nv_E4]) (cj (nf h12) (cj (laws_toStripeS_ok o r10 h13) (cj rfl (cj (laws_eqStripeS_ok r6 r10 r11 h14) (cj (by simp [V.nv, nvL, nvL_all, nv_E4]) (cj (nf h15) (cj (laws_toBook_ok o_ r12 h16) (cj rfl (cj (laws_eqBook_ok r7 r12 r13 h17) (cj (by simp [V.nv, nvL, nvL_all, nv_E4]) (cj (nf h18) (cj (laws_markStripeS_ok r6 1 r14 h19) (cj rfl (cj (laws_markBook_ok r7 r14.1 r15 h20) (cj rfl (cj h21 (cj h21 (cj h21 (cj (laws_eqStripeS_ok r8 r5 r16 h22) (cj (by simp [V.nv, nvL, nvL_all, nv_E4]) (cj h21 (cj h21 (cj (nf h23) (cj (laws_markStripeS_ok r8 1 r17 h24) (cj rfl (cj (laws_heldStripeS_ok r17.2 1 r18 h25) (cj (by simp [V.nv, nvL, nvL_all, nv_E3]) (cj1 h26)))))))))))))))))))))))))))))))))))))))))))))))))) (fun h26 =>
                             Pn.ite (fun h27 =>
                              Pn.some (Fn.of [.call [] (E3 r1) [], .bit false, .call [] (E3 r2) [], .bit false, .draw [], .call [] (E28 r3) [], .call [] (E41 r4) [], .call [] (E28 r5) [], .call [] (E28 r6) [], .call [] (E41 r7) [], .call [] (E28 r8) [], .call [] (E4 r9) [], .bit false, .call [] (E28 r10) [], .call [] (E4 r11) [], .bit false, .draw [], .call [] (E41 r12) [], .call [] (E4 r13) [], .bit false, .call [true, false] (E3 r14.1) [V.sl true 124 (List.map E124 r14.2)], .call [true, false] (E3 r15.1) [V.sl true 54 (List.map E54 r15.2)], .bit false, .bit false, .bit false, .call [] (E4 r16) [], .bit false, .bit false, .bit false, .call [true, false] (E3 r17.1) [V.sl true 124 (List.map E124 r17.2)], .call [] (E3 r18) [], .bit false, .bit true] (p := [Fn Try.prog 42 [(false, E22 o), (false, E3 1048576)] (E3 r1) [],
                               (true || ((E3 r1).nv && nvL [])) = true,
                               (decide (r1 < 0)) = false,
                               Fn Try.prog 18 [(false, E37 o_), (false, E3 r1)] (E3 r2) [],
                               (true || ((E3 r2).nv && nvL [])) = true,
                               (decide (r2 < 0)) = false,
                               Fn Try.prog 44 [(false, E22 o)] (E28 r3) [],
                               (true || ((E28 r3).nv && nvL [])) = true,
                               Fn Try.prog 20 [(false, E37 o_)] (E41 r4) [],
                               (true || ((E41 r4).nv && nvL [])) = true,
                               Fn Try.prog 54 [(false, E28 r3), (false, E41 (Book.mk r4.Accts))] (E28 r5) [],
                               (false || ((E28 r5).nv && nvL [])) = true,
                               Fn Try.prog 44 [(false, E22 o)] (E28 r6) [],
                               (true || ((E28 r6).nv && nvL [])) = true,
                               Fn Try.prog 20 [(false, E37 o_)] (E41 r7) [],
                               (true || ((E41 r7).nv && nvL [])) = true,
                               Fn Try.prog 55 [(false, E28 r6), (false, E41 r7)] (E28 r8) [],
                               (false || ((E28 r8).nv && nvL [])) = true,
                               Fn Try.prog 46 [(false, E28 r8), (false, E28 r5)] (E4 r9) [],
                               (false || ((E4 r9).nv && nvL [])) = true,
                               (!r9) = false,
                               Fn Try.prog 44 [(false, E22 o)] (E28 r10) [],
                               (true || ((E28 r10).nv && nvL [])) = true,
                               Fn Try.prog 46 [(false, E28 r6), (false, E28 r10)] (E4 r11) [],
                               (false || ((E4 r11).nv && nvL [])) = true,
                               (!r11) = false,
                               Fn Try.prog 20 [(false, E37 o_)] (E41 r12) [],
                               (true || ((E41 r12).nv && nvL [])) = true,
                               Fn Try.prog 22 [(false, E41 r7), (false, E41 r12)] (E4 r13) [],
                               (false || ((E4 r13).nv && nvL [])) = true,
                               (!r13) = false,
                               Fn Try.prog 47 [(true, E28 r6), (false, E3 1)] (E3 r14.1) [V.sl true 124 (List.map E124 r14.2)],
                               (true || ((E3 r14.1).nv && nvL [V.sl true 124 (List.map E124 r14.2)])) = true,
                               Fn Try.prog 23 [(true, E41 r7), (false, E3 r14.1)] (E3 r15.1) [V.sl true 54 (List.map E54 r15.2)],
                               (true || ((E3 r15.1).nv && nvL [V.sl true 54 (List.map E54 r15.2)])) = true,
                               (decide (r15.1 < 0)) = false,
                               (decide (r15.1 < 0)) = false,
                               (decide (r15.1 < 0)) = false,
                               Fn Try.prog 46 [(false, E28 r8), (false, E28 r5)] (E4 r16) [],
                               (false || ((E4 r16).nv && nvL [])) = true,
                               (decide (r15.1 < 0)) = false,
                               (decide (r15.1 < 0)) = false,
                               (!r16) = false,
                               Fn Try.prog 47 [(true, E28 r8), (false, E3 1)] (E3 r17.1) [V.sl true 124 (List.map E124 r17.2)],
                               (true || ((E3 r17.1).nv && nvL [V.sl true 124 (List.map E124 r17.2)])) = true,
                               Fn Try.prog 48 [(false, E28 r17.2), (false, E3 1)] (E3 r18) [],
                               (false || ((E3 r18).nv && nvL [])) = true,
                               (decide (r18 < 0)) = false,
                               (r18 != r17.1) = true]) (by kernel_rfl) (cj (laws_szStripeS_ok o 1048576 r1 h1) (cj rfl (cj h2 (cj (laws_szBook_ok o_ r1 r2 h3) (cj rfl (cj h4 (cj (laws_toStripeS_ok o r3 h5) (cj rfl (cj (laws_toBook_ok o_ r4 h6) (cj rfl (cj (spec_Lay_ok r3 (Book.mk r4.Accts) r5 h7) (cj (by simp [V.nv, nvL, nvL_all, nv_E3, nv_E5, nv_E9, nv_E28, nv_E39, nv_E47, nv_E48, nv_E49, nv_E51, nv_E52, nv_E54, nv_E61, nv_E124, nv_E177]) (cj (laws_toStripeS_ok o r6 h8) (cj rfl (cj (laws_toBook_ok o_ r7 h9) (cj rfl (cj (impl_Lay_ok r6 r7 r8 h10) (cj (by simp [V.nv, nvL, nvL_all, nv_E3, nv_E5, nv_E9, nv_E28, nv_E39, nv_E47, nv_E48, nv_E49, nv_E51, nv_E52, nv_E54, nv_E61, nv_E124, nv_E177]) (cj (laws_eqStripeS_ok r8 r5 r9 h11) (cj (by simp [V.nv, nvL, nvL_all, nv_E4]) (cj (nf h12) (cj (laws_toStripeS_ok o r10 h13) (cj rfl (cj (laws_eqStripeS_ok r6 r10 r11 h14) (cj (by simp [V.nv, nvL, nvL_all, nv_E4]) (cj (nf h15) (cj (laws_toBook_ok o_ r12 h16) (cj rfl (cj (laws_eqBook_ok r7 r12 r13 h17) (cj (by simp [V.nv, nvL, nvL_all, nv_E4]) (cj (nf h18) (cj (laws_markStripeS_ok r6 1 r14 h19) (cj rfl (cj (laws_markBook_ok r7 r14.1 r15 h20) (cj rfl (cj h21 (cj h21 (cj h21 (cj (laws_eqStripeS_ok r8 r5 r16 h22) (cj (by simp [V.nv, nvL, nvL_all, nv_E4]) (cj h21 (cj h21 (cj (nf h23) (cj (laws_markStripeS_ok r8 1 r17 h24) (cj rfl (cj (laws_heldStripeS_ok r17.2 1 r18 h25) (cj (by simp [V.nv, nvL, nvL_all, nv_E3]) (cj h26 (cj1 h27))))))))))))))))))))))))))))))))))))))))))))))))))) (fun h27 =>
                              Pn.bind (fun r19 h28 =>
                               Pn.bind (fun r20 h29 =>
                                Pn.bind (fun r21 h30 =>
                                 Pn.bind (fun r22 h31 =>
                                  Pn.ite (fun h32 =>
                                   Pn.bind (fun r23 h33 =>
                                    Pn.ite (fun h34 =>
                                     Pn.some (Fn.of [.call [] (E3 r1) [], .bit false, .call [] (E3 r2) [], .bit false, .draw [], .call [] (E28 r3) [], .call [] (E41 r4) [], .call [] (E28 r5) [], .call [] (E28 r6) [], .call [] (E41 r7) [], .call [] (E28 r8) [], .call [] (E4 r9) [], .bit false, .call [] (E28 r10) [], .call [] (E4 r11) [], .bit false, .draw [], .call [] (E41 r12) [], .call [] (E4 r13) [], .bit false, .call [true, false] (E3 r14.1) [V.sl true 124 (List.map E124 r14.2)], .call [true, false] (E3 r15.1) [V.sl true 54 (List.map E54 r15.2)], .bit false, .bit false, .bit false, .call [] (E4 r16) [], .bit false, .bit false, .bit false, .call [true, false] (E3 r17.1) [V.sl true 124 (List.map E124 r17.2)], .call [] (E3 r18) [], .bit false, .bit false, .draw [], .call [] (E28 r19) [], .call [] (E41 r20) [], .call [] (E28 r21) [], .call [] (E4 r22) [], .bit false, .call [] (E3 r23) [], .bit true] (p := [Fn Try.prog 42 [(false, E22 o), (false, E3 1048576)] (E3 r1) [],
                                      (true || ((E3 r1).nv && nvL [])) = true,
                                      (decide (r1 < 0)) = false,
                                      Fn Try.prog 18 [(false, E37 o_), (false, E3 r1)] (E3 r2) [],
                                      (true || ((E3 r2).nv && nvL [])) = true,
                                      (decide (r2 < 0)) = false,
                                      Fn Try.prog 44 [(false, E22 o)] (E28 r3) [],
                                      (true || ((E28 r3).nv && nvL [])) = true,
                                      Fn Try.prog 20 [(false, E37 o_)] (E41 r4) [],
                                      (true || ((E41 r4).nv && nvL [])) = true,
                                      Fn Try.prog 54 [(false, E28 r3), (false, E41 (Book.mk r4.Accts))] (E28 r5) [],
                                      (false || ((E28 r5).nv && nvL [])) = true,
                                      Fn Try.prog 44 [(false, E22 o)] (E28 r6) [],
                                      (true || ((E28 r6).nv && nvL [])) = true,
                                      Fn Try.prog 20 [(false, E37 o_)] (E41 r7) [],
                                      (true || ((E41 r7).nv && nvL [])) = true,
                                      Fn Try.prog 55 [(false, E28 r6), (false, E41 r7)] (E28 r8) [],
                                      (false || ((E28 r8).nv && nvL [])) = true,
                                      Fn Try.prog 46 [(false, E28 r8), (false, E28 r5)] (E4 r9) [],
                                      (false || ((E4 r9).nv && nvL [])) = true,
                                      (!r9) = false,
                                      Fn Try.prog 44 [(false, E22 o)] (E28 r10) [],
                                      (true || ((E28 r10).nv && nvL [])) = true,
                                      Fn Try.prog 46 [(false, E28 r6), (false, E28 r10)] (E4 r11) [],
                                      (false || ((E4 r11).nv && nvL [])) = true,
                                      (!r11) = false,
                                      Fn Try.prog 20 [(false, E37 o_)] (E41 r12) [],
                                      (true || ((E41 r12).nv && nvL [])) = true,
                                      Fn Try.prog 22 [(false, E41 r7), (false, E41 r12)] (E4 r13) [],
                                      (false || ((E4 r13).nv && nvL [])) = true,
                                      (!r13) = false,
                                      Fn Try.prog 47 [(true, E28 r6), (false, E3 1)] (E3 r14.1) [V.sl true 124 (List.map E124 r14.2)],
                                      (true || ((E3 r14.1).nv && nvL [V.sl true 124 (List.map E124 r14.2)])) = true,
                                      Fn Try.prog 23 [(true, E41 r7), (false, E3 r14.1)] (E3 r15.1) [V.sl true 54 (List.map E54 r15.2)],
                                      (true || ((E3 r15.1).nv && nvL [V.sl true 54 (List.map E54 r15.2)])) = true,
                                      (decide (r15.1 < 0)) = false,
                                      (decide (r15.1 < 0)) = false,
                                      (decide (r15.1 < 0)) = false,
                                      Fn Try.prog 46 [(false, E28 r8), (false, E28 r5)] (E4 r16) [],
                                      (false || ((E4 r16).nv && nvL [])) = true,
                                      (decide (r15.1 < 0)) = false,
                                      (decide (r15.1 < 0)) = false,
                                      (!r16) = false,
                                      Fn Try.prog 47 [(true, E28 r8), (false, E3 1)] (E3 r17.1) [V.sl true 124 (List.map E124 r17.2)],
                                      (true || ((E3 r17.1).nv && nvL [V.sl true 124 (List.map E124 r17.2)])) = true,
                                      Fn Try.prog 48 [(false, E28 r17.2), (false, E3 1)] (E3 r18) [],
                                      (false || ((E3 r18).nv && nvL [])) = true,
                                      (decide (r18 < 0)) = false,
                                      (r18 != r17.1) = false,
                                      Fn Try.prog 44 [(false, E22 o)] (E28 r19) [],
                                      (true || ((E28 r19).nv && nvL [])) = true,
                                      Fn Try.prog 20 [(false, E37 o_)] (E41 r20) [],
                                      (true || ((E41 r20).nv && nvL [])) = true,
                                      Fn Try.prog 55 [(false, E28 r19), (false, E41 r20)] (E28 r21) [],
                                      (false || ((E28 r21).nv && nvL [])) = true,
                                      Fn Try.prog 46 [(false, E28 r21), (false, E28 r5)] (E4 r22) [],
                                      (false || ((E4 r22).nv && nvL [])) = true,
                                      (!r22) = false,
                                      Fn Try.prog 48 [(false, E28 r17.2), (false, E3 1)] (E3 r23) [],
                                      (false || ((E3 r23).nv && nvL [])) = true,
                                      (decide (r23 < 0)) = true]) (by kernel_rfl) (cj (laws_szStripeS_ok o 1048576 r1 h1) (cj rfl (cj h2 (cj (laws_szBook_ok o_ r1 r2 h3) (cj rfl (cj h4 (cj (laws_toStripeS_ok o r3 h5) (cj rfl (cj (laws_toBook_ok o_ r4 h6) (cj rfl (cj (spec_Lay_ok r3 (Book.mk r4.Accts) r5 h7) (cj (by simp [V.nv, nvL, nvL_all, nv_E3, nv_E5, nv_E9, nv_E28, nv_E39, nv_E47, nv_E48, nv_E49, nv_E51, nv_E52, nv_E54, nv_E61, nv_E124, nv_E177]) (cj (laws_toStripeS_ok o r6 h8) (cj rfl (cj (laws_toBook_ok o_ r7 h9) (cj rfl (cj (impl_Lay_ok r6 r7 r8 h10) (cj (by simp [V.nv, nvL, nvL_all, nv_E3, nv_E5, nv_E9, nv_E28, nv_E39, nv_E47, nv_E48, nv_E49, nv_E51, nv_E52, nv_E54, nv_E61, nv_E124, nv_E177]) (cj (laws_eqStripeS_ok r8 r5 r9 h11) (cj (by simp [V.nv, nvL, nvL_all, nv_E4]) (cj (nf h12) (cj (laws_toStripeS_ok o r10 h13) (cj rfl (cj (laws_eqStripeS_ok r6 r10 r11 h14) (cj (by simp [V.nv, nvL, nvL_all, nv_E4]) (cj (nf h15) (cj (laws_toBook_ok o_ r12 h16) (cj rfl (cj (laws_eqBook_ok r7 r12 r13 h17) (cj (by simp [V.nv, nvL, nvL_all, nv_E4]) (cj (nf h18) (cj (laws_markStripeS_ok r6 1 r14 h19) (cj rfl (cj (laws_markBook_ok r7 r14.1 r15 h20) (cj rfl (cj h21 (cj h21 (cj h21 (cj (laws_eqStripeS_ok r8 r5 r16 h22) (cj (by simp [V.nv, nvL, nvL_all, nv_E4]) (cj h21 (cj h21 (cj (nf h23) (cj (laws_markStripeS_ok r8 1 r17 h24) (cj rfl (cj (laws_heldStripeS_ok r17.2 1 r18 h25) (cj (by simp [V.nv, nvL, nvL_all, nv_E3]) (cj h26 (cj h27 (cj (laws_toStripeS_ok o r19 h28) (cj rfl (cj (laws_toBook_ok o_ r20 h29) (cj rfl (cj (impl_Lay_ok r19 r20 r21 h30) (cj (by simp [V.nv, nvL, nvL_all, nv_E3, nv_E5, nv_E9, nv_E28, nv_E39, nv_E47, nv_E48, nv_E49, nv_E51, nv_E52, nv_E54, nv_E61, nv_E124, nv_E177]) (cj (laws_eqStripeS_ok r21 r5 r22 h31) (cj (by simp [V.nv, nvL, nvL_all, nv_E4]) (cj (nf h32) (cj (laws_heldStripeS_ok r17.2 1 r23 h33) (cj (by simp [V.nv, nvL, nvL_all, nv_E3]) (cj1 h34))))))))))))))))))))))))))))))))))))))))))))))))))))))))))))))) (fun h34 =>
                                     Pn.ite (fun h35 =>
                                      Pn.some (Fn.of [.call [] (E3 r1) [], .bit false, .call [] (E3 r2) [], .bit false, .draw [], .call [] (E28 r3) [], .call [] (E41 r4) [], .call [] (E28 r5) [], .call [] (E28 r6) [], .call [] (E41 r7) [], .call [] (E28 r8) [], .call [] (E4 r9) [], .bit false, .call [] (E28 r10) [], .call [] (E4 r11) [], .bit false, .draw [], .call [] (E41 r12) [], .call [] (E4 r13) [], .bit false, .call [true, false] (E3 r14.1) [V.sl true 124 (List.map E124 r14.2)], .call [true, false] (E3 r15.1) [V.sl true 54 (List.map E54 r15.2)], .bit false, .bit false, .bit false, .call [] (E4 r16) [], .bit false, .bit false, .bit false, .call [true, false] (E3 r17.1) [V.sl true 124 (List.map E124 r17.2)], .call [] (E3 r18) [], .bit false, .bit false, .draw [], .call [] (E28 r19) [], .call [] (E41 r20) [], .call [] (E28 r21) [], .call [] (E4 r22) [], .bit false, .call [] (E3 r23) [], .bit false, .bit true] (p := [Fn Try.prog 42 [(false, E22 o), (false, E3 1048576)] (E3 r1) [],
                                       (true || ((E3 r1).nv && nvL [])) = true,
                                       (decide (r1 < 0)) = false,
                                       Fn Try.prog 18 [(false, E37 o_), (false, E3 r1)] (E3 r2) [],
                                       (true || ((E3 r2).nv && nvL [])) = true,
                                       (decide (r2 < 0)) = false,
                                       Fn Try.prog 44 [(false, E22 o)] (E28 r3) [],
                                       (true || ((E28 r3).nv && nvL [])) = true,
                                       Fn Try.prog 20 [(false, E37 o_)] (E41 r4) [],
                                       (true || ((E41 r4).nv && nvL [])) = true,
                                       Fn Try.prog 54 [(false, E28 r3), (false, E41 (Book.mk r4.Accts))] (E28 r5) [],
                                       (false || ((E28 r5).nv && nvL [])) = true,
                                       Fn Try.prog 44 [(false, E22 o)] (E28 r6) [],
                                       (true || ((E28 r6).nv && nvL [])) = true,
                                       Fn Try.prog 20 [(false, E37 o_)] (E41 r7) [],
                                       (true || ((E41 r7).nv && nvL [])) = true,
                                       Fn Try.prog 55 [(false, E28 r6), (false, E41 r7)] (E28 r8) [],
                                       (false || ((E28 r8).nv && nvL [])) = true,
                                       Fn Try.prog 46 [(false, E28 r8), (false, E28 r5)] (E4 r9) [],
                                       (false || ((E4 r9).nv && nvL [])) = true,
                                       (!r9) = false,
                                       Fn Try.prog 44 [(false, E22 o)] (E28 r10) [],
                                       (true || ((E28 r10).nv && nvL [])) = true,
                                       Fn Try.prog 46 [(false, E28 r6), (false, E28 r10)] (E4 r11) [],
                                       (false || ((E4 r11).nv && nvL [])) = true,
                                       (!r11) = false,
                                       Fn Try.prog 20 [(false, E37 o_)] (E41 r12) [],
                                       (true || ((E41 r12).nv && nvL [])) = true,
                                       Fn Try.prog 22 [(false, E41 r7), (false, E41 r12)] (E4 r13) [],
                                       (false || ((E4 r13).nv && nvL [])) = true,
                                       (!r13) = false,
                                       Fn Try.prog 47 [(true, E28 r6), (false, E3 1)] (E3 r14.1) [V.sl true 124 (List.map E124 r14.2)],
                                       (true || ((E3 r14.1).nv && nvL [V.sl true 124 (List.map E124 r14.2)])) = true,
                                       Fn Try.prog 23 [(true, E41 r7), (false, E3 r14.1)] (E3 r15.1) [V.sl true 54 (List.map E54 r15.2)],
                                       (true || ((E3 r15.1).nv && nvL [V.sl true 54 (List.map E54 r15.2)])) = true,
                                       (decide (r15.1 < 0)) = false,
                                       (decide (r15.1 < 0)) = false,
                                       (decide (r15.1 < 0)) = false,
                                       Fn Try.prog 46 [(false, E28 r8), (false, E28 r5)] (E4 r16) [],
                                       (false || ((E4 r16).nv && nvL [])) = true,
                                       (decide (r15.1 < 0)) = false,
                                       (decide (r15.1 < 0)) = false,
                                       (!r16) = false,
                                       Fn Try.prog 47 [(true, E28 r8), (false, E3 1)] (E3 r17.1) [V.sl true 124 (List.map E124 r17.2)],
                                       (true || ((E3 r17.1).nv && nvL [V.sl true 124 (List.map E124 r17.2)])) = true,
                                       Fn Try.prog 48 [(false, E28 r17.2), (false, E3 1)] (E3 r18) [],
                                       (false || ((E3 r18).nv && nvL [])) = true,
                                       (decide (r18 < 0)) = false,
                                       (r18 != r17.1) = false,
                                       Fn Try.prog 44 [(false, E22 o)] (E28 r19) [],
                                       (true || ((E28 r19).nv && nvL [])) = true,
                                       Fn Try.prog 20 [(false, E37 o_)] (E41 r20) [],
                                       (true || ((E41 r20).nv && nvL [])) = true,
                                       Fn Try.prog 55 [(false, E28 r19), (false, E41 r20)] (E28 r21) [],
                                       (false || ((E28 r21).nv && nvL [])) = true,
                                       Fn Try.prog 46 [(false, E28 r21), (false, E28 r5)] (E4 r22) [],
                                       (false || ((E4 r22).nv && nvL [])) = true,
                                       (!r22) = false,
                                       Fn Try.prog 48 [(false, E28 r17.2), (false, E3 1)] (E3 r23) [],
                                       (false || ((E3 r23).nv && nvL [])) = true,
                                       (decide (r23 < 0)) = false,
                                       (r23 != r17.1) = true]) (by kernel_rfl) (cj (laws_szStripeS_ok o 1048576 r1 h1) (cj rfl (cj h2 (cj (laws_szBook_ok o_ r1 r2 h3) (cj rfl (cj h4 (cj (laws_toStripeS_ok o r3 h5) (cj rfl (cj (laws_toBook_ok o_ r4 h6) (cj rfl (cj (spec_Lay_ok r3 (Book.mk r4.Accts) r5 h7) (cj (by simp [V.nv, nvL, nvL_all, nv_E3, nv_E5, nv_E9, nv_E28, nv_E39, nv_E47, nv_E48, nv_E49, nv_E51, nv_E52, nv_E54, nv_E61, nv_E124, nv_E177]) (cj (laws_toStripeS_ok o r6 h8) (cj rfl (cj (laws_toBook_ok o_ r7 h9) (cj rfl (cj (impl_Lay_ok r6 r7 r8 h10) (cj (by simp [V.nv, nvL, nvL_all, nv_E3, nv_E5, nv_E9, nv_E28, nv_E39, nv_E47, nv_E48, nv_E49, nv_E51, nv_E52, nv_E54, nv_E61, nv_E124, nv_E177]) (cj (laws_eqStripeS_ok r8 r5 r9 h11) (cj (by simp [V.nv, nvL, nvL_all, nv_E4]) (cj (nf h12) (cj (laws_toStripeS_ok o r10 h13) (cj rfl (cj (laws_eqStripeS_ok r6 r10 r11 h14) (cj (by simp [V.nv, nvL, nvL_all, nv_E4]) (cj (nf h15) (cj (laws_toBook_ok o_ r12 h16) (cj rfl (cj (laws_eqBook_ok r7 r12 r13 h17) (cj (by simp [V.nv, nvL, nvL_all, nv_E4]) (cj (nf h18) (cj (laws_markStripeS_ok r6 1 r14 h19) (cj rfl (cj (laws_markBook_ok r7 r14.1 r15 h20) (cj rfl (cj h21 (cj h21 (cj h21 (cj (laws_eqStripeS_ok r8 r5 r16 h22) (cj (by simp [V.nv, nvL, nvL_all, nv_E4]) (cj h21 (cj h21 (cj (nf h23) (cj (laws_markStripeS_ok r8 1 r17 h24) (cj rfl (cj (laws_heldStripeS_ok r17.2 1 r18 h25) (cj (by simp [V.nv, nvL, nvL_all, nv_E3]) (cj h26 (cj h27 (cj (laws_toStripeS_ok o r19 h28) (cj rfl (cj (laws_toBook_ok o_ r20 h29) (cj rfl (cj (impl_Lay_ok r19 r20 r21 h30) (cj (by simp [V.nv, nvL, nvL_all, nv_E3, nv_E5, nv_E9, nv_E28, nv_E39, nv_E47, nv_E48, nv_E49, nv_E51, nv_E52, nv_E54, nv_E61, nv_E124, nv_E177]) (cj (laws_eqStripeS_ok r21 r5 r22 h31) (cj (by simp [V.nv, nvL, nvL_all, nv_E4]) (cj (nf h32) (cj (laws_heldStripeS_ok r17.2 1 r23 h33) (cj (by simp [V.nv, nvL, nvL_all, nv_E3]) (cj h34 (cj1 h35)))))))))))))))))))))))))))))))))))))))))))))))))))))))))))))))) (fun h35 =>
                                      Pn.some (Fn.of [.call [] (E3 r1) [], .bit false, .call [] (E3 r2) [], .bit false, .draw [], .call [] (E28 r3) [], .call [] (E41 r4) [], .call [] (E28 r5) [], .call [] (E28 r6) [], .call [] (E41 r7) [], .call [] (E28 r8) [], .call [] (E4 r9) [], .bit false, .call [] (E28 r10) [], .call [] (E4 r11) [], .bit false, .draw [], .call [] (E41 r12) [], .call [] (E4 r13) [], .bit false, .call [true, false] (E3 r14.1) [V.sl true 124 (List.map E124 r14.2)], .call [true, false] (E3 r15.1) [V.sl true 54 (List.map E54 r15.2)], .bit false, .bit false, .bit false, .call [] (E4 r16) [], .bit false, .bit false, .bit false, .call [true, false] (E3 r17.1) [V.sl true 124 (List.map E124 r17.2)], .call [] (E3 r18) [], .bit false, .bit false, .draw [], .call [] (E28 r19) [], .call [] (E41 r20) [], .call [] (E28 r21) [], .call [] (E4 r22) [], .bit false, .call [] (E3 r23) [], .bit false, .bit false] (p := [Fn Try.prog 42 [(false, E22 o), (false, E3 1048576)] (E3 r1) [],
                                       (true || ((E3 r1).nv && nvL [])) = true,
                                       (decide (r1 < 0)) = false,
                                       Fn Try.prog 18 [(false, E37 o_), (false, E3 r1)] (E3 r2) [],
                                       (true || ((E3 r2).nv && nvL [])) = true,
                                       (decide (r2 < 0)) = false,
                                       Fn Try.prog 44 [(false, E22 o)] (E28 r3) [],
                                       (true || ((E28 r3).nv && nvL [])) = true,
                                       Fn Try.prog 20 [(false, E37 o_)] (E41 r4) [],
                                       (true || ((E41 r4).nv && nvL [])) = true,
                                       Fn Try.prog 54 [(false, E28 r3), (false, E41 (Book.mk r4.Accts))] (E28 r5) [],
                                       (false || ((E28 r5).nv && nvL [])) = true,
                                       Fn Try.prog 44 [(false, E22 o)] (E28 r6) [],
                                       (true || ((E28 r6).nv && nvL [])) = true,
                                       Fn Try.prog 20 [(false, E37 o_)] (E41 r7) [],
                                       (true || ((E41 r7).nv && nvL [])) = true,
                                       Fn Try.prog 55 [(false, E28 r6), (false, E41 r7)] (E28 r8) [],
                                       (false || ((E28 r8).nv && nvL [])) = true,
                                       Fn Try.prog 46 [(false, E28 r8), (false, E28 r5)] (E4 r9) [],
                                       (false || ((E4 r9).nv && nvL [])) = true,
                                       (!r9) = false,
                                       Fn Try.prog 44 [(false, E22 o)] (E28 r10) [],
                                       (true || ((E28 r10).nv && nvL [])) = true,
                                       Fn Try.prog 46 [(false, E28 r6), (false, E28 r10)] (E4 r11) [],
                                       (false || ((E4 r11).nv && nvL [])) = true,
                                       (!r11) = false,
                                       Fn Try.prog 20 [(false, E37 o_)] (E41 r12) [],
                                       (true || ((E41 r12).nv && nvL [])) = true,
                                       Fn Try.prog 22 [(false, E41 r7), (false, E41 r12)] (E4 r13) [],
                                       (false || ((E4 r13).nv && nvL [])) = true,
                                       (!r13) = false,
                                       Fn Try.prog 47 [(true, E28 r6), (false, E3 1)] (E3 r14.1) [V.sl true 124 (List.map E124 r14.2)],
                                       (true || ((E3 r14.1).nv && nvL [V.sl true 124 (List.map E124 r14.2)])) = true,
                                       Fn Try.prog 23 [(true, E41 r7), (false, E3 r14.1)] (E3 r15.1) [V.sl true 54 (List.map E54 r15.2)],
                                       (true || ((E3 r15.1).nv && nvL [V.sl true 54 (List.map E54 r15.2)])) = true,
                                       (decide (r15.1 < 0)) = false,
                                       (decide (r15.1 < 0)) = false,
                                       (decide (r15.1 < 0)) = false,
                                       Fn Try.prog 46 [(false, E28 r8), (false, E28 r5)] (E4 r16) [],
                                       (false || ((E4 r16).nv && nvL [])) = true,
                                       (decide (r15.1 < 0)) = false,
                                       (decide (r15.1 < 0)) = false,
                                       (!r16) = false,
                                       Fn Try.prog 47 [(true, E28 r8), (false, E3 1)] (E3 r17.1) [V.sl true 124 (List.map E124 r17.2)],
                                       (true || ((E3 r17.1).nv && nvL [V.sl true 124 (List.map E124 r17.2)])) = true,
                                       Fn Try.prog 48 [(false, E28 r17.2), (false, E3 1)] (E3 r18) [],
                                       (false || ((E3 r18).nv && nvL [])) = true,
                                       (decide (r18 < 0)) = false,
                                       (r18 != r17.1) = false,
                                       Fn Try.prog 44 [(false, E22 o)] (E28 r19) [],
                                       (true || ((E28 r19).nv && nvL [])) = true,
                                       Fn Try.prog 20 [(false, E37 o_)] (E41 r20) [],
                                       (true || ((E41 r20).nv && nvL [])) = true,
                                       Fn Try.prog 55 [(false, E28 r19), (false, E41 r20)] (E28 r21) [],
                                       (false || ((E28 r21).nv && nvL [])) = true,
                                       Fn Try.prog 46 [(false, E28 r21), (false, E28 r5)] (E4 r22) [],
                                       (false || ((E4 r22).nv && nvL [])) = true,
                                       (!r22) = false,
                                       Fn Try.prog 48 [(false, E28 r17.2), (false, E3 1)] (E3 r23) [],
                                       (false || ((E3 r23).nv && nvL [])) = true,
                                       (decide (r23 < 0)) = false,
                                       (r23 != r17.1) = false]) (by kernel_rfl) (cj (laws_szStripeS_ok o 1048576 r1 h1) (cj rfl (cj h2 (cj (laws_szBook_ok o_ r1 r2 h3) (cj rfl (cj h4 (cj (laws_toStripeS_ok o r3 h5) (cj rfl (cj (laws_toBook_ok o_ r4 h6) (cj rfl (cj (spec_Lay_ok r3 (Book.mk r4.Accts) r5 h7) (cj (by simp [V.nv, nvL, nvL_all, nv_E3, nv_E5, nv_E9, nv_E28, nv_E39, nv_E47, nv_E48, nv_E49, nv_E51, nv_E52, nv_E54, nv_E61, nv_E124, nv_E177]) (cj (laws_toStripeS_ok o r6 h8) (cj rfl (cj (laws_toBook_ok o_ r7 h9) (cj rfl (cj (impl_Lay_ok r6 r7 r8 h10) (cj (by simp [V.nv, nvL, nvL_all, nv_E3, nv_E5, nv_E9, nv_E28, nv_E39, nv_E47, nv_E48, nv_E49, nv_E51, nv_E52, nv_E54, nv_E61, nv_E124, nv_E177]) (cj (laws_eqStripeS_ok r8 r5 r9 h11) (cj (by simp [V.nv, nvL, nvL_all, nv_E4]) (cj (nf h12) (cj (laws_toStripeS_ok o r10 h13) (cj rfl (cj (laws_eqStripeS_ok r6 r10 r11 h14) (cj (by simp [V.nv, nvL, nvL_all, nv_E4]) (cj (nf h15) (cj (laws_toBook_ok o_ r12 h16) (cj rfl (cj (laws_eqBook_ok r7 r12 r13 h17) (cj (by simp [V.nv, nvL, nvL_all, nv_E4]) (cj (nf h18) (cj (laws_markStripeS_ok r6 1 r14 h19) (cj rfl (cj (laws_markBook_ok r7 r14.1 r15 h20) (cj rfl (cj h21 (cj h21 (cj h21 (cj (laws_eqStripeS_ok r8 r5 r16 h22) (cj (by simp [V.nv, nvL, nvL_all, nv_E4]) (cj h21 (cj h21 (cj (nf h23) (cj (laws_markStripeS_ok r8 1 r17 h24) (cj rfl (cj (laws_heldStripeS_ok r17.2 1 r18 h25) (cj (by simp [V.nv, nvL, nvL_all, nv_E3]) (cj h26 (cj h27 (cj (laws_toStripeS_ok o r19 h28) (cj rfl (cj (laws_toBook_ok o_ r20 h29) (cj rfl (cj (impl_Lay_ok r19 r20 r21 h30) (cj (by simp [V.nv, nvL, nvL_all, nv_E3, nv_E5, nv_E9, nv_E28, nv_E39, nv_E47, nv_E48, nv_E49, nv_E51, nv_E52, nv_E54, nv_E61, nv_E124, nv_E177]) (cj (laws_eqStripeS_ok r21 r5 r22 h31) (cj (by simp [V.nv, nvL, nvL_all, nv_E4]) (cj (nf h32) (cj (laws_heldStripeS_ok r17.2 1 r23 h33) (cj (by simp [V.nv, nvL, nvL_all, nv_E3]) (cj h34 (cj1 h35))))))))))))))))))))))))))))))))))))))))))))))))))))))))))))))))))) (fun h32 =>
                                   Pn.some (Fn.of [.call [] (E3 r1) [], .bit false, .call [] (E3 r2) [], .bit false, .draw [], .call [] (E28 r3) [], .call [] (E41 r4) [], .call [] (E28 r5) [], .call [] (E28 r6) [], .call [] (E41 r7) [], .call [] (E28 r8) [], .call [] (E4 r9) [], .bit false, .call [] (E28 r10) [], .call [] (E4 r11) [], .bit false, .draw [], .call [] (E41 r12) [], .call [] (E4 r13) [], .bit false, .call [true, false] (E3 r14.1) [V.sl true 124 (List.map E124 r14.2)], .call [true, false] (E3 r15.1) [V.sl true 54 (List.map E54 r15.2)], .bit false, .bit false, .bit false, .call [] (E4 r16) [], .bit false, .bit false, .bit false, .call [true, false] (E3 r17.1) [V.sl true 124 (List.map E124 r17.2)], .call [] (E3 r18) [], .bit false, .bit false, .draw [], .call [] (E28 r19) [], .call [] (E41 r20) [], .call [] (E28 r21) [], .call [] (E4 r22) [], .bit true] (p := [Fn Try.prog 42 [(false, E22 o), (false, E3 1048576)] (E3 r1) [],
                                    (true || ((E3 r1).nv && nvL [])) = true,
                                    (decide (r1 < 0)) = false,
                                    Fn Try.prog 18 [(false, E37 o_), (false, E3 r1)] (E3 r2) [],
                                    (true || ((E3 r2).nv && nvL [])) = true,
                                    (decide (r2 < 0)) = false,
                                    Fn Try.prog 44 [(false, E22 o)] (E28 r3) [],
                                    (true || ((E28 r3).nv && nvL [])) = true,
                                    Fn Try.prog 20 [(false, E37 o_)] (E41 r4) [],
                                    (true || ((E41 r4).nv && nvL [])) = true,
                                    Fn Try.prog 54 [(false, E28 r3), (false, E41 (Book.mk r4.Accts))] (E28 r5) [],
                                    (false || ((E28 r5).nv && nvL [])) = true,
                                    Fn Try.prog 44 [(false, E22 o)] (E28 r6) [],
                                    (true || ((E28 r6).nv && nvL [])) = true,
                                    Fn Try.prog 20 [(false, E37 o_)] (E41 r7) [],
                                    (true || ((E41 r7).nv && nvL [])) = true,
                                    Fn Try.prog 55 [(false, E28 r6), (false, E41 r7)] (E28 r8) [],
                                    (false || ((E28 r8).nv && nvL [])) = true,
                                    Fn Try.prog 46 [(false, E28 r8), (false, E28 r5)] (E4 r9) [],
                                    (false || ((E4 r9).nv && nvL [])) = true,
                                    (!r9) = false,
                                    Fn Try.prog 44 [(false, E22 o)] (E28 r10) [],
                                    (true || ((E28 r10).nv && nvL [])) = true,
                                    Fn Try.prog 46 [(false, E28 r6), (false, E28 r10)] (E4 r11) [],
                                    (false || ((E4 r11).nv && nvL [])) = true,
                                    (!r11) = false,
                                    Fn Try.prog 20 [(false, E37 o_)] (E41 r12) [],
                                    (true || ((E41 r12).nv && nvL [])) = true,
                                    Fn Try.prog 22 [(false, E41 r7), (false, E41 r12)] (E4 r13) [],
                                    (false || ((E4 r13).nv && nvL [])) = true,
                                    (!r13) = false,
                                    Fn Try.prog 47 [(true, E28 r6), (false, E3 1)] (E3 r14.1) [V.sl true 124 (List.map E124 r14.2)],
                                    (true || ((E3 r14.1).nv && nvL [V.sl true 124 (List.map E124 r14.2)])) = true,
                                    Fn Try.prog 23 [(true, E41 r7), (false, E3 r14.1)] (E3 r15.1) [V.sl true 54 (List.map E54 r15.2)],
                                    (true || ((E3 r15.1).nv && nvL [V.sl true 54 (List.map E54 r15.2)])) = true,
                                    (decide (r15.1 < 0)) = false,
                                    (decide (r15.1 < 0)) = false,
                                    (decide (r15.1 < 0)) = false,
                                    Fn Try.prog 46 [(false, E28 r8), (false, E28 r5)] (E4 r16) [],
                                    (false || ((E4 r16).nv && nvL [])) = true,
                                    (decide (r15.1 < 0)) = false,
                                    (decide (r15.1 < 0)) = false,
                                    (!r16) = false,
                                    Fn Try.prog 47 [(true, E28 r8), (false, E3 1)] (E3 r17.1) [V.sl true 124 (List.map E124 r17.2)],
                                    (true || ((E3 r17.1).nv && nvL [V.sl true 124 (List.map E124 r17.2)])) = true,
                                    Fn Try.prog 48 [(false, E28 r17.2), (false, E3 1)] (E3 r18) [],
                                    (false || ((E3 r18).nv && nvL [])) = true,
                                    (decide (r18 < 0)) = false,
                                    (r18 != r17.1) = false,
                                    Fn Try.prog 44 [(false, E22 o)] (E28 r19) [],
                                    (true || ((E28 r19).nv && nvL [])) = true,
                                    Fn Try.prog 20 [(false, E37 o_)] (E41 r20) [],
                                    (true || ((E41 r20).nv && nvL [])) = true,
                                    Fn Try.prog 55 [(false, E28 r19), (false, E41 r20)] (E28 r21) [],
                                    (false || ((E28 r21).nv && nvL [])) = true,
                                    Fn Try.prog 46 [(false, E28 r21), (false, E28 r5)] (E4 r22) [],
                                    (false || ((E4 r22).nv && nvL [])) = true,
                                    (!r22) = true]) (by kernel_rfl) (cj (laws_szStripeS_ok o 1048576 r1 h1) (cj rfl (cj h2 (cj (laws_szBook_ok o_ r1 r2 h3) (cj rfl (cj h4 (cj (laws_toStripeS_ok o r3 h5) (cj rfl (cj (laws_toBook_ok o_ r4 h6) (cj rfl (cj (spec_Lay_ok r3 (Book.mk r4.Accts) r5 h7) (cj (by simp [V.nv, nvL, nvL_all, nv_E3, nv_E5, nv_E9, nv_E28, nv_E39, nv_E47, nv_E48, nv_E49, nv_E51, nv_E52, nv_E54, nv_E61, nv_E124, nv_E177]) (cj (laws_toStripeS_ok o r6 h8) (cj rfl (cj (laws_toBook_ok o_ r7 h9) (cj rfl (cj (impl_Lay_ok r6 r7 r8 h10) (cj (by simp [V.nv, nvL, nvL_all, nv_E3, nv_E5, nv_E9, nv_E28, nv_E39, nv_E47, nv_E48, nv_E49, nv_E51, nv_E52, nv_E54, nv_E61, nv_E124, nv_E177]) (cj (laws_eqStripeS_ok r8 r5 r9 h11) (cj (by simp [V.nv, nvL, nvL_all, nv_E4]) (cj (nf h12) (cj (laws_toStripeS_ok o r10 h13) (cj rfl (cj (laws_eqStripeS_ok r6 r10 r11 h14) (cj (by simp [V.nv, nvL, nvL_all, nv_E4]) (cj (nf h15) (cj (laws_toBook_ok o_ r12 h16) (cj rfl (cj (laws_eqBook_ok r7 r12 r13 h17) (cj (by simp [V.nv, nvL, nvL_all, nv_E4]) (cj (nf h18) (cj (laws_markStripeS_ok r6 1 r14 h19) (cj rfl (cj (laws_markBook_ok r7 r14.1 r15 h20) (cj rfl (cj h21 (cj h21 (cj h21 (cj (laws_eqStripeS_ok r8 r5 r16 h22) (cj (by simp [V.nv, nvL, nvL_all, nv_E4]) (cj h21 (cj h21 (cj (nf h23) (cj (laws_markStripeS_ok r8 1 r17 h24) (cj rfl (cj (laws_heldStripeS_ok r17.2 1 r18 h25) (cj (by simp [V.nv, nvL, nvL_all, nv_E3]) (cj h26 (cj h27 (cj (laws_toStripeS_ok o r19 h28) (cj rfl (cj (laws_toBook_ok o_ r20 h29) (cj rfl (cj (impl_Lay_ok r19 r20 r21 h30) (cj (by simp [V.nv, nvL, nvL_all, nv_E3, nv_E5, nv_E9, nv_E28, nv_E39, nv_E47, nv_E48, nv_E49, nv_E51, nv_E52, nv_E54, nv_E61, nv_E124, nv_E177]) (cj (laws_eqStripeS_ok r21 r5 r22 h31) (cj (by simp [V.nv, nvL, nvL_all, nv_E4]) (cj1 (nt h32)))))))))))))))))))))))))))))))))))))))))))))))))))))))))))))))))))))) (fun h23 =>
                          Pn.some (Fn.of [.call [] (E3 r1) [], .bit false, .call [] (E3 r2) [], .bit false, .draw [], .call [] (E28 r3) [], .call [] (E41 r4) [], .call [] (E28 r5) [], .call [] (E28 r6) [], .call [] (E41 r7) [], .call [] (E28 r8) [], .call [] (E4 r9) [], .bit false, .call [] (E28 r10) [], .call [] (E4 r11) [], .bit false, .draw [], .call [] (E41 r12) [], .call [] (E4 r13) [], .bit false, .call [true, false] (E3 r14.1) [V.sl true 124 (List.map E124 r14.2)], .call [true, false] (E3 r15.1) [V.sl true 54 (List.map E54 r15.2)], .bit false, .bit false, .bit false, .call [] (E4 r16) [], .bit false, .bit false, .bit true] (p := [Fn Try.prog 42 [(false, E22 o), (false, E3 1048576)] (E3 r1) [],
                           (true || ((E3 r1).nv && nvL [])) = true,
                           (decide (r1 < 0)) = false,
                           Fn Try.prog 18 [(false, E37 o_), (false, E3 r1)] (E3 r2) [],
                           (true || ((E3 r2).nv && nvL [])) = true,
                           (decide (r2 < 0)) = false,
                           Fn Try.prog 44 [(false, E22 o)] (E28 r3) [],
                           (true || ((E28 r3).nv && nvL [])) = true,
                           Fn Try.prog 20 [(false, E37 o_)] (E41 r4) [],
                           (true || ((E41 r4).nv && nvL [])) = true,
                           Fn Try.prog 54 [(false, E28 r3), (false, E41 (Book.mk r4.Accts))] (E28 r5) [],
                           (false || ((E28 r5).nv && nvL [])) = true,
                           Fn Try.prog 44 [(false, E22 o)] (E28 r6) [],
                           (true || ((E28 r6).nv && nvL [])) = true,
                           Fn Try.prog 20 [(false, E37 o_)] (E41 r7) [],
                           (true || ((E41 r7).nv && nvL [])) = true,
                           Fn Try.prog 55 [(false, E28 r6), (false, E41 r7)] (E28 r8) [],
                           (false || ((E28 r8).nv && nvL [])) = true,
                           Fn Try.prog 46 [(false, E28 r8), (false, E28 r5)] (E4 r9) [],
                           (false || ((E4 r9).nv && nvL [])) = true,
                           (!r9) = false,
                           Fn Try.prog 44 [(false, E22 o)] (E28 r10) [],
                           (true || ((E28 r10).nv && nvL [])) = true,
                           Fn Try.prog 46 [(false, E28 r6), (false, E28 r10)] (E4 r11) [],
                           (false || ((E4 r11).nv && nvL [])) = true,
                           (!r11) = false,
                           Fn Try.prog 20 [(false, E37 o_)] (E41 r12) [],
                           (true || ((E41 r12).nv && nvL [])) = true,
                           Fn Try.prog 22 [(false, E41 r7), (false, E41 r12)] (E4 r13) [],
                           (false || ((E4 r13).nv && nvL [])) = true,
                           (!r13) = false,
                           Fn Try.prog 47 [(true, E28 r6), (false, E3 1)] (E3 r14.1) [V.sl true 124 (List.map E124 r14.2)],
                           (true || ((E3 r14.1).nv && nvL [V.sl true 124 (List.map E124 r14.2)])) = true,
                           Fn Try.prog 23 [(true, E41 r7), (false, E3 r14.1)] (E3 r15.1) [V.sl true 54 (List.map E54 r15.2)],
                           (true || ((E3 r15.1).nv && nvL [V.sl true 54 (List.map E54 r15.2)])) = true,
                           (decide (r15.1 < 0)) = false,
                           (decide (r15.1 < 0)) = false,
                           (decide (r15.1 < 0)) = false,
                           Fn Try.prog 46 [(false, E28 r8), (false, E28 r5)] (E4 r16) [],
                           (false || ((E4 r16).nv && nvL [])) = true,
                           (decide (r15.1 < 0)) = false,
                           (decide (r15.1 < 0)) = false,
                           (!r16) = true]) (by kernel_rfl) (cj (laws_szStripeS_ok o 1048576 r1 h1) (cj rfl (cj h2 (cj (laws_szBook_ok o_ r1 r2 h3) (cj rfl (cj h4 (cj (laws_toStripeS_ok o r3 h5) (cj rfl (cj (laws_toBook_ok o_ r4 h6) (cj rfl (cj (spec_Lay_ok r3 (Book.mk r4.Accts) r5 h7) (cj (by simp [V.nv, nvL, nvL_all, nv_E3, nv_E5, nv_E9, nv_E28, nv_E39, nv_E47, nv_E48, nv_E49, nv_E51, nv_E52, nv_E54, nv_E61, nv_E124, nv_E177]) (cj (laws_toStripeS_ok o r6 h8) (cj rfl (cj (laws_toBook_ok o_ r7 h9) (cj rfl (cj (impl_Lay_ok r6 r7 r8 h10) (cj (by simp [V.nv, nvL, nvL_all, nv_E3, nv_E5, nv_E9, nv_E28, nv_E39, nv_E47, nv_E48, nv_E49, nv_E51, nv_E52, nv_E54, nv_E61, nv_E124, nv_E177]) (cj (laws_eqStripeS_ok r8 r5 r9 h11) (cj (by simp [V.nv, nvL, nvL_all, nv_E4]) (cj (nf h12) (cj (laws_toStripeS_ok o r10 h13) (cj rfl (cj (laws_eqStripeS_ok r6 r10 r11 h14) (cj (by simp [V.nv, nvL, nvL_all, nv_E4]) (cj (nf h15) (cj (laws_toBook_ok o_ r12 h16) (cj rfl (cj (laws_eqBook_ok r7 r12 r13 h17) (cj (by simp [V.nv, nvL, nvL_all, nv_E4]) (cj (nf h18) (cj (laws_markStripeS_ok r6 1 r14 h19) (cj rfl (cj (laws_markBook_ok r7 r14.1 r15 h20) (cj rfl (cj h21 (cj h21 (cj h21 (cj (laws_eqStripeS_ok r8 r5 r16 h22) (cj (by simp [V.nv, nvL, nvL_all, nv_E4]) (cj h21 (cj h21 (cj1 (nt h23))))))))))))))))))))))))))))))))))))))))))))))))))) (fun h18 =>
                     Pn.some (Fn.of [.call [] (E3 r1) [], .bit false, .call [] (E3 r2) [], .bit false, .draw [], .call [] (E28 r3) [], .call [] (E41 r4) [], .call [] (E28 r5) [], .call [] (E28 r6) [], .call [] (E41 r7) [], .call [] (E28 r8) [], .call [] (E4 r9) [], .bit false, .call [] (E28 r10) [], .call [] (E4 r11) [], .bit false, .draw [], .call [] (E41 r12) [], .call [] (E4 r13) [], .bit true] (p := [Fn Try.prog 42 [(false, E22 o), (false, E3 1048576)] (E3 r1) [],
                      (true || ((E3 r1).nv && nvL [])) = true,
                      (decide (r1 < 0)) = false,
                      Fn Try.prog 18 [(false, E37 o_), (false, E3 r1)] (E3 r2) [],
                      (true || ((E3 r2).nv && nvL [])) = true,
                      (decide (r2 < 0)) = false,
                      Fn Try.prog 44 [(false, E22 o)] (E28 r3) [],
                      (true || ((E28 r3).nv && nvL [])) = true,
                      Fn Try.prog 20 [(false, E37 o_)] (E41 r4) [],
                      (true || ((E41 r4).nv && nvL [])) = true,
                      Fn Try.prog 54 [(false, E28 r3), (false, E41 (Book.mk r4.Accts))] (E28 r5) [],
                      (false || ((E28 r5).nv && nvL [])) = true,
                      Fn Try.prog 44 [(false, E22 o)] (E28 r6) [],
                      (true || ((E28 r6).nv && nvL [])) = true,
                      Fn Try.prog 20 [(false, E37 o_)] (E41 r7) [],
                      (true || ((E41 r7).nv && nvL [])) = true,
                      Fn Try.prog 55 [(false, E28 r6), (false, E41 r7)] (E28 r8) [],
                      (false || ((E28 r8).nv && nvL [])) = true,
                      Fn Try.prog 46 [(false, E28 r8), (false, E28 r5)] (E4 r9) [],
                      (false || ((E4 r9).nv && nvL [])) = true,
                      (!r9) = false,
                      Fn Try.prog 44 [(false, E22 o)] (E28 r10) [],
                      (true || ((E28 r10).nv && nvL [])) = true,
                      Fn Try.prog 46 [(false, E28 r6), (false, E28 r10)] (E4 r11) [],
                      (false || ((E4 r11).nv && nvL [])) = true,
                      (!r11) = false,
                      Fn Try.prog 20 [(false, E37 o_)] (E41 r12) [],
                      (true || ((E41 r12).nv && nvL [])) = true,
                      Fn Try.prog 22 [(false, E41 r7), (false, E41 r12)] (E4 r13) [],
                      (false || ((E4 r13).nv && nvL [])) = true,
                      (!r13) = true]) (by kernel_rfl) (cj (laws_szStripeS_ok o 1048576 r1 h1) (cj rfl (cj h2 (cj (laws_szBook_ok o_ r1 r2 h3) (cj rfl (cj h4 (cj (laws_toStripeS_ok o r3 h5) (cj rfl (cj (laws_toBook_ok o_ r4 h6) (cj rfl (cj (spec_Lay_ok r3 (Book.mk r4.Accts) r5 h7) (cj (by simp [V.nv, nvL, nvL_all, nv_E3, nv_E5, nv_E9, nv_E28, nv_E39, nv_E47, nv_E48, nv_E49, nv_E51, nv_E52, nv_E54, nv_E61, nv_E124, nv_E177]) (cj (laws_toStripeS_ok o r6 h8) (cj rfl (cj (laws_toBook_ok o_ r7 h9) (cj rfl (cj (impl_Lay_ok r6 r7 r8 h10) (cj (by simp [V.nv, nvL, nvL_all, nv_E3, nv_E5, nv_E9, nv_E28, nv_E39, nv_E47, nv_E48, nv_E49, nv_E51, nv_E52, nv_E54, nv_E61, nv_E124, nv_E177]) (cj (laws_eqStripeS_ok r8 r5 r9 h11) (cj (by simp [V.nv, nvL, nvL_all, nv_E4]) (cj (nf h12) (cj (laws_toStripeS_ok o r10 h13) (cj rfl (cj (laws_eqStripeS_ok r6 r10 r11 h14) (cj (by simp [V.nv, nvL, nvL_all, nv_E4]) (cj (nf h15) (cj (laws_toBook_ok o_ r12 h16) (cj rfl (cj (laws_eqBook_ok r7 r12 r13 h17) (cj (by simp [V.nv, nvL, nvL_all, nv_E4]) (cj1 (nt h18))))))))))))))))))))))))))))))))))))) (fun h15 =>
                  Pn.some (Fn.of [.call [] (E3 r1) [], .bit false, .call [] (E3 r2) [], .bit false, .draw [], .call [] (E28 r3) [], .call [] (E41 r4) [], .call [] (E28 r5) [], .call [] (E28 r6) [], .call [] (E41 r7) [], .call [] (E28 r8) [], .call [] (E4 r9) [], .bit false, .call [] (E28 r10) [], .call [] (E4 r11) [], .bit true] (p := [Fn Try.prog 42 [(false, E22 o), (false, E3 1048576)] (E3 r1) [],
                   (true || ((E3 r1).nv && nvL [])) = true,
                   (decide (r1 < 0)) = false,
                   Fn Try.prog 18 [(false, E37 o_), (false, E3 r1)] (E3 r2) [],
                   (true || ((E3 r2).nv && nvL [])) = true,
                   (decide (r2 < 0)) = false,
                   Fn Try.prog 44 [(false, E22 o)] (E28 r3) [],
                   (true || ((E28 r3).nv && nvL [])) = true,
                   Fn Try.prog 20 [(false, E37 o_)] (E41 r4) [],
                   (true || ((E41 r4).nv && nvL [])) = true,
                   Fn Try.prog 54 [(false, E28 r3), (false, E41 (Book.mk r4.Accts))] (E28 r5) [],
                   (false || ((E28 r5).nv && nvL [])) = true,
                   Fn Try.prog 44 [(false, E22 o)] (E28 r6) [],
                   (true || ((E28 r6).nv && nvL [])) = true,
                   Fn Try.prog 20 [(false, E37 o_)] (E41 r7) [],
                   (true || ((E41 r7).nv && nvL [])) = true,
                   Fn Try.prog 55 [(false, E28 r6), (false, E41 r7)] (E28 r8) [],
                   (false || ((E28 r8).nv && nvL [])) = true,
                   Fn Try.prog 46 [(false, E28 r8), (false, E28 r5)] (E4 r9) [],
                   (false || ((E4 r9).nv && nvL [])) = true,
                   (!r9) = false,
                   Fn Try.prog 44 [(false, E22 o)] (E28 r10) [],
                   (true || ((E28 r10).nv && nvL [])) = true,
                   Fn Try.prog 46 [(false, E28 r6), (false, E28 r10)] (E4 r11) [],
                   (false || ((E4 r11).nv && nvL [])) = true,
                   (!r11) = true]) (by kernel_rfl) (cj (laws_szStripeS_ok o 1048576 r1 h1) (cj rfl (cj h2 (cj (laws_szBook_ok o_ r1 r2 h3) (cj rfl (cj h4 (cj (laws_toStripeS_ok o r3 h5) (cj rfl (cj (laws_toBook_ok o_ r4 h6) (cj rfl (cj (spec_Lay_ok r3 (Book.mk r4.Accts) r5 h7) (cj (by simp [V.nv, nvL, nvL_all, nv_E3, nv_E5, nv_E9, nv_E28, nv_E39, nv_E47, nv_E48, nv_E49, nv_E51, nv_E52, nv_E54, nv_E61, nv_E124, nv_E177]) (cj (laws_toStripeS_ok o r6 h8) (cj rfl (cj (laws_toBook_ok o_ r7 h9) (cj rfl (cj (impl_Lay_ok r6 r7 r8 h10) (cj (by simp [V.nv, nvL, nvL_all, nv_E3, nv_E5, nv_E9, nv_E28, nv_E39, nv_E47, nv_E48, nv_E49, nv_E51, nv_E52, nv_E54, nv_E61, nv_E124, nv_E177]) (cj (laws_eqStripeS_ok r8 r5 r9 h11) (cj (by simp [V.nv, nvL, nvL_all, nv_E4]) (cj (nf h12) (cj (laws_toStripeS_ok o r10 h13) (cj rfl (cj (laws_eqStripeS_ok r6 r10 r11 h14) (cj (by simp [V.nv, nvL, nvL_all, nv_E4]) (cj1 (nt h15)))))))))))))))))))))))))))))))) (fun h12 =>
               Pn.some (Fn.of [.call [] (E3 r1) [], .bit false, .call [] (E3 r2) [], .bit false, .draw [], .call [] (E28 r3) [], .call [] (E41 r4) [], .call [] (E28 r5) [], .call [] (E28 r6) [], .call [] (E41 r7) [], .call [] (E28 r8) [], .call [] (E4 r9) [], .bit true] (p := [Fn Try.prog 42 [(false, E22 o), (false, E3 1048576)] (E3 r1) [],
                (true || ((E3 r1).nv && nvL [])) = true,
                (decide (r1 < 0)) = false,
                Fn Try.prog 18 [(false, E37 o_), (false, E3 r1)] (E3 r2) [],
                (true || ((E3 r2).nv && nvL [])) = true,
                (decide (r2 < 0)) = false,
                Fn Try.prog 44 [(false, E22 o)] (E28 r3) [],
                (true || ((E28 r3).nv && nvL [])) = true,
                Fn Try.prog 20 [(false, E37 o_)] (E41 r4) [],
                (true || ((E41 r4).nv && nvL [])) = true,
                Fn Try.prog 54 [(false, E28 r3), (false, E41 (Book.mk r4.Accts))] (E28 r5) [],
                (false || ((E28 r5).nv && nvL [])) = true,
                Fn Try.prog 44 [(false, E22 o)] (E28 r6) [],
                (true || ((E28 r6).nv && nvL [])) = true,
                Fn Try.prog 20 [(false, E37 o_)] (E41 r7) [],
                (true || ((E41 r7).nv && nvL [])) = true,
                Fn Try.prog 55 [(false, E28 r6), (false, E41 r7)] (E28 r8) [],
                (false || ((E28 r8).nv && nvL [])) = true,
                Fn Try.prog 46 [(false, E28 r8), (false, E28 r5)] (E4 r9) [],
                (false || ((E4 r9).nv && nvL [])) = true,
                (!r9) = true]) (by kernel_rfl) (cj (laws_szStripeS_ok o 1048576 r1 h1) (cj rfl (cj h2 (cj (laws_szBook_ok o_ r1 r2 h3) (cj rfl (cj h4 (cj (laws_toStripeS_ok o r3 h5) (cj rfl (cj (laws_toBook_ok o_ r4 h6) (cj rfl (cj (spec_Lay_ok r3 (Book.mk r4.Accts) r5 h7) (cj (by simp [V.nv, nvL, nvL_all, nv_E3, nv_E5, nv_E9, nv_E28, nv_E39, nv_E47, nv_E48, nv_E49, nv_E51, nv_E52, nv_E54, nv_E61, nv_E124, nv_E177]) (cj (laws_toStripeS_ok o r6 h8) (cj rfl (cj (laws_toBook_ok o_ r7 h9) (cj rfl (cj (impl_Lay_ok r6 r7 r8 h10) (cj (by simp [V.nv, nvL, nvL_all, nv_E3, nv_E5, nv_E9, nv_E28, nv_E39, nv_E47, nv_E48, nv_E49, nv_E51, nv_E52, nv_E54, nv_E61, nv_E124, nv_E177]) (cj (laws_eqStripeS_ok r8 r5 r9 h11) (cj (by simp [V.nv, nvL, nvL_all, nv_E4]) (cj1 (nt h12)))))))))))))))))))))))))))))))))))
end Go.Proofs.YtdpbcmajmojolaaM
