/- Printed by gen.py: functions on plain data, and that the program computes them. No condition. -/
import Derived.Test.YtobmabejfbmmfaaGreatDoorTsG1
namespace Go.Proofs.YtobmabejfbmmfaaGreatDoorM
set_option linter.unusedVariables false
set_option linter.unusedSimpArgs false
open Go.RowKit
set_option maxRecDepth 100000

def laws_FnExactTextSetup (o : ByteArray) : Option (Bool) :=
 if (decide (1048576 < (o.size : Int))) = true then
 some true
 else
 (spec_TextSetup o).bind fun r1 =>
 (impl_TextSetup o).bind fun r2 =>
 (laws_eqAcct r2.1 r1.1).bind fun r3 =>
 if r3 = true then
 if (r2.2 == r1.2) = true then
 (laws_markAcct r2.1 1).bind fun r4 =>
 (laws_heldAcct (Acct.mk r2.1.Id r2.1.Limit r2.1.Posted r2.1.Most r2.1.MostSum r4.2.1 (Ring.mk r2.1.Ring.Span r2.1.Ring.Head r4.2.2.1 r4.2.2.2.1) r4.2.2.2.2) 1).bind fun r5 =>
 if (decide (r5 < 0)) = true then
 some false
 else
 if (r5 != r4.1) = true then
 some false
 else
 (impl_TextSetup o).bind fun r6 =>
 (laws_eqAcct r6.1 r1.1).bind fun r7 =>
 if r7 = true then
 if (r6.2 == r1.2) = true then
 (laws_heldAcct (Acct.mk r2.1.Id r2.1.Limit r2.1.Posted r2.1.Most r2.1.MostSum r4.2.1 (Ring.mk r2.1.Ring.Span r2.1.Ring.Head r4.2.2.1 r4.2.2.2.1) r4.2.2.2.2) 1).bind fun r8 =>
 if (decide (r8 < 0)) = true then
 some false
 else
 if (r8 != r4.1) = true then
 some false
 else
 some true
 else
 some false
 else
 some false
 else
 some false
 else
 some false
theorem laws_FnExactTextSetup_ok (o : ByteArray) : Pn (fun y => Fn Tryz.prog 3 [(false, E9 o)] (E4 y) []) (laws_FnExactTextSetup o) := by
  unfold laws_FnExactTextSetup
  exact
   Pn.ite (fun h1 =>
   Pn.some (Fn.of [.bit true] (p := [(decide (1048576 < (o.size : Int))) = true]) (by kernel_rfl) (cj1 h1))) (fun h1 =>
   Pn.bind (fun r1 h2 =>
   Pn.bind (fun r2 h3 =>
   Pn.bind (fun r3 h4 =>
   Pn.ite (fun h5 =>
   Pn.ite (fun h6 =>
   Pn.bind (fun r4 h7 =>
   Pn.bind (fun r5 h8 =>
   Pn.ite (fun h9 =>
   Pn.some (Fn.of [.bit false, .call [] (V.tup [E28 r1.1, E4 r1.2]) [], .call [] (V.tup [E28 r2.1, E4 r2.2]) [], .call [] (E4 r3) [], .bit false, .bit false, .bit false, .bit false, .bit false, .call [true, false] (E3 r4.1) [V.sl true 61 (List.map E61 r4.2.1), V.sl true 3 (List.map E3 r4.2.2.1), V.sl true 3 (List.map E3 r4.2.2.2.1), V.sl true 66 (List.map E66 r4.2.2.2.2)], .call [] (E3 r5) [], .bit true] (p := [(decide (1048576 < (o.size : Int))) = false,
    Fn Tryz.prog 4 [(false, E9 o)] (V.tup [E28 r1.1, E4 r1.2]) [],
    (true || ((V.tup [E28 r1.1, E4 r1.2]).nv && nvL [])) = true,
    Fn Tryz.prog 5 [(false, E9 o)] (V.tup [E28 r2.1, E4 r2.2]) [],
    (true || ((V.tup [E28 r2.1, E4 r2.2]).nv && nvL [])) = true,
    Fn Tryz.prog 6 [(false, E28 r2.1), (false, E28 r1.1)] (E4 r3) [],
    (false || ((E4 r3).nv && nvL [])) = true,
    (!r3) = false,
    (!r3) = false,
    (!r3) = false,
    (!r3) = false,
    (!(r2.2 == r1.2)) = false,
    Fn Tryz.prog 7 [(true, E28 r2.1), (false, E3 1)] (E3 r4.1) [V.sl true 61 (List.map E61 r4.2.1), V.sl true 3 (List.map E3 r4.2.2.1), V.sl true 3 (List.map E3 r4.2.2.2.1), V.sl true 66 (List.map E66 r4.2.2.2.2)],
    (true || ((E3 r4.1).nv && nvL [V.sl true 61 (List.map E61 r4.2.1), V.sl true 3 (List.map E3 r4.2.2.1), V.sl true 3 (List.map E3 r4.2.2.2.1), V.sl true 66 (List.map E66 r4.2.2.2.2)])) = true,
    Fn Tryz.prog 8 [(false, E28 (Acct.mk r2.1.Id r2.1.Limit r2.1.Posted r2.1.Most r2.1.MostSum r4.2.1 (Ring.mk r2.1.Ring.Span r2.1.Ring.Head r4.2.2.1 r4.2.2.2.1) r4.2.2.2.2)), (false, E3 1)] (E3 r5) [],
    (false || ((E3 r5).nv && nvL [])) = true,
    (decide (r5 < 0)) = true]) (by kernel_rfl) (cj h1 (cj (spec_TextSetup_ok o r1 h2) (cj rfl (cj (impl_TextSetup_ok o r2 h3) (cj rfl (cj (laws_eqAcct_ok r2.1 r1.1 r3 h4) (cj (by simp [V.nv, nvL, nvL_all, nv_E4]) (cj (nf h5) (cj (nf h5) (cj (nf h5) (cj (nf h5) (cj (nf h6) (cj (laws_markAcct_ok r2.1 1 r4 h7) (cj rfl (cj (laws_heldAcct_ok (Acct.mk r2.1.Id r2.1.Limit r2.1.Posted r2.1.Most r2.1.MostSum r4.2.1 (Ring.mk r2.1.Ring.Span r2.1.Ring.Head r4.2.2.1 r4.2.2.2.1) r4.2.2.2.2) 1 r5 h8) (cj (by simp [V.nv, nvL, nvL_all, nv_E3]) (cj1 h9))))))))))))))))))) (fun h9 =>
   Pn.ite (fun h10 =>
   Pn.some (Fn.of [.bit false, .call [] (V.tup [E28 r1.1, E4 r1.2]) [], .call [] (V.tup [E28 r2.1, E4 r2.2]) [], .call [] (E4 r3) [], .bit false, .bit false, .bit false, .bit false, .bit false, .call [true, false] (E3 r4.1) [V.sl true 61 (List.map E61 r4.2.1), V.sl true 3 (List.map E3 r4.2.2.1), V.sl true 3 (List.map E3 r4.2.2.2.1), V.sl true 66 (List.map E66 r4.2.2.2.2)], .call [] (E3 r5) [], .bit false, .bit true] (p := [(decide (1048576 < (o.size : Int))) = false,
    Fn Tryz.prog 4 [(false, E9 o)] (V.tup [E28 r1.1, E4 r1.2]) [],
    (true || ((V.tup [E28 r1.1, E4 r1.2]).nv && nvL [])) = true,
    Fn Tryz.prog 5 [(false, E9 o)] (V.tup [E28 r2.1, E4 r2.2]) [],
    (true || ((V.tup [E28 r2.1, E4 r2.2]).nv && nvL [])) = true,
    Fn Tryz.prog 6 [(false, E28 r2.1), (false, E28 r1.1)] (E4 r3) [],
    (false || ((E4 r3).nv && nvL [])) = true,
    (!r3) = false,
    (!r3) = false,
    (!r3) = false,
    (!r3) = false,
    (!(r2.2 == r1.2)) = false,
    Fn Tryz.prog 7 [(true, E28 r2.1), (false, E3 1)] (E3 r4.1) [V.sl true 61 (List.map E61 r4.2.1), V.sl true 3 (List.map E3 r4.2.2.1), V.sl true 3 (List.map E3 r4.2.2.2.1), V.sl true 66 (List.map E66 r4.2.2.2.2)],
    (true || ((E3 r4.1).nv && nvL [V.sl true 61 (List.map E61 r4.2.1), V.sl true 3 (List.map E3 r4.2.2.1), V.sl true 3 (List.map E3 r4.2.2.2.1), V.sl true 66 (List.map E66 r4.2.2.2.2)])) = true,
    Fn Tryz.prog 8 [(false, E28 (Acct.mk r2.1.Id r2.1.Limit r2.1.Posted r2.1.Most r2.1.MostSum r4.2.1 (Ring.mk r2.1.Ring.Span r2.1.Ring.Head r4.2.2.1 r4.2.2.2.1) r4.2.2.2.2)), (false, E3 1)] (E3 r5) [],
    (false || ((E3 r5).nv && nvL [])) = true,
    (decide (r5 < 0)) = false,
    (r5 != r4.1) = true]) (by kernel_rfl) (cj h1 (cj (spec_TextSetup_ok o r1 h2) (cj rfl (cj (impl_TextSetup_ok o r2 h3) (cj rfl (cj (laws_eqAcct_ok r2.1 r1.1 r3 h4) (cj (by simp [V.nv, nvL, nvL_all, nv_E4]) (cj (nf h5) (cj (nf h5) (cj (nf h5) (cj (nf h5) (cj (nf h6) (cj (laws_markAcct_ok r2.1 1 r4 h7) (cj rfl (cj (laws_heldAcct_ok (Acct.mk r2.1.Id r2.1.Limit r2.1.Posted r2.1.Most r2.1.MostSum r4.2.1 (Ring.mk r2.1.Ring.Span r2.1.Ring.Head r4.2.2.1 r4.2.2.2.1) r4.2.2.2.2) 1 r5 h8) (cj (by simp [V.nv, nvL, nvL_all, nv_E3]) (cj h9 (cj1 h10)))))))))))))))))))) (fun h10 =>
   Pn.bind (fun r6 h11 =>
   Pn.bind (fun r7 h12 =>
   Pn.ite (fun h13 =>
   Pn.ite (fun h14 =>
   Pn.bind (fun r8 h15 =>
   Pn.ite (fun h16 =>
   Pn.some (Fn.of [.bit false, .call [] (V.tup [E28 r1.1, E4 r1.2]) [], .call [] (V.tup [E28 r2.1, E4 r2.2]) [], .call [] (E4 r3) [], .bit false, .bit false, .bit false, .bit false, .bit false, .call [true, false] (E3 r4.1) [V.sl true 61 (List.map E61 r4.2.1), V.sl true 3 (List.map E3 r4.2.2.1), V.sl true 3 (List.map E3 r4.2.2.2.1), V.sl true 66 (List.map E66 r4.2.2.2.2)], .call [] (E3 r5) [], .bit false, .bit false, .call [] (V.tup [E28 r6.1, E4 r6.2]) [], .call [] (E4 r7) [], .bit false, .bit false, .bit false, .bit false, .bit false, .call [] (E3 r8) [], .bit true] (p := [(decide (1048576 < (o.size : Int))) = false,
    Fn Tryz.prog 4 [(false, E9 o)] (V.tup [E28 r1.1, E4 r1.2]) [],
    (true || ((V.tup [E28 r1.1, E4 r1.2]).nv && nvL [])) = true,
    Fn Tryz.prog 5 [(false, E9 o)] (V.tup [E28 r2.1, E4 r2.2]) [],
    (true || ((V.tup [E28 r2.1, E4 r2.2]).nv && nvL [])) = true,
    Fn Tryz.prog 6 [(false, E28 r2.1), (false, E28 r1.1)] (E4 r3) [],
    (false || ((E4 r3).nv && nvL [])) = true,
    (!r3) = false,
    (!r3) = false,
    (!r3) = false,
    (!r3) = false,
    (!(r2.2 == r1.2)) = false,
    Fn Tryz.prog 7 [(true, E28 r2.1), (false, E3 1)] (E3 r4.1) [V.sl true 61 (List.map E61 r4.2.1), V.sl true 3 (List.map E3 r4.2.2.1), V.sl true 3 (List.map E3 r4.2.2.2.1), V.sl true 66 (List.map E66 r4.2.2.2.2)],
    (true || ((E3 r4.1).nv && nvL [V.sl true 61 (List.map E61 r4.2.1), V.sl true 3 (List.map E3 r4.2.2.1), V.sl true 3 (List.map E3 r4.2.2.2.1), V.sl true 66 (List.map E66 r4.2.2.2.2)])) = true,
    Fn Tryz.prog 8 [(false, E28 (Acct.mk r2.1.Id r2.1.Limit r2.1.Posted r2.1.Most r2.1.MostSum r4.2.1 (Ring.mk r2.1.Ring.Span r2.1.Ring.Head r4.2.2.1 r4.2.2.2.1) r4.2.2.2.2)), (false, E3 1)] (E3 r5) [],
    (false || ((E3 r5).nv && nvL [])) = true,
    (decide (r5 < 0)) = false,
    (r5 != r4.1) = false,
    Fn Tryz.prog 5 [(false, E9 o)] (V.tup [E28 r6.1, E4 r6.2]) [],
    (true || ((V.tup [E28 r6.1, E4 r6.2]).nv && nvL [])) = true,
    Fn Tryz.prog 6 [(false, E28 r6.1), (false, E28 r1.1)] (E4 r7) [],
    (false || ((E4 r7).nv && nvL [])) = true,
    (!r7) = false,
    (!r7) = false,
    (!r7) = false,
    (!r7) = false,
    (!(r6.2 == r1.2)) = false,
    Fn Tryz.prog 8 [(false, E28 (Acct.mk r2.1.Id r2.1.Limit r2.1.Posted r2.1.Most r2.1.MostSum r4.2.1 (Ring.mk r2.1.Ring.Span r2.1.Ring.Head r4.2.2.1 r4.2.2.2.1) r4.2.2.2.2)), (false, E3 1)] (E3 r8) [],
    (false || ((E3 r8).nv && nvL [])) = true,
    (decide (r8 < 0)) = true]) (by kernel_rfl) (cj h1 (cj (spec_TextSetup_ok o r1 h2) (cj rfl (cj (impl_TextSetup_ok o r2 h3) (cj rfl (cj (laws_eqAcct_ok r2.1 r1.1 r3 h4) (cj (by simp [V.nv, nvL, nvL_all, nv_E4]) (cj (nf h5) (cj (nf h5) (cj (nf h5) (cj (nf h5) (cj (nf h6) (cj (laws_markAcct_ok r2.1 1 r4 h7) (cj rfl (cj (laws_heldAcct_ok (Acct.mk r2.1.Id r2.1.Limit r2.1.Posted r2.1.Most r2.1.MostSum r4.2.1 (Ring.mk r2.1.Ring.Span r2.1.Ring.Head r4.2.2.1 r4.2.2.2.1) r4.2.2.2.2) 1 r5 h8) (cj (by simp [V.nv, nvL, nvL_all, nv_E3]) (cj h9 (cj h10 (cj (impl_TextSetup_ok o r6 h11) (cj rfl (cj (laws_eqAcct_ok r6.1 r1.1 r7 h12) (cj (by simp [V.nv, nvL, nvL_all, nv_E4]) (cj (nf h13) (cj (nf h13) (cj (nf h13) (cj (nf h13) (cj (nf h14) (cj (laws_heldAcct_ok (Acct.mk r2.1.Id r2.1.Limit r2.1.Posted r2.1.Most r2.1.MostSum r4.2.1 (Ring.mk r2.1.Ring.Span r2.1.Ring.Head r4.2.2.1 r4.2.2.2.1) r4.2.2.2.2) 1 r8 h15) (cj (by simp [V.nv, nvL, nvL_all, nv_E3]) (cj1 h16)))))))))))))))))))))))))))))))) (fun h16 =>
   Pn.ite (fun h17 =>
   Pn.some (Fn.of [.bit false, .call [] (V.tup [E28 r1.1, E4 r1.2]) [], .call [] (V.tup [E28 r2.1, E4 r2.2]) [], .call [] (E4 r3) [], .bit false, .bit false, .bit false, .bit false, .bit false, .call [true, false] (E3 r4.1) [V.sl true 61 (List.map E61 r4.2.1), V.sl true 3 (List.map E3 r4.2.2.1), V.sl true 3 (List.map E3 r4.2.2.2.1), V.sl true 66 (List.map E66 r4.2.2.2.2)], .call [] (E3 r5) [], .bit false, .bit false, .call [] (V.tup [E28 r6.1, E4 r6.2]) [], .call [] (E4 r7) [], .bit false, .bit false, .bit false, .bit false, .bit false, .call [] (E3 r8) [], .bit false, .bit true] (p := [(decide (1048576 < (o.size : Int))) = false,
    Fn Tryz.prog 4 [(false, E9 o)] (V.tup [E28 r1.1, E4 r1.2]) [],
    (true || ((V.tup [E28 r1.1, E4 r1.2]).nv && nvL [])) = true,
    Fn Tryz.prog 5 [(false, E9 o)] (V.tup [E28 r2.1, E4 r2.2]) [],
    (true || ((V.tup [E28 r2.1, E4 r2.2]).nv && nvL [])) = true,
    Fn Tryz.prog 6 [(false, E28 r2.1), (false, E28 r1.1)] (E4 r3) [],
    (false || ((E4 r3).nv && nvL [])) = true,
    (!r3) = false,
    (!r3) = false,
    (!r3) = false,
    (!r3) = false,
    (!(r2.2 == r1.2)) = false,
    Fn Tryz.prog 7 [(true, E28 r2.1), (false, E3 1)] (E3 r4.1) [V.sl true 61 (List.map E61 r4.2.1), V.sl true 3 (List.map E3 r4.2.2.1), V.sl true 3 (List.map E3 r4.2.2.2.1), V.sl true 66 (List.map E66 r4.2.2.2.2)],
    (true || ((E3 r4.1).nv && nvL [V.sl true 61 (List.map E61 r4.2.1), V.sl true 3 (List.map E3 r4.2.2.1), V.sl true 3 (List.map E3 r4.2.2.2.1), V.sl true 66 (List.map E66 r4.2.2.2.2)])) = true,
    Fn Tryz.prog 8 [(false, E28 (Acct.mk r2.1.Id r2.1.Limit r2.1.Posted r2.1.Most r2.1.MostSum r4.2.1 (Ring.mk r2.1.Ring.Span r2.1.Ring.Head r4.2.2.1 r4.2.2.2.1) r4.2.2.2.2)), (false, E3 1)] (E3 r5) [],
    (false || ((E3 r5).nv && nvL [])) = true,
    (decide (r5 < 0)) = false,
    (r5 != r4.1) = false,
    Fn Tryz.prog 5 [(false, E9 o)] (V.tup [E28 r6.1, E4 r6.2]) [],
    (true || ((V.tup [E28 r6.1, E4 r6.2]).nv && nvL [])) = true,
    Fn Tryz.prog 6 [(false, E28 r6.1), (false, E28 r1.1)] (E4 r7) [],
    (false || ((E4 r7).nv && nvL [])) = true,
    (!r7) = false,
    (!r7) = false,
    (!r7) = false,
    (!r7) = false,
    (!(r6.2 == r1.2)) = false,
    Fn Tryz.prog 8 [(false, E28 (Acct.mk r2.1.Id r2.1.Limit r2.1.Posted r2.1.Most r2.1.MostSum r4.2.1 (Ring.mk r2.1.Ring.Span r2.1.Ring.Head r4.2.2.1 r4.2.2.2.1) r4.2.2.2.2)), (false, E3 1)] (E3 r8) [],
    (false || ((E3 r8).nv && nvL [])) = true,
    (decide (r8 < 0)) = false,
    (r8 != r4.1) = true]) (by kernel_rfl) (cj h1 (cj (spec_TextSetup_ok o r1 h2) (cj rfl (cj (impl_TextSetup_ok o r2 h3) (cj rfl (cj (laws_eqAcct_ok r2.1 r1.1 r3 h4) (cj (by simp [V.nv, nvL, nvL_all, nv_E4]) (cj (nf h5) (cj (nf h5) (cj (nf h5) (cj (nf h5) (cj (nf h6) (cj (laws_markAcct_ok r2.1 1 r4 h7) (cj rfl (cj (laws_heldAcct_ok (Acct.mk r2.1.Id r2.1.Limit r2.1.Posted r2.1.Most r2.1.MostSum r4.2.1 (Ring.mk r2.1.Ring.Span r2.1.Ring.Head r4.2.2.1 r4.2.2.2.1) r4.2.2.2.2) 1 r5 h8) (cj (by simp [V.nv, nvL, nvL_all, nv_E3]) (cj h9 (cj h10 (cj (impl_TextSetup_ok o r6 h11) (cj rfl (cj (laws_eqAcct_ok r6.1 r1.1 r7 h12) (cj (by simp [V.nv, nvL, nvL_all, nv_E4]) (cj (nf h13) (cj (nf h13) (cj (nf h13) (cj (nf h13) (cj (nf h14) (cj (laws_heldAcct_ok (Acct.mk r2.1.Id r2.1.Limit r2.1.Posted r2.1.Most r2.1.MostSum r4.2.1 (Ring.mk r2.1.Ring.Span r2.1.Ring.Head r4.2.2.1 r4.2.2.2.1) r4.2.2.2.2) 1 r8 h15) (cj (by simp [V.nv, nvL, nvL_all, nv_E3]) (cj h16 (cj1 h17))))))))))))))))))))))))))))))))) (fun h17 =>
   Pn.some (Fn.of [.bit false, .call [] (V.tup [E28 r1.1, E4 r1.2]) [], .call [] (V.tup [E28 r2.1, E4 r2.2]) [], .call [] (E4 r3) [], .bit false, .bit false, .bit false, .bit false, .bit false, .call [true, false] (E3 r4.1) [V.sl true 61 (List.map E61 r4.2.1), V.sl true 3 (List.map E3 r4.2.2.1), V.sl true 3 (List.map E3 r4.2.2.2.1), V.sl true 66 (List.map E66 r4.2.2.2.2)], .call [] (E3 r5) [], .bit false, .bit false, .call [] (V.tup [E28 r6.1, E4 r6.2]) [], .call [] (E4 r7) [], .bit false, .bit false, .bit false, .bit false, .bit false, .call [] (E3 r8) [], .bit false, .bit false] (p := [(decide (1048576 < (o.size : Int))) = false,
    Fn Tryz.prog 4 [(false, E9 o)] (V.tup [E28 r1.1, E4 r1.2]) [],
    (true || ((V.tup [E28 r1.1, E4 r1.2]).nv && nvL [])) = true,
    Fn Tryz.prog 5 [(false, E9 o)] (V.tup [E28 r2.1, E4 r2.2]) [],
    (true || ((V.tup [E28 r2.1, E4 r2.2]).nv && nvL [])) = true,
    Fn Tryz.prog 6 [(false, E28 r2.1), (false, E28 r1.1)] (E4 r3) [],
    (false || ((E4 r3).nv && nvL [])) = true,
    (!r3) = false,
    (!r3) = false,
    (!r3) = false,
    (!r3) = false,
    (!(r2.2 == r1.2)) = false,
    Fn Tryz.prog 7 [(true, E28 r2.1), (false, E3 1)] (E3 r4.1) [V.sl true 61 (List.map E61 r4.2.1), V.sl true 3 (List.map E3 r4.2.2.1), V.sl true 3 (List.map E3 r4.2.2.2.1), V.sl true 66 (List.map E66 r4.2.2.2.2)],
    (true || ((E3 r4.1).nv && nvL [V.sl true 61 (List.map E61 r4.2.1), V.sl true 3 (List.map E3 r4.2.2.1), V.sl true 3 (List.map E3 r4.2.2.2.1), V.sl true 66 (List.map E66 r4.2.2.2.2)])) = true,
    Fn Tryz.prog 8 [(false, E28 (Acct.mk r2.1.Id r2.1.Limit r2.1.Posted r2.1.Most r2.1.MostSum r4.2.1 (Ring.mk r2.1.Ring.Span r2.1.Ring.Head r4.2.2.1 r4.2.2.2.1) r4.2.2.2.2)), (false, E3 1)] (E3 r5) [],
    (false || ((E3 r5).nv && nvL [])) = true,
    (decide (r5 < 0)) = false,
    (r5 != r4.1) = false,
    Fn Tryz.prog 5 [(false, E9 o)] (V.tup [E28 r6.1, E4 r6.2]) [],
    (true || ((V.tup [E28 r6.1, E4 r6.2]).nv && nvL [])) = true,
    Fn Tryz.prog 6 [(false, E28 r6.1), (false, E28 r1.1)] (E4 r7) [],
    (false || ((E4 r7).nv && nvL [])) = true,
    (!r7) = false,
    (!r7) = false,
    (!r7) = false,
    (!r7) = false,
    (!(r6.2 == r1.2)) = false,
    Fn Tryz.prog 8 [(false, E28 (Acct.mk r2.1.Id r2.1.Limit r2.1.Posted r2.1.Most r2.1.MostSum r4.2.1 (Ring.mk r2.1.Ring.Span r2.1.Ring.Head r4.2.2.1 r4.2.2.2.1) r4.2.2.2.2)), (false, E3 1)] (E3 r8) [],
    (false || ((E3 r8).nv && nvL [])) = true,
    (decide (r8 < 0)) = false,
    (r8 != r4.1) = false]) (by kernel_rfl) (cj h1 (cj (spec_TextSetup_ok o r1 h2) (cj rfl (cj (impl_TextSetup_ok o r2 h3) (cj rfl (cj (laws_eqAcct_ok r2.1 r1.1 r3 h4) (cj (by simp [V.nv, nvL, nvL_all, nv_E4]) (cj (nf h5) (cj (nf h5) (cj (nf h5) (cj (nf h5) (cj (nf h6) (cj (laws_markAcct_ok r2.1 1 r4 h7) (cj rfl (cj (laws_heldAcct_ok (Acct.mk r2.1.Id r2.1.Limit r2.1.Posted r2.1.Most r2.1.MostSum r4.2.1 (Ring.mk r2.1.Ring.Span r2.1.Ring.Head r4.2.2.1 r4.2.2.2.1) r4.2.2.2.2) 1 r5 h8) (cj (by simp [V.nv, nvL, nvL_all, nv_E3]) (cj h9 (cj h10 (cj (impl_TextSetup_ok o r6 h11) (cj rfl (cj (laws_eqAcct_ok r6.1 r1.1 r7 h12) (cj (by simp [V.nv, nvL, nvL_all, nv_E4]) (cj (nf h13) (cj (nf h13) (cj (nf h13) (cj (nf h13) (cj (nf h14) (cj (laws_heldAcct_ok (Acct.mk r2.1.Id r2.1.Limit r2.1.Posted r2.1.Most r2.1.MostSum r4.2.1 (Ring.mk r2.1.Ring.Span r2.1.Ring.Head r4.2.2.1 r4.2.2.2.1) r4.2.2.2.2) 1 r8 h15) (cj (by simp [V.nv, nvL, nvL_all, nv_E3]) (cj h16 (cj1 h17)))))))))))))))))))))))))))))))))))) (fun h14 =>
   Pn.some (Fn.of [.bit false, .call [] (V.tup [E28 r1.1, E4 r1.2]) [], .call [] (V.tup [E28 r2.1, E4 r2.2]) [], .call [] (E4 r3) [], .bit false, .bit false, .bit false, .bit false, .bit false, .call [true, false] (E3 r4.1) [V.sl true 61 (List.map E61 r4.2.1), V.sl true 3 (List.map E3 r4.2.2.1), V.sl true 3 (List.map E3 r4.2.2.2.1), V.sl true 66 (List.map E66 r4.2.2.2.2)], .call [] (E3 r5) [], .bit false, .bit false, .call [] (V.tup [E28 r6.1, E4 r6.2]) [], .call [] (E4 r7) [], .bit false, .bit false, .bit false, .bit false, .bit true] (p := [(decide (1048576 < (o.size : Int))) = false,
    Fn Tryz.prog 4 [(false, E9 o)] (V.tup [E28 r1.1, E4 r1.2]) [],
    (true || ((V.tup [E28 r1.1, E4 r1.2]).nv && nvL [])) = true,
    Fn Tryz.prog 5 [(false, E9 o)] (V.tup [E28 r2.1, E4 r2.2]) [],
    (true || ((V.tup [E28 r2.1, E4 r2.2]).nv && nvL [])) = true,
    Fn Tryz.prog 6 [(false, E28 r2.1), (false, E28 r1.1)] (E4 r3) [],
    (false || ((E4 r3).nv && nvL [])) = true,
    (!r3) = false,
    (!r3) = false,
    (!r3) = false,
    (!r3) = false,
    (!(r2.2 == r1.2)) = false,
    Fn Tryz.prog 7 [(true, E28 r2.1), (false, E3 1)] (E3 r4.1) [V.sl true 61 (List.map E61 r4.2.1), V.sl true 3 (List.map E3 r4.2.2.1), V.sl true 3 (List.map E3 r4.2.2.2.1), V.sl true 66 (List.map E66 r4.2.2.2.2)],
    (true || ((E3 r4.1).nv && nvL [V.sl true 61 (List.map E61 r4.2.1), V.sl true 3 (List.map E3 r4.2.2.1), V.sl true 3 (List.map E3 r4.2.2.2.1), V.sl true 66 (List.map E66 r4.2.2.2.2)])) = true,
    Fn Tryz.prog 8 [(false, E28 (Acct.mk r2.1.Id r2.1.Limit r2.1.Posted r2.1.Most r2.1.MostSum r4.2.1 (Ring.mk r2.1.Ring.Span r2.1.Ring.Head r4.2.2.1 r4.2.2.2.1) r4.2.2.2.2)), (false, E3 1)] (E3 r5) [],
    (false || ((E3 r5).nv && nvL [])) = true,
    (decide (r5 < 0)) = false,
    (r5 != r4.1) = false,
    Fn Tryz.prog 5 [(false, E9 o)] (V.tup [E28 r6.1, E4 r6.2]) [],
    (true || ((V.tup [E28 r6.1, E4 r6.2]).nv && nvL [])) = true,
    Fn Tryz.prog 6 [(false, E28 r6.1), (false, E28 r1.1)] (E4 r7) [],
    (false || ((E4 r7).nv && nvL [])) = true,
    (!r7) = false,
    (!r7) = false,
    (!r7) = false,
    (!r7) = false,
    (!(r6.2 == r1.2)) = true]) (by kernel_rfl) (cj h1 (cj (spec_TextSetup_ok o r1 h2) (cj rfl (cj (impl_TextSetup_ok o r2 h3) (cj rfl (cj (laws_eqAcct_ok r2.1 r1.1 r3 h4) (cj (by simp [V.nv, nvL, nvL_all, nv_E4]) (cj (nf h5) (cj (nf h5) (cj (nf h5) (cj (nf h5) (cj (nf h6) (cj (laws_markAcct_ok r2.1 1 r4 h7) (cj rfl (cj (laws_heldAcct_ok (Acct.mk r2.1.Id r2.1.Limit r2.1.Posted r2.1.Most r2.1.MostSum r4.2.1 (Ring.mk r2.1.Ring.Span r2.1.Ring.Head r4.2.2.1 r4.2.2.2.1) r4.2.2.2.2) 1 r5 h8) (cj (by simp [V.nv, nvL, nvL_all, nv_E3]) (cj h9 (cj h10 (cj (impl_TextSetup_ok o r6 h11) (cj rfl (cj (laws_eqAcct_ok r6.1 r1.1 r7 h12) (cj (by simp [V.nv, nvL, nvL_all, nv_E4]) (cj (nf h13) (cj (nf h13) (cj (nf h13) (cj (nf h13) (cj1 (nt h14))))))))))))))))))))))))))))))) (fun h13 =>
   Pn.some (Fn.of [.bit false, .call [] (V.tup [E28 r1.1, E4 r1.2]) [], .call [] (V.tup [E28 r2.1, E4 r2.2]) [], .call [] (E4 r3) [], .bit false, .bit false, .bit false, .bit false, .bit false, .call [true, false] (E3 r4.1) [V.sl true 61 (List.map E61 r4.2.1), V.sl true 3 (List.map E3 r4.2.2.1), V.sl true 3 (List.map E3 r4.2.2.2.1), V.sl true 66 (List.map E66 r4.2.2.2.2)], .call [] (E3 r5) [], .bit false, .bit false, .call [] (V.tup [E28 r6.1, E4 r6.2]) [], .call [] (E4 r7) [], .bit true, .bit true, .bit true, .bit true, .bit true] (p := [(decide (1048576 < (o.size : Int))) = false,
    Fn Tryz.prog 4 [(false, E9 o)] (V.tup [E28 r1.1, E4 r1.2]) [],
    (true || ((V.tup [E28 r1.1, E4 r1.2]).nv && nvL [])) = true,
    Fn Tryz.prog 5 [(false, E9 o)] (V.tup [E28 r2.1, E4 r2.2]) [],
    (true || ((V.tup [E28 r2.1, E4 r2.2]).nv && nvL [])) = true,
    Fn Tryz.prog 6 [(false, E28 r2.1), (false, E28 r1.1)] (E4 r3) [],
    (false || ((E4 r3).nv && nvL [])) = true,
    (!r3) = false,
    (!r3) = false,
    (!r3) = false,
    (!r3) = false,
    (!(r2.2 == r1.2)) = false,
    Fn Tryz.prog 7 [(true, E28 r2.1), (false, E3 1)] (E3 r4.1) [V.sl true 61 (List.map E61 r4.2.1), V.sl true 3 (List.map E3 r4.2.2.1), V.sl true 3 (List.map E3 r4.2.2.2.1), V.sl true 66 (List.map E66 r4.2.2.2.2)],
    (true || ((E3 r4.1).nv && nvL [V.sl true 61 (List.map E61 r4.2.1), V.sl true 3 (List.map E3 r4.2.2.1), V.sl true 3 (List.map E3 r4.2.2.2.1), V.sl true 66 (List.map E66 r4.2.2.2.2)])) = true,
    Fn Tryz.prog 8 [(false, E28 (Acct.mk r2.1.Id r2.1.Limit r2.1.Posted r2.1.Most r2.1.MostSum r4.2.1 (Ring.mk r2.1.Ring.Span r2.1.Ring.Head r4.2.2.1 r4.2.2.2.1) r4.2.2.2.2)), (false, E3 1)] (E3 r5) [],
    (false || ((E3 r5).nv && nvL [])) = true,
    (decide (r5 < 0)) = false,
    (r5 != r4.1) = false,
    Fn Tryz.prog 5 [(false, E9 o)] (V.tup [E28 r6.1, E4 r6.2]) [],
    (true || ((V.tup [E28 r6.1, E4 r6.2]).nv && nvL [])) = true,
    Fn Tryz.prog 6 [(false, E28 r6.1), (false, E28 r1.1)] (E4 r7) [],
    (false || ((E4 r7).nv && nvL [])) = true,
    (!r7) = true,
    (!r7) = true,
    (!r7) = true,
    (!r7) = true,
    true = true]) (by kernel_rfl) (cj h1 (cj (spec_TextSetup_ok o r1 h2) (cj rfl (cj (impl_TextSetup_ok o r2 h3) (cj rfl (cj (laws_eqAcct_ok r2.1 r1.1 r3 h4) (cj (by simp [V.nv, nvL, nvL_all, nv_E4]) (cj (nf h5) (cj (nf h5) (cj (nf h5) (cj (nf h5) (cj (nf h6) (cj (laws_markAcct_ok r2.1 1 r4 h7) (cj rfl (cj (laws_heldAcct_ok (Acct.mk r2.1.Id r2.1.Limit r2.1.Posted r2.1.Most r2.1.MostSum r4.2.1 (Ring.mk r2.1.Ring.Span r2.1.Ring.Head r4.2.2.1 r4.2.2.2.1) r4.2.2.2.2) 1 r5 h8) (cj (by simp [V.nv, nvL, nvL_all, nv_E3]) (cj h9 (cj h10 (cj (impl_TextSetup_ok o r6 h11) (cj rfl (cj (laws_eqAcct_ok r6.1 r1.1 r7 h12) (cj (by simp [V.nv, nvL, nvL_all, nv_E4]) (cj (nt h13) (cj (nt h13) (cj (nt h13) (cj (nt h13) (cj1 rfl)))))))))))))))))))))))))))))))))))) (fun h6 =>
   Pn.some (Fn.of [.bit false, .call [] (V.tup [E28 r1.1, E4 r1.2]) [], .call [] (V.tup [E28 r2.1, E4 r2.2]) [], .call [] (E4 r3) [], .bit false, .bit false, .bit false, .bit false, .bit true] (p := [(decide (1048576 < (o.size : Int))) = false,
    Fn Tryz.prog 4 [(false, E9 o)] (V.tup [E28 r1.1, E4 r1.2]) [],
    (true || ((V.tup [E28 r1.1, E4 r1.2]).nv && nvL [])) = true,
    Fn Tryz.prog 5 [(false, E9 o)] (V.tup [E28 r2.1, E4 r2.2]) [],
    (true || ((V.tup [E28 r2.1, E4 r2.2]).nv && nvL [])) = true,
    Fn Tryz.prog 6 [(false, E28 r2.1), (false, E28 r1.1)] (E4 r3) [],
    (false || ((E4 r3).nv && nvL [])) = true,
    (!r3) = false,
    (!r3) = false,
    (!r3) = false,
    (!r3) = false,
    (!(r2.2 == r1.2)) = true]) (by kernel_rfl) (cj h1 (cj (spec_TextSetup_ok o r1 h2) (cj rfl (cj (impl_TextSetup_ok o r2 h3) (cj rfl (cj (laws_eqAcct_ok r2.1 r1.1 r3 h4) (cj (by simp [V.nv, nvL, nvL_all, nv_E4]) (cj (nf h5) (cj (nf h5) (cj (nf h5) (cj (nf h5) (cj1 (nt h6)))))))))))))))) (fun h5 =>
   Pn.some (Fn.of [.bit false, .call [] (V.tup [E28 r1.1, E4 r1.2]) [], .call [] (V.tup [E28 r2.1, E4 r2.2]) [], .call [] (E4 r3) [], .bit true, .bit true, .bit true, .bit true, .bit true] (p := [(decide (1048576 < (o.size : Int))) = false,
    Fn Tryz.prog 4 [(false, E9 o)] (V.tup [E28 r1.1, E4 r1.2]) [],
    (true || ((V.tup [E28 r1.1, E4 r1.2]).nv && nvL [])) = true,
    Fn Tryz.prog 5 [(false, E9 o)] (V.tup [E28 r2.1, E4 r2.2]) [],
    (true || ((V.tup [E28 r2.1, E4 r2.2]).nv && nvL [])) = true,
    Fn Tryz.prog 6 [(false, E28 r2.1), (false, E28 r1.1)] (E4 r3) [],
    (false || ((E4 r3).nv && nvL [])) = true,
    (!r3) = true,
    (!r3) = true,
    (!r3) = true,
    (!r3) = true,
    true = true]) (by kernel_rfl) (cj h1 (cj (spec_TextSetup_ok o r1 h2) (cj rfl (cj (impl_TextSetup_ok o r2 h3) (cj rfl (cj (laws_eqAcct_ok r2.1 r1.1 r3 h4) (cj (by simp [V.nv, nvL, nvL_all, nv_E4]) (cj (nt h5) (cj (nt h5) (cj (nt h5) (cj (nt h5) (cj1 rfl))))))))))))))))))
end Go.Proofs.YtobmabejfbmmfaaGreatDoorM
