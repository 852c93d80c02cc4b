/- Printed by gen.py: functions on plain data, and that the program computes them. No condition. -/
import Derived.Test.YtniadckjgaldnaaGreatDoorFrG0
namespace Go.Proofs.YtniadckjgaldnaaGreatDoorM
set_option linter.unusedVariables false
set_option linter.unusedSimpArgs false
open Go.RowKit
set_option maxRecDepth 100000

def spec_ReqOk_c0 (o : Req) : Option (Lo Unit Unit) :=
 (spec_l11Op o.Op).bind fun r1 =>
 if r1 = true then
 (spec_OpMti o.Op).bind fun r2 =>
 if (o.Mti == r2) = true then
 (spec_AcctIdOk o.Acct).bind fun r3 =>
 if r3 = true then
 (spec_Digits o.Trace).bind fun r4 =>
 if r4 = true then
 if ((o.Trace.size : Int) != 6) = true then
 some (.ret ())
 else
 some (.out ())
 else
 some (.ret ())
 else
 some (.ret ())
 else
 some (.ret ())
 else
 some (.ret ())
theorem spec_ReqOk_c0_ok (o : Req) : Pn (JnO Tryz.prog (sub (codeOf Tryz.prog 36) [1, 0]) (st 110 [(1, V.ptr 0 0)] [Blk.box 36 [vI o.Op, vS o.Acct, vS o.Other, vS o.Hold, vS o.Trace, vS o.Mti, vI o.Amount, vI o.Ttl]] []) (fun (y : Lo Unit Unit) => Lo.elim y (fun s => (X.go, st 110 [(1, V.ptr 0 0)] [Blk.box 36 [vI o.Op, vS o.Acct, vS o.Other, vS o.Hold, vS o.Trace, vS o.Mti, vI o.Amount, vI o.Ttl]] [])) (fun s => (X.ret, st 110 [(2, vB false)] [] [])))) (spec_ReqOk_c0 o) := by
  unfold spec_ReqOk_c0
  exact
   Pn.bind (fun r1 h1 =>
   Pn.ite (fun h2 =>
   Pn.bind (fun r2 h3 =>
   Pn.ite (fun h4 =>
   Pn.bind (fun r3 h5 =>
   Pn.ite (fun h6 =>
   Pn.bind (fun r4 h7 =>
   Pn.ite (fun h8 =>
   Pn.ite (fun h9 =>
   Pn.some (JnO.of [.draw [], .call [] (E4 r1) [], bF, bF, bF, bF, bF, .call [] (E9 r2) [], bF, bF, bF, bF, bF, .call [] (E4 r3) [], bF, bF, bF, bF, bF, .call [] (E4 r4) [], bF, bF, bF, bF, bF, bF, bF, bT, .wait 1, .mask [2], .ren []] (p := [Fn Tryz.prog 62 [(false, E3 o.Op)] (E4 r1) [],(true || ((E4 r1).nv && nvL [])) = true,(!r1) = false,(!r1) = false,(!r1) = false,(!r1) = false,(!r1) = false,Fn Tryz.prog 60 [(false, E3 o.Op)] (E9 r2) [],(true || ((E9 r2).nv && nvL [])) = true,(!r1) = false,(!r1) = false,(!(o.Mti == r2)) = false,(!(o.Mti == r2)) = false,(!(o.Mti == r2)) = false,Fn Tryz.prog 63 [(false, E9 o.Acct)] (E4 r3) [],(true || ((E4 r3).nv && nvL [])) = true,(!(o.Mti == r2)) = false,(!(o.Mti == r2)) = false,(!r3) = false,(!r3) = false,(!r3) = false,Fn Tryz.prog 51 [(false, E9 o.Trace)] (E4 r4) [],(true || ((E4 r4).nv && nvL [])) = true,(!r3) = false,(!r3) = false,(!r4) = false,(!r4) = false,(!r4) = false,(!r4) = false,(!r4) = false,((o.Trace.size : Int) != 6) = true]) (by kernel_rfl) (cj (spec_l11Op_ok o.Op r1 h1) (cj rfl (cj (nf h2) (cj (nf h2) (cj (nf h2) (cj (nf h2) (cj (nf h2) (cj (spec_OpMti_ok o.Op r2 h3) (cj rfl (cj (nf h2) (cj (nf h2) (cj (nf h4) (cj (nf h4) (cj (nf h4) (cj (spec_AcctIdOk_ok o.Acct r3 h5) (cj rfl (cj (nf h4) (cj (nf h4) (cj (nf h6) (cj (nf h6) (cj (nf h6) (cj (spec_Digits_ok o.Trace r4 h7) (cj rfl (cj (nf h6) (cj (nf h6) (cj (nf h8) (cj (nf h8) (cj (nf h8) (cj (nf h8) (cj (nf h8) (cj1 h9))))))))))))))))))))))))))))))))) (fun h9 =>
   Pn.some (JnO.of [.draw [], .call [] (E4 r1) [], bF, bF, bF, bF, bF, .call [] (E9 r2) [], bF, bF, bF, bF, bF, .call [] (E4 r3) [], bF, bF, bF, bF, bF, .call [] (E4 r4) [], bF, bF, bF, bF, bF, bF, bF, bF, .mask [1], .ren [0]] (p := [Fn Tryz.prog 62 [(false, E3 o.Op)] (E4 r1) [],(true || ((E4 r1).nv && nvL [])) = true,(!r1) = false,(!r1) = false,(!r1) = false,(!r1) = false,(!r1) = false,Fn Tryz.prog 60 [(false, E3 o.Op)] (E9 r2) [],(true || ((E9 r2).nv && nvL [])) = true,(!r1) = false,(!r1) = false,(!(o.Mti == r2)) = false,(!(o.Mti == r2)) = false,(!(o.Mti == r2)) = false,Fn Tryz.prog 63 [(false, E9 o.Acct)] (E4 r3) [],(true || ((E4 r3).nv && nvL [])) = true,(!(o.Mti == r2)) = false,(!(o.Mti == r2)) = false,(!r3) = false,(!r3) = false,(!r3) = false,Fn Tryz.prog 51 [(false, E9 o.Trace)] (E4 r4) [],(true || ((E4 r4).nv && nvL [])) = true,(!r3) = false,(!r3) = false,(!r4) = false,(!r4) = false,(!r4) = false,(!r4) = false,(!r4) = false,((o.Trace.size : Int) != 6) = false]) (by kernel_rfl) (cj (spec_l11Op_ok o.Op r1 h1) (cj rfl (cj (nf h2) (cj (nf h2) (cj (nf h2) (cj (nf h2) (cj (nf h2) (cj (spec_OpMti_ok o.Op r2 h3) (cj rfl (cj (nf h2) (cj (nf h2) (cj (nf h4) (cj (nf h4) (cj (nf h4) (cj (spec_AcctIdOk_ok o.Acct r3 h5) (cj rfl (cj (nf h4) (cj (nf h4) (cj (nf h6) (cj (nf h6) (cj (nf h6) (cj (spec_Digits_ok o.Trace r4 h7) (cj rfl (cj (nf h6) (cj (nf h6) (cj (nf h8) (cj (nf h8) (cj (nf h8) (cj (nf h8) (cj (nf h8) (cj1 h9)))))))))))))))))))))))))))))))))) (fun h8 =>
   Pn.some (JnO.of [.draw [], .call [] (E4 r1) [], bF, bF, bF, bF, bF, .call [] (E9 r2) [], bF, bF, bF, bF, bF, .call [] (E4 r3) [], bF, bF, bF, bF, bF, .call [] (E4 r4) [], bF, bF, bT, bT, bT, bT, bT, bT, .wait 1, .mask [2], .ren []] (p := [Fn Tryz.prog 62 [(false, E3 o.Op)] (E4 r1) [],(true || ((E4 r1).nv && nvL [])) = true,(!r1) = false,(!r1) = false,(!r1) = false,(!r1) = false,(!r1) = false,Fn Tryz.prog 60 [(false, E3 o.Op)] (E9 r2) [],(true || ((E9 r2).nv && nvL [])) = true,(!r1) = false,(!r1) = false,(!(o.Mti == r2)) = false,(!(o.Mti == r2)) = false,(!(o.Mti == r2)) = false,Fn Tryz.prog 63 [(false, E9 o.Acct)] (E4 r3) [],(true || ((E4 r3).nv && nvL [])) = true,(!(o.Mti == r2)) = false,(!(o.Mti == r2)) = false,(!r3) = false,(!r3) = false,(!r3) = false,Fn Tryz.prog 51 [(false, E9 o.Trace)] (E4 r4) [],(true || ((E4 r4).nv && nvL [])) = true,(!r3) = false,(!r3) = false,(!r4) = true,(!r4) = true,(!r4) = true,(!r4) = true,(!r4) = true,true = true]) (by kernel_rfl) (cj (spec_l11Op_ok o.Op r1 h1) (cj rfl (cj (nf h2) (cj (nf h2) (cj (nf h2) (cj (nf h2) (cj (nf h2) (cj (spec_OpMti_ok o.Op r2 h3) (cj rfl (cj (nf h2) (cj (nf h2) (cj (nf h4) (cj (nf h4) (cj (nf h4) (cj (spec_AcctIdOk_ok o.Acct r3 h5) (cj rfl (cj (nf h4) (cj (nf h4) (cj (nf h6) (cj (nf h6) (cj (nf h6) (cj (spec_Digits_ok o.Trace r4 h7) (cj rfl (cj (nf h6) (cj (nf h6) (cj (nt h8) (cj (nt h8) (cj (nt h8) (cj (nt h8) (cj (nt h8) (cj1 rfl))))))))))))))))))))))))))))))))))) (fun h6 =>
   Pn.some (JnO.of [.draw [], .call [] (E4 r1) [], bF, bF, bF, bF, bF, .call [] (E9 r2) [], bF, bF, bF, bF, bF, .call [] (E4 r3) [], bF, bF, bT, bT, bT, bT, bT, bT, bT, bT, bT, bT, bT, .wait 1, .mask [2], .ren []] (p := [Fn Tryz.prog 62 [(false, E3 o.Op)] (E4 r1) [],(true || ((E4 r1).nv && nvL [])) = true,(!r1) = false,(!r1) = false,(!r1) = false,(!r1) = false,(!r1) = false,Fn Tryz.prog 60 [(false, E3 o.Op)] (E9 r2) [],(true || ((E9 r2).nv && nvL [])) = true,(!r1) = false,(!r1) = false,(!(o.Mti == r2)) = false,(!(o.Mti == r2)) = false,(!(o.Mti == r2)) = false,Fn Tryz.prog 63 [(false, E9 o.Acct)] (E4 r3) [],(true || ((E4 r3).nv && nvL [])) = true,(!(o.Mti == r2)) = false,(!(o.Mti == r2)) = false,(!r3) = true,(!r3) = true,(!r3) = true,(!r3) = true,(!r3) = true,true = true,true = true,true = true,true = true,true = true,true = true]) (by kernel_rfl) (cj (spec_l11Op_ok o.Op r1 h1) (cj rfl (cj (nf h2) (cj (nf h2) (cj (nf h2) (cj (nf h2) (cj (nf h2) (cj (spec_OpMti_ok o.Op r2 h3) (cj rfl (cj (nf h2) (cj (nf h2) (cj (nf h4) (cj (nf h4) (cj (nf h4) (cj (spec_AcctIdOk_ok o.Acct r3 h5) (cj rfl (cj (nf h4) (cj (nf h4) (cj (nt h6) (cj (nt h6) (cj (nt h6) (cj (nt h6) (cj (nt h6) (cj rfl (cj rfl (cj rfl (cj rfl (cj rfl (cj1 rfl))))))))))))))))))))))))))))))))) (fun h4 =>
   Pn.some (JnO.of [.draw [], .call [] (E4 r1) [], bF, bF, bF, bF, bF, .call [] (E9 r2) [], bF, bF, bT, bT, bT, bT, bT, bT, bT, bT, bT, bT, bT, bT, bT, bT, bT, bT, .wait 1, .mask [2], .ren []] (p := [Fn Tryz.prog 62 [(false, E3 o.Op)] (E4 r1) [],(true || ((E4 r1).nv && nvL [])) = true,(!r1) = false,(!r1) = false,(!r1) = false,(!r1) = false,(!r1) = false,Fn Tryz.prog 60 [(false, E3 o.Op)] (E9 r2) [],(true || ((E9 r2).nv && nvL [])) = true,(!r1) = false,(!r1) = false,(!(o.Mti == r2)) = true,(!(o.Mti == r2)) = true,(!(o.Mti == r2)) = true,(!(o.Mti == r2)) = true,(!(o.Mti == r2)) = true,true = true,true = true,true = true,true = true,true = true,true = true,true = true,true = true,true = true,true = true,true = true]) (by kernel_rfl) (cj (spec_l11Op_ok o.Op r1 h1) (cj rfl (cj (nf h2) (cj (nf h2) (cj (nf h2) (cj (nf h2) (cj (nf h2) (cj (spec_OpMti_ok o.Op r2 h3) (cj rfl (cj (nf h2) (cj (nf h2) (cj (nt h4) (cj (nt h4) (cj (nt h4) (cj (nt h4) (cj (nt h4) (cj rfl (cj rfl (cj rfl (cj rfl (cj rfl (cj rfl (cj rfl (cj rfl (cj rfl (cj rfl (cj1 rfl))))))))))))))))))))))))))))))) (fun h2 =>
   Pn.some (JnO.of [.draw [], .call [] (E4 r1) [], bT, bT, bT, bT, bT, bT, bT, bT, bT, bT, bT, bT, bT, bT, bT, bT, bT, bT, bT, bT, bT, bT, bT, .wait 1, .mask [2], .ren []] (p := [Fn Tryz.prog 62 [(false, E3 o.Op)] (E4 r1) [],(true || ((E4 r1).nv && nvL [])) = true,(!r1) = true,(!r1) = true,(!r1) = true,(!r1) = true,(!r1) = true,(!r1) = true,(!r1) = true,true = true,true = true,true = true,true = true,true = true,true = true,true = true,true = true,true = true,true = true,true = true,true = true,true = true,true = true,true = true,true = true]) (by kernel_rfl) (cj (spec_l11Op_ok o.Op r1 h1) (cj rfl (cj (nt h2) (cj (nt h2) (cj (nt h2) (cj (nt h2) (cj (nt h2) (cj (nt h2) (cj (nt h2) (cj rfl (cj rfl (cj rfl (cj rfl (cj rfl (cj rfl (cj rfl (cj rfl (cj rfl (cj rfl (cj rfl (cj rfl (cj rfl (cj rfl (cj rfl (cj1 rfl))))))))))))))))))))))))))))
def spec_ReqOk_c1 (o : Req) : Option (Lo Unit Unit) :=
 (spec_l11Hold o.Op).bind fun r6 =>
 if r6 = true then
 (spec_HoldIdOk o.Hold).bind fun r7 =>
 if r7 = true then
 (spec_l11Hold o.Op).bind fun r8 =>
 if r8 = true then
 some (.out ())
 else
 if (o.Hold == (bs [])) = true then
 some (.out ())
 else
 some (.ret ())
 else
 some (.ret ())
 else
 (spec_l11Hold o.Op).bind fun r9 =>
 if r9 = true then
 some (.out ())
 else
 if (o.Hold == (bs [])) = true then
 some (.out ())
 else
 some (.ret ())
theorem spec_ReqOk_c1_ok (o : Req) : Pn (JnO Tryz.prog (sub (codeOf Tryz.prog 36) [1, 1, 0]) (st 110 [(1, V.ptr 0 0)] [Blk.box 36 [vI o.Op, vS o.Acct, vS o.Other, vS o.Hold, vS o.Trace, vS o.Mti, vI o.Amount, vI o.Ttl]] []) (fun (y : Lo Unit Unit) => Lo.elim y (fun s => (X.go, st 110 [(1, V.ptr 0 0)] [Blk.box 36 [vI o.Op, vS o.Acct, vS o.Other, vS o.Hold, vS o.Trace, vS o.Mti, vI o.Amount, vI o.Ttl]] [])) (fun s => (X.ret, st 110 [(2, vB false)] [] [])))) (spec_ReqOk_c1 o) := by
  unfold spec_ReqOk_c1
  exact
   Pn.bind (fun r6 h13 =>
   Pn.ite (fun h14 =>
   Pn.bind (fun r7 h15 =>
   Pn.ite (fun h16 =>
   Pn.bind (fun r8 h17 =>
   Pn.ite (fun h18 =>
   Pn.some (JnO.of [.call [] (E4 r6) [], bT, bT, bT, .call [] (E4 r7) [], bT, bT, bF, bF, bF, .call [] (E4 r8) [], bF, bF, bF, bF, bF, bF, bF, bF, bF, .mask [1], .ren [0]] (p := [Fn Tryz.prog 32 [(false, E3 o.Op)] (E4 r6) [],(true || ((E4 r6).nv && nvL [])) = true,r6 = true,r6 = true,r6 = true,Fn Tryz.prog 64 [(false, E9 o.Hold)] (E4 r7) [],(true || ((E4 r7).nv && nvL [])) = true,r6 = true,r6 = true,(!r7) = false,(!r7) = false,(!r7) = false,Fn Tryz.prog 32 [(false, E3 o.Op)] (E4 r8) [],(true || ((E4 r8).nv && nvL [])) = true,(!r7) = false,(!r7) = false,(!r8) = false,(!r8) = false,(!r8) = false,(!r7) = false,(!r8) = false,(!r7) = false,false = false]) (by kernel_rfl) (cj (spec_l11Hold_ok o.Op r6 h13) (cj rfl (cj h14 (cj h14 (cj h14 (cj (spec_HoldIdOk_ok o.Hold r7 h15) (cj rfl (cj h14 (cj h14 (cj (nf h16) (cj (nf h16) (cj (nf h16) (cj (spec_l11Hold_ok o.Op r8 h17) (cj rfl (cj (nf h16) (cj (nf h16) (cj (nf h18) (cj (nf h18) (cj (nf h18) (cj (nf h16) (cj (nf h18) (cj (nf h16) (cj1 rfl))))))))))))))))))))))))) (fun h18 =>
   Pn.ite (fun h19 =>
   Pn.some (JnO.of [.call [] (E4 r6) [], bT, bT, bT, .call [] (E4 r7) [], bT, bT, bF, bF, bF, .call [] (E4 r8) [], bF, bF, bT, bT, bT, bF, bT, bF, bF, .mask [1], .ren [0]] (p := [Fn Tryz.prog 32 [(false, E3 o.Op)] (E4 r6) [],(true || ((E4 r6).nv && nvL [])) = true,r6 = true,r6 = true,r6 = true,Fn Tryz.prog 64 [(false, E9 o.Hold)] (E4 r7) [],(true || ((E4 r7).nv && nvL [])) = true,r6 = true,r6 = true,(!r7) = false,(!r7) = false,(!r7) = false,Fn Tryz.prog 32 [(false, E3 o.Op)] (E4 r8) [],(true || ((E4 r8).nv && nvL [])) = true,(!r7) = false,(!r7) = false,(!r8) = true,(!r8) = true,(!r8) = true,(!r7) = false,(!r8) = true,(!r7) = false,(!(o.Hold == (bs []))) = false]) (by kernel_rfl) (cj (spec_l11Hold_ok o.Op r6 h13) (cj rfl (cj h14 (cj h14 (cj h14 (cj (spec_HoldIdOk_ok o.Hold r7 h15) (cj rfl (cj h14 (cj h14 (cj (nf h16) (cj (nf h16) (cj (nf h16) (cj (spec_l11Hold_ok o.Op r8 h17) (cj rfl (cj (nf h16) (cj (nf h16) (cj (nt h18) (cj (nt h18) (cj (nt h18) (cj (nf h16) (cj (nt h18) (cj (nf h16) (cj1 (nf h19)))))))))))))))))))))))))) (fun h19 =>
   Pn.some (JnO.of [.call [] (E4 r6) [], bT, bT, bT, .call [] (E4 r7) [], bT, bT, bF, bF, bF, .call [] (E4 r8) [], bF, bF, bT, bT, bT, bF, bT, bF, bT, .wait 1, .mask [2], .ren []] (p := [Fn Tryz.prog 32 [(false, E3 o.Op)] (E4 r6) [],(true || ((E4 r6).nv && nvL [])) = true,r6 = true,r6 = true,r6 = true,Fn Tryz.prog 64 [(false, E9 o.Hold)] (E4 r7) [],(true || ((E4 r7).nv && nvL [])) = true,r6 = true,r6 = true,(!r7) = false,(!r7) = false,(!r7) = false,Fn Tryz.prog 32 [(false, E3 o.Op)] (E4 r8) [],(true || ((E4 r8).nv && nvL [])) = true,(!r7) = false,(!r7) = false,(!r8) = true,(!r8) = true,(!r8) = true,(!r7) = false,(!r8) = true,(!r7) = false,(!(o.Hold == (bs []))) = true]) (by kernel_rfl) (cj (spec_l11Hold_ok o.Op r6 h13) (cj rfl (cj h14 (cj h14 (cj h14 (cj (spec_HoldIdOk_ok o.Hold r7 h15) (cj rfl (cj h14 (cj h14 (cj (nf h16) (cj (nf h16) (cj (nf h16) (cj (spec_l11Hold_ok o.Op r8 h17) (cj rfl (cj (nf h16) (cj (nf h16) (cj (nt h18) (cj (nt h18) (cj (nt h18) (cj (nf h16) (cj (nt h18) (cj (nf h16) (cj1 (nt h19))))))))))))))))))))))))))))) (fun h16 =>
   Pn.some (JnO.of [.call [] (E4 r6) [], bT, bT, bT, .call [] (E4 r7) [], bT, bT, bT, bT, bT, bT, bT, bT, bT, bT, .wait 1, .mask [2], .ren []] (p := [Fn Tryz.prog 32 [(false, E3 o.Op)] (E4 r6) [],(true || ((E4 r6).nv && nvL [])) = true,r6 = true,r6 = true,r6 = true,Fn Tryz.prog 64 [(false, E9 o.Hold)] (E4 r7) [],(true || ((E4 r7).nv && nvL [])) = true,r6 = true,r6 = true,(!r7) = true,(!r7) = true,(!r7) = true,(!r7) = true,(!r7) = true,(!r7) = true,(!r7) = true,true = true]) (by kernel_rfl) (cj (spec_l11Hold_ok o.Op r6 h13) (cj rfl (cj h14 (cj h14 (cj h14 (cj (spec_HoldIdOk_ok o.Hold r7 h15) (cj rfl (cj h14 (cj h14 (cj (nt h16) (cj (nt h16) (cj (nt h16) (cj (nt h16) (cj (nt h16) (cj (nt h16) (cj (nt h16) (cj1 rfl))))))))))))))))))))) (fun h14 =>
   Pn.bind (fun r9 h20 =>
   Pn.ite (fun h21 =>
   Pn.some (JnO.of [.call [] (E4 r6) [], bF, bF, bF, bF, bF, bF, bF, bF, .call [] (E4 r9) [], bF, bF, bF, bF, bF, bF, bF, bF, bF, .mask [1], .ren [0]] (p := [Fn Tryz.prog 32 [(false, E3 o.Op)] (E4 r6) [],(true || ((E4 r6).nv && nvL [])) = true,r6 = false,r6 = false,r6 = false,r6 = false,r6 = false,false = false,false = false,false = false,Fn Tryz.prog 32 [(false, E3 o.Op)] (E4 r9) [],(true || ((E4 r9).nv && nvL [])) = true,false = false,false = false,(!r9) = false,(!r9) = false,(!r9) = false,false = false,(!r9) = false,false = false,false = false]) (by kernel_rfl) (cj (spec_l11Hold_ok o.Op r6 h13) (cj rfl (cj h14 (cj h14 (cj h14 (cj h14 (cj h14 (cj rfl (cj rfl (cj rfl (cj (spec_l11Hold_ok o.Op r9 h20) (cj rfl (cj rfl (cj rfl (cj (nf h21) (cj (nf h21) (cj (nf h21) (cj rfl (cj (nf h21) (cj rfl (cj1 rfl))))))))))))))))))))))) (fun h21 =>
   Pn.ite (fun h22 =>
   Pn.some (JnO.of [.call [] (E4 r6) [], bF, bF, bF, bF, bF, bF, bF, bF, .call [] (E4 r9) [], bF, bF, bT, bT, bT, bF, bT, bF, bF, .mask [1], .ren [0]] (p := [Fn Tryz.prog 32 [(false, E3 o.Op)] (E4 r6) [],(true || ((E4 r6).nv && nvL [])) = true,r6 = false,r6 = false,r6 = false,r6 = false,r6 = false,false = false,false = false,false = false,Fn Tryz.prog 32 [(false, E3 o.Op)] (E4 r9) [],(true || ((E4 r9).nv && nvL [])) = true,false = false,false = false,(!r9) = true,(!r9) = true,(!r9) = true,false = false,(!r9) = true,false = false,(!(o.Hold == (bs []))) = false]) (by kernel_rfl) (cj (spec_l11Hold_ok o.Op r6 h13) (cj rfl (cj h14 (cj h14 (cj h14 (cj h14 (cj h14 (cj rfl (cj rfl (cj rfl (cj (spec_l11Hold_ok o.Op r9 h20) (cj rfl (cj rfl (cj rfl (cj (nt h21) (cj (nt h21) (cj (nt h21) (cj rfl (cj (nt h21) (cj rfl (cj1 (nf h22)))))))))))))))))))))))) (fun h22 =>
   Pn.some (JnO.of [.call [] (E4 r6) [], bF, bF, bF, bF, bF, bF, bF, bF, .call [] (E4 r9) [], bF, bF, bT, bT, bT, bF, bT, bF, bT, .wait 1, .mask [2], .ren []] (p := [Fn Tryz.prog 32 [(false, E3 o.Op)] (E4 r6) [],(true || ((E4 r6).nv && nvL [])) = true,r6 = false,r6 = false,r6 = false,r6 = false,r6 = false,false = false,false = false,false = false,Fn Tryz.prog 32 [(false, E3 o.Op)] (E4 r9) [],(true || ((E4 r9).nv && nvL [])) = true,false = false,false = false,(!r9) = true,(!r9) = true,(!r9) = true,false = false,(!r9) = true,false = false,(!(o.Hold == (bs []))) = true]) (by kernel_rfl) (cj (spec_l11Hold_ok o.Op r6 h13) (cj rfl (cj h14 (cj h14 (cj h14 (cj h14 (cj h14 (cj rfl (cj rfl (cj rfl (cj (spec_l11Hold_ok o.Op r9 h20) (cj rfl (cj rfl (cj rfl (cj (nt h21) (cj (nt h21) (cj (nt h21) (cj rfl (cj (nt h21) (cj rfl (cj1 (nt h22))))))))))))))))))))))))))))
def spec_ReqOk_c2 (o : Req) : Option (Lo Unit Unit) :=
 (spec_l11Amount o.Op).bind fun r11 =>
 if r11 = true then
 (spec_l01In o.Amount 0 999999999999).bind fun r12 =>
 if r12 = true then
 (spec_l11Amount o.Op).bind fun r13 =>
 if r13 = true then
 some (.out ())
 else
 if (o.Amount != 0) = true then
 some (.ret ())
 else
 some (.out ())
 else
 some (.ret ())
 else
 (spec_l11Amount o.Op).bind fun r14 =>
 if r14 = true then
 some (.out ())
 else
 if (o.Amount != 0) = true then
 some (.ret ())
 else
 some (.out ())
theorem spec_ReqOk_c2_ok (o : Req) : Pn (JnO Tryz.prog (sub (codeOf Tryz.prog 36) [1, 1, 1, 0]) (st 110 [(1, V.ptr 0 0)] [Blk.box 36 [vI o.Op, vS o.Acct, vS o.Other, vS o.Hold, vS o.Trace, vS o.Mti, vI o.Amount, vI o.Ttl]] []) (fun (y : Lo Unit Unit) => Lo.elim y (fun s => (X.go, st 110 [(1, V.ptr 0 0)] [Blk.box 36 [vI o.Op, vS o.Acct, vS o.Other, vS o.Hold, vS o.Trace, vS o.Mti, vI o.Amount, vI o.Ttl]] [])) (fun s => (X.ret, st 110 [(2, vB false)] [] [])))) (spec_ReqOk_c2 o) := by
  unfold spec_ReqOk_c2
  exact
   Pn.bind (fun r11 h26 =>
   Pn.ite (fun h27 =>
   Pn.bind (fun r12 h28 =>
   Pn.ite (fun h29 =>
   Pn.bind (fun r13 h30 =>
   Pn.ite (fun h31 =>
   Pn.some (JnO.of [.call [] (E4 r11) [], bT, bT, bT, .call [] (E4 r12) [], bT, bT, bF, bF, bF, .call [] (E4 r13) [], bF, bF, bF, bF, bF, bF, bF, bF, bF, .mask [1], .ren [0]] (p := [Fn Tryz.prog 34 [(false, E3 o.Op)] (E4 r11) [],(true || ((E4 r11).nv && nvL [])) = true,r11 = true,r11 = true,r11 = true,Fn Tryz.prog 57 [(false, E3 o.Amount), (false, E3 0), (false, E3 999999999999)] (E4 r12) [],(true || ((E4 r12).nv && nvL [])) = true,r11 = true,r11 = true,(!r12) = false,(!r12) = false,(!r12) = false,Fn Tryz.prog 34 [(false, E3 o.Op)] (E4 r13) [],(true || ((E4 r13).nv && nvL [])) = true,(!r12) = false,(!r12) = false,(!r13) = false,(!r13) = false,(!r13) = false,(!r12) = false,(!r13) = false,(!r12) = false,false = false]) (by kernel_rfl) (cj (spec_l11Amount_ok o.Op r11 h26) (cj rfl (cj h27 (cj h27 (cj h27 (cj (spec_l01In_ok o.Amount 0 999999999999 r12 h28) (cj rfl (cj h27 (cj h27 (cj (nf h29) (cj (nf h29) (cj (nf h29) (cj (spec_l11Amount_ok o.Op r13 h30) (cj rfl (cj (nf h29) (cj (nf h29) (cj (nf h31) (cj (nf h31) (cj (nf h31) (cj (nf h29) (cj (nf h31) (cj (nf h29) (cj1 rfl))))))))))))))))))))))))) (fun h31 =>
   Pn.ite (fun h32 =>
   Pn.some (JnO.of [.call [] (E4 r11) [], bT, bT, bT, .call [] (E4 r12) [], bT, bT, bF, bF, bF, .call [] (E4 r13) [], bF, bF, bT, bT, bT, bF, bT, bF, bT, .wait 1, .mask [2], .ren []] (p := [Fn Tryz.prog 34 [(false, E3 o.Op)] (E4 r11) [],(true || ((E4 r11).nv && nvL [])) = true,r11 = true,r11 = true,r11 = true,Fn Tryz.prog 57 [(false, E3 o.Amount), (false, E3 0), (false, E3 999999999999)] (E4 r12) [],(true || ((E4 r12).nv && nvL [])) = true,r11 = true,r11 = true,(!r12) = false,(!r12) = false,(!r12) = false,Fn Tryz.prog 34 [(false, E3 o.Op)] (E4 r13) [],(true || ((E4 r13).nv && nvL [])) = true,(!r12) = false,(!r12) = false,(!r13) = true,(!r13) = true,(!r13) = true,(!r12) = false,(!r13) = true,(!r12) = false,(o.Amount != 0) = true]) (by kernel_rfl) (cj (spec_l11Amount_ok o.Op r11 h26) (cj rfl (cj h27 (cj h27 (cj h27 (cj (spec_l01In_ok o.Amount 0 999999999999 r12 h28) (cj rfl (cj h27 (cj h27 (cj (nf h29) (cj (nf h29) (cj (nf h29) (cj (spec_l11Amount_ok o.Op r13 h30) (cj rfl (cj (nf h29) (cj (nf h29) (cj (nt h31) (cj (nt h31) (cj (nt h31) (cj (nf h29) (cj (nt h31) (cj (nf h29) (cj1 h32))))))))))))))))))))))))) (fun h32 =>
   Pn.some (JnO.of [.call [] (E4 r11) [], bT, bT, bT, .call [] (E4 r12) [], bT, bT, bF, bF, bF, .call [] (E4 r13) [], bF, bF, bT, bT, bT, bF, bT, bF, bF, .mask [1], .ren [0]] (p := [Fn Tryz.prog 34 [(false, E3 o.Op)] (E4 r11) [],(true || ((E4 r11).nv && nvL [])) = true,r11 = true,r11 = true,r11 = true,Fn Tryz.prog 57 [(false, E3 o.Amount), (false, E3 0), (false, E3 999999999999)] (E4 r12) [],(true || ((E4 r12).nv && nvL [])) = true,r11 = true,r11 = true,(!r12) = false,(!r12) = false,(!r12) = false,Fn Tryz.prog 34 [(false, E3 o.Op)] (E4 r13) [],(true || ((E4 r13).nv && nvL [])) = true,(!r12) = false,(!r12) = false,(!r13) = true,(!r13) = true,(!r13) = true,(!r12) = false,(!r13) = true,(!r12) = false,(o.Amount != 0) = false]) (by kernel_rfl) (cj (spec_l11Amount_ok o.Op r11 h26) (cj rfl (cj h27 (cj h27 (cj h27 (cj (spec_l01In_ok o.Amount 0 999999999999 r12 h28) (cj rfl (cj h27 (cj h27 (cj (nf h29) (cj (nf h29) (cj (nf h29) (cj (spec_l11Amount_ok o.Op r13 h30) (cj rfl (cj (nf h29) (cj (nf h29) (cj (nt h31) (cj (nt h31) (cj (nt h31) (cj (nf h29) (cj (nt h31) (cj (nf h29) (cj1 h32)))))))))))))))))))))))))))) (fun h29 =>
   Pn.some (JnO.of [.call [] (E4 r11) [], bT, bT, bT, .call [] (E4 r12) [], bT, bT, bT, bT, bT, bT, bT, bT, bT, bT, .wait 1, .mask [2], .ren []] (p := [Fn Tryz.prog 34 [(false, E3 o.Op)] (E4 r11) [],(true || ((E4 r11).nv && nvL [])) = true,r11 = true,r11 = true,r11 = true,Fn Tryz.prog 57 [(false, E3 o.Amount), (false, E3 0), (false, E3 999999999999)] (E4 r12) [],(true || ((E4 r12).nv && nvL [])) = true,r11 = true,r11 = true,(!r12) = true,(!r12) = true,(!r12) = true,(!r12) = true,(!r12) = true,(!r12) = true,(!r12) = true,true = true]) (by kernel_rfl) (cj (spec_l11Amount_ok o.Op r11 h26) (cj rfl (cj h27 (cj h27 (cj h27 (cj (spec_l01In_ok o.Amount 0 999999999999 r12 h28) (cj rfl (cj h27 (cj h27 (cj (nt h29) (cj (nt h29) (cj (nt h29) (cj (nt h29) (cj (nt h29) (cj (nt h29) (cj (nt h29) (cj1 rfl))))))))))))))))))))) (fun h27 =>
   Pn.bind (fun r14 h33 =>
   Pn.ite (fun h34 =>
   Pn.some (JnO.of [.call [] (E4 r11) [], bF, bF, bF, bF, bF, bF, bF, bF, .call [] (E4 r14) [], bF, bF, bF, bF, bF, bF, bF, bF, bF, .mask [1], .ren [0]] (p := [Fn Tryz.prog 34 [(false, E3 o.Op)] (E4 r11) [],(true || ((E4 r11).nv && nvL [])) = true,r11 = false,r11 = false,r11 = false,r11 = false,r11 = false,false = false,false = false,false = false,Fn Tryz.prog 34 [(false, E3 o.Op)] (E4 r14) [],(true || ((E4 r14).nv && nvL [])) = true,false = false,false = false,(!r14) = false,(!r14) = false,(!r14) = false,false = false,(!r14) = false,false = false,false = false]) (by kernel_rfl) (cj (spec_l11Amount_ok o.Op r11 h26) (cj rfl (cj h27 (cj h27 (cj h27 (cj h27 (cj h27 (cj rfl (cj rfl (cj rfl (cj (spec_l11Amount_ok o.Op r14 h33) (cj rfl (cj rfl (cj rfl (cj (nf h34) (cj (nf h34) (cj (nf h34) (cj rfl (cj (nf h34) (cj rfl (cj1 rfl))))))))))))))))))))))) (fun h34 =>
   Pn.ite (fun h35 =>
   Pn.some (JnO.of [.call [] (E4 r11) [], bF, bF, bF, bF, bF, bF, bF, bF, .call [] (E4 r14) [], bF, bF, bT, bT, bT, bF, bT, bF, bT, .wait 1, .mask [2], .ren []] (p := [Fn Tryz.prog 34 [(false, E3 o.Op)] (E4 r11) [],(true || ((E4 r11).nv && nvL [])) = true,r11 = false,r11 = false,r11 = false,r11 = false,r11 = false,false = false,false = false,false = false,Fn Tryz.prog 34 [(false, E3 o.Op)] (E4 r14) [],(true || ((E4 r14).nv && nvL [])) = true,false = false,false = false,(!r14) = true,(!r14) = true,(!r14) = true,false = false,(!r14) = true,false = false,(o.Amount != 0) = true]) (by kernel_rfl) (cj (spec_l11Amount_ok o.Op r11 h26) (cj rfl (cj h27 (cj h27 (cj h27 (cj h27 (cj h27 (cj rfl (cj rfl (cj rfl (cj (spec_l11Amount_ok o.Op r14 h33) (cj rfl (cj rfl (cj rfl (cj (nt h34) (cj (nt h34) (cj (nt h34) (cj rfl (cj (nt h34) (cj rfl (cj1 h35))))))))))))))))))))))) (fun h35 =>
   Pn.some (JnO.of [.call [] (E4 r11) [], bF, bF, bF, bF, bF, bF, bF, bF, .call [] (E4 r14) [], bF, bF, bT, bT, bT, bF, bT, bF, bF, .mask [1], .ren [0]] (p := [Fn Tryz.prog 34 [(false, E3 o.Op)] (E4 r11) [],(true || ((E4 r11).nv && nvL [])) = true,r11 = false,r11 = false,r11 = false,r11 = false,r11 = false,false = false,false = false,false = false,Fn Tryz.prog 34 [(false, E3 o.Op)] (E4 r14) [],(true || ((E4 r14).nv && nvL [])) = true,false = false,false = false,(!r14) = true,(!r14) = true,(!r14) = true,false = false,(!r14) = true,false = false,(o.Amount != 0) = false]) (by kernel_rfl) (cj (spec_l11Amount_ok o.Op r11 h26) (cj rfl (cj h27 (cj h27 (cj h27 (cj h27 (cj h27 (cj rfl (cj rfl (cj rfl (cj (spec_l11Amount_ok o.Op r14 h33) (cj rfl (cj rfl (cj rfl (cj (nt h34) (cj (nt h34) (cj (nt h34) (cj rfl (cj (nt h34) (cj rfl (cj1 h35)))))))))))))))))))))))))))
def spec_ReqOk_c3 (o : Req) : Option (Lo Unit Unit) :=
 if (o.Op == 1) = true then
 (spec_l01In o.Ttl 0 9999).bind fun r16 =>
 if r16 = true then
 if (o.Op != 1) = true then
 if (o.Ttl != 0) = true then
 some (.ret ())
 else
 some (.out ())
 else
 some (.out ())
 else
 some (.ret ())
 else
 if (o.Op != 1) = true then
 if (o.Ttl != 0) = true then
 some (.ret ())
 else
 some (.out ())
 else
 some (.out ())
theorem spec_ReqOk_c3_ok (o : Req) : Pn (JnO Tryz.prog (sub (codeOf Tryz.prog 36) [1, 1, 1, 1, 0]) (st 110 [(1, V.ptr 0 0)] [Blk.box 36 [vI o.Op, vS o.Acct, vS o.Other, vS o.Hold, vS o.Trace, vS o.Mti, vI o.Amount, vI o.Ttl]] []) (fun (y : Lo Unit Unit) => Lo.elim y (fun s => (X.go, st 110 [(1, V.ptr 0 0)] [Blk.box 36 [vI o.Op, vS o.Acct, vS o.Other, vS o.Hold, vS o.Trace, vS o.Mti, vI o.Amount, vI o.Ttl]] [])) (fun s => (X.ret, st 110 [(2, vB false)] [] [])))) (spec_ReqOk_c3 o) := by
  unfold spec_ReqOk_c3
  exact
   Pn.ite (fun h39 =>
   Pn.bind (fun r16 h40 =>
   Pn.ite (fun h41 =>
   Pn.ite (fun h42 =>
   Pn.ite (fun h43 =>
   Pn.some (JnO.of [bT, bT, bT, .call [] (E4 r16) [], bT, bT, bF, bF, bF, bF, bT, bT, bT, bF, bT, bF, bT, .wait 1, .mask [2], .ren []] (p := [(o.Op == 1) = true,(o.Op == 1) = true,(o.Op == 1) = true,Fn Tryz.prog 57 [(false, E3 o.Ttl), (false, E3 0), (false, E3 9999)] (E4 r16) [],(true || ((E4 r16).nv && nvL [])) = true,(o.Op == 1) = true,(o.Op == 1) = true,(!r16) = false,(!r16) = false,(!r16) = false,(!r16) = false,(o.Op != 1) = true,(o.Op != 1) = true,(o.Op != 1) = true,(!r16) = false,(o.Op != 1) = true,(!r16) = false,(o.Ttl != 0) = true]) (by kernel_rfl) (cj h39 (cj h39 (cj h39 (cj (spec_l01In_ok o.Ttl 0 9999 r16 h40) (cj rfl (cj h39 (cj h39 (cj (nf h41) (cj (nf h41) (cj (nf h41) (cj (nf h41) (cj h42 (cj h42 (cj h42 (cj (nf h41) (cj h42 (cj (nf h41) (cj1 h43)))))))))))))))))))) (fun h43 =>
   Pn.some (JnO.of [bT, bT, bT, .call [] (E4 r16) [], bT, bT, bF, bF, bF, bF, bT, bT, bT, bF, bT, bF, bF, .mask [1], .ren [0]] (p := [(o.Op == 1) = true,(o.Op == 1) = true,(o.Op == 1) = true,Fn Tryz.prog 57 [(false, E3 o.Ttl), (false, E3 0), (false, E3 9999)] (E4 r16) [],(true || ((E4 r16).nv && nvL [])) = true,(o.Op == 1) = true,(o.Op == 1) = true,(!r16) = false,(!r16) = false,(!r16) = false,(!r16) = false,(o.Op != 1) = true,(o.Op != 1) = true,(o.Op != 1) = true,(!r16) = false,(o.Op != 1) = true,(!r16) = false,(o.Ttl != 0) = false]) (by kernel_rfl) (cj h39 (cj h39 (cj h39 (cj (spec_l01In_ok o.Ttl 0 9999 r16 h40) (cj rfl (cj h39 (cj h39 (cj (nf h41) (cj (nf h41) (cj (nf h41) (cj (nf h41) (cj h42 (cj h42 (cj h42 (cj (nf h41) (cj h42 (cj (nf h41) (cj1 h43))))))))))))))))))))) (fun h42 =>
   Pn.some (JnO.of [bT, bT, bT, .call [] (E4 r16) [], bT, bT, bF, bF, bF, bF, bF, bF, bF, bF, bF, bF, bF, .mask [1], .ren [0]] (p := [(o.Op == 1) = true,(o.Op == 1) = true,(o.Op == 1) = true,Fn Tryz.prog 57 [(false, E3 o.Ttl), (false, E3 0), (false, E3 9999)] (E4 r16) [],(true || ((E4 r16).nv && nvL [])) = true,(o.Op == 1) = true,(o.Op == 1) = true,(!r16) = false,(!r16) = false,(!r16) = false,(!r16) = false,(o.Op != 1) = false,(o.Op != 1) = false,(o.Op != 1) = false,(!r16) = false,(o.Op != 1) = false,(!r16) = false,false = false]) (by kernel_rfl) (cj h39 (cj h39 (cj h39 (cj (spec_l01In_ok o.Ttl 0 9999 r16 h40) (cj rfl (cj h39 (cj h39 (cj (nf h41) (cj (nf h41) (cj (nf h41) (cj (nf h41) (cj h42 (cj h42 (cj h42 (cj (nf h41) (cj h42 (cj (nf h41) (cj1 rfl))))))))))))))))))))) (fun h41 =>
   Pn.some (JnO.of [bT, bT, bT, .call [] (E4 r16) [], bT, bT, bT, bT, bT, bT, bT, bT, bT, .wait 1, .mask [2], .ren []] (p := [(o.Op == 1) = true,(o.Op == 1) = true,(o.Op == 1) = true,Fn Tryz.prog 57 [(false, E3 o.Ttl), (false, E3 0), (false, E3 9999)] (E4 r16) [],(true || ((E4 r16).nv && nvL [])) = true,(o.Op == 1) = true,(o.Op == 1) = true,(!r16) = true,(!r16) = true,(!r16) = true,(!r16) = true,(!r16) = true,(!r16) = true,true = true]) (by kernel_rfl) (cj h39 (cj h39 (cj h39 (cj (spec_l01In_ok o.Ttl 0 9999 r16 h40) (cj rfl (cj h39 (cj h39 (cj (nt h41) (cj (nt h41) (cj (nt h41) (cj (nt h41) (cj (nt h41) (cj (nt h41) (cj1 rfl)))))))))))))))))) (fun h39 =>
   Pn.ite (fun h44 =>
   Pn.ite (fun h45 =>
   Pn.some (JnO.of [bF, bF, bF, bF, bF, bF, bF, bF, bF, bT, bT, bT, bF, bT, bF, bT, .wait 1, .mask [2], .ren []] (p := [(o.Op == 1) = false,(o.Op == 1) = false,(o.Op == 1) = false,(o.Op == 1) = false,(o.Op == 1) = false,false = false,false = false,false = false,false = false,(o.Op != 1) = true,(o.Op != 1) = true,(o.Op != 1) = true,false = false,(o.Op != 1) = true,false = false,(o.Ttl != 0) = true]) (by kernel_rfl) (cj h39 (cj h39 (cj h39 (cj h39 (cj h39 (cj rfl (cj rfl (cj rfl (cj rfl (cj h44 (cj h44 (cj h44 (cj rfl (cj h44 (cj rfl (cj1 h45)))))))))))))))))) (fun h45 =>
   Pn.some (JnO.of [bF, bF, bF, bF, bF, bF, bF, bF, bF, bT, bT, bT, bF, bT, bF, bF, .mask [1], .ren [0]] (p := [(o.Op == 1) = false,(o.Op == 1) = false,(o.Op == 1) = false,(o.Op == 1) = false,(o.Op == 1) = false,false = false,false = false,false = false,false = false,(o.Op != 1) = true,(o.Op != 1) = true,(o.Op != 1) = true,false = false,(o.Op != 1) = true,false = false,(o.Ttl != 0) = false]) (by kernel_rfl) (cj h39 (cj h39 (cj h39 (cj h39 (cj h39 (cj rfl (cj rfl (cj rfl (cj rfl (cj h44 (cj h44 (cj h44 (cj rfl (cj h44 (cj rfl (cj1 h45))))))))))))))))))) (fun h44 =>
   Pn.some (JnO.of [bF, bF, bF, bF, bF, bF, bF, bF, bF, bF, bF, bF, bF, bF, bF, bF, .mask [1], .ren [0]] (p := [(o.Op == 1) = false,(o.Op == 1) = false,(o.Op == 1) = false,(o.Op == 1) = false,(o.Op == 1) = false,false = false,false = false,false = false,false = false,(o.Op != 1) = false,(o.Op != 1) = false,(o.Op != 1) = false,false = false,(o.Op != 1) = false,false = false,false = false]) (by kernel_rfl) (cj h39 (cj h39 (cj h39 (cj h39 (cj h39 (cj rfl (cj rfl (cj rfl (cj rfl (cj h44 (cj h44 (cj h44 (cj rfl (cj h44 (cj rfl (cj1 rfl)))))))))))))))))))
def spec_ReqOk (o : Req) : Option (Bool) :=
 (spec_ReqOk_c0 o).bind fun r5 =>
 Lo.elim r5 (fun s1 =>
 (spec_ReqOk_c1 o).bind fun r10 =>
 Lo.elim r10 (fun s3 =>
 (spec_ReqOk_c2 o).bind fun r15 =>
 Lo.elim r15 (fun s5 =>
 (spec_ReqOk_c3 o).bind fun r17 =>
 Lo.elim r17 (fun s7 =>
 if (o.Op == 6) = true then
 (spec_AcctIdOk o.Other).bind fun r18 =>
 if r18 = true then
 some true
 else
 if (o.Op != 6) = true then
 some (o.Other == (bs []))
 else
 some false
 else
 if (o.Op != 6) = true then
 some (o.Other == (bs []))
 else
 some false) (fun s8 =>
 some false)) (fun s6 =>
 some false)) (fun s4 =>
 some false)) (fun s2 =>
 some false)
theorem spec_ReqOk_ok (o : Req) : Pn (fun y => Fn Tryz.prog 36 [(false, E36 o)] (E4 y) []) (spec_ReqOk o) := by
  unfold spec_ReqOk
  exact
   Pn.bind (fun r5 h10 =>
   Pn.lo (fun s1 h11 =>
   Pn.bind (fun r10 h23 =>
   Pn.lo (fun s3 h24 =>
   Pn.bind (fun r15 h36 =>
   Pn.lo (fun s5 h37 =>
   Pn.bind (fun r17 h46 =>
   Pn.lo (fun s7 h47 =>
   Pn.ite (fun h49 =>
   Pn.bind (fun r18 h50 =>
   Pn.ite (fun h51 =>
   Pn.some (Fn.of [.wait 3, .mask [1], .ren [0], .join 7 (X.go) (st 110 [(1, V.ptr 0 0)] [Blk.box 36 [vI o.Op, vS o.Acct, vS o.Other, vS o.Hold, vS o.Trace, vS o.Mti, vI o.Amount, vI o.Ttl]] []), .wait 1, .mask [1], .ren [0], .join 7 (X.go) (st 110 [(1, V.ptr 0 0)] [Blk.box 36 [vI o.Op, vS o.Acct, vS o.Other, vS o.Hold, vS o.Trace, vS o.Mti, vI o.Amount, vI o.Ttl]] []), .wait 1, .mask [1], .ren [0], .join 7 (X.go) (st 110 [(1, V.ptr 0 0)] [Blk.box 36 [vI o.Op, vS o.Acct, vS o.Other, vS o.Hold, vS o.Trace, vS o.Mti, vI o.Amount, vI o.Ttl]] []), .wait 1, .mask [1], .ren [0], .join 7 (X.go) (st 110 [(1, V.ptr 0 0)] [Blk.box 36 [vI o.Op, vS o.Acct, vS o.Other, vS o.Hold, vS o.Trace, vS o.Mti, vI o.Amount, vI o.Ttl]] []), bT, bT, bT, .call [] (E4 r18) [], bT, bT, bT, bT, bT, bT, bT] (p := [HT Tryz.prog (sub (codeOf Tryz.prog 36) [1, 0]) (st 110 [(1, V.ptr 0 0)] [Blk.box 36 [vI o.Op, vS o.Acct, vS o.Other, vS o.Hold, vS o.Trace, vS o.Mti, vI o.Amount, vI o.Ttl]] []) (X.go) (st 110 [(1, V.ptr 0 0)] [Blk.box 36 [vI o.Op, vS o.Acct, vS o.Other, vS o.Hold, vS o.Trace, vS o.Mti, vI o.Amount, vI o.Ttl]] []),HT Tryz.prog (sub (codeOf Tryz.prog 36) [1, 1, 0]) (st 110 [(1, V.ptr 0 0)] [Blk.box 36 [vI o.Op, vS o.Acct, vS o.Other, vS o.Hold, vS o.Trace, vS o.Mti, vI o.Amount, vI o.Ttl]] []) (X.go) (st 110 [(1, V.ptr 0 0)] [Blk.box 36 [vI o.Op, vS o.Acct, vS o.Other, vS o.Hold, vS o.Trace, vS o.Mti, vI o.Amount, vI o.Ttl]] []),HT Tryz.prog (sub (codeOf Tryz.prog 36) [1, 1, 1, 0]) (st 110 [(1, V.ptr 0 0)] [Blk.box 36 [vI o.Op, vS o.Acct, vS o.Other, vS o.Hold, vS o.Trace, vS o.Mti, vI o.Amount, vI o.Ttl]] []) (X.go) (st 110 [(1, V.ptr 0 0)] [Blk.box 36 [vI o.Op, vS o.Acct, vS o.Other, vS o.Hold, vS o.Trace, vS o.Mti, vI o.Amount, vI o.Ttl]] []),HT Tryz.prog (sub (codeOf Tryz.prog 36) [1, 1, 1, 1, 0]) (st 110 [(1, V.ptr 0 0)] [Blk.box 36 [vI o.Op, vS o.Acct, vS o.Other, vS o.Hold, vS o.Trace, vS o.Mti, vI o.Amount, vI o.Ttl]] []) (X.go) (st 110 [(1, V.ptr 0 0)] [Blk.box 36 [vI o.Op, vS o.Acct, vS o.Other, vS o.Hold, vS o.Trace, vS o.Mti, vI o.Amount, vI o.Ttl]] []),(o.Op == 6) = true,(o.Op == 6) = true,(o.Op == 6) = true,Fn Tryz.prog 63 [(false, E9 o.Other)] (E4 r18) [],(true || ((E4 r18).nv && nvL [])) = true,(o.Op == 6) = true,r18 = true,r18 = true,r18 = true,r18 = true,r18 = true,r18 = true]) (by kernel_rfl) (cj ((spec_ReqOk_c0_ok o r5 h10).at h11 :) (cj ((spec_ReqOk_c1_ok o r10 h23).at h24 :) (cj ((spec_ReqOk_c2_ok o r15 h36).at h37 :) (cj ((spec_ReqOk_c3_ok o r17 h46).at h47 :) (cj h49 (cj h49 (cj h49 (cj (spec_AcctIdOk_ok o.Other r18 h50) (cj rfl (cj h49 (cj h51 (cj h51 (cj h51 (cj h51 (cj h51 (cj1 h51)))))))))))))))))) (fun h51 =>
   Pn.ite (fun h52 =>
   Pn.some (Fn.of [.wait 3, .mask [1], .ren [0], .join 7 (X.go) (st 110 [(1, V.ptr 0 0)] [Blk.box 36 [vI o.Op, vS o.Acct, vS o.Other, vS o.Hold, vS o.Trace, vS o.Mti, vI o.Amount, vI o.Ttl]] []), .wait 1, .mask [1], .ren [0], .join 7 (X.go) (st 110 [(1, V.ptr 0 0)] [Blk.box 36 [vI o.Op, vS o.Acct, vS o.Other, vS o.Hold, vS o.Trace, vS o.Mti, vI o.Amount, vI o.Ttl]] []), .wait 1, .mask [1], .ren [0], .join 7 (X.go) (st 110 [(1, V.ptr 0 0)] [Blk.box 36 [vI o.Op, vS o.Acct, vS o.Other, vS o.Hold, vS o.Trace, vS o.Mti, vI o.Amount, vI o.Ttl]] []), .wait 1, .mask [1], .ren [0], .join 7 (X.go) (st 110 [(1, V.ptr 0 0)] [Blk.box 36 [vI o.Op, vS o.Acct, vS o.Other, vS o.Hold, vS o.Trace, vS o.Mti, vI o.Amount, vI o.Ttl]] []), bT, bT, bT, .call [] (E4 r18) [], bT, bF, bF, bF, bF, bT, bT, bT, bF, bT, bF] (p := [HT Tryz.prog (sub (codeOf Tryz.prog 36) [1, 0]) (st 110 [(1, V.ptr 0 0)] [Blk.box 36 [vI o.Op, vS o.Acct, vS o.Other, vS o.Hold, vS o.Trace, vS o.Mti, vI o.Amount, vI o.Ttl]] []) (X.go) (st 110 [(1, V.ptr 0 0)] [Blk.box 36 [vI o.Op, vS o.Acct, vS o.Other, vS o.Hold, vS o.Trace, vS o.Mti, vI o.Amount, vI o.Ttl]] []),HT Tryz.prog (sub (codeOf Tryz.prog 36) [1, 1, 0]) (st 110 [(1, V.ptr 0 0)] [Blk.box 36 [vI o.Op, vS o.Acct, vS o.Other, vS o.Hold, vS o.Trace, vS o.Mti, vI o.Amount, vI o.Ttl]] []) (X.go) (st 110 [(1, V.ptr 0 0)] [Blk.box 36 [vI o.Op, vS o.Acct, vS o.Other, vS o.Hold, vS o.Trace, vS o.Mti, vI o.Amount, vI o.Ttl]] []),HT Tryz.prog (sub (codeOf Tryz.prog 36) [1, 1, 1, 0]) (st 110 [(1, V.ptr 0 0)] [Blk.box 36 [vI o.Op, vS o.Acct, vS o.Other, vS o.Hold, vS o.Trace, vS o.Mti, vI o.Amount, vI o.Ttl]] []) (X.go) (st 110 [(1, V.ptr 0 0)] [Blk.box 36 [vI o.Op, vS o.Acct, vS o.Other, vS o.Hold, vS o.Trace, vS o.Mti, vI o.Amount, vI o.Ttl]] []),HT Tryz.prog (sub (codeOf Tryz.prog 36) [1, 1, 1, 1, 0]) (st 110 [(1, V.ptr 0 0)] [Blk.box 36 [vI o.Op, vS o.Acct, vS o.Other, vS o.Hold, vS o.Trace, vS o.Mti, vI o.Amount, vI o.Ttl]] []) (X.go) (st 110 [(1, V.ptr 0 0)] [Blk.box 36 [vI o.Op, vS o.Acct, vS o.Other, vS o.Hold, vS o.Trace, vS o.Mti, vI o.Amount, vI o.Ttl]] []),(o.Op == 6) = true,(o.Op == 6) = true,(o.Op == 6) = true,Fn Tryz.prog 63 [(false, E9 o.Other)] (E4 r18) [],(true || ((E4 r18).nv && nvL [])) = true,(o.Op == 6) = true,r18 = false,r18 = false,r18 = false,r18 = false,(o.Op != 6) = true,(o.Op != 6) = true,(o.Op != 6) = true,r18 = false,(o.Op != 6) = true,r18 = false]) (by kernel_rfl) (cj ((spec_ReqOk_c0_ok o r5 h10).at h11 :) (cj ((spec_ReqOk_c1_ok o r10 h23).at h24 :) (cj ((spec_ReqOk_c2_ok o r15 h36).at h37 :) (cj ((spec_ReqOk_c3_ok o r17 h46).at h47 :) (cj h49 (cj h49 (cj h49 (cj (spec_AcctIdOk_ok o.Other r18 h50) (cj rfl (cj h49 (cj h51 (cj h51 (cj h51 (cj h51 (cj h52 (cj h52 (cj h52 (cj h51 (cj h52 (cj1 h51)))))))))))))))))))))) (fun h52 =>
   Pn.some (Fn.of [.wait 3, .mask [1], .ren [0], .join 7 (X.go) (st 110 [(1, V.ptr 0 0)] [Blk.box 36 [vI o.Op, vS o.Acct, vS o.Other, vS o.Hold, vS o.Trace, vS o.Mti, vI o.Amount, vI o.Ttl]] []), .wait 1, .mask [1], .ren [0], .join 7 (X.go) (st 110 [(1, V.ptr 0 0)] [Blk.box 36 [vI o.Op, vS o.Acct, vS o.Other, vS o.Hold, vS o.Trace, vS o.Mti, vI o.Amount, vI o.Ttl]] []), .wait 1, .mask [1], .ren [0], .join 7 (X.go) (st 110 [(1, V.ptr 0 0)] [Blk.box 36 [vI o.Op, vS o.Acct, vS o.Other, vS o.Hold, vS o.Trace, vS o.Mti, vI o.Amount, vI o.Ttl]] []), .wait 1, .mask [1], .ren [0], .join 7 (X.go) (st 110 [(1, V.ptr 0 0)] [Blk.box 36 [vI o.Op, vS o.Acct, vS o.Other, vS o.Hold, vS o.Trace, vS o.Mti, vI o.Amount, vI o.Ttl]] []), bT, bT, bT, .call [] (E4 r18) [], bT, bF, bF, bF, bF, bF, bF, bF, bF, bF, bF] (p := [HT Tryz.prog (sub (codeOf Tryz.prog 36) [1, 0]) (st 110 [(1, V.ptr 0 0)] [Blk.box 36 [vI o.Op, vS o.Acct, vS o.Other, vS o.Hold, vS o.Trace, vS o.Mti, vI o.Amount, vI o.Ttl]] []) (X.go) (st 110 [(1, V.ptr 0 0)] [Blk.box 36 [vI o.Op, vS o.Acct, vS o.Other, vS o.Hold, vS o.Trace, vS o.Mti, vI o.Amount, vI o.Ttl]] []),HT Tryz.prog (sub (codeOf Tryz.prog 36) [1, 1, 0]) (st 110 [(1, V.ptr 0 0)] [Blk.box 36 [vI o.Op, vS o.Acct, vS o.Other, vS o.Hold, vS o.Trace, vS o.Mti, vI o.Amount, vI o.Ttl]] []) (X.go) (st 110 [(1, V.ptr 0 0)] [Blk.box 36 [vI o.Op, vS o.Acct, vS o.Other, vS o.Hold, vS o.Trace, vS o.Mti, vI o.Amount, vI o.Ttl]] []),HT Tryz.prog (sub (codeOf Tryz.prog 36) [1, 1, 1, 0]) (st 110 [(1, V.ptr 0 0)] [Blk.box 36 [vI o.Op, vS o.Acct, vS o.Other, vS o.Hold, vS o.Trace, vS o.Mti, vI o.Amount, vI o.Ttl]] []) (X.go) (st 110 [(1, V.ptr 0 0)] [Blk.box 36 [vI o.Op, vS o.Acct, vS o.Other, vS o.Hold, vS o.Trace, vS o.Mti, vI o.Amount, vI o.Ttl]] []),HT Tryz.prog (sub (codeOf Tryz.prog 36) [1, 1, 1, 1, 0]) (st 110 [(1, V.ptr 0 0)] [Blk.box 36 [vI o.Op, vS o.Acct, vS o.Other, vS o.Hold, vS o.Trace, vS o.Mti, vI o.Amount, vI o.Ttl]] []) (X.go) (st 110 [(1, V.ptr 0 0)] [Blk.box 36 [vI o.Op, vS o.Acct, vS o.Other, vS o.Hold, vS o.Trace, vS o.Mti, vI o.Amount, vI o.Ttl]] []),(o.Op == 6) = true,(o.Op == 6) = true,(o.Op == 6) = true,Fn Tryz.prog 63 [(false, E9 o.Other)] (E4 r18) [],(true || ((E4 r18).nv && nvL [])) = true,(o.Op == 6) = true,r18 = false,r18 = false,r18 = false,r18 = false,(o.Op != 6) = false,(o.Op != 6) = false,(o.Op != 6) = false,r18 = false,(o.Op != 6) = false,r18 = false]) (by kernel_rfl) (cj ((spec_ReqOk_c0_ok o r5 h10).at h11 :) (cj ((spec_ReqOk_c1_ok o r10 h23).at h24 :) (cj ((spec_ReqOk_c2_ok o r15 h36).at h37 :) (cj ((spec_ReqOk_c3_ok o r17 h46).at h47 :) (cj h49 (cj h49 (cj h49 (cj (spec_AcctIdOk_ok o.Other r18 h50) (cj rfl (cj h49 (cj h51 (cj h51 (cj h51 (cj h51 (cj h52 (cj h52 (cj h52 (cj h51 (cj h52 (cj1 h51))))))))))))))))))))))))) (fun h49 =>
   Pn.ite (fun h53 =>
   Pn.some (Fn.of [.wait 3, .mask [1], .ren [0], .join 7 (X.go) (st 110 [(1, V.ptr 0 0)] [Blk.box 36 [vI o.Op, vS o.Acct, vS o.Other, vS o.Hold, vS o.Trace, vS o.Mti, vI o.Amount, vI o.Ttl]] []), .wait 1, .mask [1], .ren [0], .join 7 (X.go) (st 110 [(1, V.ptr 0 0)] [Blk.box 36 [vI o.Op, vS o.Acct, vS o.Other, vS o.Hold, vS o.Trace, vS o.Mti, vI o.Amount, vI o.Ttl]] []), .wait 1, .mask [1], .ren [0], .join 7 (X.go) (st 110 [(1, V.ptr 0 0)] [Blk.box 36 [vI o.Op, vS o.Acct, vS o.Other, vS o.Hold, vS o.Trace, vS o.Mti, vI o.Amount, vI o.Ttl]] []), .wait 1, .mask [1], .ren [0], .join 7 (X.go) (st 110 [(1, V.ptr 0 0)] [Blk.box 36 [vI o.Op, vS o.Acct, vS o.Other, vS o.Hold, vS o.Trace, vS o.Mti, vI o.Amount, vI o.Ttl]] []), bF, bF, bF, bF, bF, bF, bF, bF, bT, bT, bT, bF, bT, bF] (p := [HT Tryz.prog (sub (codeOf Tryz.prog 36) [1, 0]) (st 110 [(1, V.ptr 0 0)] [Blk.box 36 [vI o.Op, vS o.Acct, vS o.Other, vS o.Hold, vS o.Trace, vS o.Mti, vI o.Amount, vI o.Ttl]] []) (X.go) (st 110 [(1, V.ptr 0 0)] [Blk.box 36 [vI o.Op, vS o.Acct, vS o.Other, vS o.Hold, vS o.Trace, vS o.Mti, vI o.Amount, vI o.Ttl]] []),HT Tryz.prog (sub (codeOf Tryz.prog 36) [1, 1, 0]) (st 110 [(1, V.ptr 0 0)] [Blk.box 36 [vI o.Op, vS o.Acct, vS o.Other, vS o.Hold, vS o.Trace, vS o.Mti, vI o.Amount, vI o.Ttl]] []) (X.go) (st 110 [(1, V.ptr 0 0)] [Blk.box 36 [vI o.Op, vS o.Acct, vS o.Other, vS o.Hold, vS o.Trace, vS o.Mti, vI o.Amount, vI o.Ttl]] []),HT Tryz.prog (sub (codeOf Tryz.prog 36) [1, 1, 1, 0]) (st 110 [(1, V.ptr 0 0)] [Blk.box 36 [vI o.Op, vS o.Acct, vS o.Other, vS o.Hold, vS o.Trace, vS o.Mti, vI o.Amount, vI o.Ttl]] []) (X.go) (st 110 [(1, V.ptr 0 0)] [Blk.box 36 [vI o.Op, vS o.Acct, vS o.Other, vS o.Hold, vS o.Trace, vS o.Mti, vI o.Amount, vI o.Ttl]] []),HT Tryz.prog (sub (codeOf Tryz.prog 36) [1, 1, 1, 1, 0]) (st 110 [(1, V.ptr 0 0)] [Blk.box 36 [vI o.Op, vS o.Acct, vS o.Other, vS o.Hold, vS o.Trace, vS o.Mti, vI o.Amount, vI o.Ttl]] []) (X.go) (st 110 [(1, V.ptr 0 0)] [Blk.box 36 [vI o.Op, vS o.Acct, vS o.Other, vS o.Hold, vS o.Trace, vS o.Mti, vI o.Amount, vI o.Ttl]] []),(o.Op == 6) = false,(o.Op == 6) = false,(o.Op == 6) = false,(o.Op == 6) = false,false = false,false = false,false = false,false = false,(o.Op != 6) = true,(o.Op != 6) = true,(o.Op != 6) = true,false = false,(o.Op != 6) = true,false = false]) (by kernel_rfl) (cj ((spec_ReqOk_c0_ok o r5 h10).at h11 :) (cj ((spec_ReqOk_c1_ok o r10 h23).at h24 :) (cj ((spec_ReqOk_c2_ok o r15 h36).at h37 :) (cj ((spec_ReqOk_c3_ok o r17 h46).at h47 :) (cj h49 (cj h49 (cj h49 (cj h49 (cj rfl (cj rfl (cj rfl (cj rfl (cj h53 (cj h53 (cj h53 (cj rfl (cj h53 (cj1 rfl)))))))))))))))))))) (fun h53 =>
   Pn.some (Fn.of [.wait 3, .mask [1], .ren [0], .join 7 (X.go) (st 110 [(1, V.ptr 0 0)] [Blk.box 36 [vI o.Op, vS o.Acct, vS o.Other, vS o.Hold, vS o.Trace, vS o.Mti, vI o.Amount, vI o.Ttl]] []), .wait 1, .mask [1], .ren [0], .join 7 (X.go) (st 110 [(1, V.ptr 0 0)] [Blk.box 36 [vI o.Op, vS o.Acct, vS o.Other, vS o.Hold, vS o.Trace, vS o.Mti, vI o.Amount, vI o.Ttl]] []), .wait 1, .mask [1], .ren [0], .join 7 (X.go) (st 110 [(1, V.ptr 0 0)] [Blk.box 36 [vI o.Op, vS o.Acct, vS o.Other, vS o.Hold, vS o.Trace, vS o.Mti, vI o.Amount, vI o.Ttl]] []), .wait 1, .mask [1], .ren [0], .join 7 (X.go) (st 110 [(1, V.ptr 0 0)] [Blk.box 36 [vI o.Op, vS o.Acct, vS o.Other, vS o.Hold, vS o.Trace, vS o.Mti, vI o.Amount, vI o.Ttl]] []), bF, bF, bF, bF, bF, bF, bF, bF, bF, bF, bF, bF, bF, bF] (p := [HT Tryz.prog (sub (codeOf Tryz.prog 36) [1, 0]) (st 110 [(1, V.ptr 0 0)] [Blk.box 36 [vI o.Op, vS o.Acct, vS o.Other, vS o.Hold, vS o.Trace, vS o.Mti, vI o.Amount, vI o.Ttl]] []) (X.go) (st 110 [(1, V.ptr 0 0)] [Blk.box 36 [vI o.Op, vS o.Acct, vS o.Other, vS o.Hold, vS o.Trace, vS o.Mti, vI o.Amount, vI o.Ttl]] []),HT Tryz.prog (sub (codeOf Tryz.prog 36) [1, 1, 0]) (st 110 [(1, V.ptr 0 0)] [Blk.box 36 [vI o.Op, vS o.Acct, vS o.Other, vS o.Hold, vS o.Trace, vS o.Mti, vI o.Amount, vI o.Ttl]] []) (X.go) (st 110 [(1, V.ptr 0 0)] [Blk.box 36 [vI o.Op, vS o.Acct, vS o.Other, vS o.Hold, vS o.Trace, vS o.Mti, vI o.Amount, vI o.Ttl]] []),HT Tryz.prog (sub (codeOf Tryz.prog 36) [1, 1, 1, 0]) (st 110 [(1, V.ptr 0 0)] [Blk.box 36 [vI o.Op, vS o.Acct, vS o.Other, vS o.Hold, vS o.Trace, vS o.Mti, vI o.Amount, vI o.Ttl]] []) (X.go) (st 110 [(1, V.ptr 0 0)] [Blk.box 36 [vI o.Op, vS o.Acct, vS o.Other, vS o.Hold, vS o.Trace, vS o.Mti, vI o.Amount, vI o.Ttl]] []),HT Tryz.prog (sub (codeOf Tryz.prog 36) [1, 1, 1, 1, 0]) (st 110 [(1, V.ptr 0 0)] [Blk.box 36 [vI o.Op, vS o.Acct, vS o.Other, vS o.Hold, vS o.Trace, vS o.Mti, vI o.Amount, vI o.Ttl]] []) (X.go) (st 110 [(1, V.ptr 0 0)] [Blk.box 36 [vI o.Op, vS o.Acct, vS o.Other, vS o.Hold, vS o.Trace, vS o.Mti, vI o.Amount, vI o.Ttl]] []),(o.Op == 6) = false,(o.Op == 6) = false,(o.Op == 6) = false,(o.Op == 6) = false,false = false,false = false,false = false,false = false,(o.Op != 6) = false,(o.Op != 6) = false,(o.Op != 6) = false,false = false,(o.Op != 6) = false,false = false]) (by kernel_rfl) (cj ((spec_ReqOk_c0_ok o r5 h10).at h11 :) (cj ((spec_ReqOk_c1_ok o r10 h23).at h24 :) (cj ((spec_ReqOk_c2_ok o r15 h36).at h37 :) (cj ((spec_ReqOk_c3_ok o r17 h46).at h47 :) (cj h49 (cj h49 (cj h49 (cj h49 (cj rfl (cj rfl (cj rfl (cj rfl (cj h53 (cj h53 (cj h53 (cj rfl (cj h53 (cj1 rfl)))))))))))))))))))))) (fun s8 h48 =>
   Pn.some (Fn.of [.wait 3, .mask [1], .ren [0], .join 7 (X.go) (st 110 [(1, V.ptr 0 0)] [Blk.box 36 [vI o.Op, vS o.Acct, vS o.Other, vS o.Hold, vS o.Trace, vS o.Mti, vI o.Amount, vI o.Ttl]] []), .wait 1, .mask [1], .ren [0], .join 7 (X.go) (st 110 [(1, V.ptr 0 0)] [Blk.box 36 [vI o.Op, vS o.Acct, vS o.Other, vS o.Hold, vS o.Trace, vS o.Mti, vI o.Amount, vI o.Ttl]] []), .wait 1, .mask [1], .ren [0], .join 7 (X.go) (st 110 [(1, V.ptr 0 0)] [Blk.box 36 [vI o.Op, vS o.Acct, vS o.Other, vS o.Hold, vS o.Trace, vS o.Mti, vI o.Amount, vI o.Ttl]] []), .wait 1, .mask [1], .ren [0], .join 7 (X.ret) (st 110 [(2, vB false)] [] [])] (p := [HT Tryz.prog (sub (codeOf Tryz.prog 36) [1, 0]) (st 110 [(1, V.ptr 0 0)] [Blk.box 36 [vI o.Op, vS o.Acct, vS o.Other, vS o.Hold, vS o.Trace, vS o.Mti, vI o.Amount, vI o.Ttl]] []) (X.go) (st 110 [(1, V.ptr 0 0)] [Blk.box 36 [vI o.Op, vS o.Acct, vS o.Other, vS o.Hold, vS o.Trace, vS o.Mti, vI o.Amount, vI o.Ttl]] []),HT Tryz.prog (sub (codeOf Tryz.prog 36) [1, 1, 0]) (st 110 [(1, V.ptr 0 0)] [Blk.box 36 [vI o.Op, vS o.Acct, vS o.Other, vS o.Hold, vS o.Trace, vS o.Mti, vI o.Amount, vI o.Ttl]] []) (X.go) (st 110 [(1, V.ptr 0 0)] [Blk.box 36 [vI o.Op, vS o.Acct, vS o.Other, vS o.Hold, vS o.Trace, vS o.Mti, vI o.Amount, vI o.Ttl]] []),HT Tryz.prog (sub (codeOf Tryz.prog 36) [1, 1, 1, 0]) (st 110 [(1, V.ptr 0 0)] [Blk.box 36 [vI o.Op, vS o.Acct, vS o.Other, vS o.Hold, vS o.Trace, vS o.Mti, vI o.Amount, vI o.Ttl]] []) (X.go) (st 110 [(1, V.ptr 0 0)] [Blk.box 36 [vI o.Op, vS o.Acct, vS o.Other, vS o.Hold, vS o.Trace, vS o.Mti, vI o.Amount, vI o.Ttl]] []),HT Tryz.prog (sub (codeOf Tryz.prog 36) [1, 1, 1, 1, 0]) (st 110 [(1, V.ptr 0 0)] [Blk.box 36 [vI o.Op, vS o.Acct, vS o.Other, vS o.Hold, vS o.Trace, vS o.Mti, vI o.Amount, vI o.Ttl]] []) (X.ret) (st 110 [(2, vB false)] [] [])]) (by kernel_rfl) (cj ((spec_ReqOk_c0_ok o r5 h10).at h11 :) (cj ((spec_ReqOk_c1_ok o r10 h23).at h24 :) (cj ((spec_ReqOk_c2_ok o r15 h36).at h37 :) (cj1 ((spec_ReqOk_c3_ok o r17 h46).at h48 :))))))))) (fun s6 h38 =>
   Pn.some (Fn.of [.wait 3, .mask [1], .ren [0], .join 7 (X.go) (st 110 [(1, V.ptr 0 0)] [Blk.box 36 [vI o.Op, vS o.Acct, vS o.Other, vS o.Hold, vS o.Trace, vS o.Mti, vI o.Amount, vI o.Ttl]] []), .wait 1, .mask [1], .ren [0], .join 7 (X.go) (st 110 [(1, V.ptr 0 0)] [Blk.box 36 [vI o.Op, vS o.Acct, vS o.Other, vS o.Hold, vS o.Trace, vS o.Mti, vI o.Amount, vI o.Ttl]] []), .wait 1, .mask [1], .ren [0], .join 7 (X.ret) (st 110 [(2, vB false)] [] [])] (p := [HT Tryz.prog (sub (codeOf Tryz.prog 36) [1, 0]) (st 110 [(1, V.ptr 0 0)] [Blk.box 36 [vI o.Op, vS o.Acct, vS o.Other, vS o.Hold, vS o.Trace, vS o.Mti, vI o.Amount, vI o.Ttl]] []) (X.go) (st 110 [(1, V.ptr 0 0)] [Blk.box 36 [vI o.Op, vS o.Acct, vS o.Other, vS o.Hold, vS o.Trace, vS o.Mti, vI o.Amount, vI o.Ttl]] []),HT Tryz.prog (sub (codeOf Tryz.prog 36) [1, 1, 0]) (st 110 [(1, V.ptr 0 0)] [Blk.box 36 [vI o.Op, vS o.Acct, vS o.Other, vS o.Hold, vS o.Trace, vS o.Mti, vI o.Amount, vI o.Ttl]] []) (X.go) (st 110 [(1, V.ptr 0 0)] [Blk.box 36 [vI o.Op, vS o.Acct, vS o.Other, vS o.Hold, vS o.Trace, vS o.Mti, vI o.Amount, vI o.Ttl]] []),HT Tryz.prog (sub (codeOf Tryz.prog 36) [1, 1, 1, 0]) (st 110 [(1, V.ptr 0 0)] [Blk.box 36 [vI o.Op, vS o.Acct, vS o.Other, vS o.Hold, vS o.Trace, vS o.Mti, vI o.Amount, vI o.Ttl]] []) (X.ret) (st 110 [(2, vB false)] [] [])]) (by kernel_rfl) (cj ((spec_ReqOk_c0_ok o r5 h10).at h11 :) (cj ((spec_ReqOk_c1_ok o r10 h23).at h24 :) (cj1 ((spec_ReqOk_c2_ok o r15 h36).at h38 :)))))))) (fun s4 h25 =>
   Pn.some (Fn.of [.wait 3, .mask [1], .ren [0], .join 7 (X.go) (st 110 [(1, V.ptr 0 0)] [Blk.box 36 [vI o.Op, vS o.Acct, vS o.Other, vS o.Hold, vS o.Trace, vS o.Mti, vI o.Amount, vI o.Ttl]] []), .wait 1, .mask [1], .ren [0], .join 7 (X.ret) (st 110 [(2, vB false)] [] [])] (p := [HT Tryz.prog (sub (codeOf Tryz.prog 36) [1, 0]) (st 110 [(1, V.ptr 0 0)] [Blk.box 36 [vI o.Op, vS o.Acct, vS o.Other, vS o.Hold, vS o.Trace, vS o.Mti, vI o.Amount, vI o.Ttl]] []) (X.go) (st 110 [(1, V.ptr 0 0)] [Blk.box 36 [vI o.Op, vS o.Acct, vS o.Other, vS o.Hold, vS o.Trace, vS o.Mti, vI o.Amount, vI o.Ttl]] []),HT Tryz.prog (sub (codeOf Tryz.prog 36) [1, 1, 0]) (st 110 [(1, V.ptr 0 0)] [Blk.box 36 [vI o.Op, vS o.Acct, vS o.Other, vS o.Hold, vS o.Trace, vS o.Mti, vI o.Amount, vI o.Ttl]] []) (X.ret) (st 110 [(2, vB false)] [] [])]) (by kernel_rfl) (cj ((spec_ReqOk_c0_ok o r5 h10).at h11 :) (cj1 ((spec_ReqOk_c1_ok o r10 h23).at h25 :))))))) (fun s2 h12 =>
   Pn.some (Fn.of [.wait 3, .mask [1], .ren [0], .join 7 (X.ret) (st 110 [(2, vB false)] [] [])] (p := [HT Tryz.prog (sub (codeOf Tryz.prog 36) [1, 0]) (st 110 [(1, V.ptr 0 0)] [Blk.box 36 [vI o.Op, vS o.Acct, vS o.Other, vS o.Hold, vS o.Trace, vS o.Mti, vI o.Amount, vI o.Ttl]] []) (X.ret) (st 110 [(2, vB false)] [] [])]) (by kernel_rfl) (cj1 ((spec_ReqOk_c0_ok o r5 h10).at h12 :)))))
def spec_ReqOf_s1 (r5 : ByteArray × Bool) (o : Msg) (r7 : Int) : St := st 114 [(1, V.ptr 0 0), (2, V.ptr 1 0), (4, vS r5.1), (5, vB r5.2), (6, V.ptr 2 0), (30, V.ptr 0 0), (31, vS o.Mti), (32, vS r5.1), (33, vI r7), (34, V.ptr 0 0), (35, vS o.Mti), (36, V.agg [vI r7, vE, vE, vE, vE, vS o.Mti, vI 0, vI 0])] [Blk.box 46 [vS o.Mti, lF59 o.List], Blk.box 36 [vI 0, vE, vE, vE, vE, vE, vI 0, vI 0], Blk.box 36 [vI r7, vE, vE, vE, vE, vS o.Mti, vI 0, vI 0]] []
def spec_ReqOf_c0 (o : Msg) : Option (Lo Unit Unit) :=
 (spec_MsgOk o).bind fun r1 =>
 if r1 = true then
 some (.out ())
 else
 some (.ret ())
theorem spec_ReqOf_c0_ok (o : Msg) : Pn (JnO Tryz.prog (sub (codeOf Tryz.prog 20) [1, 0]) (st 114 [(1, V.ptr 0 0), (2, V.ptr 1 0)] [Blk.box 46 [vS o.Mti, lF59 o.List], Blk.box 36 [vI 0, vE, vE, vE, vE, vE, vI 0, vI 0]] []) (fun (y : Lo Unit Unit) => Lo.elim y (fun s => (X.go, st 114 [(1, V.ptr 0 0), (2, V.ptr 1 0)] [Blk.box 46 [vS o.Mti, lF59 o.List], Blk.box 36 [vI 0, vE, vE, vE, vE, vE, vI 0, vI 0]] [])) (fun s => (X.ret, st 114 [(2, V.ptr 0 0), (3, vI 1)] [Blk.box 36 [vI 0, vE, vE, vE, vE, vE, vI 0, vI 0]] [])))) (spec_ReqOf_c0 o) := by
  unfold spec_ReqOf_c0
  exact
   Pn.bind (fun r1 h1 =>
   Pn.ite (fun h2 =>
   Pn.some (JnO.of [.call [] (E4 r1) [], bF, .mask [1, 2], .ren [0, 1]] (p := [Fn Tryz.prog 28 [(false, E46 o)] (E4 r1) [],(true || ((E4 r1).nv && nvL [])) = true,(!r1) = false]) (by kernel_rfl) (cj (spec_MsgOk_ok o r1 h1) (cj rfl (cj1 (nf h2)))))) (fun h2 =>
   Pn.some (JnO.of [.call [] (E4 r1) [], bT, .wait 3, .mask [2, 3], .ren [1]] (p := [Fn Tryz.prog 28 [(false, E46 o)] (E4 r1) [],(true || ((E4 r1).nv && nvL [])) = true,(!r1) = true]) (by kernel_rfl) (cj (spec_MsgOk_ok o r1 h1) (cj rfl (cj1 (nt h2)))))))
def spec_ReqOf_c1 (o : Msg) : Option (Lo Unit Unit) :=
 (spec_MtiKnown o.Mti).bind fun r3 =>
 if r3 = true then
 some (.out ())
 else
 some (.ret ())
theorem spec_ReqOf_c1_ok (o : Msg) : Pn (JnO Tryz.prog (sub (codeOf Tryz.prog 20) [1, 1, 0]) (st 114 [(1, V.ptr 0 0), (2, V.ptr 1 0)] [Blk.box 46 [vS o.Mti, lF59 o.List], Blk.box 36 [vI 0, vE, vE, vE, vE, vE, vI 0, vI 0]] []) (fun (y : Lo Unit Unit) => Lo.elim y (fun s => (X.go, st 114 [(1, V.ptr 0 0), (2, V.ptr 1 0)] [Blk.box 46 [vS o.Mti, lF59 o.List], Blk.box 36 [vI 0, vE, vE, vE, vE, vE, vI 0, vI 0]] [])) (fun s => (X.ret, st 114 [(2, V.ptr 0 0), (3, vI 2)] [Blk.box 36 [vI 0, vE, vE, vE, vE, vE, vI 0, vI 0]] [])))) (spec_ReqOf_c1 o) := by
  unfold spec_ReqOf_c1
  exact
   Pn.bind (fun r3 h6 =>
   Pn.ite (fun h7 =>
   Pn.some (JnO.of [.call [] (E4 r3) [], bF, .mask [1, 2], .ren [0, 1]] (p := [Fn Tryz.prog 29 [(false, E9 o.Mti)] (E4 r3) [],(true || ((E4 r3).nv && nvL [])) = true,(!r3) = false]) (by kernel_rfl) (cj (spec_MtiKnown_ok o.Mti r3 h6) (cj rfl (cj1 (nf h7)))))) (fun h7 =>
   Pn.some (JnO.of [.call [] (E4 r3) [], bT, .wait 3, .mask [2, 3], .ren [1]] (p := [Fn Tryz.prog 29 [(false, E9 o.Mti)] (E4 r3) [],(true || ((E4 r3).nv && nvL [])) = true,(!r3) = true]) (by kernel_rfl) (cj (spec_MtiKnown_ok o.Mti r3 h6) (cj rfl (cj1 (nt h7)))))))
def spec_ReqOf_c2 (o : Msg) (r5 : ByteArray × Bool) : Option (Lo Unit Unit) :=
 if r5.2 = true then
 some (.out ())
 else
 some (.ret ())
theorem spec_ReqOf_c2_ok (o : Msg) (r5 : ByteArray × Bool) : Pn (JnO Tryz.prog (sub (codeOf Tryz.prog 20) [1, 1, 1, 1, 0]) (st 114 [(1, V.ptr 0 0), (2, V.ptr 1 0), (4, vS r5.1), (5, vB r5.2)] [Blk.box 46 [vS o.Mti, lF59 o.List], Blk.box 36 [vI 0, vE, vE, vE, vE, vE, vI 0, vI 0]] []) (fun (y : Lo Unit Unit) => Lo.elim y (fun s => (X.go, st 114 [(1, V.ptr 0 0), (2, V.ptr 1 0), (4, vS r5.1), (5, vB r5.2)] [Blk.box 46 [vS o.Mti, lF59 o.List], Blk.box 36 [vI 0, vE, vE, vE, vE, vE, vI 0, vI 0]] [])) (fun s => (X.ret, st 114 [(2, V.ptr 0 0), (3, vI 1)] [Blk.box 36 [vI 0, vE, vE, vE, vE, vE, vI 0, vI 0]] [])))) (spec_ReqOf_c2 o r5) := by
  unfold spec_ReqOf_c2
  exact
   Pn.ite (fun h12 =>
   Pn.some (JnO.of [bF, .mask [1, 2, 4, 5], .ren [0, 1]] (p := [(!r5.2) = false]) (by kernel_rfl) (cj1 (nf h12)))) (fun h12 =>
   Pn.some (JnO.of [bT, .wait 3, .mask [2, 3], .ren [1]] (p := [(!r5.2) = true]) (by kernel_rfl) (cj1 (nt h12))))
def spec_ReqOf_c3 (o : Msg) (r5 : ByteArray × Bool) (r7 : Int) (r8 : ByteArray × Bool) (r9 : ByteArray × Bool) : Option (ByteArray) :=
 (spec_l11Hold r7).bind fun r10 =>
 if r10 = true then
 (spec_FieldOf o 38).bind fun r11 =>
 (spec_FieldBare r11.1).bind fun r12 =>
 some r12
 else
 some ByteArray.empty
theorem spec_ReqOf_c3_ok (o : Msg) (r5 : ByteArray × Bool) (r7 : Int) (r8 : ByteArray × Bool) (r9 : ByteArray × Bool) : Pn (JnO Tryz.prog (sub (codeOf Tryz.prog 20) [1, 1, 1, 1, 1, 1, 1, 1, 0]) (st 114 [(1, V.ptr 0 0), (2, V.ptr 1 0), (5, vB r5.2), (6, V.ptr 2 0)] [Blk.box 46 [vS o.Mti, lF59 o.List], Blk.box 36 [vI 0, vE, vE, vE, vE, vE, vI 0, vI 0], Blk.box 36 [vI r7, vS r8.1, vE, vE, vS r9.1, vS o.Mti, vI 0, vI 0]] []) (fun (y : ByteArray) => (X.go, st 114 [(1, V.ptr 0 0), (2, V.ptr 1 0), (5, vB r5.2), (6, V.ptr 2 0)] [Blk.box 46 [vS o.Mti, lF59 o.List], Blk.box 36 [vI 0, vE, vE, vE, vE, vE, vI 0, vI 0], Blk.box 36 [vI r7, vS r8.1, vE, vS y, vS r9.1, vS o.Mti, vI 0, vI 0]] []))) (spec_ReqOf_c3 o r5 r7 r8 r9) := by
  unfold spec_ReqOf_c3
  exact
   Pn.bind (fun r10 h19 =>
   Pn.ite (fun h20 =>
   Pn.bind (fun r11 h21 =>
   Pn.bind (fun r12 h22 =>
   Pn.some (JnO.of [.call [] (E4 r10) [], bT, .call [] (V.tup [E9 r11.1, E4 r11.2]) [], .call [] (E9 r12) [], .wait 3, .mask [1, 2, 5, 6], .ren [0, 1, 2]] (p := [Fn Tryz.prog 32 [(false, E3 r7)] (E4 r10) [],(true || ((E4 r10).nv && nvL [])) = true,r10 = true,Fn Tryz.prog 30 [(false, E46 o), (false, E3 38)] (V.tup [E9 r11.1, E4 r11.2]) [],(true || ((V.tup [E9 r11.1, E4 r11.2]).nv && nvL [])) = true,Fn Tryz.prog 33 [(false, E9 r11.1)] (E9 r12) [],(true || ((E9 r12).nv && nvL [])) = true]) (by kernel_rfl) (cj (spec_l11Hold_ok r7 r10 h19) (cj rfl (cj h20 (cj (spec_FieldOf_ok o 38 r11 h21) (cj rfl (cj (spec_FieldBare_ok r11.1 r12 h22) (cj1 rfl))))))))))) (fun h20 =>
   Pn.some (JnO.of [.call [] (E4 r10) [], bF, .mask [1, 2, 5, 6], .ren [0, 1, 2]] (p := [Fn Tryz.prog 32 [(false, E3 r7)] (E4 r10) [],(true || ((E4 r10).nv && nvL [])) = true,r10 = false]) (by kernel_rfl) (cj (spec_l11Hold_ok r7 r10 h19) (cj rfl (cj1 h20))))))
def spec_ReqOf_c4 (o : Msg) (r5 : ByteArray × Bool) (r7 : Int) (r8 : ByteArray × Bool) (r9 : ByteArray × Bool) (r13 : ByteArray) : Option (Bool × Int) :=
 (spec_l11Amount r7).bind fun r14 =>
 if r14 = true then
 (spec_FieldOf o 4).bind fun r15 =>
 (spec_Narrow r15.1).bind fun r16 =>
 if r5.2 = true then
 some (r15.2, r16.1)
 else
 some (false, r16.1)
 else
 some (r5.2, 0)
theorem spec_ReqOf_c4_ok (o : Msg) (r5 : ByteArray × Bool) (r7 : Int) (r8 : ByteArray × Bool) (r9 : ByteArray × Bool) (r13 : ByteArray) : Pn (JnO Tryz.prog (sub (codeOf Tryz.prog 20) [1, 1, 1, 1, 1, 1, 1, 1, 1, 0]) (st 114 [(1, V.ptr 0 0), (2, V.ptr 1 0), (5, vB r5.2), (6, V.ptr 2 0)] [Blk.box 46 [vS o.Mti, lF59 o.List], Blk.box 36 [vI 0, vE, vE, vE, vE, vE, vI 0, vI 0], Blk.box 36 [vI r7, vS r8.1, vE, vS r13, vS r9.1, vS o.Mti, vI 0, vI 0]] []) (fun (y : Bool × Int) => (X.go, st 114 [(1, V.ptr 0 0), (2, V.ptr 1 0), (5, vB y.1), (6, V.ptr 2 0)] [Blk.box 46 [vS o.Mti, lF59 o.List], Blk.box 36 [vI 0, vE, vE, vE, vE, vE, vI 0, vI 0], Blk.box 36 [vI r7, vS r8.1, vE, vS r13, vS r9.1, vS o.Mti, vI y.2, vI 0]] []))) (spec_ReqOf_c4 o r5 r7 r8 r9 r13) := by
  unfold spec_ReqOf_c4
  exact
   Pn.bind (fun r14 h24 =>
   Pn.ite (fun h25 =>
   Pn.bind (fun r15 h26 =>
   Pn.bind (fun r16 h27 =>
   Pn.ite (fun h28 =>
   Pn.some (JnO.of [.call [] (E4 r14) [], bT, .call [] (V.tup [E9 r15.1, E4 r15.2]) [], .call [] (V.tup [E3 r16.1, E4 r16.2]) [], bT, bT, .wait 2, .mask [1, 2, 5, 6], .ren [0, 1, 2]] (p := [Fn Tryz.prog 34 [(false, E3 r7)] (E4 r14) [],(true || ((E4 r14).nv && nvL [])) = true,r14 = true,Fn Tryz.prog 30 [(false, E46 o), (false, E3 4)] (V.tup [E9 r15.1, E4 r15.2]) [],(true || ((V.tup [E9 r15.1, E4 r15.2]).nv && nvL [])) = true,Fn Tryz.prog 35 [(false, E9 r15.1)] (V.tup [E3 r16.1, E4 r16.2]) [],(true || ((V.tup [E3 r16.1, E4 r16.2]).nv && nvL [])) = true,r5.2 = true,r5.2 = true]) (by kernel_rfl) (cj (spec_l11Amount_ok r7 r14 h24) (cj rfl (cj h25 (cj (spec_FieldOf_ok o 4 r15 h26) (cj rfl (cj (spec_Narrow_ok r15.1 r16 h27) (cj rfl (cj h28 (cj1 h28))))))))))) (fun h28 =>
   Pn.some (JnO.of [.call [] (E4 r14) [], bT, .call [] (V.tup [E9 r15.1, E4 r15.2]) [], .call [] (V.tup [E3 r16.1, E4 r16.2]) [], bF, bF, .wait 2, .mask [1, 2, 5, 6], .ren [0, 1, 2]] (p := [Fn Tryz.prog 34 [(false, E3 r7)] (E4 r14) [],(true || ((E4 r14).nv && nvL [])) = true,r14 = true,Fn Tryz.prog 30 [(false, E46 o), (false, E3 4)] (V.tup [E9 r15.1, E4 r15.2]) [],(true || ((V.tup [E9 r15.1, E4 r15.2]).nv && nvL [])) = true,Fn Tryz.prog 35 [(false, E9 r15.1)] (V.tup [E3 r16.1, E4 r16.2]) [],(true || ((V.tup [E3 r16.1, E4 r16.2]).nv && nvL [])) = true,r5.2 = false,r5.2 = false]) (by kernel_rfl) (cj (spec_l11Amount_ok r7 r14 h24) (cj rfl (cj h25 (cj (spec_FieldOf_ok o 4 r15 h26) (cj rfl (cj (spec_Narrow_ok r15.1 r16 h27) (cj rfl (cj h28 (cj1 h28)))))))))))))) (fun h25 =>
   Pn.some (JnO.of [.call [] (E4 r14) [], bF, .mask [1, 2, 5, 6], .ren [0, 1, 2]] (p := [Fn Tryz.prog 34 [(false, E3 r7)] (E4 r14) [],(true || ((E4 r14).nv && nvL [])) = true,r14 = false]) (by kernel_rfl) (cj (spec_l11Amount_ok r7 r14 h24) (cj rfl (cj1 h25))))))
def spec_ReqOf_c5 (o : Msg) (r7 : Int) (r8 : ByteArray × Bool) (r9 : ByteArray × Bool) (r13 : ByteArray) (r17 : Bool × Int) : Option (Bool × Int) :=
 if (r7 == 1) = true then
 (spec_FieldOf o 14).bind fun r18 =>
 (spec_Narrow r18.1).bind fun r19 =>
 if r17.1 = true then
 some (r18.2, r19.1)
 else
 some (false, r19.1)
 else
 some (r17.1, 0)
theorem spec_ReqOf_c5_ok (o : Msg) (r7 : Int) (r8 : ByteArray × Bool) (r9 : ByteArray × Bool) (r13 : ByteArray) (r17 : Bool × Int) : Pn (JnO Tryz.prog (sub (codeOf Tryz.prog 20) [1, 1, 1, 1, 1, 1, 1, 1, 1, 1, 0]) (st 114 [(1, V.ptr 0 0), (2, V.ptr 1 0), (5, vB r17.1), (6, V.ptr 2 0)] [Blk.box 46 [vS o.Mti, lF59 o.List], Blk.box 36 [vI 0, vE, vE, vE, vE, vE, vI 0, vI 0], Blk.box 36 [vI r7, vS r8.1, vE, vS r13, vS r9.1, vS o.Mti, vI r17.2, vI 0]] []) (fun (y : Bool × Int) => (X.go, st 114 [(1, V.ptr 0 0), (2, V.ptr 1 0), (5, vB y.1), (6, V.ptr 2 0)] [Blk.box 46 [vS o.Mti, lF59 o.List], Blk.box 36 [vI 0, vE, vE, vE, vE, vE, vI 0, vI 0], Blk.box 36 [vI r7, vS r8.1, vE, vS r13, vS r9.1, vS o.Mti, vI r17.2, vI y.2]] []))) (spec_ReqOf_c5 o r7 r8 r9 r13 r17) := by
  unfold spec_ReqOf_c5
  exact
   Pn.ite (fun h30 =>
   Pn.bind (fun r18 h31 =>
   Pn.bind (fun r19 h32 =>
   Pn.ite (fun h33 =>
   Pn.some (JnO.of [bT, .call [] (V.tup [E9 r18.1, E4 r18.2]) [], .call [] (V.tup [E3 r19.1, E4 r19.2]) [], bT, bT, .wait 2, .mask [1, 2, 5, 6], .ren [0, 1, 2]] (p := [(r7 == 1) = true,Fn Tryz.prog 30 [(false, E46 o), (false, E3 14)] (V.tup [E9 r18.1, E4 r18.2]) [],(true || ((V.tup [E9 r18.1, E4 r18.2]).nv && nvL [])) = true,Fn Tryz.prog 35 [(false, E9 r18.1)] (V.tup [E3 r19.1, E4 r19.2]) [],(true || ((V.tup [E3 r19.1, E4 r19.2]).nv && nvL [])) = true,r17.1 = true,r17.1 = true]) (by kernel_rfl) (cj h30 (cj (spec_FieldOf_ok o 14 r18 h31) (cj rfl (cj (spec_Narrow_ok r18.1 r19 h32) (cj rfl (cj h33 (cj1 h33))))))))) (fun h33 =>
   Pn.some (JnO.of [bT, .call [] (V.tup [E9 r18.1, E4 r18.2]) [], .call [] (V.tup [E3 r19.1, E4 r19.2]) [], bF, bF, .wait 2, .mask [1, 2, 5, 6], .ren [0, 1, 2]] (p := [(r7 == 1) = true,Fn Tryz.prog 30 [(false, E46 o), (false, E3 14)] (V.tup [E9 r18.1, E4 r18.2]) [],(true || ((V.tup [E9 r18.1, E4 r18.2]).nv && nvL [])) = true,Fn Tryz.prog 35 [(false, E9 r18.1)] (V.tup [E3 r19.1, E4 r19.2]) [],(true || ((V.tup [E3 r19.1, E4 r19.2]).nv && nvL [])) = true,r17.1 = false,r17.1 = false]) (by kernel_rfl) (cj h30 (cj (spec_FieldOf_ok o 14 r18 h31) (cj rfl (cj (spec_Narrow_ok r18.1 r19 h32) (cj rfl (cj h33 (cj1 h33)))))))))))) (fun h30 =>
   Pn.some (JnO.of [bF, .mask [1, 2, 5, 6], .ren [0, 1, 2]] (p := [(r7 == 1) = false]) (by kernel_rfl) (cj1 h30)))
def spec_ReqOf_c6 (o : Msg) (r7 : Int) (r8 : ByteArray × Bool) (r9 : ByteArray × Bool) (r13 : ByteArray) (r17 : Bool × Int) (r20 : Bool × Int) : Option (ByteArray) :=
 if (r7 == 6) = true then
 (spec_FieldOf o 103).bind fun r21 =>
 some r21.1
 else
 some ByteArray.empty
theorem spec_ReqOf_c6_ok (o : Msg) (r7 : Int) (r8 : ByteArray × Bool) (r9 : ByteArray × Bool) (r13 : ByteArray) (r17 : Bool × Int) (r20 : Bool × Int) : Pn (JnO Tryz.prog (sub (codeOf Tryz.prog 20) [1, 1, 1, 1, 1, 1, 1, 1, 1, 1, 1, 0]) (st 114 [(1, V.ptr 0 0), (2, V.ptr 1 0), (5, vB r20.1), (6, V.ptr 2 0)] [Blk.box 46 [vS o.Mti, lF59 o.List], Blk.box 36 [vI 0, vE, vE, vE, vE, vE, vI 0, vI 0], Blk.box 36 [vI r7, vS r8.1, vE, vS r13, vS r9.1, vS o.Mti, vI r17.2, vI r20.2]] []) (fun (y : ByteArray) => (X.go, st 114 [(2, V.ptr 0 0), (5, vB r20.1), (6, V.ptr 1 0)] [Blk.box 36 [vI 0, vE, vE, vE, vE, vE, vI 0, vI 0], Blk.box 36 [vI r7, vS r8.1, vS y, vS r13, vS r9.1, vS o.Mti, vI r17.2, vI r20.2]] []))) (spec_ReqOf_c6 o r7 r8 r9 r13 r17 r20) := by
  unfold spec_ReqOf_c6
  exact
   Pn.ite (fun h35 =>
   Pn.bind (fun r21 h36 =>
   Pn.some (JnO.of [bT, .call [] (V.tup [E9 r21.1, E4 r21.2]) [], .wait 6, .mask [2, 5, 6], .ren [1, 2]] (p := [(r7 == 6) = true,Fn Tryz.prog 30 [(false, E46 o), (false, E3 103)] (V.tup [E9 r21.1, E4 r21.2]) [],(true || ((V.tup [E9 r21.1, E4 r21.2]).nv && nvL [])) = true]) (by kernel_rfl) (cj h35 (cj (spec_FieldOf_ok o 103 r21 h36) (cj1 rfl)))))) (fun h35 =>
   Pn.some (JnO.of [bF, .mask [2, 5, 6], .ren [1, 2]] (p := [(r7 == 6) = false]) (by kernel_rfl) (cj1 h35)))
def spec_ReqOf_c7 (o : Msg) (r7 : Int) (r8 : ByteArray × Bool) (r9 : ByteArray × Bool) (r13 : ByteArray) (r17 : Bool × Int) (r20 : Bool × Int) (r22 : ByteArray) : Option (Lo Unit Unit) :=
 if r20.1 = true then
 (spec_ReqOk (Req.mk r7 r8.1 r22 r13 r9.1 o.Mti r17.2 r20.2)).bind fun r23 =>
 if r23 = true then
 some (.out ())
 else
 some (.ret ())
 else
 some (.ret ())
theorem spec_ReqOf_c7_ok (o : Msg) (r7 : Int) (r8 : ByteArray × Bool) (r9 : ByteArray × Bool) (r13 : ByteArray) (r17 : Bool × Int) (r20 : Bool × Int) (r22 : ByteArray) : Pn (JnO Tryz.prog (sub (codeOf Tryz.prog 20) [1, 1, 1, 1, 1, 1, 1, 1, 1, 1, 1, 1, 0]) (st 114 [(2, V.ptr 0 0), (5, vB r20.1), (6, V.ptr 1 0)] [Blk.box 36 [vI 0, vE, vE, vE, vE, vE, vI 0, vI 0], Blk.box 36 [vI r7, vS r8.1, vS r22, vS r13, vS r9.1, vS o.Mti, vI r17.2, vI r20.2]] []) (fun (y : Lo Unit Unit) => Lo.elim y (fun s => (X.go, st 114 [(2, V.ptr 0 0), (6, V.ptr 1 0)] [Blk.box 36 [vI 0, vE, vE, vE, vE, vE, vI 0, vI 0], Blk.box 36 [vI r7, vS r8.1, vS r22, vS r13, vS r9.1, vS o.Mti, vI r17.2, vI r20.2]] [])) (fun s => (X.ret, st 114 [(2, V.ptr 0 0), (3, vI 1)] [Blk.box 36 [vI 0, vE, vE, vE, vE, vE, vI 0, vI 0]] [])))) (spec_ReqOf_c7 o r7 r8 r9 r13 r17 r20 r22) := by
  unfold spec_ReqOf_c7
  exact
   Pn.ite (fun h38 =>
   Pn.bind (fun r23 h39 =>
   Pn.ite (fun h40 =>
   Pn.some (JnO.of [bF, bF, .call [] (E4 r23) [], bF, bF, bF, .mask [2, 6], .ren [0, 1]] (p := [(!r20.1) = false,(!r20.1) = false,Fn Tryz.prog 36 [(false, E36 (Req.mk r7 r8.1 r22 r13 r9.1 o.Mti r17.2 r20.2))] (E4 r23) [],(true || ((E4 r23).nv && nvL [])) = true,(!r20.1) = false,(!r20.1) = false,(!r23) = false]) (by kernel_rfl) (cj (nf h38) (cj (nf h38) (cj (spec_ReqOk_ok (Req.mk r7 r8.1 r22 r13 r9.1 o.Mti r17.2 r20.2) r23 h39) (cj rfl (cj (nf h38) (cj (nf h38) (cj1 (nf h40)))))))))) (fun h40 =>
   Pn.some (JnO.of [bF, bF, .call [] (E4 r23) [], bF, bF, bT, .wait 3, .mask [2, 3], .ren [0]] (p := [(!r20.1) = false,(!r20.1) = false,Fn Tryz.prog 36 [(false, E36 (Req.mk r7 r8.1 r22 r13 r9.1 o.Mti r17.2 r20.2))] (E4 r23) [],(true || ((E4 r23).nv && nvL [])) = true,(!r20.1) = false,(!r20.1) = false,(!r23) = true]) (by kernel_rfl) (cj (nf h38) (cj (nf h38) (cj (spec_ReqOk_ok (Req.mk r7 r8.1 r22 r13 r9.1 o.Mti r17.2 r20.2) r23 h39) (cj rfl (cj (nf h38) (cj (nf h38) (cj1 (nt h40)))))))))))) (fun h38 =>
   Pn.some (JnO.of [bT, bT, bT, bT, bT, .wait 3, .mask [2, 3], .ren [0]] (p := [(!r20.1) = true,(!r20.1) = true,(!r20.1) = true,(!r20.1) = true,true = true]) (by kernel_rfl) (cj (nt h38) (cj (nt h38) (cj (nt h38) (cj (nt h38) (cj1 rfl)))))))
def spec_ReqOf (o : Msg) : Option (Req × Int) :=
 (spec_ReqOf_c0 o).bind fun r2 =>
 Lo.elim r2 (fun s1 =>
 (spec_ReqOf_c1 o).bind fun r4 =>
 Lo.elim r4 (fun s3 =>
 (spec_FieldOf o 3).bind fun r5 =>
 (spec_ReqOf_c2 o r5).bind fun r6 =>
 Lo.elim r6 (fun s5 =>
 (spec_l11Which o.Mti r5.1).bind fun r7 =>
 (spec_FieldOf o 2).bind fun r8 =>
 (spec_FieldOf o 11).bind fun r9 =>
 (spec_ReqOf_c3 o r5 r7 r8 r9).bind fun r13 =>
 (spec_ReqOf_c4 o r5 r7 r8 r9 r13).bind fun r17 =>
 (spec_ReqOf_c5 o r7 r8 r9 r13 r17).bind fun r20 =>
 (spec_ReqOf_c6 o r7 r8 r9 r13 r17 r20).bind fun r22 =>
 (spec_ReqOf_c7 o r7 r8 r9 r13 r17 r20 r22).bind fun r24 =>
 Lo.elim r24 (fun s7 =>
 some ((Req.mk r7 r8.1 r22 r13 r9.1 o.Mti r17.2 r20.2), 0)) (fun s8 =>
 some ((Req.mk 0 ByteArray.empty ByteArray.empty ByteArray.empty ByteArray.empty ByteArray.empty 0 0), 1))) (fun s6 =>
 some ((Req.mk 0 ByteArray.empty ByteArray.empty ByteArray.empty ByteArray.empty ByteArray.empty 0 0), 1))) (fun s4 =>
 some ((Req.mk 0 ByteArray.empty ByteArray.empty ByteArray.empty ByteArray.empty ByteArray.empty 0 0), 2))) (fun s2 =>
 some ((Req.mk 0 ByteArray.empty ByteArray.empty ByteArray.empty ByteArray.empty ByteArray.empty 0 0), 1))
theorem spec_ReqOf_ok (o : Msg) : Pn (fun y => Fn Tryz.prog 20 [(false, E46 o)] (V.tup [E36 y.1, E3 y.2]) []) (spec_ReqOf o) := by
  unfold spec_ReqOf
  exact
   Pn.bind (fun r2 h3 =>
   Pn.lo (fun s1 h4 =>
   Pn.bind (fun r4 h8 =>
   Pn.lo (fun s3 h9 =>
   Pn.bind (fun r5 h11 =>
   Pn.bind (fun r6 h13 =>
   Pn.lo (fun s5 h14 =>
   Pn.bind (fun r7 h16 =>
   Pn.bind (fun r8 h17 =>
   Pn.bind (fun r9 h18 =>
   Pn.bind (fun r13 h23 =>
   Pn.bind (fun r17 h29 =>
   Pn.bind (fun r20 h34 =>
   Pn.bind (fun r22 h37 =>
   Pn.bind (fun r24 h41 =>
   Pn.lo (fun s7 h42 =>
   Pn.some (Fn.of [.wait 4, .mask [1, 2], .ren [0, 1], .join 7 (X.go) (st 114 [(1, V.ptr 0 0), (2, V.ptr 1 0)] [Blk.box 46 [vS o.Mti, lF59 o.List], Blk.box 36 [vI 0, vE, vE, vE, vE, vE, vI 0, vI 0]] []), .wait 1, .mask [1, 2], .ren [0, 1], .join 7 (X.go) (st 114 [(1, V.ptr 0 0), (2, V.ptr 1 0)] [Blk.box 46 [vS o.Mti, lF59 o.List], Blk.box 36 [vI 0, vE, vE, vE, vE, vE, vI 0, vI 0]] []), .call [] (V.tup [E9 r5.1, E4 r5.2]) [], .wait 6, .mask [1, 2, 4, 5], .ren [0, 1], .join 7 (X.go) (st 114 [(1, V.ptr 0 0), (2, V.ptr 1 0), (4, vS r5.1), (5, vB r5.2)] [Blk.box 46 [vS o.Mti, lF59 o.List], Blk.box 36 [vI 0, vE, vE, vE, vE, vE, vI 0, vI 0]] []), .draw [8], .loop .go ((spec_ReqOf_s1 r5 o r7)), .call [] (E3 r7) [], .wait 3, .ren [0, 1, 2], .call [] (E3 r7) [], .wait 2, .ren [0, 1, 2], .call [] (V.tup [E9 r8.1, E4 r8.2]) [], .call [] (V.tup [E9 r9.1, E4 r9.2]) [], .wait 6, .mask [1, 2, 5, 6], .ren [0, 1, 2], .join 7 (X.go) (st 114 [(1, V.ptr 0 0), (2, V.ptr 1 0), (5, vB r5.2), (6, V.ptr 2 0)] [Blk.box 46 [vS o.Mti, lF59 o.List], Blk.box 36 [vI 0, vE, vE, vE, vE, vE, vI 0, vI 0], Blk.box 36 [vI r7, vS r8.1, vE, vS r13, vS r9.1, vS o.Mti, vI 0, vI 0]] []), .wait 1, .mask [1, 2, 5, 6], .ren [0, 1, 2], .join 9 (X.go) (st 114 [(1, V.ptr 0 0), (2, V.ptr 1 0), (5, vB r17.1), (6, V.ptr 2 0)] [Blk.box 46 [vS o.Mti, lF59 o.List], Blk.box 36 [vI 0, vE, vE, vE, vE, vE, vI 0, vI 0], Blk.box 36 [vI r7, vS r8.1, vE, vS r13, vS r9.1, vS o.Mti, vI r17.2, vI 0]] []), .wait 1, .mask [1, 2, 5, 6], .ren [0, 1, 2], .join 9 (X.go) (st 114 [(1, V.ptr 0 0), (2, V.ptr 1 0), (5, vB r20.1), (6, V.ptr 2 0)] [Blk.box 46 [vS o.Mti, lF59 o.List], Blk.box 36 [vI 0, vE, vE, vE, vE, vE, vI 0, vI 0], Blk.box 36 [vI r7, vS r8.1, vE, vS r13, vS r9.1, vS o.Mti, vI r17.2, vI r20.2]] []), .wait 1, .mask [1, 2, 5, 6], .ren [0, 1, 2], .join 5 (X.go) (st 114 [(2, V.ptr 0 0), (5, vB r20.1), (6, V.ptr 1 0)] [Blk.box 36 [vI 0, vE, vE, vE, vE, vE, vI 0, vI 0], Blk.box 36 [vI r7, vS r8.1, vS r22, vS r13, vS r9.1, vS o.Mti, vI r17.2, vI r20.2]] []), .wait 1, .mask [2, 5, 6], .ren [0, 1], .join 7 (X.go) (st 114 [(2, V.ptr 0 0), (6, V.ptr 1 0)] [Blk.box 36 [vI 0, vE, vE, vE, vE, vE, vI 0, vI 0], Blk.box 36 [vI r7, vS r8.1, vS r22, vS r13, vS r9.1, vS o.Mti, vI r17.2, vI r20.2]] [])] (p := [HT Tryz.prog (sub (codeOf Tryz.prog 20) [1, 0]) (st 114 [(1, V.ptr 0 0), (2, V.ptr 1 0)] [Blk.box 46 [vS o.Mti, lF59 o.List], Blk.box 36 [vI 0, vE, vE, vE, vE, vE, vI 0, vI 0]] []) (X.go) (st 114 [(1, V.ptr 0 0), (2, V.ptr 1 0)] [Blk.box 46 [vS o.Mti, lF59 o.List], Blk.box 36 [vI 0, vE, vE, vE, vE, vE, vI 0, vI 0]] []),HT Tryz.prog (sub (codeOf Tryz.prog 20) [1, 1, 0]) (st 114 [(1, V.ptr 0 0), (2, V.ptr 1 0)] [Blk.box 46 [vS o.Mti, lF59 o.List], Blk.box 36 [vI 0, vE, vE, vE, vE, vE, vI 0, vI 0]] []) (X.go) (st 114 [(1, V.ptr 0 0), (2, V.ptr 1 0)] [Blk.box 46 [vS o.Mti, lF59 o.List], Blk.box 36 [vI 0, vE, vE, vE, vE, vE, vI 0, vI 0]] []),Fn Tryz.prog 30 [(false, E46 o), (false, E3 3)] (V.tup [E9 r5.1, E4 r5.2]) [],(true || ((V.tup [E9 r5.1, E4 r5.2]).nv && nvL [])) = true,HT Tryz.prog (sub (codeOf Tryz.prog 20) [1, 1, 1, 1, 0]) (st 114 [(1, V.ptr 0 0), (2, V.ptr 1 0), (4, vS r5.1), (5, vB r5.2)] [Blk.box 46 [vS o.Mti, lF59 o.List], Blk.box 36 [vI 0, vE, vE, vE, vE, vE, vI 0, vI 0]] []) (X.go) (st 114 [(1, V.ptr 0 0), (2, V.ptr 1 0), (4, vS r5.1), (5, vB r5.2)] [Blk.box 46 [vS o.Mti, lF59 o.List], Blk.box 36 [vI 0, vE, vE, vE, vE, vE, vI 0, vI 0]] []),Fn Tryz.prog 31 [(false, E9 o.Mti), (false, E9 r5.1)] (E3 r7) [],(true || ((E3 r7).nv && nvL [])) = true,(spec_ReqOf_s1 r5 o r7) = (spec_ReqOf_s1 r5 o r7),Fn Tryz.prog 31 [(false, E9 o.Mti), (false, E9 r5.1)] (E3 r7) [],(true || ((E3 r7).nv && nvL [])) = true,(spec_ReqOf_s1 r5 o r7) = (spec_ReqOf_s1 r5 o r7),Fn Tryz.prog 30 [(false, E46 o), (false, E3 2)] (V.tup [E9 r8.1, E4 r8.2]) [],(true || ((V.tup [E9 r8.1, E4 r8.2]).nv && nvL [])) = true,Fn Tryz.prog 30 [(false, E46 o), (false, E3 11)] (V.tup [E9 r9.1, E4 r9.2]) [],(true || ((V.tup [E9 r9.1, E4 r9.2]).nv && nvL [])) = true,HT Tryz.prog (sub (codeOf Tryz.prog 20) [1, 1, 1, 1, 1, 1, 1, 1, 0]) (st 114 [(1, V.ptr 0 0), (2, V.ptr 1 0), (5, vB r5.2), (6, V.ptr 2 0)] [Blk.box 46 [vS o.Mti, lF59 o.List], Blk.box 36 [vI 0, vE, vE, vE, vE, vE, vI 0, vI 0], Blk.box 36 [vI r7, vS r8.1, vE, vE, vS r9.1, vS o.Mti, vI 0, vI 0]] []) (X.go) (st 114 [(1, V.ptr 0 0), (2, V.ptr 1 0), (5, vB r5.2), (6, V.ptr 2 0)] [Blk.box 46 [vS o.Mti, lF59 o.List], Blk.box 36 [vI 0, vE, vE, vE, vE, vE, vI 0, vI 0], Blk.box 36 [vI r7, vS r8.1, vE, vS r13, vS r9.1, vS o.Mti, vI 0, vI 0]] []),HT Tryz.prog (sub (codeOf Tryz.prog 20) [1, 1, 1, 1, 1, 1, 1, 1, 1, 0]) (st 114 [(1, V.ptr 0 0), (2, V.ptr 1 0), (5, vB r5.2), (6, V.ptr 2 0)] [Blk.box 46 [vS o.Mti, lF59 o.List], Blk.box 36 [vI 0, vE, vE, vE, vE, vE, vI 0, vI 0], Blk.box 36 [vI r7, vS r8.1, vE, vS r13, vS r9.1, vS o.Mti, vI 0, vI 0]] []) (X.go) (st 114 [(1, V.ptr 0 0), (2, V.ptr 1 0), (5, vB r17.1), (6, V.ptr 2 0)] [Blk.box 46 [vS o.Mti, lF59 o.List], Blk.box 36 [vI 0, vE, vE, vE, vE, vE, vI 0, vI 0], Blk.box 36 [vI r7, vS r8.1, vE, vS r13, vS r9.1, vS o.Mti, vI r17.2, vI 0]] []),HT Tryz.prog (sub (codeOf Tryz.prog 20) [1, 1, 1, 1, 1, 1, 1, 1, 1, 1, 0]) (st 114 [(1, V.ptr 0 0), (2, V.ptr 1 0), (5, vB r17.1), (6, V.ptr 2 0)] [Blk.box 46 [vS o.Mti, lF59 o.List], Blk.box 36 [vI 0, vE, vE, vE, vE, vE, vI 0, vI 0], Blk.box 36 [vI r7, vS r8.1, vE, vS r13, vS r9.1, vS o.Mti, vI r17.2, vI 0]] []) (X.go) (st 114 [(1, V.ptr 0 0), (2, V.ptr 1 0), (5, vB r20.1), (6, V.ptr 2 0)] [Blk.box 46 [vS o.Mti, lF59 o.List], Blk.box 36 [vI 0, vE, vE, vE, vE, vE, vI 0, vI 0], Blk.box 36 [vI r7, vS r8.1, vE, vS r13, vS r9.1, vS o.Mti, vI r17.2, vI r20.2]] []),HT Tryz.prog (sub (codeOf Tryz.prog 20) [1, 1, 1, 1, 1, 1, 1, 1, 1, 1, 1, 0]) (st 114 [(1, V.ptr 0 0), (2, V.ptr 1 0), (5, vB r20.1), (6, V.ptr 2 0)] [Blk.box 46 [vS o.Mti, lF59 o.List], Blk.box 36 [vI 0, vE, vE, vE, vE, vE, vI 0, vI 0], Blk.box 36 [vI r7, vS r8.1, vE, vS r13, vS r9.1, vS o.Mti, vI r17.2, vI r20.2]] []) (X.go) (st 114 [(2, V.ptr 0 0), (5, vB r20.1), (6, V.ptr 1 0)] [Blk.box 36 [vI 0, vE, vE, vE, vE, vE, vI 0, vI 0], Blk.box 36 [vI r7, vS r8.1, vS r22, vS r13, vS r9.1, vS o.Mti, vI r17.2, vI r20.2]] []),HT Tryz.prog (sub (codeOf Tryz.prog 20) [1, 1, 1, 1, 1, 1, 1, 1, 1, 1, 1, 1, 0]) (st 114 [(2, V.ptr 0 0), (5, vB r20.1), (6, V.ptr 1 0)] [Blk.box 36 [vI 0, vE, vE, vE, vE, vE, vI 0, vI 0], Blk.box 36 [vI r7, vS r8.1, vS r22, vS r13, vS r9.1, vS o.Mti, vI r17.2, vI r20.2]] []) (X.go) (st 114 [(2, V.ptr 0 0), (6, V.ptr 1 0)] [Blk.box 36 [vI 0, vE, vE, vE, vE, vE, vI 0, vI 0], Blk.box 36 [vI r7, vS r8.1, vS r22, vS r13, vS r9.1, vS o.Mti, vI r17.2, vI r20.2]] [])]) (by kernel_rfl) (cj ((spec_ReqOf_c0_ok o r2 h3).at h4 :) (cj ((spec_ReqOf_c1_ok o r4 h8).at h9 :) (cj (spec_FieldOf_ok o 3 r5 h11) (cj rfl (cj ((spec_ReqOf_c2_ok o r5 r6 h13).at h14 :) (cj (spec_l11Which_ok o.Mti r5.1 r7 h16) (cj rfl (cj rfl (cj (spec_l11Which_ok o.Mti r5.1 r7 h16) (cj rfl (cj rfl (cj (spec_FieldOf_ok o 2 r8 h17) (cj rfl (cj (spec_FieldOf_ok o 11 r9 h18) (cj rfl (cj (spec_ReqOf_c3_ok o r5 r7 r8 r9 r13 h23) (cj (spec_ReqOf_c4_ok o r5 r7 r8 r9 r13 r17 h29) (cj (spec_ReqOf_c5_ok o r7 r8 r9 r13 r17 r20 h34) (cj (spec_ReqOf_c6_ok o r7 r8 r9 r13 r17 r20 r22 h37) (cj1 ((spec_ReqOf_c7_ok o r7 r8 r9 r13 r17 r20 r22 r24 h41).at h42 :))))))))))))))))))))))) (fun s8 h43 =>
   Pn.some (Fn.of [.wait 4, .mask [1, 2], .ren [0, 1], .join 7 (X.go) (st 114 [(1, V.ptr 0 0), (2, V.ptr 1 0)] [Blk.box 46 [vS o.Mti, lF59 o.List], Blk.box 36 [vI 0, vE, vE, vE, vE, vE, vI 0, vI 0]] []), .wait 1, .mask [1, 2], .ren [0, 1], .join 7 (X.go) (st 114 [(1, V.ptr 0 0), (2, V.ptr 1 0)] [Blk.box 46 [vS o.Mti, lF59 o.List], Blk.box 36 [vI 0, vE, vE, vE, vE, vE, vI 0, vI 0]] []), .call [] (V.tup [E9 r5.1, E4 r5.2]) [], .wait 6, .mask [1, 2, 4, 5], .ren [0, 1], .join 7 (X.go) (st 114 [(1, V.ptr 0 0), (2, V.ptr 1 0), (4, vS r5.1), (5, vB r5.2)] [Blk.box 46 [vS o.Mti, lF59 o.List], Blk.box 36 [vI 0, vE, vE, vE, vE, vE, vI 0, vI 0]] []), .draw [8], .loop .go ((spec_ReqOf_s1 r5 o r7)), .call [] (E3 r7) [], .wait 3, .ren [0, 1, 2], .call [] (E3 r7) [], .wait 2, .ren [0, 1, 2], .call [] (V.tup [E9 r8.1, E4 r8.2]) [], .call [] (V.tup [E9 r9.1, E4 r9.2]) [], .wait 6, .mask [1, 2, 5, 6], .ren [0, 1, 2], .join 7 (X.go) (st 114 [(1, V.ptr 0 0), (2, V.ptr 1 0), (5, vB r5.2), (6, V.ptr 2 0)] [Blk.box 46 [vS o.Mti, lF59 o.List], Blk.box 36 [vI 0, vE, vE, vE, vE, vE, vI 0, vI 0], Blk.box 36 [vI r7, vS r8.1, vE, vS r13, vS r9.1, vS o.Mti, vI 0, vI 0]] []), .wait 1, .mask [1, 2, 5, 6], .ren [0, 1, 2], .join 9 (X.go) (st 114 [(1, V.ptr 0 0), (2, V.ptr 1 0), (5, vB r17.1), (6, V.ptr 2 0)] [Blk.box 46 [vS o.Mti, lF59 o.List], Blk.box 36 [vI 0, vE, vE, vE, vE, vE, vI 0, vI 0], Blk.box 36 [vI r7, vS r8.1, vE, vS r13, vS r9.1, vS o.Mti, vI r17.2, vI 0]] []), .wait 1, .mask [1, 2, 5, 6], .ren [0, 1, 2], .join 9 (X.go) (st 114 [(1, V.ptr 0 0), (2, V.ptr 1 0), (5, vB r20.1), (6, V.ptr 2 0)] [Blk.box 46 [vS o.Mti, lF59 o.List], Blk.box 36 [vI 0, vE, vE, vE, vE, vE, vI 0, vI 0], Blk.box 36 [vI r7, vS r8.1, vE, vS r13, vS r9.1, vS o.Mti, vI r17.2, vI r20.2]] []), .wait 1, .mask [1, 2, 5, 6], .ren [0, 1, 2], .join 5 (X.go) (st 114 [(2, V.ptr 0 0), (5, vB r20.1), (6, V.ptr 1 0)] [Blk.box 36 [vI 0, vE, vE, vE, vE, vE, vI 0, vI 0], Blk.box 36 [vI r7, vS r8.1, vS r22, vS r13, vS r9.1, vS o.Mti, vI r17.2, vI r20.2]] []), .wait 1, .mask [2, 5, 6], .ren [0, 1], .join 7 (X.ret) (st 114 [(2, V.ptr 0 0), (3, vI 1)] [Blk.box 36 [vI 0, vE, vE, vE, vE, vE, vI 0, vI 0]] [])] (p := [HT Tryz.prog (sub (codeOf Tryz.prog 20) [1, 0]) (st 114 [(1, V.ptr 0 0), (2, V.ptr 1 0)] [Blk.box 46 [vS o.Mti, lF59 o.List], Blk.box 36 [vI 0, vE, vE, vE, vE, vE, vI 0, vI 0]] []) (X.go) (st 114 [(1, V.ptr 0 0), (2, V.ptr 1 0)] [Blk.box 46 [vS o.Mti, lF59 o.List], Blk.box 36 [vI 0, vE, vE, vE, vE, vE, vI 0, vI 0]] []),HT Tryz.prog (sub (codeOf Tryz.prog 20) [1, 1, 0]) (st 114 [(1, V.ptr 0 0), (2, V.ptr 1 0)] [Blk.box 46 [vS o.Mti, lF59 o.List], Blk.box 36 [vI 0, vE, vE, vE, vE, vE, vI 0, vI 0]] []) (X.go) (st 114 [(1, V.ptr 0 0), (2, V.ptr 1 0)] [Blk.box 46 [vS o.Mti, lF59 o.List], Blk.box 36 [vI 0, vE, vE, vE, vE, vE, vI 0, vI 0]] []),Fn Tryz.prog 30 [(false, E46 o), (false, E3 3)] (V.tup [E9 r5.1, E4 r5.2]) [],(true || ((V.tup [E9 r5.1, E4 r5.2]).nv && nvL [])) = true,HT Tryz.prog (sub (codeOf Tryz.prog 20) [1, 1, 1, 1, 0]) (st 114 [(1, V.ptr 0 0), (2, V.ptr 1 0), (4, vS r5.1), (5, vB r5.2)] [Blk.box 46 [vS o.Mti, lF59 o.List], Blk.box 36 [vI 0, vE, vE, vE, vE, vE, vI 0, vI 0]] []) (X.go) (st 114 [(1, V.ptr 0 0), (2, V.ptr 1 0), (4, vS r5.1), (5, vB r5.2)] [Blk.box 46 [vS o.Mti, lF59 o.List], Blk.box 36 [vI 0, vE, vE, vE, vE, vE, vI 0, vI 0]] []),Fn Tryz.prog 31 [(false, E9 o.Mti), (false, E9 r5.1)] (E3 r7) [],(true || ((E3 r7).nv && nvL [])) = true,(spec_ReqOf_s1 r5 o r7) = (spec_ReqOf_s1 r5 o r7),Fn Tryz.prog 31 [(false, E9 o.Mti), (false, E9 r5.1)] (E3 r7) [],(true || ((E3 r7).nv && nvL [])) = true,(spec_ReqOf_s1 r5 o r7) = (spec_ReqOf_s1 r5 o r7),Fn Tryz.prog 30 [(false, E46 o), (false, E3 2)] (V.tup [E9 r8.1, E4 r8.2]) [],(true || ((V.tup [E9 r8.1, E4 r8.2]).nv && nvL [])) = true,Fn Tryz.prog 30 [(false, E46 o), (false, E3 11)] (V.tup [E9 r9.1, E4 r9.2]) [],(true || ((V.tup [E9 r9.1, E4 r9.2]).nv && nvL [])) = true,HT Tryz.prog (sub (codeOf Tryz.prog 20) [1, 1, 1, 1, 1, 1, 1, 1, 0]) (st 114 [(1, V.ptr 0 0), (2, V.ptr 1 0), (5, vB r5.2), (6, V.ptr 2 0)] [Blk.box 46 [vS o.Mti, lF59 o.List], Blk.box 36 [vI 0, vE, vE, vE, vE, vE, vI 0, vI 0], Blk.box 36 [vI r7, vS r8.1, vE, vE, vS r9.1, vS o.Mti, vI 0, vI 0]] []) (X.go) (st 114 [(1, V.ptr 0 0), (2, V.ptr 1 0), (5, vB r5.2), (6, V.ptr 2 0)] [Blk.box 46 [vS o.Mti, lF59 o.List], Blk.box 36 [vI 0, vE, vE, vE, vE, vE, vI 0, vI 0], Blk.box 36 [vI r7, vS r8.1, vE, vS r13, vS r9.1, vS o.Mti, vI 0, vI 0]] []),HT Tryz.prog (sub (codeOf Tryz.prog 20) [1, 1, 1, 1, 1, 1, 1, 1, 1, 0]) (st 114 [(1, V.ptr 0 0), (2, V.ptr 1 0), (5, vB r5.2), (6, V.ptr 2 0)] [Blk.box 46 [vS o.Mti, lF59 o.List], Blk.box 36 [vI 0, vE, vE, vE, vE, vE, vI 0, vI 0], Blk.box 36 [vI r7, vS r8.1, vE, vS r13, vS r9.1, vS o.Mti, vI 0, vI 0]] []) (X.go) (st 114 [(1, V.ptr 0 0), (2, V.ptr 1 0), (5, vB r17.1), (6, V.ptr 2 0)] [Blk.box 46 [vS o.Mti, lF59 o.List], Blk.box 36 [vI 0, vE, vE, vE, vE, vE, vI 0, vI 0], Blk.box 36 [vI r7, vS r8.1, vE, vS r13, vS r9.1, vS o.Mti, vI r17.2, vI 0]] []),HT Tryz.prog (sub (codeOf Tryz.prog 20) [1, 1, 1, 1, 1, 1, 1, 1, 1, 1, 0]) (st 114 [(1, V.ptr 0 0), (2, V.ptr 1 0), (5, vB r17.1), (6, V.ptr 2 0)] [Blk.box 46 [vS o.Mti, lF59 o.List], Blk.box 36 [vI 0, vE, vE, vE, vE, vE, vI 0, vI 0], Blk.box 36 [vI r7, vS r8.1, vE, vS r13, vS r9.1, vS o.Mti, vI r17.2, vI 0]] []) (X.go) (st 114 [(1, V.ptr 0 0), (2, V.ptr 1 0), (5, vB r20.1), (6, V.ptr 2 0)] [Blk.box 46 [vS o.Mti, lF59 o.List], Blk.box 36 [vI 0, vE, vE, vE, vE, vE, vI 0, vI 0], Blk.box 36 [vI r7, vS r8.1, vE, vS r13, vS r9.1, vS o.Mti, vI r17.2, vI r20.2]] []),HT Tryz.prog (sub (codeOf Tryz.prog 20) [1, 1, 1, 1, 1, 1, 1, 1, 1, 1, 1, 0]) (st 114 [(1, V.ptr 0 0), (2, V.ptr 1 0), (5, vB r20.1), (6, V.ptr 2 0)] [Blk.box 46 [vS o.Mti, lF59 o.List], Blk.box 36 [vI 0, vE, vE, vE, vE, vE, vI 0, vI 0], Blk.box 36 [vI r7, vS r8.1, vE, vS r13, vS r9.1, vS o.Mti, vI r17.2, vI r20.2]] []) (X.go) (st 114 [(2, V.ptr 0 0), (5, vB r20.1), (6, V.ptr 1 0)] [Blk.box 36 [vI 0, vE, vE, vE, vE, vE, vI 0, vI 0], Blk.box 36 [vI r7, vS r8.1, vS r22, vS r13, vS r9.1, vS o.Mti, vI r17.2, vI r20.2]] []),HT Tryz.prog (sub (codeOf Tryz.prog 20) [1, 1, 1, 1, 1, 1, 1, 1, 1, 1, 1, 1, 0]) (st 114 [(2, V.ptr 0 0), (5, vB r20.1), (6, V.ptr 1 0)] [Blk.box 36 [vI 0, vE, vE, vE, vE, vE, vI 0, vI 0], Blk.box 36 [vI r7, vS r8.1, vS r22, vS r13, vS r9.1, vS o.Mti, vI r17.2, vI r20.2]] []) (X.ret) (st 114 [(2, V.ptr 0 0), (3, vI 1)] [Blk.box 36 [vI 0, vE, vE, vE, vE, vE, vI 0, vI 0]] [])]) (by kernel_rfl) (cj ((spec_ReqOf_c0_ok o r2 h3).at h4 :) (cj ((spec_ReqOf_c1_ok o r4 h8).at h9 :) (cj (spec_FieldOf_ok o 3 r5 h11) (cj rfl (cj ((spec_ReqOf_c2_ok o r5 r6 h13).at h14 :) (cj (spec_l11Which_ok o.Mti r5.1 r7 h16) (cj rfl (cj rfl (cj (spec_l11Which_ok o.Mti r5.1 r7 h16) (cj rfl (cj rfl (cj (spec_FieldOf_ok o 2 r8 h17) (cj rfl (cj (spec_FieldOf_ok o 11 r9 h18) (cj rfl (cj (spec_ReqOf_c3_ok o r5 r7 r8 r9 r13 h23) (cj (spec_ReqOf_c4_ok o r5 r7 r8 r9 r13 r17 h29) (cj (spec_ReqOf_c5_ok o r7 r8 r9 r13 r17 r20 h34) (cj (spec_ReqOf_c6_ok o r7 r8 r9 r13 r17 r20 r22 h37) (cj1 ((spec_ReqOf_c7_ok o r7 r8 r9 r13 r17 r20 r22 r24 h41).at h43 :)))))))))))))))))))))))))))))))) (fun s6 h15 =>
   Pn.some (Fn.of [.wait 4, .mask [1, 2], .ren [0, 1], .join 7 (X.go) (st 114 [(1, V.ptr 0 0), (2, V.ptr 1 0)] [Blk.box 46 [vS o.Mti, lF59 o.List], Blk.box 36 [vI 0, vE, vE, vE, vE, vE, vI 0, vI 0]] []), .wait 1, .mask [1, 2], .ren [0, 1], .join 7 (X.go) (st 114 [(1, V.ptr 0 0), (2, V.ptr 1 0)] [Blk.box 46 [vS o.Mti, lF59 o.List], Blk.box 36 [vI 0, vE, vE, vE, vE, vE, vI 0, vI 0]] []), .call [] (V.tup [E9 r5.1, E4 r5.2]) [], .wait 6, .mask [1, 2, 4, 5], .ren [0, 1], .join 7 (X.ret) (st 114 [(2, V.ptr 0 0), (3, vI 1)] [Blk.box 36 [vI 0, vE, vE, vE, vE, vE, vI 0, vI 0]] [])] (p := [HT Tryz.prog (sub (codeOf Tryz.prog 20) [1, 0]) (st 114 [(1, V.ptr 0 0), (2, V.ptr 1 0)] [Blk.box 46 [vS o.Mti, lF59 o.List], Blk.box 36 [vI 0, vE, vE, vE, vE, vE, vI 0, vI 0]] []) (X.go) (st 114 [(1, V.ptr 0 0), (2, V.ptr 1 0)] [Blk.box 46 [vS o.Mti, lF59 o.List], Blk.box 36 [vI 0, vE, vE, vE, vE, vE, vI 0, vI 0]] []),HT Tryz.prog (sub (codeOf Tryz.prog 20) [1, 1, 0]) (st 114 [(1, V.ptr 0 0), (2, V.ptr 1 0)] [Blk.box 46 [vS o.Mti, lF59 o.List], Blk.box 36 [vI 0, vE, vE, vE, vE, vE, vI 0, vI 0]] []) (X.go) (st 114 [(1, V.ptr 0 0), (2, V.ptr 1 0)] [Blk.box 46 [vS o.Mti, lF59 o.List], Blk.box 36 [vI 0, vE, vE, vE, vE, vE, vI 0, vI 0]] []),Fn Tryz.prog 30 [(false, E46 o), (false, E3 3)] (V.tup [E9 r5.1, E4 r5.2]) [],(true || ((V.tup [E9 r5.1, E4 r5.2]).nv && nvL [])) = true,HT Tryz.prog (sub (codeOf Tryz.prog 20) [1, 1, 1, 1, 0]) (st 114 [(1, V.ptr 0 0), (2, V.ptr 1 0), (4, vS r5.1), (5, vB r5.2)] [Blk.box 46 [vS o.Mti, lF59 o.List], Blk.box 36 [vI 0, vE, vE, vE, vE, vE, vI 0, vI 0]] []) (X.ret) (st 114 [(2, V.ptr 0 0), (3, vI 1)] [Blk.box 36 [vI 0, vE, vE, vE, vE, vE, vI 0, vI 0]] [])]) (by kernel_rfl) (cj ((spec_ReqOf_c0_ok o r2 h3).at h4 :) (cj ((spec_ReqOf_c1_ok o r4 h8).at h9 :) (cj (spec_FieldOf_ok o 3 r5 h11) (cj rfl (cj1 ((spec_ReqOf_c2_ok o r5 r6 h13).at h15 :))))))))))) (fun s4 h10 =>
   Pn.some (Fn.of [.wait 4, .mask [1, 2], .ren [0, 1], .join 7 (X.go) (st 114 [(1, V.ptr 0 0), (2, V.ptr 1 0)] [Blk.box 46 [vS o.Mti, lF59 o.List], Blk.box 36 [vI 0, vE, vE, vE, vE, vE, vI 0, vI 0]] []), .wait 1, .mask [1, 2], .ren [0, 1], .join 7 (X.ret) (st 114 [(2, V.ptr 0 0), (3, vI 2)] [Blk.box 36 [vI 0, vE, vE, vE, vE, vE, vI 0, vI 0]] [])] (p := [HT Tryz.prog (sub (codeOf Tryz.prog 20) [1, 0]) (st 114 [(1, V.ptr 0 0), (2, V.ptr 1 0)] [Blk.box 46 [vS o.Mti, lF59 o.List], Blk.box 36 [vI 0, vE, vE, vE, vE, vE, vI 0, vI 0]] []) (X.go) (st 114 [(1, V.ptr 0 0), (2, V.ptr 1 0)] [Blk.box 46 [vS o.Mti, lF59 o.List], Blk.box 36 [vI 0, vE, vE, vE, vE, vE, vI 0, vI 0]] []),HT Tryz.prog (sub (codeOf Tryz.prog 20) [1, 1, 0]) (st 114 [(1, V.ptr 0 0), (2, V.ptr 1 0)] [Blk.box 46 [vS o.Mti, lF59 o.List], Blk.box 36 [vI 0, vE, vE, vE, vE, vE, vI 0, vI 0]] []) (X.ret) (st 114 [(2, V.ptr 0 0), (3, vI 2)] [Blk.box 36 [vI 0, vE, vE, vE, vE, vE, vI 0, vI 0]] [])]) (by kernel_rfl) (cj ((spec_ReqOf_c0_ok o r2 h3).at h4 :) (cj1 ((spec_ReqOf_c1_ok o r4 h8).at h10 :))))))) (fun s2 h5 =>
   Pn.some (Fn.of [.wait 4, .mask [1, 2], .ren [0, 1], .join 7 (X.ret) (st 114 [(2, V.ptr 0 0), (3, vI 1)] [Blk.box 36 [vI 0, vE, vE, vE, vE, vE, vI 0, vI 0]] [])] (p := [HT Tryz.prog (sub (codeOf Tryz.prog 20) [1, 0]) (st 114 [(1, V.ptr 0 0), (2, V.ptr 1 0)] [Blk.box 46 [vS o.Mti, lF59 o.List], Blk.box 36 [vI 0, vE, vE, vE, vE, vE, vI 0, vI 0]] []) (X.ret) (st 114 [(2, V.ptr 0 0), (3, vI 1)] [Blk.box 36 [vI 0, vE, vE, vE, vE, vE, vI 0, vI 0]] [])]) (by kernel_rfl) (cj1 ((spec_ReqOf_c0_ok o r2 h3).at h5 :)))))
def spec_l20Req (data : List Int) : Option (Req × Bool) :=
 (spec_Parse data).bind fun r1 =>
 if (r1.2 != 0) = true then
 some ((Req.mk 0 ByteArray.empty ByteArray.empty ByteArray.empty ByteArray.empty ByteArray.empty 0 0), false)
 else
 (spec_ReqOf r1.1).bind fun r2 =>
 some (r2.1, (r2.2 == 0))
theorem spec_l20Req_ok (data : List Int) : Pn (fun y => Fn Tryz.prog 12 [(false, E31 data)] (V.tup [E36 y.1, E4 y.2]) []) (spec_l20Req data) := by
  unfold spec_l20Req
  exact
   Pn.bind (fun r1 h1 =>
   Pn.ite (fun h2 =>
   Pn.some (Fn.of [.call [] (V.tup [E46 r1.1, E3 r1.2]) [], bT] (p := [Fn Tryz.prog 19 [(false, E31 data)] (V.tup [E46 r1.1, E3 r1.2]) [],(true || ((V.tup [E46 r1.1, E3 r1.2]).nv && nvL [])) = true,(r1.2 != 0) = true]) (by kernel_rfl) (cj (spec_Parse_ok data r1 h1) (cj rfl (cj1 h2))))) (fun h2 =>
   Pn.bind (fun r2 h3 =>
   Pn.some (Fn.of [.call [] (V.tup [E46 r1.1, E3 r1.2]) [], bF, .call [] (V.tup [E36 r2.1, E3 r2.2]) []] (p := [Fn Tryz.prog 19 [(false, E31 data)] (V.tup [E46 r1.1, E3 r1.2]) [],(true || ((V.tup [E46 r1.1, E3 r1.2]).nv && nvL [])) = true,(r1.2 != 0) = false,Fn Tryz.prog 20 [(false, E46 r1.1)] (V.tup [E36 r2.1, E3 r2.2]) [],(false || ((V.tup [E36 r2.1, E3 r2.2]).nv && nvL [])) = true]) (by kernel_rfl) (cj (spec_Parse_ok data r1 h1) (cj rfl (cj h2 (cj (spec_ReqOf_ok r1.1 r2 h3) (cj1 (by simp [V.nv, nvL, nvL_all, nv_E3, nv_E9, nv_E36]))))))))))
def spec_Fresh_s3 (o : List Done) (r3 : Bool) (p1 : List Done) (x1 : Done) (v1 : List Done) : St := st 80 [(0, lF34 o), (3, V.ow 0), (5, V.ptr 1 0), (7, vB r3), (13, lF34 o), (14, vI (o.length : Int)), (15, vI (p1.length : Int)), (63, vB r3), (65, V.ptr 1 0), (66, vI x1.At), (67, V.nl 5), (68, V.ptr 1 1), (69, lF5 x1.Data), (71, V.nl 5), (72, V.ptr 1 2), (73, lF5 x1.Reply), (75, V.agg [vI x1.At, V.un, V.un]), (77, V.ow 0)] [Blk.row 34 (List.map E34 (v1 ++ [x1])) [], Blk.box 34 [vI x1.At, lF5 x1.Data, lF5 x1.Reply]] []
def spec_Fresh_l1 (o : List Done) (v1 : List Done) (p1 : List Done) (x1 : Done) (r1 : Req × Bool) : List Done → Bool → Option (Bool)
  | [], v2 =>
   some v2
  | x2 :: t2, v2 =>
   (spec_l20Req x2.Data).bind fun r2 =>
   if r2.2 = true then
   if (r2.1.Acct == r1.1.Acct) = true then
   if (r2.1.Trace == r1.1.Trace) = true then
   if (r2.1.Mti == r1.1.Mti) = true then
   spec_Fresh_l1 o v1 p1 x1 r1 t2 false
   else
   spec_Fresh_l1 o v1 p1 x1 r1 t2 v2
   else
   spec_Fresh_l1 o v1 p1 x1 r1 t2 v2
   else
   spec_Fresh_l1 o v1 p1 x1 r1 t2 v2
   else
   spec_Fresh_l1 o v1 p1 x1 r1 t2 v2
theorem spec_Fresh_l1_ok (o : List Done) (v1 : List Done) (p1 : List Done) (x1 : Done) (r1 : Req × Bool) (h7 : capOk ((o.take ((p1.length : Int).toNat)).drop 0).length = true) : ∀ (t2 p2 : List Done) (_ : ((o.take ((p1.length : Int).toNat)).drop 0) = p2 ++ t2) (v2 : Bool), Pn (LpO Tryz.prog (sub (codeOf Tryz.prog 5) [1, 1, 0, 1, 0, 0, 1, 1, 0, 0, 1, 1, 0, 1, 0, 0]) (st 80 [(0, lF34 o), (3, V.ow 0), (5, V.ptr 1 0), (6, V.ptr 2 0), (7, vB v2), (13, lF34 o), (14, vI (o.length : Int)), (15, vI (p1.length : Int)), (28, lF34 ((o.take ((p1.length : Int).toNat)).drop 0)), (29, vI (((o.take ((p1.length : Int).toNat)).drop 0).length : Int)), (30, vI (p2.length : Int))] [Blk.row 34 (List.map E34 v1) [], Blk.box 34 [vI x1.At, lF5 x1.Data, lF5 x1.Reply], Blk.box 36 [vI r1.1.Op, vS r1.1.Acct, vS r1.1.Other, vS r1.1.Hold, vS r1.1.Trace, vS r1.1.Mti, vI r1.1.Amount, vI r1.1.Ttl]] []) (fun (y : Bool) => (X.out 2, st 80 [(0, lF34 o), (3, V.ow 0), (5, V.ptr 1 0), (7, vB y), (13, lF34 o), (14, vI (o.length : Int)), (15, vI (p1.length : Int))] [Blk.row 34 (List.map E34 v1) [], Blk.box 34 [vI x1.At, lF5 x1.Data, lF5 x1.Reply]] []))) (spec_Fresh_l1 o v1 p1 x1 r1 t2 v2)
  | [], p2, h6, v2 => by
    unfold spec_Fresh_l1
    exact
     Pn.some (LpO.out [bF, .mask [0, 3, 5, 7, 13, 14, 15], .ren [0, 1]] (p := [(decide ((p2.length : Int) < (((o.take ((p1.length : Int).toNat)).drop 0).length : Int))) = false]) (by kernel_rfl) (show X.out 2 ≠ X.go from nofun) (cj1 (rng_end h6)))
  | x2 :: t2, p2, h6, v2 => by
    unfold spec_Fresh_l1
    exact
     Pn.bind (fun r2 h8 =>
     Pn.ite (fun h9 =>
     Pn.ite (fun h10 =>
     Pn.ite (fun h11 =>
     Pn.ite (fun h12 =>
     LpO.go [bT, .el (E34 x2), .call [] (V.tup [E36 r2.1, E4 r2.2]) [], bT, bT, bT, bT, bT, bT, bT, bT, bT, bT, bT, bT, bT, bT, bT, bT, bT, bT, bT, .wait 3, .mask [0, 3, 5, 6, 7, 13, 14, 15, 28, 29, 30], .ren [0, 1, 2], .nm 30 (vI ((p2 ++ [x2]).length : Int))] (p := [(decide ((p2.length : Int) < (((o.take ((p1.length : Int).toNat)).drop 0).length : Int))) = true,(0 : Int) ≤ (p2.length : Int),(List.map E34 ((o.take ((p1.length : Int).toNat)).drop 0))[(p2.length : Int).toNat]? = some (E34 x2),Fn Tryz.prog 12 [(false, E31 x2.Data)] (V.tup [E36 r2.1, E4 r2.2]) [],(true || ((V.tup [E36 r2.1, E4 r2.2]).nv && nvL [])) = true,r2.2 = true,r2.2 = true,r2.2 = true,r2.2 = true,r2.2 = true,r2.2 = true,(r2.1.Acct == r1.1.Acct) = true,(r2.1.Acct == r1.1.Acct) = true,(r2.1.Acct == r1.1.Acct) = true,(r2.1.Acct == r1.1.Acct) = true,(r2.1.Acct == r1.1.Acct) = true,(r2.1.Acct == r1.1.Acct) = true,(r2.1.Trace == r1.1.Trace) = true,(r2.1.Trace == r1.1.Trace) = true,(r2.1.Trace == r1.1.Trace) = true,(r2.1.Trace == r1.1.Trace) = true,(r2.1.Trace == r1.1.Trace) = true,(r2.1.Trace == r1.1.Trace) = true,(r2.1.Mti == r1.1.Mti) = true,vI (i64 ((p2.length : Int) + 1)) = vI ((p2 ++ [x2]).length : Int)]) (by kernel_rfl) (cj (rng_lt h6) (cj (by omega) (cj (rng_get _ h6) (cj (spec_l20Req_ok x2.Data r2 h8) (cj rfl (cj h9 (cj h9 (cj h9 (cj h9 (cj h9 (cj h9 (cj h10 (cj h10 (cj h10 (cj h10 (cj h10 (cj h10 (cj h11 (cj h11 (cj h11 (cj h11 (cj h11 (cj h11 (cj h12 (cj1 (rng_next h6 h7)))))))))))))))))))))))))) (spec_Fresh_l1_ok o v1 p1 x1 r1 h7 t2 (p2 ++ [x2]) (rng_step h6) false)) (fun h12 =>
     LpO.go [bT, .el (E34 x2), .call [] (V.tup [E36 r2.1, E4 r2.2]) [], bT, bT, bT, bT, bT, bT, bT, bT, bT, bT, bT, bT, bT, bT, bT, bT, bT, bT, bF, .wait 2, .mask [0, 3, 5, 6, 7, 13, 14, 15, 28, 29, 30], .ren [0, 1, 2], .nm 30 (vI ((p2 ++ [x2]).length : Int))] (p := [(decide ((p2.length : Int) < (((o.take ((p1.length : Int).toNat)).drop 0).length : Int))) = true,(0 : Int) ≤ (p2.length : Int),(List.map E34 ((o.take ((p1.length : Int).toNat)).drop 0))[(p2.length : Int).toNat]? = some (E34 x2),Fn Tryz.prog 12 [(false, E31 x2.Data)] (V.tup [E36 r2.1, E4 r2.2]) [],(true || ((V.tup [E36 r2.1, E4 r2.2]).nv && nvL [])) = true,r2.2 = true,r2.2 = true,r2.2 = true,r2.2 = true,r2.2 = true,r2.2 = true,(r2.1.Acct == r1.1.Acct) = true,(r2.1.Acct == r1.1.Acct) = true,(r2.1.Acct == r1.1.Acct) = true,(r2.1.Acct == r1.1.Acct) = true,(r2.1.Acct == r1.1.Acct) = true,(r2.1.Acct == r1.1.Acct) = true,(r2.1.Trace == r1.1.Trace) = true,(r2.1.Trace == r1.1.Trace) = true,(r2.1.Trace == r1.1.Trace) = true,(r2.1.Trace == r1.1.Trace) = true,(r2.1.Trace == r1.1.Trace) = true,(r2.1.Trace == r1.1.Trace) = true,(r2.1.Mti == r1.1.Mti) = false,vI (i64 ((p2.length : Int) + 1)) = vI ((p2 ++ [x2]).length : Int)]) (by kernel_rfl) (cj (rng_lt h6) (cj (by omega) (cj (rng_get _ h6) (cj (spec_l20Req_ok x2.Data r2 h8) (cj rfl (cj h9 (cj h9 (cj h9 (cj h9 (cj h9 (cj h9 (cj h10 (cj h10 (cj h10 (cj h10 (cj h10 (cj h10 (cj h11 (cj h11 (cj h11 (cj h11 (cj h11 (cj h11 (cj h12 (cj1 (rng_next h6 h7)))))))))))))))))))))))))) (spec_Fresh_l1_ok o v1 p1 x1 r1 h7 t2 (p2 ++ [x2]) (rng_step h6) v2))) (fun h11 =>
     LpO.go [bT, .el (E34 x2), .call [] (V.tup [E36 r2.1, E4 r2.2]) [], bT, bT, bT, bT, bT, bT, bT, bT, bT, bT, bT, bT, bF, bF, bF, bF, bF, bF, bF, .wait 2, .mask [0, 3, 5, 6, 7, 13, 14, 15, 28, 29, 30], .ren [0, 1, 2], .nm 30 (vI ((p2 ++ [x2]).length : Int))] (p := [(decide ((p2.length : Int) < (((o.take ((p1.length : Int).toNat)).drop 0).length : Int))) = true,(0 : Int) ≤ (p2.length : Int),(List.map E34 ((o.take ((p1.length : Int).toNat)).drop 0))[(p2.length : Int).toNat]? = some (E34 x2),Fn Tryz.prog 12 [(false, E31 x2.Data)] (V.tup [E36 r2.1, E4 r2.2]) [],(true || ((V.tup [E36 r2.1, E4 r2.2]).nv && nvL [])) = true,r2.2 = true,r2.2 = true,r2.2 = true,r2.2 = true,r2.2 = true,r2.2 = true,(r2.1.Acct == r1.1.Acct) = true,(r2.1.Acct == r1.1.Acct) = true,(r2.1.Acct == r1.1.Acct) = true,(r2.1.Acct == r1.1.Acct) = true,(r2.1.Acct == r1.1.Acct) = true,(r2.1.Acct == r1.1.Acct) = true,(r2.1.Trace == r1.1.Trace) = false,(r2.1.Trace == r1.1.Trace) = false,(r2.1.Trace == r1.1.Trace) = false,(r2.1.Trace == r1.1.Trace) = false,(r2.1.Trace == r1.1.Trace) = false,(r2.1.Trace == r1.1.Trace) = false,false = false,vI (i64 ((p2.length : Int) + 1)) = vI ((p2 ++ [x2]).length : Int)]) (by kernel_rfl) (cj (rng_lt h6) (cj (by omega) (cj (rng_get _ h6) (cj (spec_l20Req_ok x2.Data r2 h8) (cj rfl (cj h9 (cj h9 (cj h9 (cj h9 (cj h9 (cj h9 (cj h10 (cj h10 (cj h10 (cj h10 (cj h10 (cj h10 (cj h11 (cj h11 (cj h11 (cj h11 (cj h11 (cj h11 (cj rfl (cj1 (rng_next h6 h7)))))))))))))))))))))))))) (spec_Fresh_l1_ok o v1 p1 x1 r1 h7 t2 (p2 ++ [x2]) (rng_step h6) v2))) (fun h10 =>
     LpO.go [bT, .el (E34 x2), .call [] (V.tup [E36 r2.1, E4 r2.2]) [], bT, bT, bT, bT, bT, bT, bF, bF, bF, bF, bF, bF, bF, bF, bF, bF, bF, bF, bF, .wait 2, .mask [0, 3, 5, 6, 7, 13, 14, 15, 28, 29, 30], .ren [0, 1, 2], .nm 30 (vI ((p2 ++ [x2]).length : Int))] (p := [(decide ((p2.length : Int) < (((o.take ((p1.length : Int).toNat)).drop 0).length : Int))) = true,(0 : Int) ≤ (p2.length : Int),(List.map E34 ((o.take ((p1.length : Int).toNat)).drop 0))[(p2.length : Int).toNat]? = some (E34 x2),Fn Tryz.prog 12 [(false, E31 x2.Data)] (V.tup [E36 r2.1, E4 r2.2]) [],(true || ((V.tup [E36 r2.1, E4 r2.2]).nv && nvL [])) = true,r2.2 = true,r2.2 = true,r2.2 = true,r2.2 = true,r2.2 = true,r2.2 = true,(r2.1.Acct == r1.1.Acct) = false,(r2.1.Acct == r1.1.Acct) = false,(r2.1.Acct == r1.1.Acct) = false,(r2.1.Acct == r1.1.Acct) = false,(r2.1.Acct == r1.1.Acct) = false,(r2.1.Acct == r1.1.Acct) = false,false = false,false = false,false = false,false = false,false = false,false = false,false = false,vI (i64 ((p2.length : Int) + 1)) = vI ((p2 ++ [x2]).length : Int)]) (by kernel_rfl) (cj (rng_lt h6) (cj (by omega) (cj (rng_get _ h6) (cj (spec_l20Req_ok x2.Data r2 h8) (cj rfl (cj h9 (cj h9 (cj h9 (cj h9 (cj h9 (cj h9 (cj h10 (cj h10 (cj h10 (cj h10 (cj h10 (cj h10 (cj rfl (cj rfl (cj rfl (cj rfl (cj rfl (cj rfl (cj rfl (cj1 (rng_next h6 h7)))))))))))))))))))))))))) (spec_Fresh_l1_ok o v1 p1 x1 r1 h7 t2 (p2 ++ [x2]) (rng_step h6) v2))) (fun h9 =>
     LpO.go [bT, .el (E34 x2), .call [] (V.tup [E36 r2.1, E4 r2.2]) [], bF, bF, bF, bF, bF, bF, bF, bF, bF, bF, bF, bF, bF, bF, bF, bF, bF, bF, bF, .wait 2, .mask [0, 3, 5, 6, 7, 13, 14, 15, 28, 29, 30], .ren [0, 1, 2], .nm 30 (vI ((p2 ++ [x2]).length : Int))] (p := [(decide ((p2.length : Int) < (((o.take ((p1.length : Int).toNat)).drop 0).length : Int))) = true,(0 : Int) ≤ (p2.length : Int),(List.map E34 ((o.take ((p1.length : Int).toNat)).drop 0))[(p2.length : Int).toNat]? = some (E34 x2),Fn Tryz.prog 12 [(false, E31 x2.Data)] (V.tup [E36 r2.1, E4 r2.2]) [],(true || ((V.tup [E36 r2.1, E4 r2.2]).nv && nvL [])) = true,r2.2 = false,r2.2 = false,r2.2 = false,r2.2 = false,r2.2 = false,r2.2 = false,false = false,false = false,false = false,false = false,false = false,false = false,false = false,false = false,false = false,false = false,false = false,false = false,false = false,vI (i64 ((p2.length : Int) + 1)) = vI ((p2 ++ [x2]).length : Int)]) (by kernel_rfl) (cj (rng_lt h6) (cj (by omega) (cj (rng_get _ h6) (cj (spec_l20Req_ok x2.Data r2 h8) (cj rfl (cj h9 (cj h9 (cj h9 (cj h9 (cj h9 (cj h9 (cj rfl (cj rfl (cj rfl (cj rfl (cj rfl (cj rfl (cj rfl (cj rfl (cj rfl (cj rfl (cj rfl (cj rfl (cj rfl (cj1 (rng_next h6 h7)))))))))))))))))))))))))) (spec_Fresh_l1_ok o v1 p1 x1 r1 h7 t2 (p2 ++ [x2]) (rng_step h6) v2)))
def spec_Fresh_l0 (o : List Done) : List Done → List Done → (List Done) → Option ((List Done))
  | [], p1, v1 =>
   some v1
  | x1 :: t1, p1, v1 =>
   (spec_l20Req x1.Data).bind fun r1 =>
   if (decide (0 ≤ (p1.length : Int))) = true then
   if (decide ((p1.length : Int) ≤ (o.length : Int))) = true then
   if (capOk ((o.take ((p1.length : Int).toNat)).drop 0).length) = true then
   (spec_Fresh_l1 o v1 p1 x1 r1 ((o.take ((p1.length : Int).toNat)).drop 0) r1.2).bind fun r3 =>
   if r3 = true then
   if (capOk (0 + x1.Data.length)) = true then
   if (capOk (0 + x1.Reply.length)) = true then
   if (capOk (v1.length + 1)) = true then
   spec_Fresh_l0 o t1 (p1 ++ [x1]) (v1 ++ [x1])
   else none
   else none
   else none
   else
   spec_Fresh_l0 o t1 (p1 ++ [x1]) v1
   else none
   else none
   else none
theorem spec_Fresh_l0_ok (o : List Done) (h2 : capOk o.length = true) : ∀ (t1 p1 : List Done) (_ : o = p1 ++ t1) (v1 : List Done), Pn (LpO Tryz.prog (sub (codeOf Tryz.prog 5) [1, 1, 0, 1, 0, 0]) (st 80 [(0, lF34 o), (3, V.ow 0), (13, lF34 o), (14, vI (o.length : Int)), (15, vI (p1.length : Int))] [Blk.row 34 (List.map E34 v1) []] []) (fun (y : (List Done)) => (X.out 0, st 80 [(3, V.ow 0)] [Blk.row 34 (List.map E34 y) []] []))) (spec_Fresh_l0 o t1 p1 v1)
  | [], p1, h1, v1 => by
    unfold spec_Fresh_l0
    exact
     Pn.some (LpO.out [bF, .mask [3], .ren [0]] (p := [(decide ((p1.length : Int) < (o.length : Int))) = false]) (by kernel_rfl) (show X.out 0 ≠ X.go from nofun) (cj1 (rng_end h1)))
  | x1 :: t1, p1, h1, v1 => by
    unfold spec_Fresh_l0
    exact
     Pn.bind (fun r1 h3 =>
     Pn.ite (fun h4 =>
     Pn.ite (fun h5 =>
     Pn.ite (fun h13 =>
     Pn.bind (fun r3 h14 =>
     Pn.ite (fun h15 =>
     Pn.ite (fun h16 =>
     Pn.ite (fun h17 =>
     Pn.ite (fun h18 =>
     LpO.go [bT, .el (E34 x1), .call [] (V.tup [E36 r1.1, E4 r1.2]) [], .wait 9, .nm 28 (lF34 ((o.take ((p1.length : Int).toNat)).drop 0)), .wait 1, .nm 29 (vI (((o.take ((p1.length : Int).toNat)).drop 0).length : Int)), .wait 2, .mask [0, 3, 5, 6, 7, 13, 14, 15, 28, 29, 30], .ren [0, 1, 2], .loop (X.out 2) (st 80 [(0, lF34 o), (3, V.ow 0), (5, V.ptr 1 0), (7, vB r3), (13, lF34 o), (14, vI (o.length : Int)), (15, vI (p1.length : Int))] [Blk.row 34 (List.map E34 v1) [], Blk.box 34 [vI x1.At, lF5 x1.Data, lF5 x1.Reply]] []), bT, .draw [13], .loop .go ((spec_Fresh_s3 o r3 p1 x1 v1)), .mv, .loop .go ((spec_Fresh_s3 o r3 p1 x1 v1)), .cp (List.map E5 x1.Data), .nb 2 (.row 5 (List.map E5 x1.Data) []), .mv, .cp (List.map E5 x1.Reply), .nb 3 (.row 5 (List.map E5 x1.Reply) []), .wait 2, .shut 4, .mv, .nb 5 (.row 34 (List.map E34 (v1 ++ [x1])) []), .wait 1, .ren [5, 1], .mv, .cp (List.map E5 x1.Data), .nb 2 (.row 5 (List.map E5 x1.Data) []), .cp (List.map E5 x1.Reply), .nb 3 (.row 5 (List.map E5 x1.Reply) []), .wait 2, .shut 4, .mv, .nb 5 (.row 34 (List.map E34 (v1 ++ [x1])) []), .wait 1, .ren [5, 1], .ren [0, 1], .mv, .mv, .cp (List.map E5 x1.Data), .nb 2 (.row 5 (List.map E5 x1.Data) []), .cp (List.map E5 x1.Reply), .nb 3 (.row 5 (List.map E5 x1.Reply) []), .wait 2, .shut 4, .mv, .nb 5 (.row 34 (List.map E34 (v1 ++ [x1])) []), .wait 1, .ren [5, 1], .wait 3, .mask [0, 3, 13, 14, 15], .ren [0], .nm 15 (vI ((p1 ++ [x1]).length : Int))] (p := [(decide ((p1.length : Int) < (o.length : Int))) = true,(0 : Int) ≤ (p1.length : Int),(List.map E34 o)[(p1.length : Int).toNat]? = some (E34 x1),Fn Tryz.prog 12 [(false, E31 x1.Data)] (V.tup [E36 r1.1, E4 r1.2]) [],(true || ((V.tup [E36 r1.1, E4 r1.2]).nv && nvL [])) = true,(0 : Int) ≤ 0,(0 : Int) ≤ (p1.length : Int),((p1.length : Int) : Int) ≤ ((List.map E34 o).length : Int),V.sl false 34 (((List.map E34 o).take ((p1.length : Int).toNat)).drop 0) = lF34 ((o.take ((p1.length : Int).toNat)).drop 0),vI ((List.map E34 ((o.take ((p1.length : Int).toNat)).drop 0)).length : Int) = vI (((o.take ((p1.length : Int).toNat)).drop 0).length : Int),Loop Tryz.prog (sub (codeOf Tryz.prog 5) [1, 1, 0, 1, 0, 0, 1, 1, 0, 0, 1, 1, 0, 1, 0, 0]) (st 80 [(0, lF34 o), (3, V.ow 0), (5, V.ptr 1 0), (6, V.ptr 2 0), (7, vB r1.2), (13, lF34 o), (14, vI (o.length : Int)), (15, vI (p1.length : Int)), (28, lF34 ((o.take ((p1.length : Int).toNat)).drop 0)), (29, vI (((o.take ((p1.length : Int).toNat)).drop 0).length : Int)), (30, vI 0)] [Blk.row 34 (List.map E34 v1) [], Blk.box 34 [vI x1.At, lF5 x1.Data, lF5 x1.Reply], Blk.box 36 [vI r1.1.Op, vS r1.1.Acct, vS r1.1.Other, vS r1.1.Hold, vS r1.1.Trace, vS r1.1.Mti, vI r1.1.Amount, vI r1.1.Ttl]] []) (X.out 2) (st 80 [(0, lF34 o), (3, V.ow 0), (5, V.ptr 1 0), (7, vB r3), (13, lF34 o), (14, vI (o.length : Int)), (15, vI (p1.length : Int))] [Blk.row 34 (List.map E34 v1) [], Blk.box 34 [vI x1.At, lF5 x1.Data, lF5 x1.Reply]] []),r3 = true,(List.map E5 x1.Data).map V.vw = (List.map E5 x1.Data),([] : List V).length + (List.map E5 x1.Data).length ≤ 9223372036854775807,(([] : List V).length + (List.map E5 x1.Data).length) * 1 ≤ 140737488355328,Blk.row 5 (([] : List V) ++ (List.map E5 x1.Data)) [] = Blk.row 5 (List.map E5 x1.Data) [],(List.map E5 x1.Reply).map V.vw = (List.map E5 x1.Reply),([] : List V).length + (List.map E5 x1.Reply).length ≤ 9223372036854775807,(([] : List V).length + (List.map E5 x1.Reply).length) * 1 ≤ 140737488355328,Blk.row 5 (([] : List V) ++ (List.map E5 x1.Reply)) [] = Blk.row 5 (List.map E5 x1.Reply) [],(List.map E34 v1).length + [V.agg [vI x1.At, lT5 x1.Data, lT5 x1.Reply]].length ≤ 9223372036854775807,((List.map E34 v1).length + [V.agg [vI x1.At, lT5 x1.Data, lT5 x1.Reply]].length) * 56 ≤ 140737488355328,Blk.row 34 ((List.map E34 v1) ++ [V.agg [vI x1.At, lT5 x1.Data, lT5 x1.Reply]]) [] = Blk.row 34 (List.map E34 (v1 ++ [x1])) [],(spec_Fresh_s3 o r3 p1 x1 v1) = (spec_Fresh_s3 o r3 p1 x1 v1),(List.map E5 x1.Data).map V.vw = (List.map E5 x1.Data),([] : List V).length + (List.map E5 x1.Data).length ≤ 9223372036854775807,(([] : List V).length + (List.map E5 x1.Data).length) * 1 ≤ 140737488355328,Blk.row 5 (([] : List V) ++ (List.map E5 x1.Data)) [] = Blk.row 5 (List.map E5 x1.Data) [],(List.map E5 x1.Reply).map V.vw = (List.map E5 x1.Reply),([] : List V).length + (List.map E5 x1.Reply).length ≤ 9223372036854775807,(([] : List V).length + (List.map E5 x1.Reply).length) * 1 ≤ 140737488355328,Blk.row 5 (([] : List V) ++ (List.map E5 x1.Reply)) [] = Blk.row 5 (List.map E5 x1.Reply) [],(List.map E34 v1).length + [V.agg [vI x1.At, lT5 x1.Data, lT5 x1.Reply]].length ≤ 9223372036854775807,((List.map E34 v1).length + [V.agg [vI x1.At, lT5 x1.Data, lT5 x1.Reply]].length) * 56 ≤ 140737488355328,Blk.row 34 ((List.map E34 v1) ++ [V.agg [vI x1.At, lT5 x1.Data, lT5 x1.Reply]]) [] = Blk.row 34 (List.map E34 (v1 ++ [x1])) [],(spec_Fresh_s3 o r3 p1 x1 v1) = (spec_Fresh_s3 o r3 p1 x1 v1),(spec_Fresh_s3 o r3 p1 x1 v1) = (spec_Fresh_s3 o r3 p1 x1 v1),(List.map E5 x1.Data).map V.vw = (List.map E5 x1.Data),([] : List V).length + (List.map E5 x1.Data).length ≤ 9223372036854775807,(([] : List V).length + (List.map E5 x1.Data).length) * 1 ≤ 140737488355328,Blk.row 5 (([] : List V) ++ (List.map E5 x1.Data)) [] = Blk.row 5 (List.map E5 x1.Data) [],(List.map E5 x1.Reply).map V.vw = (List.map E5 x1.Reply),([] : List V).length + (List.map E5 x1.Reply).length ≤ 9223372036854775807,(([] : List V).length + (List.map E5 x1.Reply).length) * 1 ≤ 140737488355328,Blk.row 5 (([] : List V) ++ (List.map E5 x1.Reply)) [] = Blk.row 5 (List.map E5 x1.Reply) [],(List.map E34 v1).length + [V.agg [vI x1.At, lT5 x1.Data, lT5 x1.Reply]].length ≤ 9223372036854775807,((List.map E34 v1).length + [V.agg [vI x1.At, lT5 x1.Data, lT5 x1.Reply]].length) * 56 ≤ 140737488355328,Blk.row 34 ((List.map E34 v1) ++ [V.agg [vI x1.At, lT5 x1.Data, lT5 x1.Reply]]) [] = Blk.row 34 (List.map E34 (v1 ++ [x1])) [],(spec_Fresh_s3 o r3 p1 x1 v1) = (spec_Fresh_s3 o r3 p1 x1 v1),vI (i64 ((p1.length : Int) + 1)) = vI ((p1 ++ [x1]).length : Int)]) (by kernel_rfl) (cj (rng_lt h1) (cj (by omega) (cj (rng_get _ h1) (cj (spec_l20Req_ok x1.Data r1 h3) (cj rfl (cj (by decide) (cj (od h4) (cj (by rw [List.length_map]; exact (od h5)) (cj (nm_cut _ _ _ _ _) (cj (len_nm _ _) (cj (spec_Fresh_l1_ok o v1 p1 x1 r1 h13 ((o.take ((p1.length : Int).toNat)).drop 0) [] rfl r1.2 r3 h14) (cj h15 (cj (vw_id (fun _ => rfl) _) (cj (cap1 (capN (by simp) h16)) (cj (cap2 (capN (by simp) h16) (by decide)) (cj rfl (cj (vw_id (fun _ => rfl) _) (cj (cap1 (capN (by simp) h17)) (cj (cap2 (capN (by simp) h17) (by decide)) (cj rfl (cj (cap1 (capN (by simp) h18)) (cj (cap2 (capN (by simp) h18) (by decide)) (cj (nb_app E34 v1 [x1]) (cj rfl (cj (vw_id (fun _ => rfl) _) (cj (cap1 (capN (by simp) h16)) (cj (cap2 (capN (by simp) h16) (by decide)) (cj rfl (cj (vw_id (fun _ => rfl) _) (cj (cap1 (capN (by simp) h17)) (cj (cap2 (capN (by simp) h17) (by decide)) (cj rfl (cj (cap1 (capN (by simp) h18)) (cj (cap2 (capN (by simp) h18) (by decide)) (cj (nb_app E34 v1 [x1]) (cj rfl (cj rfl (cj (vw_id (fun _ => rfl) _) (cj (cap1 (capN (by simp) h16)) (cj (cap2 (capN (by simp) h16) (by decide)) (cj rfl (cj (vw_id (fun _ => rfl) _) (cj (cap1 (capN (by simp) h17)) (cj (cap2 (capN (by simp) h17) (by decide)) (cj rfl (cj (cap1 (capN (by simp) h18)) (cj (cap2 (capN (by simp) h18) (by decide)) (cj (nb_app E34 v1 [x1]) (cj rfl (cj1 (rng_next h1 h2))))))))))))))))))))))))))))))))))))))))))))))))))) (spec_Fresh_l0_ok o h2 t1 (p1 ++ [x1]) (rng_step h1) (v1 ++ [x1]))) (fun h18 =>
     Pn.none)) (fun h17 =>
     Pn.none)) (fun h16 =>
     Pn.none)) (fun h15 =>
     LpO.go [bT, .el (E34 x1), .call [] (V.tup [E36 r1.1, E4 r1.2]) [], .wait 9, .nm 28 (lF34 ((o.take ((p1.length : Int).toNat)).drop 0)), .wait 1, .nm 29 (vI (((o.take ((p1.length : Int).toNat)).drop 0).length : Int)), .wait 2, .mask [0, 3, 5, 6, 7, 13, 14, 15, 28, 29, 30], .ren [0, 1, 2], .loop (X.out 2) (st 80 [(0, lF34 o), (3, V.ow 0), (5, V.ptr 1 0), (7, vB r3), (13, lF34 o), (14, vI (o.length : Int)), (15, vI (p1.length : Int))] [Blk.row 34 (List.map E34 v1) [], Blk.box 34 [vI x1.At, lF5 x1.Data, lF5 x1.Reply]] []), bF, .wait 2, .mask [0, 3, 13, 14, 15], .ren [0], .nm 15 (vI ((p1 ++ [x1]).length : Int))] (p := [(decide ((p1.length : Int) < (o.length : Int))) = true,(0 : Int) ≤ (p1.length : Int),(List.map E34 o)[(p1.length : Int).toNat]? = some (E34 x1),Fn Tryz.prog 12 [(false, E31 x1.Data)] (V.tup [E36 r1.1, E4 r1.2]) [],(true || ((V.tup [E36 r1.1, E4 r1.2]).nv && nvL [])) = true,(0 : Int) ≤ 0,(0 : Int) ≤ (p1.length : Int),((p1.length : Int) : Int) ≤ ((List.map E34 o).length : Int),V.sl false 34 (((List.map E34 o).take ((p1.length : Int).toNat)).drop 0) = lF34 ((o.take ((p1.length : Int).toNat)).drop 0),vI ((List.map E34 ((o.take ((p1.length : Int).toNat)).drop 0)).length : Int) = vI (((o.take ((p1.length : Int).toNat)).drop 0).length : Int),Loop Tryz.prog (sub (codeOf Tryz.prog 5) [1, 1, 0, 1, 0, 0, 1, 1, 0, 0, 1, 1, 0, 1, 0, 0]) (st 80 [(0, lF34 o), (3, V.ow 0), (5, V.ptr 1 0), (6, V.ptr 2 0), (7, vB r1.2), (13, lF34 o), (14, vI (o.length : Int)), (15, vI (p1.length : Int)), (28, lF34 ((o.take ((p1.length : Int).toNat)).drop 0)), (29, vI (((o.take ((p1.length : Int).toNat)).drop 0).length : Int)), (30, vI 0)] [Blk.row 34 (List.map E34 v1) [], Blk.box 34 [vI x1.At, lF5 x1.Data, lF5 x1.Reply], Blk.box 36 [vI r1.1.Op, vS r1.1.Acct, vS r1.1.Other, vS r1.1.Hold, vS r1.1.Trace, vS r1.1.Mti, vI r1.1.Amount, vI r1.1.Ttl]] []) (X.out 2) (st 80 [(0, lF34 o), (3, V.ow 0), (5, V.ptr 1 0), (7, vB r3), (13, lF34 o), (14, vI (o.length : Int)), (15, vI (p1.length : Int))] [Blk.row 34 (List.map E34 v1) [], Blk.box 34 [vI x1.At, lF5 x1.Data, lF5 x1.Reply]] []),r3 = false,vI (i64 ((p1.length : Int) + 1)) = vI ((p1 ++ [x1]).length : Int)]) (by kernel_rfl) (cj (rng_lt h1) (cj (by omega) (cj (rng_get _ h1) (cj (spec_l20Req_ok x1.Data r1 h3) (cj rfl (cj (by decide) (cj (od h4) (cj (by rw [List.length_map]; exact (od h5)) (cj (nm_cut _ _ _ _ _) (cj (len_nm _ _) (cj (spec_Fresh_l1_ok o v1 p1 x1 r1 h13 ((o.take ((p1.length : Int).toNat)).drop 0) [] rfl r1.2 r3 h14) (cj h15 (cj1 (rng_next h1 h2)))))))))))))) (spec_Fresh_l0_ok o h2 t1 (p1 ++ [x1]) (rng_step h1) v1)))) (fun h13 =>
     Pn.none)) (fun h5 =>
     Pn.none)) (fun h4 =>
     Pn.none))
def spec_Fresh (o : List Done) : Option ((List Done)) :=
 if (capOk o.length) = true then
 (spec_Fresh_l0 o o [] []).bind fun r4 =>
 some r4
 else none
theorem spec_Fresh_ok (o : List Done) : Pn (fun y => Fn Tryz.prog 5 [(false, E24 o)] (E24 y) []) (spec_Fresh o) := by
  unfold spec_Fresh
  exact
   Pn.ite (fun h19 =>
   Pn.bind (fun r4 h20 =>
   Pn.some (Fn.of [.wait 5, .nm 14 (vI (o.length : Int)), .wait 2, .mask [0, 3, 13, 14, 15], .ren [0], .loop (X.out 0) (st 80 [(3, V.ow 0)] [Blk.row 34 (List.map E34 r4) []] [])] (p := [vI ((List.map E34 o).length : Int) = vI (o.length : Int),Loop Tryz.prog (sub (codeOf Tryz.prog 5) [1, 1, 0, 1, 0, 0]) (st 80 [(0, lF34 o), (3, V.ow 0), (13, lF34 o), (14, vI (o.length : Int)), (15, vI 0)] [Blk.row 34 ([] : List V) []] []) (X.out 0) (st 80 [(3, V.ow 0)] [Blk.row 34 (List.map E34 r4) []] [])]) (by kernel_rfl) (cj (len_nm _ _) (cj1 (spec_Fresh_l0_ok o h19 o [] rfl [] r4 h20)))))) (fun h19 =>
   Pn.none)
def impl_within (n : Int) (low : Int) (high : Int) : Option (Bool) :=
 if (decide (low ≤ n)) = true then
 some (decide (n ≤ high))
 else
 some false
theorem impl_within_ok (n : Int) (low : Int) (high : Int) : Pn (fun y => Fn Tryz.prog 65 [(false, E3 n), (false, E3 low), (false, E3 high)] (E4 y) []) (impl_within n low high) := by
  unfold impl_within
  exact
   Pn.ite (fun h1 =>
   Pn.some (Fn.of [bT, bT, bT, bT] (p := [(decide (low ≤ n)) = true,(decide (low ≤ n)) = true,(decide (low ≤ n)) = true,(decide (low ≤ n)) = true]) (by kernel_rfl) (cj h1 (cj h1 (cj h1 (cj1 h1)))))) (fun h1 =>
   Pn.some (Fn.of [bF, bF, bF, bF] (p := [(decide (low ≤ n)) = false,(decide (low ≤ n)) = false,(decide (low ≤ n)) = false,(decide (low ≤ n)) = false]) (by kernel_rfl) (cj h1 (cj h1 (cj h1 (cj1 h1))))))
def impl_piece (b : List Int) (at_ : Int) (n : Int) : Option ((List Int) × Bool) :=
 (impl_within at_ 0 (b.length : Int)).bind fun r1 =>
 if r1 = true then
 if (decide (n < 0)) = true then
 some ([], false)
 else
 if (decide ((i64 ((b.length : Int) - at_)) < n)) = true then
 some ([], false)
 else
 if (decide (0 ≤ at_)) = true then
 if (decide (at_ ≤ (i64 (at_ + n)))) = true then
 if (decide ((i64 (at_ + n)) ≤ (b.length : Int))) = true then
 some (((b.take ((i64 (at_ + n)).toNat)).drop at_.toNat), true)
 else none
 else none
 else none
 else
 some ([], false)
theorem impl_piece_ok (b : List Int) (at_ : Int) (n : Int) : Pn (fun y => Fn Tryz.prog 66 [(false, E31 b), (false, E3 at_), (false, E3 n)] (V.tup [(E31 y.1).vw, E4 y.2]) []) (impl_piece b at_ n) := by
  unfold impl_piece
  exact
   Pn.bind (fun r1 h1 =>
   Pn.ite (fun h2 =>
   Pn.ite (fun h3 =>
   Pn.some (Fn.of [.wait 5, .nm 10 (vI (b.length : Int)), .call [] (E4 r1) [], bF, bF, bF, bT, bT, bT, bT, bT, bT, bT, bT, .wait 2, .view 6] (p := [vI ((List.map E5 b).length : Int) = vI (b.length : Int),Fn Tryz.prog 65 [(false, E3 at_), (false, E3 0), (false, E3 (b.length : Int))] (E4 r1) [],(true || ((E4 r1).nv && nvL [])) = true,(!r1) = false,(!r1) = false,(!r1) = false,(decide (n < 0)) = true,(decide (n < 0)) = true,(decide (n < 0)) = true,(decide (n < 0)) = true,(decide (n < 0)) = true,(decide (n < 0)) = true,(decide (n < 0)) = true,true = true]) (by kernel_rfl) (cj (len_nm _ _) (cj (impl_within_ok at_ 0 (b.length : Int) r1 h1) (cj rfl (cj (nf h2) (cj (nf h2) (cj (nf h2) (cj h3 (cj h3 (cj h3 (cj h3 (cj h3 (cj h3 (cj h3 (cj1 rfl)))))))))))))))) (fun h3 =>
   Pn.ite (fun h4 =>
   Pn.some (Fn.of [.wait 5, .nm 10 (vI (b.length : Int)), .call [] (E4 r1) [], bF, bF, bF, bF, bF, bF, .nm 20 (vI (b.length : Int)), bF, bF, bF, bF, bT, .wait 2, .view 6] (p := [vI ((List.map E5 b).length : Int) = vI (b.length : Int),Fn Tryz.prog 65 [(false, E3 at_), (false, E3 0), (false, E3 (b.length : Int))] (E4 r1) [],(true || ((E4 r1).nv && nvL [])) = true,(!r1) = false,(!r1) = false,(!r1) = false,(decide (n < 0)) = false,(decide (n < 0)) = false,(decide (n < 0)) = false,vI ((List.map E5 b).length : Int) = vI (b.length : Int),(decide (n < 0)) = false,(decide (n < 0)) = false,(decide (n < 0)) = false,(decide (n < 0)) = false,(decide ((i64 ((b.length : Int) - at_)) < n)) = true]) (by kernel_rfl) (cj (len_nm _ _) (cj (impl_within_ok at_ 0 (b.length : Int) r1 h1) (cj rfl (cj (nf h2) (cj (nf h2) (cj (nf h2) (cj h3 (cj h3 (cj h3 (cj (len_nm _ _) (cj h3 (cj h3 (cj h3 (cj h3 (cj1 h4))))))))))))))))) (fun h4 =>
   Pn.ite (fun h5 =>
   Pn.ite (fun h6 =>
   Pn.ite (fun h7 =>
   Pn.some (Fn.of [.wait 5, .nm 10 (vI (b.length : Int)), .call [] (E4 r1) [], bF, bF, bF, bF, bF, bF, .nm 20 (vI (b.length : Int)), bF, bF, bF, bF, bF, .wait 5, .nm 30 (lF5 ((b.take ((i64 (at_ + n)).toNat)).drop at_.toNat))] (p := [vI ((List.map E5 b).length : Int) = vI (b.length : Int),Fn Tryz.prog 65 [(false, E3 at_), (false, E3 0), (false, E3 (b.length : Int))] (E4 r1) [],(true || ((E4 r1).nv && nvL [])) = true,(!r1) = false,(!r1) = false,(!r1) = false,(decide (n < 0)) = false,(decide (n < 0)) = false,(decide (n < 0)) = false,vI ((List.map E5 b).length : Int) = vI (b.length : Int),(decide (n < 0)) = false,(decide (n < 0)) = false,(decide (n < 0)) = false,(decide (n < 0)) = false,(decide ((i64 ((b.length : Int) - at_)) < n)) = false,(0 : Int) ≤ at_,(at_ : Int) ≤ (i64 (at_ + n)),((i64 (at_ + n)) : Int) ≤ ((List.map E5 b).length : Int),V.sl false 5 (((List.map E5 b).take ((i64 (at_ + n)).toNat)).drop at_.toNat) = lF5 ((b.take ((i64 (at_ + n)).toNat)).drop at_.toNat)]) (by kernel_rfl) (cj (len_nm _ _) (cj (impl_within_ok at_ 0 (b.length : Int) r1 h1) (cj rfl (cj (nf h2) (cj (nf h2) (cj (nf h2) (cj h3 (cj h3 (cj h3 (cj (len_nm _ _) (cj h3 (cj h3 (cj h3 (cj h3 (cj h4 (cj (od h5) (cj (od h6) (cj (by rw [List.length_map]; exact (od h7)) (cj1 (nm_cut _ _ _ _ _)))))))))))))))))))))) (fun h7 =>
   Pn.none)) (fun h6 =>
   Pn.none)) (fun h5 =>
   Pn.none)))) (fun h2 =>
   Pn.some (Fn.of [.wait 5, .nm 10 (vI (b.length : Int)), .call [] (E4 r1) [], bT, bT, bT, bT, bT, bT, bT, bT, bT, bT, bT, .wait 2, .view 6] (p := [vI ((List.map E5 b).length : Int) = vI (b.length : Int),Fn Tryz.prog 65 [(false, E3 at_), (false, E3 0), (false, E3 (b.length : Int))] (E4 r1) [],(true || ((E4 r1).nv && nvL [])) = true,(!r1) = true,(!r1) = true,(!r1) = true,true = true,true = true,true = true,true = true,true = true,true = true,true = true,true = true]) (by kernel_rfl) (cj (len_nm _ _) (cj (impl_within_ok at_ 0 (b.length : Int) r1 h1) (cj rfl (cj (nt h2) (cj (nt h2) (cj (nt h2) (cj rfl (cj rfl (cj rfl (cj rfl (cj rfl (cj rfl (cj rfl (cj1 rfl)))))))))))))))))
def impl_Digits_l0 (s_ : ByteArray) : Nat → Int → Option (Lo Unit Unit)
  | 0, _ => none
  | fuel + 1, v1 =>
   if (decide (v1 < (s_.size : Int))) = true then
   if (decide (0 ≤ v1)) = true then
   if (decide ((v1 : Int) < (s_.size : Int))) = true then
   if (decide ((sAt s_ v1) < 48)) = true then
   some (.ret ())
   else
   if (decide (57 < (sAt s_ v1))) = true then
   some (.ret ())
   else
   impl_Digits_l0 s_ fuel (i64 (v1 + 1))
   else none
   else none
   else
   some (.out ())
theorem impl_Digits_l0_ok (s_ : ByteArray) : ∀ (fuel : Nat) (v1 : Int), Pn (LpO Tryz.prog (sub (codeOf Tryz.prog 67) [1, 0, 1, 0, 0]) (st 22 [(0, vS s_), (5, vI (s_.size : Int)), (6, vI v1)] [] []) (fun (y : Lo Unit Unit) => Lo.elim y (fun s => (X.out 0, st 22 [(0, vS s_)] [] [])) (fun s => (X.ret, st 22 [(2, vB false)] [] [])))) (impl_Digits_l0 s_ fuel v1)
  | 0, _ => Pn.none
  | fuel + 1, v1 => by
    unfold impl_Digits_l0
    exact
     Pn.ite (fun h1 =>
     Pn.ite (fun h2 =>
     Pn.ite (fun h3 =>
     Pn.ite (fun h4 =>
     Pn.some (LpO.out [bT, bT, bT, bT, bT, bT, bT, .wait 1, .mask [2], .ren []] (p := [(decide (v1 < (s_.size : Int))) = true,(0 : Int) ≤ v1,(v1 : Int) < s_.size,(decide ((sAt s_ v1) < 48)) = true,(decide ((sAt s_ v1) < 48)) = true,(decide ((sAt s_ v1) < 48)) = true,(decide ((sAt s_ v1) < 48)) = true,(decide ((sAt s_ v1) < 48)) = true,true = true]) (by kernel_rfl) (show X.ret ≠ X.go from nofun) (cj h1 (cj (od h2) (cj (od h3) (cj h4 (cj h4 (cj h4 (cj h4 (cj h4 (cj1 rfl))))))))))) (fun h4 =>
     Pn.ite (fun h5 =>
     Pn.some (LpO.out [bT, bF, bF, bF, bF, bF, bT, .wait 1, .mask [2], .ren []] (p := [(decide (v1 < (s_.size : Int))) = true,(0 : Int) ≤ v1,(v1 : Int) < s_.size,(decide ((sAt s_ v1) < 48)) = false,(decide ((sAt s_ v1) < 48)) = false,(decide ((sAt s_ v1) < 48)) = false,(0 : Int) ≤ v1,(v1 : Int) < s_.size,(decide ((sAt s_ v1) < 48)) = false,(decide ((sAt s_ v1) < 48)) = false,(decide (57 < (sAt s_ v1))) = true]) (by kernel_rfl) (show X.ret ≠ X.go from nofun) (cj h1 (cj (od h2) (cj (od h3) (cj h4 (cj h4 (cj h4 (cj (od h2) (cj (od h3) (cj h4 (cj h4 (cj1 h5))))))))))))) (fun h5 =>
     LpO.go [bT, bF, bF, bF, bF, bF, bF, .wait 2, .mask [0, 5, 6], .ren []] (p := [(decide (v1 < (s_.size : Int))) = true,(0 : Int) ≤ v1,(v1 : Int) < s_.size,(decide ((sAt s_ v1) < 48)) = false,(decide ((sAt s_ v1) < 48)) = false,(decide ((sAt s_ v1) < 48)) = false,(0 : Int) ≤ v1,(v1 : Int) < s_.size,(decide ((sAt s_ v1) < 48)) = false,(decide ((sAt s_ v1) < 48)) = false,(decide (57 < (sAt s_ v1))) = false]) (by kernel_rfl) (cj h1 (cj (od h2) (cj (od h3) (cj h4 (cj h4 (cj h4 (cj (od h2) (cj (od h3) (cj h4 (cj h4 (cj1 h5))))))))))) (impl_Digits_l0_ok s_ fuel (i64 (v1 + 1)))))) (fun h3 =>
     Pn.none)) (fun h2 =>
     Pn.none)) (fun h1 =>
     Pn.some (LpO.out [bF, .mask [0], .ren []] (p := [(decide (v1 < (s_.size : Int))) = false]) (by kernel_rfl) (show X.out 0 ≠ X.go from nofun) (cj1 h1)))
def impl_Digits (s_ : ByteArray) : Option (Bool) :=
 (impl_Digits_l0 s_ FUEL 0).bind fun r1 =>
 Lo.elim r1 (fun s1 =>
 some (!(s_ == (bs [])))) (fun s2 =>
 some false)
theorem impl_Digits_ok (s_ : ByteArray) : Pn (fun y => Fn Tryz.prog 67 [(false, E9 s_)] (E4 y) []) (impl_Digits s_) := by
  unfold impl_Digits
  exact
   Pn.bind (fun r1 h6 =>
   Pn.lo (fun s1 h7 =>
   Pn.some (Fn.of [.wait 5, .mask [0, 5, 6], .ren [], .loop (X.out 0) (st 22 [(0, vS s_)] [] [])] (p := [Loop Tryz.prog (sub (codeOf Tryz.prog 67) [1, 0, 1, 0, 0]) (st 22 [(0, vS s_), (5, vI (s_.size : Int)), (6, vI 0)] [] []) (X.out 0) (st 22 [(0, vS s_)] [] [])]) (by kernel_rfl) (cj1 ((impl_Digits_l0_ok s_ FUEL 0 r1 h6).at h7 :)))) (fun s2 h8 =>
   Pn.some (Fn.of [.wait 5, .mask [0, 5, 6], .ren [], .loop (X.ret) (st 22 [(2, vB false)] [] [])] (p := [Loop Tryz.prog (sub (codeOf Tryz.prog 67) [1, 0, 1, 0, 0]) (st 22 [(0, vS s_), (5, vI (s_.size : Int)), (6, vI 0)] [] []) (X.ret) (st 22 [(2, vB false)] [] [])]) (by kernel_rfl) (cj1 ((impl_Digits_l0_ok s_ FUEL 0 r1 h6).at h8 :)))))
def impl_GetBcd_c0 (o : List Int) (o_ : Int) (a2 : Int) : Option (Lo Unit Unit) :=
 (impl_within a2 1 38).bind fun r1 =>
 if r1 = true then
 some (.out ())
 else
 some (.ret ())
theorem impl_GetBcd_c0_ok (o : List Int) (o_ : Int) (a2 : Int) : Pn (JnO Tryz.prog (sub (codeOf Tryz.prog 37) [1, 0]) (st 73 [(0, lF5 o), (1, vI o_), (2, vI a2)] [] []) (fun (y : Lo Unit Unit) => Lo.elim y (fun s => (X.go, st 73 [(0, lF5 o), (1, vI o_), (2, vI a2)] [] [])) (fun s => (X.ret, st 73 [(6, vS (bs [])), (7, vI 0), (8, vB false)] [] [])))) (impl_GetBcd_c0 o o_ a2) := by
  unfold impl_GetBcd_c0
  exact
   Pn.bind (fun r1 h1 =>
   Pn.ite (fun h2 =>
   Pn.some (JnO.of [.call [] (E4 r1) [], bF, .mask [0, 1, 2], .ren []] (p := [Fn Tryz.prog 65 [(false, E3 a2), (false, E3 1), (false, E3 38)] (E4 r1) [],(true || ((E4 r1).nv && nvL [])) = true,(!r1) = false]) (by kernel_rfl) (cj (impl_within_ok a2 1 38 r1 h1) (cj rfl (cj1 (nf h2)))))) (fun h2 =>
   Pn.some (JnO.of [.call [] (E4 r1) [], bT, .wait 3, .mask [6, 7, 8], .ren []] (p := [Fn Tryz.prog 65 [(false, E3 a2), (false, E3 1), (false, E3 38)] (E4 r1) [],(true || ((E4 r1).nv && nvL [])) = true,(!r1) = true]) (by kernel_rfl) (cj (impl_within_ok a2 1 38 r1 h1) (cj rfl (cj1 (nt h2)))))))
def impl_GetBcd_c2 (o_ : Int) (a2 : Int) (r3 : (List Int) × Bool) (v1 : Int) (v2 : List Int) : Option (Lo Unit Unit) :=
 if (decide (v1 < (r3.1.length : Int))) = true then
 some (.out ())
 else
 some (.ret ())
theorem impl_GetBcd_c2_ok (o_ : Int) (a2 : Int) (r3 : (List Int) × Bool) (v1 : Int) (v2 : List Int) : Pn (JnO Tryz.prog (sub (codeOf Tryz.prog 37) [1, 1, 1, 1, 0, 1, 0, 0, 1, 0]) (st 73 [(1, vI o_), (2, vI a2), (9, lF5 r3.1), (10, vB r3.2), (11, V.ow 0), (27, lF5 r3.1), (28, vI (r3.1.length : Int)), (29, vI v1), (30, vB (decide (v1 < (r3.1.length : Int))))] [Blk.row 5 (List.map E5 v2) []] []) (fun (y : Lo Unit Unit) => Lo.elim y (fun s => (X.go, st 73 [(1, vI o_), (2, vI a2), (9, lF5 r3.1), (10, vB r3.2), (11, V.ow 0), (27, lF5 r3.1), (28, vI (r3.1.length : Int)), (29, vI v1)] [Blk.row 5 (List.map E5 v2) []] [])) (fun s => (X.out 0, st 73 [(1, vI o_), (2, vI a2), (9, lF5 r3.1), (10, vB r3.2), (11, V.ow 0)] [Blk.row 5 (List.map E5 v2) []] [])))) (impl_GetBcd_c2 o_ a2 r3 v1 v2) := by
  unfold impl_GetBcd_c2
  exact
   Pn.ite (fun h7 =>
   Pn.some (JnO.of [bT, .mask [1, 2, 9, 10, 11, 27, 28, 29], .ren [0]] (p := [(decide (v1 < (r3.1.length : Int))) = true]) (by kernel_rfl) (cj1 h7))) (fun h7 =>
   Pn.some (JnO.of [bF, .mask [1, 2, 9, 10, 11], .ren [0]] (p := [(decide (v1 < (r3.1.length : Int))) = false]) (by kernel_rfl) (cj1 h7)))
def impl_GetBcd_l0 (o_ : Int) (a2 : Int) (r3 : (List Int) × Bool) : Nat → Int → (List Int) → Option ((List Int))
  | 0, _, _ => none
  | fuel + 1, v1, v2 =>
   (impl_GetBcd_c2 o_ a2 r3 v1 v2).bind fun r4 =>
   Lo.elim r4 (fun s3 =>
   if (decide (0 ≤ v1)) = true then
   (r3.1[v1.toNat]?).bind fun x1 =>
   if (capOk (v2.length + 2)) = true then
   impl_GetBcd_l0 o_ a2 r3 fuel (i64 (v1 + 1)) (v2 ++ [u8 (48 + (bshr .u8 x1 4)), u8 (48 + (band .u8 x1 15))])
   else none
   else none) (fun s4 =>
   some v2)
theorem impl_GetBcd_l0_ok (o_ : Int) (a2 : Int) (r3 : (List Int) × Bool) : ∀ (fuel : Nat) (v1 : Int) (v2 : List Int), Pn (LpO Tryz.prog (sub (codeOf Tryz.prog 37) [1, 1, 1, 1, 0, 1, 0, 0]) (st 73 [(1, vI o_), (2, vI a2), (9, lF5 r3.1), (10, vB r3.2), (11, V.ow 0), (27, lF5 r3.1), (28, vI (r3.1.length : Int)), (29, vI v1)] [Blk.row 5 (List.map E5 v2) []] []) (fun (y : (List Int)) => (X.out 0, st 73 [(1, vI o_), (2, vI a2), (9, lF5 r3.1), (10, vB r3.2), (11, V.ow 0)] [Blk.row 5 (List.map E5 y) []] []))) (impl_GetBcd_l0 o_ a2 r3 fuel v1 v2)
  | 0, _, _ => Pn.none
  | fuel + 1, v1, v2 => by
    unfold impl_GetBcd_l0
    exact
     Pn.bind (fun r4 h8 =>
     Pn.lo (fun s3 h9 =>
     Pn.ite (fun h11 =>
     Pn.bind (fun x1 h12 =>
     Pn.ite (fun h13 =>
     LpO.go [.wait 2, .mask [1, 2, 9, 10, 11, 27, 28, 29, 30], .ren [0], .join 3 (X.go) (st 73 [(1, vI o_), (2, vI a2), (9, lF5 r3.1), (10, vB r3.2), (11, V.ow 0), (27, lF5 r3.1), (28, vI (r3.1.length : Int)), (29, vI v1)] [Blk.row 5 (List.map E5 v2) []] []), .el (E5 x1), .cp [V.sc (.int .u8 (u8 (48 + (bshr .u8 x1 4)))), V.sc (.int .u8 (u8 (48 + (band .u8 x1 15))))], .nb 2 (.row 5 (List.map E5 (v2 ++ [u8 (48 + (bshr .u8 x1 4)), u8 (48 + (band .u8 x1 15))])) []), .wait 4, .mask [1, 2, 9, 10, 11, 27, 28, 29], .ren [2]] (p := [HT Tryz.prog (sub (codeOf Tryz.prog 37) [1, 1, 1, 1, 0, 1, 0, 0, 1, 0]) (st 73 [(1, vI o_), (2, vI a2), (9, lF5 r3.1), (10, vB r3.2), (11, V.ow 0), (27, lF5 r3.1), (28, vI (r3.1.length : Int)), (29, vI v1), (30, vB (decide (v1 < (r3.1.length : Int))))] [Blk.row 5 (List.map E5 v2) []] []) (X.go) (st 73 [(1, vI o_), (2, vI a2), (9, lF5 r3.1), (10, vB r3.2), (11, V.ow 0), (27, lF5 r3.1), (28, vI (r3.1.length : Int)), (29, vI v1)] [Blk.row 5 (List.map E5 v2) []] []),(0 : Int) ≤ v1,(List.map E5 r3.1)[v1.toNat]? = some (E5 x1),¬ (4 : Int) < 0,[V.sc (.int .u8 (u8 (48 + (bshr .u8 x1 4)))), V.sc (.int .u8 (u8 (48 + (band .u8 x1 15))))] = [V.sc (.int .u8 (u8 (48 + (bshr .u8 x1 4)))), V.sc (.int .u8 (u8 (48 + (band .u8 x1 15))))],[V.sc (.int .u8 (u8 (48 + (bshr .u8 x1 4)))), V.sc (.int .u8 (u8 (48 + (band .u8 x1 15))))].all V.flatE = true,(List.map E5 v2).length + [V.sc (.int .u8 (u8 (48 + (bshr .u8 x1 4)))), V.sc (.int .u8 (u8 (48 + (band .u8 x1 15))))].length ≤ 9223372036854775807,((List.map E5 v2).length + [V.sc (.int .u8 (u8 (48 + (bshr .u8 x1 4)))), V.sc (.int .u8 (u8 (48 + (band .u8 x1 15))))].length) * 1 ≤ 140737488355328,Blk.row 5 ((List.map E5 v2) ++ [V.sc (.int .u8 (u8 (48 + (bshr .u8 x1 4)))), V.sc (.int .u8 (u8 (48 + (band .u8 x1 15))))]) [] = Blk.row 5 (List.map E5 (v2 ++ [u8 (48 + (bshr .u8 x1 4)), u8 (48 + (band .u8 x1 15))])) []]) (by kernel_rfl) (cj ((impl_GetBcd_c2_ok o_ a2 r3 v1 v2 r4 h8).at h9 :) (cj (od h11) (cj (map_get h12) (cj (by decide) (cj rfl (cj rfl (cj (cap1 (capN (by simp) h13)) (cj (cap2 (capN (by simp) h13) (by decide)) (cj1 (nb_app E5 v2 [u8 (48 + (bshr .u8 x1 4)), u8 (48 + (band .u8 x1 15))])))))))))) (impl_GetBcd_l0_ok o_ a2 r3 fuel (i64 (v1 + 1)) (v2 ++ [u8 (48 + (bshr .u8 x1 4)), u8 (48 + (band .u8 x1 15))]))) (fun h13 =>
     Pn.none))) (fun h11 =>
     Pn.none)) (fun s4 h10 =>
     Pn.some (LpO.out [.wait 2, .mask [1, 2, 9, 10, 11, 27, 28, 29, 30], .ren [0], .join 3 (X.out 0) (st 73 [(1, vI o_), (2, vI a2), (9, lF5 r3.1), (10, vB r3.2), (11, V.ow 0)] [Blk.row 5 (List.map E5 v2) []] []), .wait 1, .mask [1, 2, 9, 10, 11], .ren [0]] (p := [HT Tryz.prog (sub (codeOf Tryz.prog 37) [1, 1, 1, 1, 0, 1, 0, 0, 1, 0]) (st 73 [(1, vI o_), (2, vI a2), (9, lF5 r3.1), (10, vB r3.2), (11, V.ow 0), (27, lF5 r3.1), (28, vI (r3.1.length : Int)), (29, vI v1), (30, vB (decide (v1 < (r3.1.length : Int))))] [Blk.row 5 (List.map E5 v2) []] []) (X.out 0) (st 73 [(1, vI o_), (2, vI a2), (9, lF5 r3.1), (10, vB r3.2), (11, V.ow 0)] [Blk.row 5 (List.map E5 v2) []] [])]) (by kernel_rfl) (show X.out 0 ≠ X.go from nofun) (cj1 ((impl_GetBcd_c2_ok o_ a2 r3 v1 v2 r4 h8).at h10 :)))))
def impl_GetBcd_c3 (o_ : Int) (a2 : Int) (r3 : (List Int) × Bool) (r5 : (List Int)) : Option (Lo Unit Unit) :=
 if r3.2 = true then
 (impl_Digits (bstr r5)).bind fun r6 =>
 if r6 = true then
 if ((Int.tmod a2 2) == 1) = true then
 (r5[0]?).bind fun x2 =>
 if (x2 != 48) = true then
 some (.ret ())
 else
 some (.out ())
 else
 some (.out ())
 else
 some (.ret ())
 else
 some (.ret ())
theorem impl_GetBcd_c3_ok (o_ : Int) (a2 : Int) (r3 : (List Int) × Bool) (r5 : (List Int)) : Pn (JnO Tryz.prog (sub (codeOf Tryz.prog 37) [1, 1, 1, 1, 1, 0]) (st 73 [(1, vI o_), (2, vI a2), (9, lF5 r3.1), (10, vB r3.2), (11, V.ow 0)] [Blk.row 5 (List.map E5 r5) []] []) (fun (y : Lo Unit Unit) => Lo.elim y (fun s => (X.go, st 73 [(1, vI o_), (2, vI a2), (9, lF5 r3.1), (11, V.ow 0)] [Blk.row 5 (List.map E5 r5) []] [])) (fun s => (X.ret, st 73 [(6, vS (bs [])), (7, vI 0), (8, vB false)] [] [])))) (impl_GetBcd_c3 o_ a2 r3 r5) := by
  unfold impl_GetBcd_c3
  exact
   Pn.ite (fun h15 =>
   Pn.bind (fun r6 h16 =>
   Pn.ite (fun h17 =>
   Pn.ite (fun h18 =>
   Pn.bind (fun x2 h19 =>
   Pn.ite (fun h20 =>
   Pn.some (JnO.of [bF, bF, .ints r5, bF, .call [] (E4 r6) [], bF, bF, bF, bF, bF, bF, bT, bT, bT, .el (E5 x2), bT, bF, bT, bF, bT, .wait 3, .mask [6, 7, 8], .ren []] (p := [(!r3.2) = false,(!r3.2) = false,(List.map E5 r5) = r5.map fun n => V.sc (.int .u8 n),(!r3.2) = false,Fn Tryz.prog 67 [(false, E9 (bstr r5))] (E4 r6) [],(true || ((E4 r6).nv && nvL [])) = true,(!r3.2) = false,(!r3.2) = false,(!r6) = false,(!r6) = false,(2 : Int) ≠ 0,(!r6) = false,(!r6) = false,((Int.tmod a2 2) == 1) = true,((Int.tmod a2 2) == 1) = true,(0 : Int) ≤ 0,(0 : Int) < ((List.map E5 r5).length : Int),((Int.tmod a2 2) == 1) = true,look [] 0 = none,(List.map E5 r5)[0]? = some (E5 x2),((Int.tmod a2 2) == 1) = true,(!r6) = false,((Int.tmod a2 2) == 1) = true,(!r6) = false,(x2 != 48) = true]) (by kernel_rfl) (cj (nf h15) (cj (nf h15) (cj rfl (cj (nf h15) (cj (impl_Digits_ok (bstr r5) r6 h16) (cj rfl (cj (nf h15) (cj (nf h15) (cj (nf h17) (cj (nf h17) (cj (by decide) (cj (nf h17) (cj (nf h17) (cj h18 (cj h18 (cj (by decide) (cj (map_ltN (by decide) h19) (cj h18 (cj rfl (cj (map_get h19) (cj h18 (cj (nf h17) (cj h18 (cj (nf h17) (cj1 h20))))))))))))))))))))))))))) (fun h20 =>
   Pn.some (JnO.of [bF, bF, .ints r5, bF, .call [] (E4 r6) [], bF, bF, bF, bF, bF, bF, bT, bT, bT, .el (E5 x2), bT, bF, bT, bF, bF, .mask [1, 2, 9, 11], .ren [0]] (p := [(!r3.2) = false,(!r3.2) = false,(List.map E5 r5) = r5.map fun n => V.sc (.int .u8 n),(!r3.2) = false,Fn Tryz.prog 67 [(false, E9 (bstr r5))] (E4 r6) [],(true || ((E4 r6).nv && nvL [])) = true,(!r3.2) = false,(!r3.2) = false,(!r6) = false,(!r6) = false,(2 : Int) ≠ 0,(!r6) = false,(!r6) = false,((Int.tmod a2 2) == 1) = true,((Int.tmod a2 2) == 1) = true,(0 : Int) ≤ 0,(0 : Int) < ((List.map E5 r5).length : Int),((Int.tmod a2 2) == 1) = true,look [] 0 = none,(List.map E5 r5)[0]? = some (E5 x2),((Int.tmod a2 2) == 1) = true,(!r6) = false,((Int.tmod a2 2) == 1) = true,(!r6) = false,(x2 != 48) = false]) (by kernel_rfl) (cj (nf h15) (cj (nf h15) (cj rfl (cj (nf h15) (cj (impl_Digits_ok (bstr r5) r6 h16) (cj rfl (cj (nf h15) (cj (nf h15) (cj (nf h17) (cj (nf h17) (cj (by decide) (cj (nf h17) (cj (nf h17) (cj h18 (cj h18 (cj (by decide) (cj (map_ltN (by decide) h19) (cj h18 (cj rfl (cj (map_get h19) (cj h18 (cj (nf h17) (cj h18 (cj (nf h17) (cj1 h20))))))))))))))))))))))))))))) (fun h18 =>
   Pn.some (JnO.of [bF, bF, .ints r5, bF, .call [] (E4 r6) [], bF, bF, bF, bF, bF, bF, bF, bF, bF, bF, bF, bF, bF, bF, .mask [1, 2, 9, 11], .ren [0]] (p := [(!r3.2) = false,(!r3.2) = false,(List.map E5 r5) = r5.map fun n => V.sc (.int .u8 n),(!r3.2) = false,Fn Tryz.prog 67 [(false, E9 (bstr r5))] (E4 r6) [],(true || ((E4 r6).nv && nvL [])) = true,(!r3.2) = false,(!r3.2) = false,(!r6) = false,(!r6) = false,(2 : Int) ≠ 0,(!r6) = false,(!r6) = false,((Int.tmod a2 2) == 1) = false,((Int.tmod a2 2) == 1) = false,((Int.tmod a2 2) == 1) = false,((Int.tmod a2 2) == 1) = false,(!r6) = false,((Int.tmod a2 2) == 1) = false,(!r6) = false,false = false]) (by kernel_rfl) (cj (nf h15) (cj (nf h15) (cj rfl (cj (nf h15) (cj (impl_Digits_ok (bstr r5) r6 h16) (cj rfl (cj (nf h15) (cj (nf h15) (cj (nf h17) (cj (nf h17) (cj (by decide) (cj (nf h17) (cj (nf h17) (cj h18 (cj h18 (cj h18 (cj h18 (cj (nf h17) (cj h18 (cj (nf h17) (cj1 rfl)))))))))))))))))))))))) (fun h17 =>
   Pn.some (JnO.of [bF, bF, .ints r5, bF, .call [] (E4 r6) [], bF, bF, bT, bT, bT, bT, bT, bT, bT, .wait 3, .mask [6, 7, 8], .ren []] (p := [(!r3.2) = false,(!r3.2) = false,(List.map E5 r5) = r5.map fun n => V.sc (.int .u8 n),(!r3.2) = false,Fn Tryz.prog 67 [(false, E9 (bstr r5))] (E4 r6) [],(true || ((E4 r6).nv && nvL [])) = true,(!r3.2) = false,(!r3.2) = false,(!r6) = true,(!r6) = true,(!r6) = true,(!r6) = true,(!r6) = true,(!r6) = true,true = true]) (by kernel_rfl) (cj (nf h15) (cj (nf h15) (cj rfl (cj (nf h15) (cj (impl_Digits_ok (bstr r5) r6 h16) (cj rfl (cj (nf h15) (cj (nf h15) (cj (nt h17) (cj (nt h17) (cj (nt h17) (cj (nt h17) (cj (nt h17) (cj (nt h17) (cj1 rfl))))))))))))))))))) (fun h15 =>
   Pn.some (JnO.of [bT, bT, bT, bT, bT, bT, bT, bT, bT, bT, bT, bT, .wait 3, .mask [6, 7, 8], .ren []] (p := [(!r3.2) = true,(!r3.2) = true,(!r3.2) = true,(!r3.2) = true,(!r3.2) = true,true = true,true = true,true = true,true = true,true = true,true = true,true = true]) (by kernel_rfl) (cj (nt h15) (cj (nt h15) (cj (nt h15) (cj (nt h15) (cj (nt h15) (cj rfl (cj rfl (cj rfl (cj rfl (cj rfl (cj rfl (cj1 rfl))))))))))))))
def impl_GetBcd (o : List Int) (o_ : Int) (a2 : Int) : Option (ByteArray × Int × Bool) :=
 (impl_GetBcd_c0 o o_ a2).bind fun r2 =>
 Lo.elim r2 (fun s1 =>
 (impl_piece o o_ (i64 (Int.tdiv (i64 (a2 + 1)) 2))).bind fun r3 =>
 (impl_GetBcd_l0 o_ a2 r3 FUEL 0 []).bind fun r5 =>
 (impl_GetBcd_c3 o_ a2 r3 r5).bind fun r7 =>
 Lo.elim r7 (fun s5 =>
 if (decide (0 ≤ (i64 ((r5.length : Int) - a2)))) = true then
 if (decide ((i64 ((r5.length : Int) - a2)) ≤ (r5.length : Int))) = true then
 some (bstr ((r5.drop ((i64 ((r5.length : Int) - a2)).toNat)).take (r5.length - (i64 ((r5.length : Int) - a2)).toNat)), i64 (o_ + (r3.1.length : Int)), true)
 else none
 else none) (fun s6 =>
 some (bs [], 0, false))) (fun s2 =>
 some (bs [], 0, false))
theorem impl_GetBcd_ok (o : List Int) (o_ : Int) (a2 : Int) : Pn (fun y => Fn Tryz.prog 37 [(false, E31 o), (false, E3 o_), (false, E3 a2)] (V.tup [E9 y.1, E3 y.2.1, E4 y.2.2]) []) (impl_GetBcd o o_ a2) := by
  unfold impl_GetBcd
  exact
   Pn.bind (fun r2 h3 =>
   Pn.lo (fun s1 h4 =>
   Pn.bind (fun r3 h6 =>
   Pn.bind (fun r5 h14 =>
   Pn.bind (fun r7 h21 =>
   Pn.lo (fun s5 h22 =>
   Pn.ite (fun h24 =>
   Pn.ite (fun h25 =>
   Pn.some (Fn.of [.wait 4, .mask [0, 1, 2], .ren [], .join 7 (X.go) (st 73 [(0, lF5 o), (1, vI o_), (2, vI a2)] [] []), .call [] (V.tup [(E31 r3.1).vw, E4 r3.2]) [], .wait 9, .nm 28 (vI (r3.1.length : Int)), .wait 2, .mask [1, 2, 9, 10, 11, 27, 28, 29], .ren [0], .loop (X.out 0) (st 73 [(1, vI o_), (2, vI a2), (9, lF5 r3.1), (10, vB r3.2), (11, V.ow 0)] [Blk.row 5 (List.map E5 r5) []] []), .wait 1, .mask [1, 2, 9, 10, 11], .ren [0], .join 7 (X.go) (st 73 [(1, vI o_), (2, vI a2), (9, lF5 r3.1), (11, V.ow 0)] [Blk.row 5 (List.map E5 r5) []] []), .wait 3, .nm 64 (vI (r5.length : Int)), .wait 3, .nm 67 (V.sb 0 1 ((i64 ((r5.length : Int) - a2)).toNat) (r5.length - (i64 ((r5.length : Int) - a2)).toNat)), .ints ((r5.drop ((i64 ((r5.length : Int) - a2)).toNat)).take (r5.length - (i64 ((r5.length : Int) - a2)).toNat)), .wait 3, .nm 71 (vI (r3.1.length : Int))] (p := [HT Tryz.prog (sub (codeOf Tryz.prog 37) [1, 0]) (st 73 [(0, lF5 o), (1, vI o_), (2, vI a2)] [] []) (X.go) (st 73 [(0, lF5 o), (1, vI o_), (2, vI a2)] [] []),(2 : Int) ≠ 0,Fn Tryz.prog 66 [(false, E31 o), (false, E3 o_), (false, E3 (i64 (Int.tdiv (i64 (a2 + 1)) 2)))] (V.tup [(E31 r3.1).vw, E4 r3.2]) [],(true || ((V.tup [(E31 r3.1).vw, E4 r3.2]).nv && nvL [])) = true,vI ((List.map E5 r3.1).length : Int) = vI (r3.1.length : Int),Loop Tryz.prog (sub (codeOf Tryz.prog 37) [1, 1, 1, 1, 0, 1, 0, 0]) (st 73 [(1, vI o_), (2, vI a2), (9, lF5 r3.1), (10, vB r3.2), (11, V.ow 0), (27, lF5 r3.1), (28, vI (r3.1.length : Int)), (29, vI 0)] [Blk.row 5 ([] : List V) []] []) (X.out 0) (st 73 [(1, vI o_), (2, vI a2), (9, lF5 r3.1), (10, vB r3.2), (11, V.ow 0)] [Blk.row 5 (List.map E5 r5) []] []),HT Tryz.prog (sub (codeOf Tryz.prog 37) [1, 1, 1, 1, 1, 0]) (st 73 [(1, vI o_), (2, vI a2), (9, lF5 r3.1), (10, vB r3.2), (11, V.ow 0)] [Blk.row 5 (List.map E5 r5) []] []) (X.go) (st 73 [(1, vI o_), (2, vI a2), (9, lF5 r3.1), (11, V.ow 0)] [Blk.row 5 (List.map E5 r5) []] []),vI ((List.map E5 r5).length : Int) = vI (r5.length : Int),(0 : Int) ≤ (i64 ((r5.length : Int) - a2)),((i64 ((r5.length : Int) - a2)) : Int) ≤ ((List.map E5 r5).length : Int),(((List.map E5 r5).length : Int) : Int) ≤ ((List.map E5 r5).length : Int),V.sb 0 1 ((i64 ((r5.length : Int) - a2)).toNat) ((((List.map E5 r5).length : Int).toNat) - ((i64 ((r5.length : Int) - a2)).toNat)) = V.sb 0 1 ((i64 ((r5.length : Int) - a2)).toNat) (r5.length - (i64 ((r5.length : Int) - a2)).toNat),((List.map E5 r5).drop ((i64 ((r5.length : Int) - a2)).toNat)).take (r5.length - (i64 ((r5.length : Int) - a2)).toNat) = ((r5.drop ((i64 ((r5.length : Int) - a2)).toNat)).take (r5.length - (i64 ((r5.length : Int) - a2)).toNat)).map fun n => V.sc (.int .u8 n),vI ((List.map E5 r3.1).length : Int) = vI (r3.1.length : Int)]) (by kernel_rfl) (cj ((impl_GetBcd_c0_ok o o_ a2 r2 h3).at h4 :) (cj (by decide) (cj (impl_piece_ok o o_ (i64 (Int.tdiv (i64 (a2 + 1)) 2)) r3 h6) (cj rfl (cj (len_nm _ _) (cj (impl_GetBcd_l0_ok o_ a2 r3 FUEL 0 [] r5 h14) (cj ((impl_GetBcd_c3_ok o_ a2 r3 r5 r7 h21).at h22 :) (cj (len_nm _ _) (cj (od h24) (cj (by rw [List.length_map]; exact (od h25)) (cj (Int.le_refl _) (cj (by simp) (cj (cut_map _ _ _ _) (cj1 (len_nm _ _))))))))))))))))) (fun h25 =>
   Pn.none)) (fun h24 =>
   Pn.none)) (fun s6 h23 =>
   Pn.some (Fn.of [.wait 4, .mask [0, 1, 2], .ren [], .join 7 (X.go) (st 73 [(0, lF5 o), (1, vI o_), (2, vI a2)] [] []), .call [] (V.tup [(E31 r3.1).vw, E4 r3.2]) [], .wait 9, .nm 28 (vI (r3.1.length : Int)), .wait 2, .mask [1, 2, 9, 10, 11, 27, 28, 29], .ren [0], .loop (X.out 0) (st 73 [(1, vI o_), (2, vI a2), (9, lF5 r3.1), (10, vB r3.2), (11, V.ow 0)] [Blk.row 5 (List.map E5 r5) []] []), .wait 1, .mask [1, 2, 9, 10, 11], .ren [0], .join 7 (X.ret) (st 73 [(6, vS (bs [])), (7, vI 0), (8, vB false)] [] [])] (p := [HT Tryz.prog (sub (codeOf Tryz.prog 37) [1, 0]) (st 73 [(0, lF5 o), (1, vI o_), (2, vI a2)] [] []) (X.go) (st 73 [(0, lF5 o), (1, vI o_), (2, vI a2)] [] []),(2 : Int) ≠ 0,Fn Tryz.prog 66 [(false, E31 o), (false, E3 o_), (false, E3 (i64 (Int.tdiv (i64 (a2 + 1)) 2)))] (V.tup [(E31 r3.1).vw, E4 r3.2]) [],(true || ((V.tup [(E31 r3.1).vw, E4 r3.2]).nv && nvL [])) = true,vI ((List.map E5 r3.1).length : Int) = vI (r3.1.length : Int),Loop Tryz.prog (sub (codeOf Tryz.prog 37) [1, 1, 1, 1, 0, 1, 0, 0]) (st 73 [(1, vI o_), (2, vI a2), (9, lF5 r3.1), (10, vB r3.2), (11, V.ow 0), (27, lF5 r3.1), (28, vI (r3.1.length : Int)), (29, vI 0)] [Blk.row 5 ([] : List V) []] []) (X.out 0) (st 73 [(1, vI o_), (2, vI a2), (9, lF5 r3.1), (10, vB r3.2), (11, V.ow 0)] [Blk.row 5 (List.map E5 r5) []] []),HT Tryz.prog (sub (codeOf Tryz.prog 37) [1, 1, 1, 1, 1, 0]) (st 73 [(1, vI o_), (2, vI a2), (9, lF5 r3.1), (10, vB r3.2), (11, V.ow 0)] [Blk.row 5 (List.map E5 r5) []] []) (X.ret) (st 73 [(6, vS (bs [])), (7, vI 0), (8, vB false)] [] [])]) (by kernel_rfl) (cj ((impl_GetBcd_c0_ok o o_ a2 r2 h3).at h4 :) (cj (by decide) (cj (impl_piece_ok o o_ (i64 (Int.tdiv (i64 (a2 + 1)) 2)) r3 h6) (cj rfl (cj (len_nm _ _) (cj (impl_GetBcd_l0_ok o_ a2 r3 FUEL 0 [] r5 h14) (cj1 ((impl_GetBcd_c3_ok o_ a2 r3 r5 r7 h21).at h23 :)))))))))))))) (fun s2 h5 =>
   Pn.some (Fn.of [.wait 4, .mask [0, 1, 2], .ren [], .join 7 (X.ret) (st 73 [(6, vS (bs [])), (7, vI 0), (8, vB false)] [] [])] (p := [HT Tryz.prog (sub (codeOf Tryz.prog 37) [1, 0]) (st 73 [(0, lF5 o), (1, vI o_), (2, vI a2)] [] []) (X.ret) (st 73 [(6, vS (bs [])), (7, vI 0), (8, vB false)] [] [])]) (by kernel_rfl) (cj1 ((impl_GetBcd_c0_ok o o_ a2 r2 h3).at h5 :)))))
def impl_GetBits_c0 (at_ : Int) (r1 : (List Int) × Bool) : Option (Lo Unit Unit) :=
 if r1.2 = true then
 some (.out ())
 else
 some (.ret ())
theorem impl_GetBits_c0_ok (at_ : Int) (r1 : (List Int) × Bool) : Pn (JnO Tryz.prog (sub (codeOf Tryz.prog 38) [1, 1, 0]) (st 43 [(1, vI at_), (7, lF5 r1.1), (8, vB r1.2)] [] []) (fun (y : Lo Unit Unit) => Lo.elim y (fun s => (X.go, st 43 [(1, vI at_), (7, lF5 r1.1)] [] [])) (fun s => (X.ret, st 43 [(4, V.nl 3), (5, vI 0), (6, vB false)] [] [])))) (impl_GetBits_c0 at_ r1) := by
  unfold impl_GetBits_c0
  exact
   Pn.ite (fun h2 =>
   Pn.some (JnO.of [bF, .mask [1, 7], .ren []] (p := [(!r1.2) = false]) (by kernel_rfl) (cj1 (nf h2)))) (fun h2 =>
   Pn.some (JnO.of [bT, .wait 3, .mask [4, 5, 6], .ren []] (p := [(!r1.2) = true]) (by kernel_rfl) (cj1 (nt h2))))
def impl_GetBits_c3 (at_ : Int) (r1 : (List Int) × Bool) (v1 : Int) (v2 : List Int) : Option (Lo Unit Unit) :=
 if (decide (v1 ≤ 64)) = true then
 some (.out ())
 else
 some (.ret ())
theorem impl_GetBits_c3_ok (at_ : Int) (r1 : (List Int) × Bool) (v1 : Int) (v2 : List Int) : Pn (JnO Tryz.prog (sub (codeOf Tryz.prog 38) [1, 1, 1, 1, 0, 1, 0, 0, 0]) (st 43 [(1, vI at_), (7, lF5 r1.1), (9, V.ow 0), (10, vI v1)] [Blk.row 3 (List.map E3 v2) []] []) (fun (y : Lo Unit Unit) => Lo.elim y (fun s => (X.go, st 43 [(1, vI at_), (7, lF5 r1.1), (9, V.ow 0), (10, vI v1)] [Blk.row 3 (List.map E3 v2) []] [])) (fun s => (X.out 0, st 43 [(1, vI at_), (9, V.ow 0)] [Blk.row 3 (List.map E3 v2) []] [])))) (impl_GetBits_c3 at_ r1 v1 v2) := by
  unfold impl_GetBits_c3
  exact
   Pn.ite (fun h6 =>
   Pn.some (JnO.of [bT, .mask [1, 7, 9, 10], .ren [0]] (p := [(decide (v1 ≤ 64)) = true]) (by kernel_rfl) (cj1 h6))) (fun h6 =>
   Pn.some (JnO.of [bF, .mask [1, 9], .ren [0]] (p := [(decide (v1 ≤ 64)) = false]) (by kernel_rfl) (cj1 h6)))
def impl_GetBits_c4 (at_ : Int) (r1 : (List Int) × Bool) (v1 : Int) (v2 : List Int) : Option ((List Int)) :=
 if (decide (0 ≤ (i64 (Int.tdiv (i64 (v1 - 1)) 8)))) = true then
 (r1.1[(i64 (Int.tdiv (i64 (v1 - 1)) 8)).toNat]?).bind fun x1 =>
 if (decide (¬ (Int.tmod (i64 (v1 - 1)) 8) < 0)) = true then
 if ((band .u8 x1 (bshr .u8 128 (Int.tmod (i64 (v1 - 1)) 8))) != 0) = true then
 if (capOk (v2.length + 1)) = true then
 some (v2 ++ [v1])
 else none
 else
 some v2
 else none
 else none
theorem impl_GetBits_c4_ok (at_ : Int) (r1 : (List Int) × Bool) (v1 : Int) (v2 : List Int) : Pn (JnO Tryz.prog (sub (codeOf Tryz.prog 38) [1, 1, 1, 1, 0, 1, 0, 0, 1, 0]) (st 43 [(1, vI at_), (7, lF5 r1.1), (9, V.ow 0), (10, vI v1)] [Blk.row 3 (List.map E3 v2) []] []) (fun (y : (List Int)) => (X.go, st 43 [(1, vI at_), (7, lF5 r1.1), (9, V.ow 0), (10, vI v1)] [Blk.row 3 (List.map E3 y) []] []))) (impl_GetBits_c4 at_ r1 v1 v2) := by
  unfold impl_GetBits_c4
  exact
   Pn.ite (fun h10 =>
   Pn.bind (fun x1 h11 =>
   Pn.ite (fun h12 =>
   Pn.ite (fun h13 =>
   Pn.ite (fun h14 =>
   Pn.some (JnO.of [.draw [], .el (E5 x1), bT, .cp [vI v1], .nb 2 (.row 3 (List.map E3 (v2 ++ [v1])) []), .wait 2, .mask [1, 7, 9, 10], .ren [2]] (p := [(8 : Int) ≠ 0,(0 : Int) ≤ (i64 (Int.tdiv (i64 (v1 - 1)) 8)),(List.map E5 r1.1)[(i64 (Int.tdiv (i64 (v1 - 1)) 8)).toNat]? = some (E5 x1),(8 : Int) ≠ 0,¬ ((Int.tmod (i64 (v1 - 1)) 8) : Int) < 0,((band .u8 x1 (bshr .u8 128 (Int.tmod (i64 (v1 - 1)) 8))) != 0) = true,[vI v1] = [vI v1],[vI v1].all V.flatE = true,(List.map E3 v2).length + [vI v1].length ≤ 9223372036854775807,((List.map E3 v2).length + [vI v1].length) * 8 ≤ 140737488355328,Blk.row 3 ((List.map E3 v2) ++ [vI v1]) [] = Blk.row 3 (List.map E3 (v2 ++ [v1])) []]) (by kernel_rfl) (cj (by decide) (cj (od h10) (cj (map_get h11) (cj (by decide) (cj (od h12) (cj h13 (cj rfl (cj rfl (cj (cap1 (capN (by simp) h14)) (cj (cap2 (capN (by simp) h14) (by decide)) (cj1 (nb_app E3 v2 [v1])))))))))))))) (fun h14 =>
   Pn.none)) (fun h13 =>
   Pn.some (JnO.of [.draw [], .el (E5 x1), bF, .mask [1, 7, 9, 10], .ren [0]] (p := [(8 : Int) ≠ 0,(0 : Int) ≤ (i64 (Int.tdiv (i64 (v1 - 1)) 8)),(List.map E5 r1.1)[(i64 (Int.tdiv (i64 (v1 - 1)) 8)).toNat]? = some (E5 x1),(8 : Int) ≠ 0,¬ ((Int.tmod (i64 (v1 - 1)) 8) : Int) < 0,((band .u8 x1 (bshr .u8 128 (Int.tmod (i64 (v1 - 1)) 8))) != 0) = false]) (by kernel_rfl) (cj (by decide) (cj (od h10) (cj (map_get h11) (cj (by decide) (cj (od h12) (cj1 h13))))))))) (fun h12 =>
   Pn.none))) (fun h10 =>
   Pn.none)
def impl_GetBits_l0 (at_ : Int) (r1 : (List Int) × Bool) : Nat → Int → (List Int) → Option ((List Int))
  | 0, _, _ => none
  | fuel + 1, v1, v2 =>
   (impl_GetBits_c3 at_ r1 v1 v2).bind fun r3 =>
   Lo.elim r3 (fun s3 =>
   (impl_GetBits_c4 at_ r1 v1 v2).bind fun r4 =>
   impl_GetBits_l0 at_ r1 fuel (i64 (v1 + 1)) r4) (fun s4 =>
   some v2)
theorem impl_GetBits_l0_ok (at_ : Int) (r1 : (List Int) × Bool) : ∀ (fuel : Nat) (v1 : Int) (v2 : List Int), Pn (LpO Tryz.prog (sub (codeOf Tryz.prog 38) [1, 1, 1, 1, 0, 1, 0, 0]) (st 43 [(1, vI at_), (7, lF5 r1.1), (9, V.ow 0), (10, vI v1)] [Blk.row 3 (List.map E3 v2) []] []) (fun (y : (List Int)) => (X.out 0, st 43 [(1, vI at_), (9, V.ow 0)] [Blk.row 3 (List.map E3 y) []] []))) (impl_GetBits_l0 at_ r1 fuel v1 v2)
  | 0, _, _ => Pn.none
  | fuel + 1, v1, v2 => by
    unfold impl_GetBits_l0
    exact
     Pn.bind (fun r3 h7 =>
     Pn.lo (fun s3 h8 =>
     Pn.bind (fun r4 h15 =>
     LpO.go [.wait 1, .mask [1, 7, 9, 10], .ren [0], .join 5 (X.go) (st 43 [(1, vI at_), (7, lF5 r1.1), (9, V.ow 0), (10, vI v1)] [Blk.row 3 (List.map E3 v2) []] []), .wait 1, .mask [1, 7, 9, 10], .ren [0], .join 6 (X.go) (st 43 [(1, vI at_), (7, lF5 r1.1), (9, V.ow 0), (10, vI v1)] [Blk.row 3 (List.map E3 r4) []] []), .wait 4, .mask [1, 7, 9, 10], .ren [0]] (p := [HT Tryz.prog (sub (codeOf Tryz.prog 38) [1, 1, 1, 1, 0, 1, 0, 0, 0]) (st 43 [(1, vI at_), (7, lF5 r1.1), (9, V.ow 0), (10, vI v1)] [Blk.row 3 (List.map E3 v2) []] []) (X.go) (st 43 [(1, vI at_), (7, lF5 r1.1), (9, V.ow 0), (10, vI v1)] [Blk.row 3 (List.map E3 v2) []] []),HT Tryz.prog (sub (codeOf Tryz.prog 38) [1, 1, 1, 1, 0, 1, 0, 0, 1, 0]) (st 43 [(1, vI at_), (7, lF5 r1.1), (9, V.ow 0), (10, vI v1)] [Blk.row 3 (List.map E3 v2) []] []) (X.go) (st 43 [(1, vI at_), (7, lF5 r1.1), (9, V.ow 0), (10, vI v1)] [Blk.row 3 (List.map E3 r4) []] [])]) (by kernel_rfl) (cj ((impl_GetBits_c3_ok at_ r1 v1 v2 r3 h7).at h8 :) (cj1 (impl_GetBits_c4_ok at_ r1 v1 v2 r4 h15))) (impl_GetBits_l0_ok at_ r1 fuel (i64 (v1 + 1)) r4))) (fun s4 h9 =>
     Pn.some (LpO.out [.wait 1, .mask [1, 7, 9, 10], .ren [0], .join 5 (X.out 0) (st 43 [(1, vI at_), (9, V.ow 0)] [Blk.row 3 (List.map E3 v2) []] []), .wait 1, .mask [1, 9], .ren [0]] (p := [HT Tryz.prog (sub (codeOf Tryz.prog 38) [1, 1, 1, 1, 0, 1, 0, 0, 0]) (st 43 [(1, vI at_), (7, lF5 r1.1), (9, V.ow 0), (10, vI v1)] [Blk.row 3 (List.map E3 v2) []] []) (X.out 0) (st 43 [(1, vI at_), (9, V.ow 0)] [Blk.row 3 (List.map E3 v2) []] [])]) (by kernel_rfl) (show X.out 0 ≠ X.go from nofun) (cj1 ((impl_GetBits_c3_ok at_ r1 v1 v2 r3 h7).at h9 :)))))
def impl_GetBits (b : List Int) (at_ : Int) : Option ((List Int) × Int × Bool) :=
 (impl_piece b at_ 8).bind fun r1 =>
 (impl_GetBits_c0 at_ r1).bind fun r2 =>
 Lo.elim r2 (fun s1 =>
 (impl_GetBits_l0 at_ r1 FUEL 1 []).bind fun r5 =>
 some (r5, i64 (at_ + 8), true)) (fun s2 =>
 some ([], 0, false))
theorem impl_GetBits_ok (b : List Int) (at_ : Int) : Pn (fun y => Fn Tryz.prog 38 [(false, E31 b), (false, E3 at_)] (V.tup [E55 y.1, E3 y.2.1, E4 y.2.2]) []) (impl_GetBits b at_) := by
  unfold impl_GetBits
  exact
   Pn.bind (fun r1 h1 =>
   Pn.bind (fun r2 h3 =>
   Pn.lo (fun s1 h4 =>
   Pn.bind (fun r5 h16 =>
   Pn.some (Fn.of [.call [] (V.tup [(E31 r1.1).vw, E4 r1.2]) [], .wait 6, .mask [1, 7, 8], .ren [], .join 7 (X.go) (st 43 [(1, vI at_), (7, lF5 r1.1)] [] []), .wait 4, .mask [1, 7, 9, 10], .ren [0], .loop (X.out 0) (st 43 [(1, vI at_), (9, V.ow 0)] [Blk.row 3 (List.map E3 r5) []] [])] (p := [Fn Tryz.prog 66 [(false, E31 b), (false, E3 at_), (false, E3 8)] (V.tup [(E31 r1.1).vw, E4 r1.2]) [],(true || ((V.tup [(E31 r1.1).vw, E4 r1.2]).nv && nvL [])) = true,HT Tryz.prog (sub (codeOf Tryz.prog 38) [1, 1, 0]) (st 43 [(1, vI at_), (7, lF5 r1.1), (8, vB r1.2)] [] []) (X.go) (st 43 [(1, vI at_), (7, lF5 r1.1)] [] []),Loop Tryz.prog (sub (codeOf Tryz.prog 38) [1, 1, 1, 1, 0, 1, 0, 0]) (st 43 [(1, vI at_), (7, lF5 r1.1), (9, V.ow 0), (10, vI 1)] [Blk.row 3 ([] : List V) []] []) (X.out 0) (st 43 [(1, vI at_), (9, V.ow 0)] [Blk.row 3 (List.map E3 r5) []] [])]) (by kernel_rfl) (cj (impl_piece_ok b at_ 8 r1 h1) (cj rfl (cj ((impl_GetBits_c0_ok at_ r1 r2 h3).at h4 :) (cj1 (impl_GetBits_l0_ok at_ r1 FUEL 1 [] r5 h16)))))))) (fun s2 h5 =>
   Pn.some (Fn.of [.call [] (V.tup [(E31 r1.1).vw, E4 r1.2]) [], .wait 6, .mask [1, 7, 8], .ren [], .join 7 (X.ret) (st 43 [(4, V.nl 3), (5, vI 0), (6, vB false)] [] [])] (p := [Fn Tryz.prog 66 [(false, E31 b), (false, E3 at_), (false, E3 8)] (V.tup [(E31 r1.1).vw, E4 r1.2]) [],(true || ((V.tup [(E31 r1.1).vw, E4 r1.2]).nv && nvL [])) = true,HT Tryz.prog (sub (codeOf Tryz.prog 38) [1, 1, 0]) (st 43 [(1, vI at_), (7, lF5 r1.1), (8, vB r1.2)] [] []) (X.ret) (st 43 [(4, V.nl 3), (5, vI 0), (6, vB false)] [] [])]) (by kernel_rfl) (cj (impl_piece_ok b at_ 8 r1 h1) (cj rfl (cj1 ((impl_GetBits_c0_ok at_ r1 r2 h3).at h5 :))))))))
def impl_fieldRows  : Option ((List fieldRow)) :=
 some [(fieldRow.mk 2 3 19), (fieldRow.mk 3 1 6), (fieldRow.mk 4 1 12), (fieldRow.mk 7 1 10), (fieldRow.mk 11 1 6), (fieldRow.mk 14 1 4), (fieldRow.mk 37 2 12), (fieldRow.mk 38 2 6), (fieldRow.mk 39 2 2), (fieldRow.mk 41 2 8), (fieldRow.mk 48 5 60), (fieldRow.mk 49 1 3), (fieldRow.mk 54 5 60), (fieldRow.mk 95 2 12), (fieldRow.mk 102 4 20), (fieldRow.mk 103 4 20)]
theorem impl_fieldRows_ok  : Pn (fun y => Fn Tryz.prog 82 [] (E99 y) []) (impl_fieldRows) := by
  unfold impl_fieldRows
  exact
   Pn.some (Fn.of [] (p := []) (by kernel_rfl) trivial)
def impl_rowOf_l0 (no : Int) (r1 : (List fieldRow)) : List fieldRow → Option (Lo Unit (Int × Int × Int))
  | [] =>
   some (.out ())
  | x1 :: t1 =>
   if (x1.no == no) = true then
   some (.ret (x1.no, x1.kind, x1.size))
   else
   impl_rowOf_l0 no r1 t1
theorem impl_rowOf_l0_ok (no : Int) (r1 : (List fieldRow)) (h3 : capOk r1.length = true) : ∀ (t1 p1 : List fieldRow) (_ : r1 = p1 ++ t1) , Pn (LpO Tryz.prog (sub (codeOf Tryz.prog 68) [1, 0, 1, 0, 0]) (st 18 [(0, vI no), (2, V.ptr 0 0), (5, V.ow 1), (6, vI (r1.length : Int)), (7, vI (p1.length : Int))] [Blk.box 88 [vI 0, vI 0, vI 0], Blk.row 88 (List.map E88 r1) []] []) (fun (y : Lo Unit (Int × Int × Int)) => Lo.elim y (fun s => (X.out 0, st 18 [(2, V.ptr 0 0)] [Blk.box 88 [vI 0, vI 0, vI 0]] [])) (fun s => (X.ret, st 18 [(2, V.ptr 0 0)] [Blk.box 88 [vI s.1, vI s.2.1, vI s.2.2]] [])))) (impl_rowOf_l0 no r1 t1)
  | [], p1, h2 => by
    unfold impl_rowOf_l0
    exact
     Pn.some (LpO.out [bF, .mask [2], .ren [0]] (p := [(decide ((p1.length : Int) < (r1.length : Int))) = false]) (by kernel_rfl) (show X.out 0 ≠ X.go from nofun) (cj1 (rng_end h2)))
  | x1 :: t1, p1, h2 => by
    unfold impl_rowOf_l0
    exact
     Pn.ite (fun h4 =>
     Pn.some (LpO.out [bT, .el (E88 x1), bT, .wait 2, .mask [2], .ren [0]] (p := [(decide ((p1.length : Int) < (r1.length : Int))) = true,(0 : Int) ≤ (p1.length : Int),((p1.length : Int) : Int) < ((List.map E88 r1).length : Int),look [] ((p1.length : Int).toNat) = none,(List.map E88 r1)[(p1.length : Int).toNat]? = some (E88 x1),(x1.no == no) = true]) (by kernel_rfl) (show X.ret ≠ X.go from nofun) (cj (rng_lt h2) (cj (by omega) (cj (rng_ltI _ h2) (cj rfl (cj (rng_get _ h2) (cj1 h4)))))))) (fun h4 =>
     LpO.go [bT, .el (E88 x1), bF, .wait 2, .mask [0, 2, 5, 6, 7], .ren [0, 1], .nm 7 (vI ((p1 ++ [x1]).length : Int))] (p := [(decide ((p1.length : Int) < (r1.length : Int))) = true,(0 : Int) ≤ (p1.length : Int),((p1.length : Int) : Int) < ((List.map E88 r1).length : Int),look [] ((p1.length : Int).toNat) = none,(List.map E88 r1)[(p1.length : Int).toNat]? = some (E88 x1),(x1.no == no) = false,vI (i64 ((p1.length : Int) + 1)) = vI ((p1 ++ [x1]).length : Int)]) (by kernel_rfl) (cj (rng_lt h2) (cj (by omega) (cj (rng_ltI _ h2) (cj rfl (cj (rng_get _ h2) (cj h4 (cj1 (rng_next h2 h3)))))))) (impl_rowOf_l0_ok no r1 h3 t1 (p1 ++ [x1]) (rng_step h2)))
def impl_rowOf (no : Int) : Option (fieldRow) :=
 (impl_fieldRows).bind fun r1 =>
 if (capOk r1.length) = true then
 (impl_rowOf_l0 no r1 r1).bind fun r2 =>
 Lo.elim r2 (fun s1 =>
 some (fieldRow.mk 0 0 0)) (fun s2 =>
 some (fieldRow.mk s2.1 s2.2.1 s2.2.2))
 else none
theorem impl_rowOf_ok (no : Int) : Pn (fun y => Fn Tryz.prog 68 [(false, E3 no)] (E88 y) []) (impl_rowOf no) := by
  unfold impl_rowOf
  exact
   Pn.bind (fun r1 h1 =>
   Pn.ite (fun h5 =>
   Pn.bind (fun r2 h6 =>
   Pn.lo (fun s1 h7 =>
   Pn.some (Fn.of [.call [] (E99 r1) [], .wait 1, .nm 6 (vI (r1.length : Int)), .wait 2, .mask [0, 2, 5, 6, 7], .ren [0, 1], .loop (X.out 0) (st 18 [(2, V.ptr 0 0)] [Blk.box 88 [vI 0, vI 0, vI 0]] [])] (p := [Fn Tryz.prog 82 [] (E99 r1) [],(true || ((E99 r1).nv && nvL [])) = true,vI ((List.map E88 r1).length : Int) = vI (r1.length : Int),Loop Tryz.prog (sub (codeOf Tryz.prog 68) [1, 0, 1, 0, 0]) (st 18 [(0, vI no), (2, V.ptr 0 0), (5, V.ow 1), (6, vI (r1.length : Int)), (7, vI 0)] [Blk.box 88 [vI 0, vI 0, vI 0], Blk.row 88 (List.map E88 r1) []] []) (X.out 0) (st 18 [(2, V.ptr 0 0)] [Blk.box 88 [vI 0, vI 0, vI 0]] [])]) (by kernel_rfl) (cj (impl_fieldRows_ok  r1 h1) (cj rfl (cj (len_nm _ _) (cj1 ((impl_rowOf_l0_ok no r1 h5 r1 [] rfl r2 h6).at h7 :))))))) (fun s2 h8 =>
   Pn.some (Fn.of [.call [] (E99 r1) [], .wait 1, .nm 6 (vI (r1.length : Int)), .wait 2, .mask [0, 2, 5, 6, 7], .ren [0, 1], .loop (X.ret) (st 18 [(2, V.ptr 0 0)] [Blk.box 88 [vI s2.1, vI s2.2.1, vI s2.2.2]] [])] (p := [Fn Tryz.prog 82 [] (E99 r1) [],(true || ((E99 r1).nv && nvL [])) = true,vI ((List.map E88 r1).length : Int) = vI (r1.length : Int),Loop Tryz.prog (sub (codeOf Tryz.prog 68) [1, 0, 1, 0, 0]) (st 18 [(0, vI no), (2, V.ptr 0 0), (5, V.ow 1), (6, vI (r1.length : Int)), (7, vI 0)] [Blk.box 88 [vI 0, vI 0, vI 0], Blk.row 88 (List.map E88 r1) []] []) (X.ret) (st 18 [(2, V.ptr 0 0)] [Blk.box 88 [vI s2.1, vI s2.2.1, vI s2.2.2]] [])]) (by kernel_rfl) (cj (impl_fieldRows_ok  r1 h1) (cj rfl (cj (len_nm _ _) (cj1 ((impl_rowOf_l0_ok no r1 h5 r1 [] rfl r2 h6).at h8 :))))))))) (fun h5 =>
   Pn.none))
def impl_FieldKind (no : Int) : Option (Int) :=
 (impl_rowOf no).bind fun r1 =>
 some r1.kind
theorem impl_FieldKind_ok (no : Int) : Pn (fun y => Fn Tryz.prog 39 [(false, E3 no)] (E3 y) []) (impl_FieldKind no) := by
  unfold impl_FieldKind
  exact
   Pn.bind (fun r1 h1 =>
   Pn.some (Fn.of [.call [] (E88 r1) []] (p := [Fn Tryz.prog 68 [(false, E3 no)] (E88 r1) [],(true || ((E88 r1).nv && nvL [])) = true]) (by kernel_rfl) (cj (impl_rowOf_ok no r1 h1) (cj1 rfl))))
def impl_FieldSize (no : Int) : Option (Int) :=
 (impl_rowOf no).bind fun r1 =>
 some r1.size
theorem impl_FieldSize_ok (no : Int) : Pn (fun y => Fn Tryz.prog 69 [(false, E3 no)] (E3 y) []) (impl_FieldSize no) := by
  unfold impl_FieldSize
  exact
   Pn.bind (fun r1 h1 =>
   Pn.some (Fn.of [.call [] (E88 r1) []] (p := [Fn Tryz.prog 68 [(false, E3 no)] (E88 r1) [],(true || ((E88 r1).nv && nvL [])) = true]) (by kernel_rfl) (cj (impl_rowOf_ok no r1 h1) (cj1 rfl))))
def impl_lenDigits (no : Int) : Option (Int) :=
 (impl_FieldKind no).bind fun r1 =>
 if (r1 == 5) = true then
 some 3
 else
 some 2
theorem impl_lenDigits_ok (no : Int) : Pn (fun y => Fn Tryz.prog 71 [(false, E3 no)] (E3 y) []) (impl_lenDigits no) := by
  unfold impl_lenDigits
  exact
   Pn.bind (fun r1 h1 =>
   Pn.ite (fun h2 =>
   Pn.some (Fn.of [.call [] (E3 r1) [], bT] (p := [Fn Tryz.prog 39 [(false, E3 no)] (E3 r1) [],(true || ((E3 r1).nv && nvL [])) = true,(r1 == 5) = true]) (by kernel_rfl) (cj (impl_FieldKind_ok no r1 h1) (cj rfl (cj1 h2))))) (fun h2 =>
   Pn.some (Fn.of [.call [] (E3 r1) [], bF] (p := [Fn Tryz.prog 39 [(false, E3 no)] (E3 r1) [],(true || ((E3 r1).nv && nvL [])) = true,(r1 == 5) = false]) (by kernel_rfl) (cj (impl_FieldKind_ok no r1 h1) (cj rfl (cj1 h2))))))
def impl_Narrow (s_ : ByteArray) : Option (Int × Bool) := (impl_Digits s_).bind fun r1 => if (r1 && decide (s_.size ≤ 18)) = true then (match Lib.atoiAll s_.data.toList with | .ok v => some (v, true) | _ => none) else (if (decide (s_.size ≤ 140737488355328)) = true then some (0, false) else none)
theorem impl_Narrow_ok (s_ : ByteArray) : Pn (fun y => Fn Tryz.prog 48 [(false, E9 s_)] (V.tup [E3 y.1, E4 y.2]) []) (impl_Narrow s_) := by
  unfold impl_Narrow
  refine Pn.bind (fun r1 h1 => ?_)
  have hD := fun w hw => Fn.calls [.string s_] (impl_Digits_ok s_ r1 h1) (r := .bool r1) rfl w hw
  rcases tfB (r1 && decide (s_.size ≤ 18)) with hr | hr
  · rw [hr, if_pos rfl]
    simp only [Bool.and_eq_true, decide_eq_true_eq] at hr
    obtain ⟨rfl, hs⟩ := hr
    have hs2 : ¬ (18 : Int) < (s_.size : Int) := by omega
    cases hv : Lib.atoiAll s_.data.toList with
    | ok v =>
      refine Pn.some (Fn.flats [.string s_] (by kernel_rfl) rfl (rs := [.int .i64 v, .bool true]) (fun w hw => ?_))
      have hA := fun w => Go.Proofs.Any.strconv_Atoi_ok Tryz.laysC172 s_ (by omega) v hv w
      go_enter Tryz.func48, Tryz.ntmps48
      go_wp2_with (go_at_call 67; refine (hD _ hw).mono ?_; rintro e w1 ⟨rfl, hb1⟩)
      go_wp2_with (go_at_call 74; refine (hA _).mono ?_; rintro e w2 ⟨rfl, hb2⟩)
      go_wp2
      go_ret2
      exact ⟨rfl, below_then hb1 (below_bytes hb2)⟩
    | «syntax» => exact Pn.none
    | range => exact Pn.none
  · rw [hr, if_neg (by simp)]
    refine Pn.ite (fun hz => ?_) (fun _ => Pn.none)
    have hz := of_decide_eq_true hz
    refine Pn.some (Fn.flats [.string s_] (by kernel_rfl) rfl (rs := [.int .i64 0, .bool false]) (fun w hw => ?_))
    cases r1 with
    | true =>
      simp only [Bool.true_and, decide_eq_false_iff_not] at hr
      have hs2 : (18 : Int) < (s_.size : Int) := by omega
      go_enter Tryz.func48, Tryz.ntmps48
      go_wp2_with (go_at_call 67; refine (hD _ hw).mono ?_; rintro e w1 ⟨rfl, hb1⟩)
      go_wp2
      go_ret2
      exact ⟨rfl, hb1⟩
    | false =>
      go_enter Tryz.func48, Tryz.ntmps48
      go_wp2_with (go_at_call 67; refine (hD _ hw).mono ?_; rintro e w1 ⟨rfl, hb1⟩)
      go_wp2
      go_ret2
      exact ⟨rfl, hb1⟩
def impl_GetLen_c0 (b : List Int) (at_ : Int) (digits : Int) : Option (Lo Unit Unit) :=
 (impl_within digits 2 3).bind fun r1 =>
 if r1 = true then
 some (.out ())
 else
 some (.ret ())
theorem impl_GetLen_c0_ok (b : List Int) (at_ : Int) (digits : Int) : Pn (JnO Tryz.prog (sub (codeOf Tryz.prog 70) [1, 0]) (st 34 [(0, lF5 b), (1, vI at_), (2, vI digits)] [] []) (fun (y : Lo Unit Unit) => Lo.elim y (fun s => (X.go, st 34 [(0, lF5 b), (1, vI at_), (2, vI digits)] [] [])) (fun s => (X.ret, st 34 [(6, vI 0), (7, vI 0), (8, vB false)] [] [])))) (impl_GetLen_c0 b at_ digits) := by
  unfold impl_GetLen_c0
  exact
   Pn.bind (fun r1 h1 =>
   Pn.ite (fun h2 =>
   Pn.some (JnO.of [.call [] (E4 r1) [], bF, .mask [0, 1, 2], .ren []] (p := [Fn Tryz.prog 65 [(false, E3 digits), (false, E3 2), (false, E3 3)] (E4 r1) [],(true || ((E4 r1).nv && nvL [])) = true,(!r1) = false]) (by kernel_rfl) (cj (impl_within_ok digits 2 3 r1 h1) (cj rfl (cj1 (nf h2)))))) (fun h2 =>
   Pn.some (JnO.of [.call [] (E4 r1) [], bT, .wait 3, .mask [6, 7, 8], .ren []] (p := [Fn Tryz.prog 65 [(false, E3 digits), (false, E3 2), (false, E3 3)] (E4 r1) [],(true || ((E4 r1).nv && nvL [])) = true,(!r1) = true]) (by kernel_rfl) (cj (impl_within_ok digits 2 3 r1 h1) (cj rfl (cj1 (nt h2)))))))
def impl_GetLen_c1 (r3 : ByteArray × Int × Bool) : Option (Lo Unit Unit) :=
 if r3.2.2 = true then
 some (.out ())
 else
 some (.ret ())
theorem impl_GetLen_c1_ok (r3 : ByteArray × Int × Bool) : Pn (JnO Tryz.prog (sub (codeOf Tryz.prog 70) [1, 1, 1, 0]) (st 34 [(9, vS r3.1), (10, vI r3.2.1), (11, vB r3.2.2)] [] []) (fun (y : Lo Unit Unit) => Lo.elim y (fun s => (X.go, st 34 [(9, vS r3.1), (10, vI r3.2.1)] [] [])) (fun s => (X.ret, st 34 [(6, vI 0), (7, vI 0), (8, vB false)] [] [])))) (impl_GetLen_c1 r3) := by
  unfold impl_GetLen_c1
  exact
   Pn.ite (fun h7 =>
   Pn.some (JnO.of [bF, .mask [9, 10], .ren []] (p := [(!r3.2.2) = false]) (by kernel_rfl) (cj1 (nf h7)))) (fun h7 =>
   Pn.some (JnO.of [bT, .wait 3, .mask [6, 7, 8], .ren []] (p := [(!r3.2.2) = true]) (by kernel_rfl) (cj1 (nt h7))))
def impl_GetLen (b : List Int) (at_ : Int) (digits : Int) : Option (Int × Int × Bool) :=
 (impl_GetLen_c0 b at_ digits).bind fun r2 =>
 Lo.elim r2 (fun s1 =>
 (impl_GetBcd b at_ digits).bind fun r3 =>
 (impl_GetLen_c1 r3).bind fun r4 =>
 Lo.elim r4 (fun s3 =>
 (impl_Narrow r3.1).bind fun r5 =>
 some (r5.1, r3.2.1, true)) (fun s4 =>
 some (0, 0, false))) (fun s2 =>
 some (0, 0, false))
theorem impl_GetLen_ok (b : List Int) (at_ : Int) (digits : Int) : Pn (fun y => Fn Tryz.prog 70 [(false, E31 b), (false, E3 at_), (false, E3 digits)] (V.tup [E3 y.1, E3 y.2.1, E4 y.2.2]) []) (impl_GetLen b at_ digits) := by
  unfold impl_GetLen
  exact
   Pn.bind (fun r2 h3 =>
   Pn.lo (fun s1 h4 =>
   Pn.bind (fun r3 h6 =>
   Pn.bind (fun r4 h8 =>
   Pn.lo (fun s3 h9 =>
   Pn.bind (fun r5 h11 =>
   Pn.some (Fn.of [.wait 4, .mask [0, 1, 2], .ren [], .join 7 (X.go) (st 34 [(0, lF5 b), (1, vI at_), (2, vI digits)] [] []), .call [] (V.tup [E9 r3.1, E3 r3.2.1, E4 r3.2.2]) [], .wait 8, .mask [9, 10, 11], .ren [], .join 7 (X.go) (st 34 [(9, vS r3.1), (10, vI r3.2.1)] [] []), .call [] (V.tup [E3 r5.1, E4 r5.2]) []] (p := [HT Tryz.prog (sub (codeOf Tryz.prog 70) [1, 0]) (st 34 [(0, lF5 b), (1, vI at_), (2, vI digits)] [] []) (X.go) (st 34 [(0, lF5 b), (1, vI at_), (2, vI digits)] [] []),Fn Tryz.prog 37 [(false, E31 b), (false, E3 at_), (false, E3 digits)] (V.tup [E9 r3.1, E3 r3.2.1, E4 r3.2.2]) [],(true || ((V.tup [E9 r3.1, E3 r3.2.1, E4 r3.2.2]).nv && nvL [])) = true,HT Tryz.prog (sub (codeOf Tryz.prog 70) [1, 1, 1, 0]) (st 34 [(9, vS r3.1), (10, vI r3.2.1), (11, vB r3.2.2)] [] []) (X.go) (st 34 [(9, vS r3.1), (10, vI r3.2.1)] [] []),Fn Tryz.prog 48 [(false, E9 r3.1)] (V.tup [E3 r5.1, E4 r5.2]) [],(true || ((V.tup [E3 r5.1, E4 r5.2]).nv && nvL [])) = true]) (by kernel_rfl) (cj ((impl_GetLen_c0_ok b at_ digits r2 h3).at h4 :) (cj (impl_GetBcd_ok b at_ digits r3 h6) (cj rfl (cj ((impl_GetLen_c1_ok r3 r4 h8).at h9 :) (cj (impl_Narrow_ok r3.1 r5 h11) (cj1 rfl))))))))) (fun s4 h10 =>
   Pn.some (Fn.of [.wait 4, .mask [0, 1, 2], .ren [], .join 7 (X.go) (st 34 [(0, lF5 b), (1, vI at_), (2, vI digits)] [] []), .call [] (V.tup [E9 r3.1, E3 r3.2.1, E4 r3.2.2]) [], .wait 8, .mask [9, 10, 11], .ren [], .join 7 (X.ret) (st 34 [(6, vI 0), (7, vI 0), (8, vB false)] [] [])] (p := [HT Tryz.prog (sub (codeOf Tryz.prog 70) [1, 0]) (st 34 [(0, lF5 b), (1, vI at_), (2, vI digits)] [] []) (X.go) (st 34 [(0, lF5 b), (1, vI at_), (2, vI digits)] [] []),Fn Tryz.prog 37 [(false, E31 b), (false, E3 at_), (false, E3 digits)] (V.tup [E9 r3.1, E3 r3.2.1, E4 r3.2.2]) [],(true || ((V.tup [E9 r3.1, E3 r3.2.1, E4 r3.2.2]).nv && nvL [])) = true,HT Tryz.prog (sub (codeOf Tryz.prog 70) [1, 1, 1, 0]) (st 34 [(9, vS r3.1), (10, vI r3.2.1), (11, vB r3.2.2)] [] []) (X.ret) (st 34 [(6, vI 0), (7, vI 0), (8, vB false)] [] [])]) (by kernel_rfl) (cj ((impl_GetLen_c0_ok b at_ digits r2 h3).at h4 :) (cj (impl_GetBcd_ok b at_ digits r3 h6) (cj rfl (cj1 ((impl_GetLen_c1_ok r3 r4 h8).at h10 :)))))))))) (fun s2 h5 =>
   Pn.some (Fn.of [.wait 4, .mask [0, 1, 2], .ren [], .join 7 (X.ret) (st 34 [(6, vI 0), (7, vI 0), (8, vB false)] [] [])] (p := [HT Tryz.prog (sub (codeOf Tryz.prog 70) [1, 0]) (st 34 [(0, lF5 b), (1, vI at_), (2, vI digits)] [] []) (X.ret) (st 34 [(6, vI 0), (7, vI 0), (8, vB false)] [] [])]) (by kernel_rfl) (cj1 ((impl_GetLen_c0_ok b at_ digits r2 h3).at h5 :)))))
def impl_Printable_l0 (s_ : ByteArray) : Nat → Int → Option (Lo Unit Unit)
  | 0, _ => none
  | fuel + 1, v1 =>
   if (decide (v1 < (s_.size : Int))) = true then
   if (decide (0 ≤ v1)) = true then
   if (decide ((v1 : Int) < (s_.size : Int))) = true then
   if (decide ((sAt s_ v1) < 32)) = true then
   some (.ret ())
   else
   if (decide (126 < (sAt s_ v1))) = true then
   some (.ret ())
   else
   impl_Printable_l0 s_ fuel (i64 (v1 + 1))
   else none
   else none
   else
   some (.out ())
theorem impl_Printable_l0_ok (s_ : ByteArray) : ∀ (fuel : Nat) (v1 : Int), Pn (LpO Tryz.prog (sub (codeOf Tryz.prog 83) [1, 0, 1, 0, 0]) (st 20 [(0, vS s_), (5, vI (s_.size : Int)), (6, vI v1)] [] []) (fun (y : Lo Unit Unit) => Lo.elim y (fun s => (X.out 0, st 20 [] [] [])) (fun s => (X.ret, st 20 [(2, vB false)] [] [])))) (impl_Printable_l0 s_ fuel v1)
  | 0, _ => Pn.none
  | fuel + 1, v1 => by
    unfold impl_Printable_l0
    exact
     Pn.ite (fun h1 =>
     Pn.ite (fun h2 =>
     Pn.ite (fun h3 =>
     Pn.ite (fun h4 =>
     Pn.some (LpO.out [bT, bT, bT, bT, bT, bT, bT, .wait 1, .mask [2], .ren []] (p := [(decide (v1 < (s_.size : Int))) = true,(0 : Int) ≤ v1,(v1 : Int) < s_.size,(decide ((sAt s_ v1) < 32)) = true,(decide ((sAt s_ v1) < 32)) = true,(decide ((sAt s_ v1) < 32)) = true,(decide ((sAt s_ v1) < 32)) = true,(decide ((sAt s_ v1) < 32)) = true,true = true]) (by kernel_rfl) (show X.ret ≠ X.go from nofun) (cj h1 (cj (od h2) (cj (od h3) (cj h4 (cj h4 (cj h4 (cj h4 (cj h4 (cj1 rfl))))))))))) (fun h4 =>
     Pn.ite (fun h5 =>
     Pn.some (LpO.out [bT, bF, bF, bF, bF, bF, bT, .wait 1, .mask [2], .ren []] (p := [(decide (v1 < (s_.size : Int))) = true,(0 : Int) ≤ v1,(v1 : Int) < s_.size,(decide ((sAt s_ v1) < 32)) = false,(decide ((sAt s_ v1) < 32)) = false,(decide ((sAt s_ v1) < 32)) = false,(0 : Int) ≤ v1,(v1 : Int) < s_.size,(decide ((sAt s_ v1) < 32)) = false,(decide ((sAt s_ v1) < 32)) = false,(decide (126 < (sAt s_ v1))) = true]) (by kernel_rfl) (show X.ret ≠ X.go from nofun) (cj h1 (cj (od h2) (cj (od h3) (cj h4 (cj h4 (cj h4 (cj (od h2) (cj (od h3) (cj h4 (cj h4 (cj1 h5))))))))))))) (fun h5 =>
     LpO.go [bT, bF, bF, bF, bF, bF, bF, .wait 2, .mask [0, 5, 6], .ren []] (p := [(decide (v1 < (s_.size : Int))) = true,(0 : Int) ≤ v1,(v1 : Int) < s_.size,(decide ((sAt s_ v1) < 32)) = false,(decide ((sAt s_ v1) < 32)) = false,(decide ((sAt s_ v1) < 32)) = false,(0 : Int) ≤ v1,(v1 : Int) < s_.size,(decide ((sAt s_ v1) < 32)) = false,(decide ((sAt s_ v1) < 32)) = false,(decide (126 < (sAt s_ v1))) = false]) (by kernel_rfl) (cj h1 (cj (od h2) (cj (od h3) (cj h4 (cj h4 (cj h4 (cj (od h2) (cj (od h3) (cj h4 (cj h4 (cj1 h5))))))))))) (impl_Printable_l0_ok s_ fuel (i64 (v1 + 1)))))) (fun h3 =>
     Pn.none)) (fun h2 =>
     Pn.none)) (fun h1 =>
     Pn.some (LpO.out [bF, .mask [], .ren []] (p := [(decide (v1 < (s_.size : Int))) = false]) (by kernel_rfl) (show X.out 0 ≠ X.go from nofun) (cj1 h1)))
def impl_Printable (s_ : ByteArray) : Option (Bool) :=
 (impl_Printable_l0 s_ FUEL 0).bind fun r1 =>
 Lo.elim r1 (fun s1 =>
 some true) (fun s2 =>
 some false)
theorem impl_Printable_ok (s_ : ByteArray) : Pn (fun y => Fn Tryz.prog 83 [(false, E9 s_)] (E4 y) []) (impl_Printable s_) := by
  unfold impl_Printable
  exact
   Pn.bind (fun r1 h6 =>
   Pn.lo (fun s1 h7 =>
   Pn.some (Fn.of [.wait 5, .mask [0, 5, 6], .ren [], .loop (X.out 0) (st 20 [] [] [])] (p := [Loop Tryz.prog (sub (codeOf Tryz.prog 83) [1, 0, 1, 0, 0]) (st 20 [(0, vS s_), (5, vI (s_.size : Int)), (6, vI 0)] [] []) (X.out 0) (st 20 [] [] [])]) (by kernel_rfl) (cj1 ((impl_Printable_l0_ok s_ FUEL 0 r1 h6).at h7 :)))) (fun s2 h8 =>
   Pn.some (Fn.of [.wait 5, .mask [0, 5, 6], .ren [], .loop (X.ret) (st 20 [(2, vB false)] [] [])] (p := [Loop Tryz.prog (sub (codeOf Tryz.prog 83) [1, 0, 1, 0, 0]) (st 20 [(0, vS s_), (5, vI (s_.size : Int)), (6, vI 0)] [] []) (X.ret) (st 20 [(2, vB false)] [] [])]) (by kernel_rfl) (cj1 ((impl_Printable_l0_ok s_ FUEL 0 r1 h6).at h8 :)))))
def impl_FieldOk_c1 (s_ : ByteArray) (r1 : fieldRow) : Option (Bool) :=
 if (r1.kind == 4) = true then
 some (r1.kind == 4)
 else
 some (r1.kind == 5)
theorem impl_FieldOk_c1_ok (s_ : ByteArray) (r1 : fieldRow) : Pn (JnO Tryz.prog (sub (codeOf Tryz.prog 72) [1, 1, 0, 1, 0, 1, 1, 1, 1, 1, 1, 0]) (st 55 [(1, vS s_), (5, V.ptr 0 0), (9, vI r1.kind)] [Blk.box 88 [vI r1.no, vI r1.kind, vI r1.size]] []) (fun (y : Bool) => (X.go, st 55 [(1, vS s_), (5, V.ptr 0 0), (43, vB y)] [Blk.box 88 [vI r1.no, vI r1.kind, vI r1.size]] []))) (impl_FieldOk_c1 s_ r1) := by
  unfold impl_FieldOk_c1
  exact
   Pn.ite (fun h12 =>
   Pn.some (JnO.of [bT, .mask [1, 5, 43], .ren [0]] (p := [(r1.kind == 4) = true]) (by kernel_rfl) (cj1 h12))) (fun h12 =>
   Pn.some (JnO.of [bF, .wait 2, .mask [1, 5, 43], .ren [0]] (p := [(r1.kind == 4) = false]) (by kernel_rfl) (cj1 h12)))
def impl_FieldOk_c0 (s_ : ByteArray) (r1 : fieldRow) : Option (Lo Unit Bool) :=
 if (r1.kind == 1) = true then
 (impl_Digits s_).bind fun r2 =>
 if r2 = true then
 some (.ret ((s_.size : Int) == r1.size))
 else
 some (.ret false)
 else
 if (r1.kind == 2) = true then
 (impl_Printable s_).bind fun r3 =>
 if r3 = true then
 some (.ret ((s_.size : Int) == r1.size))
 else
 some (.ret false)
 else
 if (r1.kind == 3) = true then
 (impl_Digits s_).bind fun r4 =>
 if r4 = true then
 (impl_within (s_.size : Int) 1 r1.size).bind fun r5 =>
 some (.ret r5)
 else
 some (.ret false)
 else
 (impl_FieldOk_c1 s_ r1).bind fun r6 =>
 if r6 = true then
 (impl_Printable s_).bind fun r7 =>
 if r7 = true then
 (impl_within (s_.size : Int) 1 r1.size).bind fun r8 =>
 some (.ret r8)
 else
 some (.ret false)
 else
 some (.out ())
theorem impl_FieldOk_c0_ok (s_ : ByteArray) (r1 : fieldRow) : Pn (JnO Tryz.prog (sub (codeOf Tryz.prog 72) [1, 1, 0]) (st 55 [(1, vS s_), (5, V.ptr 0 0)] [Blk.box 88 [vI r1.no, vI r1.kind, vI r1.size]] []) (fun (y : Lo Unit Bool) => Lo.elim y (fun s => (X.go, st 55 [] [] [])) (fun s => (X.ret, st 55 [(4, vB s)] [] [])))) (impl_FieldOk_c0 s_ r1) := by
  unfold impl_FieldOk_c0
  exact
   Pn.ite (fun h2 =>
   Pn.bind (fun r2 h3 =>
   Pn.ite (fun h4 =>
   Pn.some (JnO.of [bT, .call [] (E4 r2) [], bT, bT, bT, bT, bT, bT, .wait 2, .mask [4], .ren []] (p := [(r1.kind == 1) = true,Fn Tryz.prog 67 [(false, E9 s_)] (E4 r2) [],(true || ((E4 r2).nv && nvL [])) = true,r2 = true,r2 = true,r2 = true,r2 = true,r2 = true,r2 = true]) (by kernel_rfl) (cj h2 (cj (impl_Digits_ok s_ r2 h3) (cj rfl (cj h4 (cj h4 (cj h4 (cj h4 (cj h4 (cj1 h4))))))))))) (fun h4 =>
   Pn.some (JnO.of [bT, .call [] (E4 r2) [], bF, bF, bF, bF, bF, bF, .wait 2, .mask [4], .ren []] (p := [(r1.kind == 1) = true,Fn Tryz.prog 67 [(false, E9 s_)] (E4 r2) [],(true || ((E4 r2).nv && nvL [])) = true,r2 = false,r2 = false,r2 = false,r2 = false,r2 = false,r2 = false]) (by kernel_rfl) (cj h2 (cj (impl_Digits_ok s_ r2 h3) (cj rfl (cj h4 (cj h4 (cj h4 (cj h4 (cj h4 (cj1 h4))))))))))))) (fun h2 =>
   Pn.ite (fun h5 =>
   Pn.bind (fun r3 h6 =>
   Pn.ite (fun h7 =>
   Pn.some (JnO.of [bF, bT, .call [] (E4 r3) [], bT, bT, bT, bT, bT, bT, .wait 2, .mask [4], .ren []] (p := [(r1.kind == 1) = false,(r1.kind == 2) = true,Fn Tryz.prog 83 [(false, E9 s_)] (E4 r3) [],(true || ((E4 r3).nv && nvL [])) = true,r3 = true,r3 = true,r3 = true,r3 = true,r3 = true,r3 = true]) (by kernel_rfl) (cj h2 (cj h5 (cj (impl_Printable_ok s_ r3 h6) (cj rfl (cj h7 (cj h7 (cj h7 (cj h7 (cj h7 (cj1 h7)))))))))))) (fun h7 =>
   Pn.some (JnO.of [bF, bT, .call [] (E4 r3) [], bF, bF, bF, bF, bF, bF, .wait 2, .mask [4], .ren []] (p := [(r1.kind == 1) = false,(r1.kind == 2) = true,Fn Tryz.prog 83 [(false, E9 s_)] (E4 r3) [],(true || ((E4 r3).nv && nvL [])) = true,r3 = false,r3 = false,r3 = false,r3 = false,r3 = false,r3 = false]) (by kernel_rfl) (cj h2 (cj h5 (cj (impl_Printable_ok s_ r3 h6) (cj rfl (cj h7 (cj h7 (cj h7 (cj h7 (cj h7 (cj1 h7)))))))))))))) (fun h5 =>
   Pn.ite (fun h8 =>
   Pn.bind (fun r4 h9 =>
   Pn.ite (fun h10 =>
   Pn.bind (fun r5 h11 =>
   Pn.some (JnO.of [bF, bF, bT, .call [] (E4 r4) [], bT, bT, bT, bT, bT, .call [] (E4 r5) [], bT, .wait 2, .mask [4], .ren []] (p := [(r1.kind == 1) = false,(r1.kind == 2) = false,(r1.kind == 3) = true,Fn Tryz.prog 67 [(false, E9 s_)] (E4 r4) [],(true || ((E4 r4).nv && nvL [])) = true,r4 = true,r4 = true,r4 = true,r4 = true,r4 = true,Fn Tryz.prog 65 [(false, E3 (s_.size : Int)), (false, E3 1), (false, E3 r1.size)] (E4 r5) [],(true || ((E4 r5).nv && nvL [])) = true,r4 = true]) (by kernel_rfl) (cj h2 (cj h5 (cj h8 (cj (impl_Digits_ok s_ r4 h9) (cj rfl (cj h10 (cj h10 (cj h10 (cj h10 (cj h10 (cj (impl_within_ok (s_.size : Int) 1 r1.size r5 h11) (cj rfl (cj1 h10)))))))))))))))) (fun h10 =>
   Pn.some (JnO.of [bF, bF, bT, .call [] (E4 r4) [], bF, bF, bF, bF, bF, bF, .wait 2, .mask [4], .ren []] (p := [(r1.kind == 1) = false,(r1.kind == 2) = false,(r1.kind == 3) = true,Fn Tryz.prog 67 [(false, E9 s_)] (E4 r4) [],(true || ((E4 r4).nv && nvL [])) = true,r4 = false,r4 = false,r4 = false,r4 = false,r4 = false,r4 = false]) (by kernel_rfl) (cj h2 (cj h5 (cj h8 (cj (impl_Digits_ok s_ r4 h9) (cj rfl (cj h10 (cj h10 (cj h10 (cj h10 (cj h10 (cj1 h10))))))))))))))) (fun h8 =>
   Pn.bind (fun r6 h13 =>
   Pn.ite (fun h14 =>
   Pn.bind (fun r7 h15 =>
   Pn.ite (fun h16 =>
   Pn.bind (fun r8 h17 =>
   Pn.some (JnO.of [bF, bF, bF, .mask [1, 5, 9], .ren [0], .join 5 (X.go) (st 55 [(1, vS s_), (5, V.ptr 0 0), (43, vB r6)] [Blk.box 88 [vI r1.no, vI r1.kind, vI r1.size]] []), bT, .call [] (E4 r7) [], bT, bT, bT, bT, bT, .call [] (E4 r8) [], bT, .wait 2, .mask [4], .ren []] (p := [(r1.kind == 1) = false,(r1.kind == 2) = false,(r1.kind == 3) = false,HT Tryz.prog (sub (codeOf Tryz.prog 72) [1, 1, 0, 1, 0, 1, 1, 1, 1, 1, 1, 0]) (st 55 [(1, vS s_), (5, V.ptr 0 0), (9, vI r1.kind)] [Blk.box 88 [vI r1.no, vI r1.kind, vI r1.size]] []) (X.go) (st 55 [(1, vS s_), (5, V.ptr 0 0), (43, vB r6)] [Blk.box 88 [vI r1.no, vI r1.kind, vI r1.size]] []),r6 = true,Fn Tryz.prog 83 [(false, E9 s_)] (E4 r7) [],(true || ((E4 r7).nv && nvL [])) = true,r7 = true,r7 = true,r7 = true,r7 = true,r7 = true,Fn Tryz.prog 65 [(false, E3 (s_.size : Int)), (false, E3 1), (false, E3 r1.size)] (E4 r8) [],(true || ((E4 r8).nv && nvL [])) = true,r7 = true]) (by kernel_rfl) (cj h2 (cj h5 (cj h8 (cj (impl_FieldOk_c1_ok s_ r1 r6 h13) (cj h14 (cj (impl_Printable_ok s_ r7 h15) (cj rfl (cj h16 (cj h16 (cj h16 (cj h16 (cj h16 (cj (impl_within_ok (s_.size : Int) 1 r1.size r8 h17) (cj rfl (cj1 h16)))))))))))))))))) (fun h16 =>
   Pn.some (JnO.of [bF, bF, bF, .mask [1, 5, 9], .ren [0], .join 5 (X.go) (st 55 [(1, vS s_), (5, V.ptr 0 0), (43, vB r6)] [Blk.box 88 [vI r1.no, vI r1.kind, vI r1.size]] []), bT, .call [] (E4 r7) [], bF, bF, bF, bF, bF, bF, .wait 2, .mask [4], .ren []] (p := [(r1.kind == 1) = false,(r1.kind == 2) = false,(r1.kind == 3) = false,HT Tryz.prog (sub (codeOf Tryz.prog 72) [1, 1, 0, 1, 0, 1, 1, 1, 1, 1, 1, 0]) (st 55 [(1, vS s_), (5, V.ptr 0 0), (9, vI r1.kind)] [Blk.box 88 [vI r1.no, vI r1.kind, vI r1.size]] []) (X.go) (st 55 [(1, vS s_), (5, V.ptr 0 0), (43, vB r6)] [Blk.box 88 [vI r1.no, vI r1.kind, vI r1.size]] []),r6 = true,Fn Tryz.prog 83 [(false, E9 s_)] (E4 r7) [],(true || ((E4 r7).nv && nvL [])) = true,r7 = false,r7 = false,r7 = false,r7 = false,r7 = false,r7 = false]) (by kernel_rfl) (cj h2 (cj h5 (cj h8 (cj (impl_FieldOk_c1_ok s_ r1 r6 h13) (cj h14 (cj (impl_Printable_ok s_ r7 h15) (cj rfl (cj h16 (cj h16 (cj h16 (cj h16 (cj h16 (cj1 h16))))))))))))))))) (fun h14 =>
   Pn.some (JnO.of [bF, bF, bF, .mask [1, 5, 9], .ren [0], .join 5 (X.go) (st 55 [(1, vS s_), (5, V.ptr 0 0), (43, vB r6)] [Blk.box 88 [vI r1.no, vI r1.kind, vI r1.size]] []), bF, .mask [], .ren []] (p := [(r1.kind == 1) = false,(r1.kind == 2) = false,(r1.kind == 3) = false,HT Tryz.prog (sub (codeOf Tryz.prog 72) [1, 1, 0, 1, 0, 1, 1, 1, 1, 1, 1, 0]) (st 55 [(1, vS s_), (5, V.ptr 0 0), (9, vI r1.kind)] [Blk.box 88 [vI r1.no, vI r1.kind, vI r1.size]] []) (X.go) (st 55 [(1, vS s_), (5, V.ptr 0 0), (43, vB r6)] [Blk.box 88 [vI r1.no, vI r1.kind, vI r1.size]] []),r6 = false]) (by kernel_rfl) (cj h2 (cj h5 (cj h8 (cj (impl_FieldOk_c1_ok s_ r1 r6 h13) (cj1 h14)))))))))))
def impl_FieldOk (no : Int) (s_ : ByteArray) : Option (Bool) :=
 (impl_rowOf no).bind fun r1 =>
 (impl_FieldOk_c0 s_ r1).bind fun r9 =>
 Lo.elim r9 (fun s1 =>
 some false) (fun s2 =>
 some s2)
theorem impl_FieldOk_ok (no : Int) (s_ : ByteArray) : Pn (fun y => Fn Tryz.prog 72 [(false, E3 no), (false, E9 s_)] (E4 y) []) (impl_FieldOk no s_) := by
  unfold impl_FieldOk
  exact
   Pn.bind (fun r1 h1 =>
   Pn.bind (fun r9 h18 =>
   Pn.lo (fun s1 h19 =>
   Pn.some (Fn.of [.call [] (E88 r1) [], .wait 3, .mask [1, 5], .ren [0], .join 32 (X.go) (st 55 [] [] [])] (p := [Fn Tryz.prog 68 [(false, E3 no)] (E88 r1) [],(true || ((E88 r1).nv && nvL [])) = true,HT Tryz.prog (sub (codeOf Tryz.prog 72) [1, 1, 0]) (st 55 [(1, vS s_), (5, V.ptr 0 0)] [Blk.box 88 [vI r1.no, vI r1.kind, vI r1.size]] []) (X.go) (st 55 [] [] [])]) (by kernel_rfl) (cj (impl_rowOf_ok no r1 h1) (cj rfl (cj1 ((impl_FieldOk_c0_ok s_ r1 r9 h18).at h19 :)))))) (fun s2 h20 =>
   Pn.some (Fn.of [.call [] (E88 r1) [], .wait 3, .mask [1, 5], .ren [0], .join 32 (X.ret) (st 55 [(4, vB s2)] [] [])] (p := [Fn Tryz.prog 68 [(false, E3 no)] (E88 r1) [],(true || ((E88 r1).nv && nvL [])) = true,HT Tryz.prog (sub (codeOf Tryz.prog 72) [1, 1, 0]) (st 55 [(1, vS s_), (5, V.ptr 0 0)] [Blk.box 88 [vI r1.no, vI r1.kind, vI r1.size]] []) (X.ret) (st 55 [(4, vB s2)] [] [])]) (by kernel_rfl) (cj (impl_rowOf_ok no r1 h1) (cj rfl (cj1 ((impl_FieldOk_c0_ok s_ r1 r9 h18).at h20 :))))))))
def impl_GetField_c0 (o : List Int) (o_ : Int) (a2 : Int) (r1 : Int) (r2 : Int) : Option (Int × Int × Bool) :=
 if (r2 == 3) = true then
 (impl_lenDigits a2).bind fun r3 =>
 (impl_GetLen o o_ r3).bind fun r4 =>
 some (r4.2.1, r4.1, r4.2.2)
 else
 if (r2 == 4) = true then
 (impl_lenDigits a2).bind fun r5 =>
 (impl_GetLen o o_ r5).bind fun r6 =>
 some (r6.2.1, r6.1, r6.2.2)
 else
 if (r2 == 5) = true then
 (impl_lenDigits a2).bind fun r7 =>
 (impl_GetLen o o_ r7).bind fun r8 =>
 some (r8.2.1, r8.1, r8.2.2)
 else
 some (o_, r1, true)
theorem impl_GetField_c0_ok (o : List Int) (o_ : Int) (a2 : Int) (r1 : Int) (r2 : Int) : Pn (JnO Tryz.prog (sub (codeOf Tryz.prog 40) [1, 1, 0]) (st 75 [(0, lF5 o), (1, vI o_), (2, vI a2), (9, vI r1), (11, vI r2), (12, vB true)] [] []) (fun (y : Int × Int × Bool) => (X.go, st 75 [(0, lF5 o), (1, vI y.1), (2, vI a2), (9, vI y.2.1), (11, vI r2), (12, vB y.2.2)] [] []))) (impl_GetField_c0 o o_ a2 r1 r2) := by
  unfold impl_GetField_c0
  exact
   Pn.ite (fun h3 =>
   Pn.bind (fun r3 h4 =>
   Pn.bind (fun r4 h5 =>
   Pn.some (JnO.of [bT, bT, bT, bT, bT, bT, bT, .call [] (E3 r3) [], .call [] (V.tup [E3 r4.1, E3 r4.2.1, E4 r4.2.2]) [], .wait 8, .mask [0, 1, 2, 9, 11, 12], .ren []] (p := [(r2 == 3) = true,(r2 == 3) = true,(r2 == 3) = true,true = true,true = true,true = true,true = true,Fn Tryz.prog 71 [(false, E3 a2)] (E3 r3) [],(true || ((E3 r3).nv && nvL [])) = true,Fn Tryz.prog 70 [(false, E31 o), (false, E3 o_), (false, E3 r3)] (V.tup [E3 r4.1, E3 r4.2.1, E4 r4.2.2]) [],(true || ((V.tup [E3 r4.1, E3 r4.2.1, E4 r4.2.2]).nv && nvL [])) = true]) (by kernel_rfl) (cj h3 (cj h3 (cj h3 (cj rfl (cj rfl (cj rfl (cj rfl (cj (impl_lenDigits_ok a2 r3 h4) (cj rfl (cj (impl_GetLen_ok o o_ r3 r4 h5) (cj1 rfl))))))))))))))) (fun h3 =>
   Pn.ite (fun h6 =>
   Pn.bind (fun r5 h7 =>
   Pn.bind (fun r6 h8 =>
   Pn.some (JnO.of [bF, bF, bF, bT, bT, bT, bT, .call [] (E3 r5) [], .call [] (V.tup [E3 r6.1, E3 r6.2.1, E4 r6.2.2]) [], .wait 8, .mask [0, 1, 2, 9, 11, 12], .ren []] (p := [(r2 == 3) = false,(r2 == 3) = false,(r2 == 3) = false,(r2 == 4) = true,(r2 == 4) = true,(r2 == 4) = true,true = true,Fn Tryz.prog 71 [(false, E3 a2)] (E3 r5) [],(true || ((E3 r5).nv && nvL [])) = true,Fn Tryz.prog 70 [(false, E31 o), (false, E3 o_), (false, E3 r5)] (V.tup [E3 r6.1, E3 r6.2.1, E4 r6.2.2]) [],(true || ((V.tup [E3 r6.1, E3 r6.2.1, E4 r6.2.2]).nv && nvL [])) = true]) (by kernel_rfl) (cj h3 (cj h3 (cj h3 (cj h6 (cj h6 (cj h6 (cj rfl (cj (impl_lenDigits_ok a2 r5 h7) (cj rfl (cj (impl_GetLen_ok o o_ r5 r6 h8) (cj1 rfl))))))))))))))) (fun h6 =>
   Pn.ite (fun h9 =>
   Pn.bind (fun r7 h10 =>
   Pn.bind (fun r8 h11 =>
   Pn.some (JnO.of [bF, bF, bF, bF, bF, bF, bT, .call [] (E3 r7) [], .call [] (V.tup [E3 r8.1, E3 r8.2.1, E4 r8.2.2]) [], .wait 8, .mask [0, 1, 2, 9, 11, 12], .ren []] (p := [(r2 == 3) = false,(r2 == 3) = false,(r2 == 3) = false,(r2 == 4) = false,(r2 == 4) = false,(r2 == 4) = false,(r2 == 5) = true,Fn Tryz.prog 71 [(false, E3 a2)] (E3 r7) [],(true || ((E3 r7).nv && nvL [])) = true,Fn Tryz.prog 70 [(false, E31 o), (false, E3 o_), (false, E3 r7)] (V.tup [E3 r8.1, E3 r8.2.1, E4 r8.2.2]) [],(true || ((V.tup [E3 r8.1, E3 r8.2.1, E4 r8.2.2]).nv && nvL [])) = true]) (by kernel_rfl) (cj h3 (cj h3 (cj h3 (cj h6 (cj h6 (cj h6 (cj h9 (cj (impl_lenDigits_ok a2 r7 h10) (cj rfl (cj (impl_GetLen_ok o o_ r7 r8 h11) (cj1 rfl))))))))))))))) (fun h9 =>
   Pn.some (JnO.of [bF, bF, bF, bF, bF, bF, bF, .mask [0, 1, 2, 9, 11, 12], .ren []] (p := [(r2 == 3) = false,(r2 == 3) = false,(r2 == 3) = false,(r2 == 4) = false,(r2 == 4) = false,(r2 == 4) = false,(r2 == 5) = false]) (by kernel_rfl) (cj h3 (cj h3 (cj h3 (cj h6 (cj h6 (cj h6 (cj1 h9)))))))))))
def impl_GetField_c1 (o : List Int) (a2 : Int) (r2 : Int) (r9 : Int × Int × Bool) : Option (Lo Unit Unit) :=
 if r9.2.2 = true then
 some (.out ())
 else
 some (.ret ())
theorem impl_GetField_c1_ok (o : List Int) (a2 : Int) (r2 : Int) (r9 : Int × Int × Bool) : Pn (JnO Tryz.prog (sub (codeOf Tryz.prog 40) [1, 1, 1, 0]) (st 75 [(0, lF5 o), (1, vI r9.1), (2, vI a2), (9, vI r9.2.1), (11, vI r2), (12, vB r9.2.2)] [] []) (fun (y : Lo Unit Unit) => Lo.elim y (fun s => (X.go, st 75 [(0, lF5 o), (1, vI r9.1), (2, vI a2), (9, vI r9.2.1), (11, vI r2)] [] [])) (fun s => (X.ret, st 75 [(6, vS (bs [])), (7, vI 0), (8, vB false)] [] [])))) (impl_GetField_c1 o a2 r2 r9) := by
  unfold impl_GetField_c1
  exact
   Pn.ite (fun h13 =>
   Pn.some (JnO.of [bF, .mask [0, 1, 2, 9, 11], .ren []] (p := [(!r9.2.2) = false]) (by kernel_rfl) (cj1 (nf h13)))) (fun h13 =>
   Pn.some (JnO.of [bT, .wait 3, .mask [6, 7, 8], .ren []] (p := [(!r9.2.2) = true]) (by kernel_rfl) (cj1 (nt h13))))
def impl_GetField_c2 (o : List Int) (a2 : Int) (r2 : Int) (r9 : Int × Int × Bool) : Option (Int × ByteArray × Bool) :=
 if (r2 == 1) = true then
 (impl_GetBcd o r9.1 r9.2.1).bind fun r11 =>
 some (r11.2.1, r11.1, r11.2.2)
 else
 if (r2 == 3) = true then
 (impl_GetBcd o r9.1 r9.2.1).bind fun r12 =>
 some (r12.2.1, r12.1, r12.2.2)
 else
 (impl_piece o r9.1 r9.2.1).bind fun r13 =>
 some (i64 (r9.1 + r9.2.1), bstr r13.1, r13.2)
theorem impl_GetField_c2_ok (o : List Int) (a2 : Int) (r2 : Int) (r9 : Int × Int × Bool) : Pn (JnO Tryz.prog (sub (codeOf Tryz.prog 40) [1, 1, 1, 1, 0]) (st 75 [(0, lF5 o), (1, vI r9.1), (2, vI a2), (9, vI r9.2.1), (11, vI r2)] [] []) (fun (y : Int × ByteArray × Bool) => (X.go, st 75 [(1, vI y.1), (2, vI a2), (10, vS y.2.1), (12, vB y.2.2)] [] []))) (impl_GetField_c2 o a2 r2 r9) := by
  unfold impl_GetField_c2
  exact
   Pn.ite (fun h17 =>
   Pn.bind (fun r11 h18 =>
   Pn.some (JnO.of [bT, bT, bT, bT, .call [] (V.tup [E9 r11.1, E3 r11.2.1, E4 r11.2.2]) [], .wait 8, .mask [1, 2, 10, 12], .ren []] (p := [(r2 == 1) = true,(r2 == 1) = true,(r2 == 1) = true,true = true,Fn Tryz.prog 37 [(false, E31 o), (false, E3 r9.1), (false, E3 r9.2.1)] (V.tup [E9 r11.1, E3 r11.2.1, E4 r11.2.2]) [],(true || ((V.tup [E9 r11.1, E3 r11.2.1, E4 r11.2.2]).nv && nvL [])) = true]) (by kernel_rfl) (cj h17 (cj h17 (cj h17 (cj rfl (cj (impl_GetBcd_ok o r9.1 r9.2.1 r11 h18) (cj1 rfl))))))))) (fun h17 =>
   Pn.ite (fun h19 =>
   Pn.bind (fun r12 h20 =>
   Pn.some (JnO.of [bF, bF, bF, bT, .call [] (V.tup [E9 r12.1, E3 r12.2.1, E4 r12.2.2]) [], .wait 8, .mask [1, 2, 10, 12], .ren []] (p := [(r2 == 1) = false,(r2 == 1) = false,(r2 == 1) = false,(r2 == 3) = true,Fn Tryz.prog 37 [(false, E31 o), (false, E3 r9.1), (false, E3 r9.2.1)] (V.tup [E9 r12.1, E3 r12.2.1, E4 r12.2.2]) [],(true || ((V.tup [E9 r12.1, E3 r12.2.1, E4 r12.2.2]).nv && nvL [])) = true]) (by kernel_rfl) (cj h17 (cj h17 (cj h17 (cj h19 (cj (impl_GetBcd_ok o r9.1 r9.2.1 r12 h20) (cj1 rfl))))))))) (fun h19 =>
   Pn.bind (fun r13 h21 =>
   Pn.some (JnO.of [bF, bF, bF, bF, .call [] (V.tup [(E31 r13.1).vw, E4 r13.2]) [], .ints r13.1, .wait 6, .mask [1, 2, 10, 12], .ren []] (p := [(r2 == 1) = false,(r2 == 1) = false,(r2 == 1) = false,(r2 == 3) = false,Fn Tryz.prog 66 [(false, E31 o), (false, E3 r9.1), (false, E3 r9.2.1)] (V.tup [(E31 r13.1).vw, E4 r13.2]) [],(true || ((V.tup [(E31 r13.1).vw, E4 r13.2]).nv && nvL [])) = true,(List.map E5 r13.1) = r13.1.map fun n => V.sc (.int .u8 n)]) (by kernel_rfl) (cj h17 (cj h17 (cj h17 (cj h19 (cj (impl_piece_ok o r9.1 r9.2.1 r13 h21) (cj rfl (cj1 rfl)))))))))))
def impl_GetField_c3 (a2 : Int) (r14 : Int × ByteArray × Bool) : Option (Lo Unit Unit) :=
 if r14.2.2 = true then
 (impl_FieldOk a2 r14.2.1).bind fun r15 =>
 if r15 = true then
 some (.out ())
 else
 some (.ret ())
 else
 some (.ret ())
theorem impl_GetField_c3_ok (a2 : Int) (r14 : Int × ByteArray × Bool) : Pn (JnO Tryz.prog (sub (codeOf Tryz.prog 40) [1, 1, 1, 1, 1, 0]) (st 75 [(1, vI r14.1), (2, vI a2), (10, vS r14.2.1), (12, vB r14.2.2)] [] []) (fun (y : Lo Unit Unit) => Lo.elim y (fun s => (X.go, st 75 [(1, vI r14.1), (10, vS r14.2.1)] [] [])) (fun s => (X.ret, st 75 [(6, vS (bs [])), (7, vI 0), (8, vB false)] [] [])))) (impl_GetField_c3 a2 r14) := by
  unfold impl_GetField_c3
  exact
   Pn.ite (fun h23 =>
   Pn.bind (fun r15 h24 =>
   Pn.ite (fun h25 =>
   Pn.some (JnO.of [bF, bF, bF, .call [] (E4 r15) [], bF, bF, bF, .mask [1, 10], .ren []] (p := [(!r14.2.2) = false,(!r14.2.2) = false,(!r14.2.2) = false,Fn Tryz.prog 72 [(false, E3 a2), (false, E9 r14.2.1)] (E4 r15) [],(true || ((E4 r15).nv && nvL [])) = true,(!r14.2.2) = false,(!r14.2.2) = false,(!r15) = false]) (by kernel_rfl) (cj (nf h23) (cj (nf h23) (cj (nf h23) (cj (impl_FieldOk_ok a2 r14.2.1 r15 h24) (cj rfl (cj (nf h23) (cj (nf h23) (cj1 (nf h25))))))))))) (fun h25 =>
   Pn.some (JnO.of [bF, bF, bF, .call [] (E4 r15) [], bF, bF, bT, .wait 3, .mask [6, 7, 8], .ren []] (p := [(!r14.2.2) = false,(!r14.2.2) = false,(!r14.2.2) = false,Fn Tryz.prog 72 [(false, E3 a2), (false, E9 r14.2.1)] (E4 r15) [],(true || ((E4 r15).nv && nvL [])) = true,(!r14.2.2) = false,(!r14.2.2) = false,(!r15) = true]) (by kernel_rfl) (cj (nf h23) (cj (nf h23) (cj (nf h23) (cj (impl_FieldOk_ok a2 r14.2.1 r15 h24) (cj rfl (cj (nf h23) (cj (nf h23) (cj1 (nt h25))))))))))))) (fun h23 =>
   Pn.some (JnO.of [bT, bT, bT, bT, bT, bT, .wait 3, .mask [6, 7, 8], .ren []] (p := [(!r14.2.2) = true,(!r14.2.2) = true,(!r14.2.2) = true,(!r14.2.2) = true,(!r14.2.2) = true,true = true]) (by kernel_rfl) (cj (nt h23) (cj (nt h23) (cj (nt h23) (cj (nt h23) (cj (nt h23) (cj1 rfl))))))))
def impl_GetField (o : List Int) (o_ : Int) (a2 : Int) : Option (ByteArray × Int × Bool) :=
 (impl_FieldSize a2).bind fun r1 =>
 (impl_FieldKind a2).bind fun r2 =>
 (impl_GetField_c0 o o_ a2 r1 r2).bind fun r9 =>
 (impl_GetField_c1 o a2 r2 r9).bind fun r10 =>
 Lo.elim r10 (fun s1 =>
 (impl_GetField_c2 o a2 r2 r9).bind fun r14 =>
 (impl_GetField_c3 a2 r14).bind fun r16 =>
 Lo.elim r16 (fun s3 =>
 some (r14.2.1, r14.1, true)) (fun s4 =>
 some (bs [], 0, false))) (fun s2 =>
 some (bs [], 0, false))
theorem impl_GetField_ok (o : List Int) (o_ : Int) (a2 : Int) : Pn (fun y => Fn Tryz.prog 40 [(false, E31 o), (false, E3 o_), (false, E3 a2)] (V.tup [E9 y.1, E3 y.2.1, E4 y.2.2]) []) (impl_GetField o o_ a2) := by
  unfold impl_GetField
  exact
   Pn.bind (fun r1 h1 =>
   Pn.bind (fun r2 h2 =>
   Pn.bind (fun r9 h12 =>
   Pn.bind (fun r10 h14 =>
   Pn.lo (fun s1 h15 =>
   Pn.bind (fun r14 h22 =>
   Pn.bind (fun r16 h26 =>
   Pn.lo (fun s3 h27 =>
   Pn.some (Fn.of [.call [] (E3 r1) [], .call [] (E3 r2) [], .wait 5, .mask [0, 1, 2, 9, 11, 12], .ren [], .join 5 (X.go) (st 75 [(0, lF5 o), (1, vI r9.1), (2, vI a2), (9, vI r9.2.1), (11, vI r2), (12, vB r9.2.2)] [] []), .wait 1, .mask [0, 1, 2, 9, 11, 12], .ren [], .join 7 (X.go) (st 75 [(0, lF5 o), (1, vI r9.1), (2, vI a2), (9, vI r9.2.1), (11, vI r2)] [] []), .wait 1, .mask [0, 1, 2, 9, 11], .ren [], .join 9 (X.go) (st 75 [(1, vI r14.1), (2, vI a2), (10, vS r14.2.1), (12, vB r14.2.2)] [] []), .wait 1, .mask [1, 2, 10, 12], .ren [], .join 7 (X.go) (st 75 [(1, vI r14.1), (10, vS r14.2.1)] [] [])] (p := [Fn Tryz.prog 69 [(false, E3 a2)] (E3 r1) [],(true || ((E3 r1).nv && nvL [])) = true,Fn Tryz.prog 39 [(false, E3 a2)] (E3 r2) [],(true || ((E3 r2).nv && nvL [])) = true,HT Tryz.prog (sub (codeOf Tryz.prog 40) [1, 1, 0]) (st 75 [(0, lF5 o), (1, vI o_), (2, vI a2), (9, vI r1), (11, vI r2), (12, vB true)] [] []) (X.go) (st 75 [(0, lF5 o), (1, vI r9.1), (2, vI a2), (9, vI r9.2.1), (11, vI r2), (12, vB r9.2.2)] [] []),HT Tryz.prog (sub (codeOf Tryz.prog 40) [1, 1, 1, 0]) (st 75 [(0, lF5 o), (1, vI r9.1), (2, vI a2), (9, vI r9.2.1), (11, vI r2), (12, vB r9.2.2)] [] []) (X.go) (st 75 [(0, lF5 o), (1, vI r9.1), (2, vI a2), (9, vI r9.2.1), (11, vI r2)] [] []),HT Tryz.prog (sub (codeOf Tryz.prog 40) [1, 1, 1, 1, 0]) (st 75 [(0, lF5 o), (1, vI r9.1), (2, vI a2), (9, vI r9.2.1), (11, vI r2)] [] []) (X.go) (st 75 [(1, vI r14.1), (2, vI a2), (10, vS r14.2.1), (12, vB r14.2.2)] [] []),HT Tryz.prog (sub (codeOf Tryz.prog 40) [1, 1, 1, 1, 1, 0]) (st 75 [(1, vI r14.1), (2, vI a2), (10, vS r14.2.1), (12, vB r14.2.2)] [] []) (X.go) (st 75 [(1, vI r14.1), (10, vS r14.2.1)] [] [])]) (by kernel_rfl) (cj (impl_FieldSize_ok a2 r1 h1) (cj rfl (cj (impl_FieldKind_ok a2 r2 h2) (cj rfl (cj (impl_GetField_c0_ok o o_ a2 r1 r2 r9 h12) (cj ((impl_GetField_c1_ok o a2 r2 r9 r10 h14).at h15 :) (cj (impl_GetField_c2_ok o a2 r2 r9 r14 h22) (cj1 ((impl_GetField_c3_ok a2 r14 r16 h26).at h27 :))))))))))) (fun s4 h28 =>
   Pn.some (Fn.of [.call [] (E3 r1) [], .call [] (E3 r2) [], .wait 5, .mask [0, 1, 2, 9, 11, 12], .ren [], .join 5 (X.go) (st 75 [(0, lF5 o), (1, vI r9.1), (2, vI a2), (9, vI r9.2.1), (11, vI r2), (12, vB r9.2.2)] [] []), .wait 1, .mask [0, 1, 2, 9, 11, 12], .ren [], .join 7 (X.go) (st 75 [(0, lF5 o), (1, vI r9.1), (2, vI a2), (9, vI r9.2.1), (11, vI r2)] [] []), .wait 1, .mask [0, 1, 2, 9, 11], .ren [], .join 9 (X.go) (st 75 [(1, vI r14.1), (2, vI a2), (10, vS r14.2.1), (12, vB r14.2.2)] [] []), .wait 1, .mask [1, 2, 10, 12], .ren [], .join 7 (X.ret) (st 75 [(6, vS (bs [])), (7, vI 0), (8, vB false)] [] [])] (p := [Fn Tryz.prog 69 [(false, E3 a2)] (E3 r1) [],(true || ((E3 r1).nv && nvL [])) = true,Fn Tryz.prog 39 [(false, E3 a2)] (E3 r2) [],(true || ((E3 r2).nv && nvL [])) = true,HT Tryz.prog (sub (codeOf Tryz.prog 40) [1, 1, 0]) (st 75 [(0, lF5 o), (1, vI o_), (2, vI a2), (9, vI r1), (11, vI r2), (12, vB true)] [] []) (X.go) (st 75 [(0, lF5 o), (1, vI r9.1), (2, vI a2), (9, vI r9.2.1), (11, vI r2), (12, vB r9.2.2)] [] []),HT Tryz.prog (sub (codeOf Tryz.prog 40) [1, 1, 1, 0]) (st 75 [(0, lF5 o), (1, vI r9.1), (2, vI a2), (9, vI r9.2.1), (11, vI r2), (12, vB r9.2.2)] [] []) (X.go) (st 75 [(0, lF5 o), (1, vI r9.1), (2, vI a2), (9, vI r9.2.1), (11, vI r2)] [] []),HT Tryz.prog (sub (codeOf Tryz.prog 40) [1, 1, 1, 1, 0]) (st 75 [(0, lF5 o), (1, vI r9.1), (2, vI a2), (9, vI r9.2.1), (11, vI r2)] [] []) (X.go) (st 75 [(1, vI r14.1), (2, vI a2), (10, vS r14.2.1), (12, vB r14.2.2)] [] []),HT Tryz.prog (sub (codeOf Tryz.prog 40) [1, 1, 1, 1, 1, 0]) (st 75 [(1, vI r14.1), (2, vI a2), (10, vS r14.2.1), (12, vB r14.2.2)] [] []) (X.ret) (st 75 [(6, vS (bs [])), (7, vI 0), (8, vB false)] [] [])]) (by kernel_rfl) (cj (impl_FieldSize_ok a2 r1 h1) (cj rfl (cj (impl_FieldKind_ok a2 r2 h2) (cj rfl (cj (impl_GetField_c0_ok o o_ a2 r1 r2 r9 h12) (cj ((impl_GetField_c1_ok o a2 r2 r9 r10 h14).at h15 :) (cj (impl_GetField_c2_ok o a2 r2 r9 r14 h22) (cj1 ((impl_GetField_c3_ok a2 r14 r16 h26).at h28 :)))))))))))))) (fun s2 h16 =>
   Pn.some (Fn.of [.call [] (E3 r1) [], .call [] (E3 r2) [], .wait 5, .mask [0, 1, 2, 9, 11, 12], .ren [], .join 5 (X.go) (st 75 [(0, lF5 o), (1, vI r9.1), (2, vI a2), (9, vI r9.2.1), (11, vI r2), (12, vB r9.2.2)] [] []), .wait 1, .mask [0, 1, 2, 9, 11, 12], .ren [], .join 7 (X.ret) (st 75 [(6, vS (bs [])), (7, vI 0), (8, vB false)] [] [])] (p := [Fn Tryz.prog 69 [(false, E3 a2)] (E3 r1) [],(true || ((E3 r1).nv && nvL [])) = true,Fn Tryz.prog 39 [(false, E3 a2)] (E3 r2) [],(true || ((E3 r2).nv && nvL [])) = true,HT Tryz.prog (sub (codeOf Tryz.prog 40) [1, 1, 0]) (st 75 [(0, lF5 o), (1, vI o_), (2, vI a2), (9, vI r1), (11, vI r2), (12, vB true)] [] []) (X.go) (st 75 [(0, lF5 o), (1, vI r9.1), (2, vI a2), (9, vI r9.2.1), (11, vI r2), (12, vB r9.2.2)] [] []),HT Tryz.prog (sub (codeOf Tryz.prog 40) [1, 1, 1, 0]) (st 75 [(0, lF5 o), (1, vI r9.1), (2, vI a2), (9, vI r9.2.1), (11, vI r2), (12, vB r9.2.2)] [] []) (X.ret) (st 75 [(6, vS (bs [])), (7, vI 0), (8, vB false)] [] [])]) (by kernel_rfl) (cj (impl_FieldSize_ok a2 r1 h1) (cj rfl (cj (impl_FieldKind_ok a2 r2 h2) (cj rfl (cj (impl_GetField_c0_ok o o_ a2 r1 r2 r9 h12) (cj1 ((impl_GetField_c1_ok o a2 r2 r9 r10 h14).at h16 :)))))))))))))
end Go.Proofs.YtniadckjgaldnaaGreatDoorM
