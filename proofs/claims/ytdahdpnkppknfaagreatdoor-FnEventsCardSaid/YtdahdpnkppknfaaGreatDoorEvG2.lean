/- Printed by gen.py: functions on plain data, and that the program computes them. No condition. -/
import Derived.Test.YtdahdpnkppknfaaGreatDoorEvG1
namespace Go.Proofs.YtdahdpnkppknfaaGreatDoorM
set_option linter.unusedVariables false
set_option linter.unusedSimpArgs false
open Go.RowKit
set_option maxRecDepth 100000

def spec_WithField_l0 (o : Msg) (o_ : Int) (a2 : ByteArray) : List Field → Bool → (List Field) → Option (Bool × (List Field))
  | [], v1, v2 =>
   some (v1, v2)
  | x1 :: t1, v1, v2 =>
   if v1 = true then
   if (x1.No != o_) = true then
   if (capOk (v2.length + 1)) = true then
   spec_WithField_l0 o o_ a2 t1 v1 (v2 ++ [x1])
   else none
   else
   spec_WithField_l0 o o_ a2 t1 v1 v2
   else
   if (decide (o_ ≤ x1.No)) = true then
   if (capOk (v2.length + 1)) = true then
   if (x1.No != o_) = true then
   if (capOk ((v2 ++ [(Field.mk o_ a2)]).length + 1)) = true then
   spec_WithField_l0 o o_ a2 t1 true ((v2 ++ [(Field.mk o_ a2)]) ++ [x1])
   else none
   else
   spec_WithField_l0 o o_ a2 t1 true (v2 ++ [(Field.mk o_ a2)])
   else none
   else
   if (x1.No != o_) = true then
   if (capOk (v2.length + 1)) = true then
   spec_WithField_l0 o o_ a2 t1 v1 (v2 ++ [x1])
   else none
   else
   spec_WithField_l0 o o_ a2 t1 v1 v2
theorem spec_WithField_l0_ok (o : Msg) (o_ : Int) (a2 : ByteArray) (h6 : capOk o.List.length = true) : ∀ (t1 p1 : List Field) (_ : o.List = p1 ++ t1) (v1 : Bool) (v2 : List Field), Pn (LpO Tryz.prog (sub (codeOf Tryz.prog 41) [1, 1, 1, 1, 0, 1, 0, 0]) (st 70 [(1, vI o_), (2, vS a2), (6, V.ptr 0 0), (8, V.ptr 1 0), (9, vB v1), (26, lF115 o.List), (27, vI (o.List.length : Int)), (28, vI (p1.length : Int))] [Blk.box 83 [vE, V.nl 115], Blk.box 83 [vS o.Mti, V.ow 2], Blk.row 115 (List.map E115 v2) []] []) (fun (y : Bool × (List Field)) => (X.out 0, st 70 [(1, vI o_), (2, vS a2), (6, V.ptr 0 0), (8, V.ptr 1 0), (9, vB y.1)] [Blk.box 83 [vE, V.nl 115], Blk.box 83 [vS o.Mti, V.ow 2], Blk.row 115 (List.map E115 y.2) []] []))) (spec_WithField_l0 o o_ a2 t1 v1 v2)
  | [], p1, h5, v1, v2 => by
    unfold spec_WithField_l0
    exact
     Pn.some (LpO.out [bF, .mask [1, 2, 6, 8, 9], .ren [0, 1, 2]] (by kernel_rfl) (show X.out 0 ≠ X.go from nofun) (cj1 (rng_end h5 : (decide ((p1.length : Int) < (o.List.length : Int))) = false)))
  | x1 :: t1, p1, h5, v1, v2 => by
    unfold spec_WithField_l0
    exact
     Pn.ite (fun h7 =>
     Pn.ite (fun h8 =>
     Pn.ite (fun h9 =>
     LpO.go [bT, .el (E115 x1), bF, bF, bF, bF, bF, bF, bT, .cp [V.agg [vI x1.No, vS x1.Text]], .nb 5 (.row 115 (List.map E115 (v2 ++ [x1])) []), .wait 5, .mask [1, 2, 6, 8, 9, 26, 27, 28], .ren [0, 1, 5], .nm 28 (vI ((p1 ++ [x1]).length : Int))] (by kernel_rfl) (cj (rng_lt h5 : (decide ((p1.length : Int) < (o.List.length : Int))) = true) (cj (by omega : (0 : Int) ≤ (p1.length : Int)) (cj (rng_get _ h5 : (List.map E115 o.List)[(p1.length : Int).toNat]? = some (E115 x1)) (cj (nf h7) (cj (nf h7) (cj (nf h7) (cj (nf h7) (cj (nf h7) (cj ff (cj h8 (cj (rfl : [V.agg [vI x1.No, vS x1.Text]] = [V.agg [vI x1.No, vS x1.Text]]) (cj (rfl : [V.agg [vI x1.No, vS x1.Text]].all V.flatE = true) (cj (cap1 (capN (by simp) h9) : (List.map E115 v2).length + [V.agg [vI x1.No, vS x1.Text]].length ≤ 9223372036854775807) (cj (cap2 (capN (by simp) h9) (by decide) : ((List.map E115 v2).length + [V.agg [vI x1.No, vS x1.Text]].length) * 24 ≤ 140737488355328) (cj (nb_app E115 v2 [x1] : Blk.row 115 ((List.map E115 v2) ++ [V.agg [vI x1.No, vS x1.Text]]) [] = Blk.row 115 (List.map E115 (v2 ++ [x1])) []) (cj1 (rng_next h5 h6 : vI (i64 ((p1.length : Int) + 1)) = vI ((p1 ++ [x1]).length : Int)))))))))))))))))) (spec_WithField_l0_ok o o_ a2 h6 t1 (p1 ++ [x1]) (rng_step h5) v1 (v2 ++ [x1]))) (fun h9 =>
     Pn.none)) (fun h8 =>
     LpO.go [bT, .el (E115 x1), bF, bF, bF, bF, bF, bF, bF, .wait 2, .mask [1, 2, 6, 8, 9, 26, 27, 28], .ren [0, 1, 2], .nm 28 (vI ((p1 ++ [x1]).length : Int))] (by kernel_rfl) (cj (rng_lt h5 : (decide ((p1.length : Int) < (o.List.length : Int))) = true) (cj (by omega : (0 : Int) ≤ (p1.length : Int)) (cj (rng_get _ h5 : (List.map E115 o.List)[(p1.length : Int).toNat]? = some (E115 x1)) (cj (nf h7) (cj (nf h7) (cj (nf h7) (cj (nf h7) (cj (nf h7) (cj ff (cj h8 (cj1 (rng_next h5 h6 : vI (i64 ((p1.length : Int) + 1)) = vI ((p1 ++ [x1]).length : Int))))))))))))) (spec_WithField_l0_ok o o_ a2 h6 t1 (p1 ++ [x1]) (rng_step h5) v1 v2))) (fun h7 =>
     Pn.ite (fun h10 =>
     Pn.ite (fun h11 =>
     Pn.ite (fun h12 =>
     Pn.ite (fun h13 =>
     LpO.go [bT, .el (E115 x1), bT, bT, bT, bT, bT, bT, .cp [V.agg [vI o_, vS a2]], .nb 5 (.row 115 (List.map E115 (v2 ++ [(Field.mk o_ a2)])) []), bT, .cp [V.agg [vI x1.No, vS x1.Text]], .nb 7 (.row 115 (List.map E115 ((v2 ++ [(Field.mk o_ a2)]) ++ [x1])) []), .wait 5, .mask [1, 2, 6, 8, 9, 26, 27, 28], .ren [0, 1, 7], .nm 28 (vI ((p1 ++ [x1]).length : Int))] (by kernel_rfl) (cj (rng_lt h5 : (decide ((p1.length : Int) < (o.List.length : Int))) = true) (cj (by omega : (0 : Int) ≤ (p1.length : Int)) (cj (rng_get _ h5 : (List.map E115 o.List)[(p1.length : Int).toNat]? = some (E115 x1)) (cj (nt h7) (cj (nt h7) (cj (nt h7) (cj (nt h7) (cj (nt h7) (cj h10 (cj (rfl : [V.agg [vI o_, vS a2]] = [V.agg [vI o_, vS a2]]) (cj (rfl : [V.agg [vI o_, vS a2]].all V.flatE = true) (cj (cap1 (capN (by simp) h11) : (List.map E115 v2).length + [V.agg [vI o_, vS a2]].length ≤ 9223372036854775807) (cj (cap2 (capN (by simp) h11) (by decide) : ((List.map E115 v2).length + [V.agg [vI o_, vS a2]].length) * 24 ≤ 140737488355328) (cj (nb_app E115 v2 [(Field.mk o_ a2)] : Blk.row 115 ((List.map E115 v2) ++ [V.agg [vI o_, vS a2]]) [] = Blk.row 115 (List.map E115 (v2 ++ [(Field.mk o_ a2)])) []) (cj h12 (cj (rfl : [V.agg [vI x1.No, vS x1.Text]] = [V.agg [vI x1.No, vS x1.Text]]) (cj (rfl : [V.agg [vI x1.No, vS x1.Text]].all V.flatE = true) (cj (cap1 (capN (by simp) h13) : (List.map E115 (v2 ++ [(Field.mk o_ a2)])).length + [V.agg [vI x1.No, vS x1.Text]].length ≤ 9223372036854775807) (cj (cap2 (capN (by simp) h13) (by decide) : ((List.map E115 (v2 ++ [(Field.mk o_ a2)])).length + [V.agg [vI x1.No, vS x1.Text]].length) * 24 ≤ 140737488355328) (cj (nb_app E115 (v2 ++ [(Field.mk o_ a2)]) [x1] : Blk.row 115 ((List.map E115 (v2 ++ [(Field.mk o_ a2)])) ++ [V.agg [vI x1.No, vS x1.Text]]) [] = Blk.row 115 (List.map E115 ((v2 ++ [(Field.mk o_ a2)]) ++ [x1])) []) (cj1 (rng_next h5 h6 : vI (i64 ((p1.length : Int) + 1)) = vI ((p1 ++ [x1]).length : Int))))))))))))))))))))))) (spec_WithField_l0_ok o o_ a2 h6 t1 (p1 ++ [x1]) (rng_step h5) true ((v2 ++ [(Field.mk o_ a2)]) ++ [x1]))) (fun h13 =>
     Pn.none)) (fun h12 =>
     LpO.go [bT, .el (E115 x1), bT, bT, bT, bT, bT, bT, .cp [V.agg [vI o_, vS a2]], .nb 5 (.row 115 (List.map E115 (v2 ++ [(Field.mk o_ a2)])) []), bF, .wait 2, .mask [1, 2, 6, 8, 9, 26, 27, 28], .ren [0, 1, 5], .nm 28 (vI ((p1 ++ [x1]).length : Int))] (by kernel_rfl) (cj (rng_lt h5 : (decide ((p1.length : Int) < (o.List.length : Int))) = true) (cj (by omega : (0 : Int) ≤ (p1.length : Int)) (cj (rng_get _ h5 : (List.map E115 o.List)[(p1.length : Int).toNat]? = some (E115 x1)) (cj (nt h7) (cj (nt h7) (cj (nt h7) (cj (nt h7) (cj (nt h7) (cj h10 (cj (rfl : [V.agg [vI o_, vS a2]] = [V.agg [vI o_, vS a2]]) (cj (rfl : [V.agg [vI o_, vS a2]].all V.flatE = true) (cj (cap1 (capN (by simp) h11) : (List.map E115 v2).length + [V.agg [vI o_, vS a2]].length ≤ 9223372036854775807) (cj (cap2 (capN (by simp) h11) (by decide) : ((List.map E115 v2).length + [V.agg [vI o_, vS a2]].length) * 24 ≤ 140737488355328) (cj (nb_app E115 v2 [(Field.mk o_ a2)] : Blk.row 115 ((List.map E115 v2) ++ [V.agg [vI o_, vS a2]]) [] = Blk.row 115 (List.map E115 (v2 ++ [(Field.mk o_ a2)])) []) (cj h12 (cj1 (rng_next h5 h6 : vI (i64 ((p1.length : Int) + 1)) = vI ((p1 ++ [x1]).length : Int)))))))))))))))))) (spec_WithField_l0_ok o o_ a2 h6 t1 (p1 ++ [x1]) (rng_step h5) true (v2 ++ [(Field.mk o_ a2)])))) (fun h11 =>
     Pn.none)) (fun h10 =>
     Pn.ite (fun h14 =>
     Pn.ite (fun h15 =>
     LpO.go [bT, .el (E115 x1), bT, bT, bT, bT, bT, bF, bT, .cp [V.agg [vI x1.No, vS x1.Text]], .nb 5 (.row 115 (List.map E115 (v2 ++ [x1])) []), .wait 5, .mask [1, 2, 6, 8, 9, 26, 27, 28], .ren [0, 1, 5], .nm 28 (vI ((p1 ++ [x1]).length : Int))] (by kernel_rfl) (cj (rng_lt h5 : (decide ((p1.length : Int) < (o.List.length : Int))) = true) (cj (by omega : (0 : Int) ≤ (p1.length : Int)) (cj (rng_get _ h5 : (List.map E115 o.List)[(p1.length : Int).toNat]? = some (E115 x1)) (cj (nt h7) (cj (nt h7) (cj (nt h7) (cj (nt h7) (cj (nt h7) (cj h10 (cj h14 (cj (rfl : [V.agg [vI x1.No, vS x1.Text]] = [V.agg [vI x1.No, vS x1.Text]]) (cj (rfl : [V.agg [vI x1.No, vS x1.Text]].all V.flatE = true) (cj (cap1 (capN (by simp) h15) : (List.map E115 v2).length + [V.agg [vI x1.No, vS x1.Text]].length ≤ 9223372036854775807) (cj (cap2 (capN (by simp) h15) (by decide) : ((List.map E115 v2).length + [V.agg [vI x1.No, vS x1.Text]].length) * 24 ≤ 140737488355328) (cj (nb_app E115 v2 [x1] : Blk.row 115 ((List.map E115 v2) ++ [V.agg [vI x1.No, vS x1.Text]]) [] = Blk.row 115 (List.map E115 (v2 ++ [x1])) []) (cj1 (rng_next h5 h6 : vI (i64 ((p1.length : Int) + 1)) = vI ((p1 ++ [x1]).length : Int)))))))))))))))))) (spec_WithField_l0_ok o o_ a2 h6 t1 (p1 ++ [x1]) (rng_step h5) v1 (v2 ++ [x1]))) (fun h15 =>
     Pn.none)) (fun h14 =>
     LpO.go [bT, .el (E115 x1), bT, bT, bT, bT, bT, bF, bF, .wait 2, .mask [1, 2, 6, 8, 9, 26, 27, 28], .ren [0, 1, 2], .nm 28 (vI ((p1 ++ [x1]).length : Int))] (by kernel_rfl) (cj (rng_lt h5 : (decide ((p1.length : Int) < (o.List.length : Int))) = true) (cj (by omega : (0 : Int) ≤ (p1.length : Int)) (cj (rng_get _ h5 : (List.map E115 o.List)[(p1.length : Int).toNat]? = some (E115 x1)) (cj (nt h7) (cj (nt h7) (cj (nt h7) (cj (nt h7) (cj (nt h7) (cj h10 (cj h14 (cj1 (rng_next h5 h6 : vI (i64 ((p1.length : Int) + 1)) = vI ((p1 ++ [x1]).length : Int))))))))))))) (spec_WithField_l0_ok o o_ a2 h6 t1 (p1 ++ [x1]) (rng_step h5) v1 v2))))
def spec_WithField (o : Msg) (o_ : Int) (a2 : ByteArray) : Option (Msg × Bool) :=
 (spec_MsgOk o).bind fun r1 =>
 if r1 = true then
 (spec_FieldOk o_ a2).bind fun r2 =>
 if r2 = true then
 if (capOk o.List.length) = true then
 (spec_WithField_l0 o o_ a2 o.List false []).bind fun r3 =>
 if r3.1 = true then
 some ((Msg.mk o.Mti r3.2), true)
 else
 if (capOk (r3.2.length + 1)) = true then
 some ((Msg.mk o.Mti (r3.2 ++ [(Field.mk o_ a2)])), true)
 else none
 else none
 else
 some ((Msg.mk ByteArray.empty []), false)
 else
 some ((Msg.mk ByteArray.empty []), false)
theorem spec_WithField_ok (o : Msg) (o_ : Int) (a2 : ByteArray) : Pn (fun y => Fn Tryz.prog 41 [(false, E83 o), (false, E3 o_), (false, E9 a2)] (V.tup [E83 y.1, E4 y.2]) []) (spec_WithField o o_ a2) := by
  unfold spec_WithField
  exact
   Pn.bind (fun r1 h1 =>
   Pn.ite (fun h2 =>
   Pn.bind (fun r2 h3 =>
   Pn.ite (fun h4 =>
   Pn.ite (fun h16 =>
   Pn.bind (fun r3 h17 =>
   Pn.ite (fun h18 =>
   Pn.some (Fn.of [.call [] (E4 r1) [], bF, bF, bF, .call [] (E4 r2) [], bF, bF, bF, .wait 8, .nm 27 (vI (o.List.length : Int)), .wait 2, .mask [1, 2, 6, 8, 9, 26, 27, 28], .ren [1, 2], .ownb 1 1, .mask [1, 2, 6, 8, 9, 26, 27, 28], .ren [0, 1, 2], .loop (X.out 0) (st 70 [(1, vI o_), (2, vS a2), (6, V.ptr 0 0), (8, V.ptr 1 0), (9, vB r3.1)] [Blk.box 83 [vE, V.nl 115], Blk.box 83 [vS o.Mti, V.ow 2], Blk.row 115 (List.map E115 r3.2) []] []), bF] (by kernel_rfl) (cj (spec_MsgOk_ok o r1 h1) (cj tt (cj (nf h2) (cj (nf h2) (cj (nf h2) (cj (spec_FieldOk_ok o_ a2 r2 h3) (cj tt (cj (nf h2) (cj (nf h2) (cj (nf h4) (cj (len_nm E115 o.List) (cj (spec_WithField_l0_ok o o_ a2 h16 o.List [] rfl false [] r3 h17) (cj1 (nf h18)))))))))))))))) (fun h18 =>
   Pn.ite (fun h19 =>
   Pn.some (Fn.of [.call [] (E4 r1) [], bF, bF, bF, .call [] (E4 r2) [], bF, bF, bF, .wait 8, .nm 27 (vI (o.List.length : Int)), .wait 2, .mask [1, 2, 6, 8, 9, 26, 27, 28], .ren [1, 2], .ownb 1 1, .mask [1, 2, 6, 8, 9, 26, 27, 28], .ren [0, 1, 2], .loop (X.out 0) (st 70 [(1, vI o_), (2, vS a2), (6, V.ptr 0 0), (8, V.ptr 1 0), (9, vB r3.1)] [Blk.box 83 [vE, V.nl 115], Blk.box 83 [vS o.Mti, V.ow 2], Blk.row 115 (List.map E115 r3.2) []] []), bT, .cp [V.agg [vI o_, vS a2]], .nb 4 (.row 115 (List.map E115 (r3.2 ++ [(Field.mk o_ a2)])) [])] (by kernel_rfl) (cj (spec_MsgOk_ok o r1 h1) (cj tt (cj (nf h2) (cj (nf h2) (cj (nf h2) (cj (spec_FieldOk_ok o_ a2 r2 h3) (cj tt (cj (nf h2) (cj (nf h2) (cj (nf h4) (cj (len_nm E115 o.List) (cj (spec_WithField_l0_ok o o_ a2 h16 o.List [] rfl false [] r3 h17) (cj (nt h18) (cj (rfl : [V.agg [vI o_, vS a2]] = [V.agg [vI o_, vS a2]]) (cj (rfl : [V.agg [vI o_, vS a2]].all V.flatE = true) (cj (cap1 (capN (by simp) h19) : (List.map E115 r3.2).length + [V.agg [vI o_, vS a2]].length ≤ 9223372036854775807) (cj (cap2 (capN (by simp) h19) (by decide) : ((List.map E115 r3.2).length + [V.agg [vI o_, vS a2]].length) * 24 ≤ 140737488355328) (cj1 (nb_app E115 r3.2 [(Field.mk o_ a2)] : Blk.row 115 ((List.map E115 r3.2) ++ [V.agg [vI o_, vS a2]]) [] = Blk.row 115 (List.map E115 (r3.2 ++ [(Field.mk o_ a2)])) []))))))))))))))))))))) (fun h19 =>
   Pn.none)))) (fun h16 =>
   Pn.none)) (fun h4 =>
   Pn.some (Fn.of [.call [] (E4 r1) [], bF, bF, bF, .call [] (E4 r2) [], bF, bF, bT] (by kernel_rfl) (cj (spec_MsgOk_ok o r1 h1) (cj tt (cj (nf h2) (cj (nf h2) (cj (nf h2) (cj (spec_FieldOk_ok o_ a2 r2 h3) (cj tt (cj (nf h2) (cj (nf h2) (cj1 (nt h4))))))))))))))) (fun h2 =>
   Pn.some (Fn.of [.call [] (E4 r1) [], bT, bT, bT, bT, bT, bT] (by kernel_rfl) (cj (spec_MsgOk_ok o r1 h1) (cj tt (cj (nt h2) (cj (nt h2) (cj (nt h2) (cj (nt h2) (cj (nt h2) (cj1 (rfl : true = true))))))))))))
def spec_l11Codes  : Option ((List ByteArray)) :=
 some [bs [], bs [48, 48], bs [48, 50], bs [48, 49], bs [48, 48], bs [50, 48], bs [52, 48], bs [51, 49], bs [57, 48]]
theorem spec_l11Codes_ok  : Pn (fun y => Fn Tryz.prog 105 [] (E39 y) []) (spec_l11Codes) := by
  unfold spec_l11Codes
  exact
   Pn.some (Fn.of [] (p := []) (by kernel_rfl) trivial)
def spec_OpCode (op : Int) : Option (ByteArray) :=
 (spec_l11Op op).bind fun r1 =>
 if r1 = true then
 (spec_l11Codes).bind fun r2 =>
 if (decide (0 ≤ op)) = true then
 (r2[op.toNat]?).bind fun x1 =>
 some x1
 else none
 else
 some (bs [])
theorem spec_OpCode_ok (op : Int) : Pn (fun y => Fn Tryz.prog 67 [(false, E3 op)] (E9 y) []) (spec_OpCode op) := by
  unfold spec_OpCode
  exact
   Pn.bind (fun r1 h1 =>
   Pn.ite (fun h2 =>
   Pn.bind (fun r2 h3 =>
   Pn.ite (fun h4 =>
   Pn.bind (fun x1 h5 =>
   Pn.some (Fn.of [.call [] (E4 r1) [], bF, .call [] (E39 r2) [], .el (E9 x1)] (by kernel_rfl) (cj (spec_l11Op_ok op r1 h1) (cj tt (cj (nf h2) (cj (spec_l11Codes_ok  r2 h3) (cj tt (cj (od h4) (cj (map_ltN (od h4) h5 : (op : Int) < ((List.map E9 r2).length : Int)) (cj (rfl : look [] op.toNat = none) (cj1 (map_get h5 : (List.map E9 r2)[op.toNat]? = some (E9 x1)))))))))))))) (fun h4 =>
   Pn.none))) (fun h2 =>
   Pn.some (Fn.of [.call [] (E4 r1) [], bT] (by kernel_rfl) (cj (spec_l11Op_ok op r1 h1) (cj tt (cj1 (nt h2)))))))
def spec_FieldFit_l0 (no : Int) : Nat → ByteArray → Option (ByteArray)
  | 0, _ => none
  | fuel + 1, v1 =>
   (spec_FieldSize no).bind fun r1 =>
   if (decide ((v1.size : Int) < r1)) = true then
   (spec_FieldKind no).bind fun r2 =>
   if (r2 == 1) = true then
   if (decide ((bs [48]).size + v1.size ≤ 9223372036854775807)) = true then
   spec_FieldFit_l0 no fuel ((bs [48]) ++ v1)
   else none
   else
   some v1
   else
   some v1
theorem spec_FieldFit_l0_ok (no : Int) : ∀ (fuel : Nat) (v1 : ByteArray), Pn (LpO Tryz.prog (sub (codeOf Tryz.prog 69) [1, 0, 0, 0]) (st 34 [(0, vI no), (1, vS v1)] [] []) (fun (y : ByteArray) => (X.out 0, st 34 [(0, vI no), (1, vS y)] [] []))) (spec_FieldFit_l0 no fuel v1)
  | 0, _ => Pn.none
  | fuel + 1, v1 => by
    unfold spec_FieldFit_l0
    exact
     Pn.bind (fun r1 h1 =>
     Pn.ite (fun h2 =>
     Pn.bind (fun r2 h3 =>
     Pn.ite (fun h4 =>
     Pn.ite (fun h5 =>
     LpO.go [.call [] (E3 r1) [], bT, bT, .call [] (E3 r2) [], bT, bT, bT, .wait 3, .mask [0, 1], .ren []] (by kernel_rfl) (cj (spec_FieldSize_ok no r1 h1) (cj tt (cj h2 (cj h2 (cj (spec_FieldKind_ok no r2 h3) (cj tt (cj h2 (cj h2 (cj h4 (cj1 (od h5))))))))))) (spec_FieldFit_l0_ok no fuel ((bs [48]) ++ v1))) (fun h5 =>
     Pn.none)) (fun h4 =>
     Pn.some (LpO.out [.call [] (E3 r1) [], bT, bT, .call [] (E3 r2) [], bT, bT, bF, .mask [0, 1], .ren []] (by kernel_rfl) (show X.out 0 ≠ X.go from nofun) (cj (spec_FieldSize_ok no r1 h1) (cj tt (cj h2 (cj h2 (cj (spec_FieldKind_ok no r2 h3) (cj tt (cj h2 (cj h2 (cj1 h4))))))))))))) (fun h2 =>
     Pn.some (LpO.out [.call [] (E3 r1) [], bF, bF, bF, bF, bF, .mask [0, 1], .ren []] (by kernel_rfl) (show X.out 0 ≠ X.go from nofun) (cj (spec_FieldSize_ok no r1 h1) (cj tt (cj h2 (cj h2 (cj h2 (cj h2 (cj1 ff))))))))))
def spec_FieldFit_l1 (no : Int) : Nat → ByteArray → Option (ByteArray)
  | 0, _ => none
  | fuel + 1, v2 =>
   (spec_FieldSize no).bind fun r4 =>
   if (decide ((v2.size : Int) < r4)) = true then
   (spec_FieldKind no).bind fun r5 =>
   if (r5 == 2) = true then
   if (decide (v2.size + (bs [32]).size ≤ 9223372036854775807)) = true then
   spec_FieldFit_l1 no fuel (v2 ++ (bs [32]))
   else none
   else
   some v2
   else
   some v2
theorem spec_FieldFit_l1_ok (no : Int) : ∀ (fuel : Nat) (v2 : ByteArray), Pn (LpO Tryz.prog (sub (codeOf Tryz.prog 69) [1, 1, 0, 0, 0]) (st 34 [(0, vI no), (1, vS v2)] [] []) (fun (y : ByteArray) => (X.out 2, st 34 [(0, vI no), (1, vS y)] [] []))) (spec_FieldFit_l1 no fuel v2)
  | 0, _ => Pn.none
  | fuel + 1, v2 => by
    unfold spec_FieldFit_l1
    exact
     Pn.bind (fun r4 h7 =>
     Pn.ite (fun h8 =>
     Pn.bind (fun r5 h9 =>
     Pn.ite (fun h10 =>
     Pn.ite (fun h11 =>
     LpO.go [.call [] (E3 r4) [], bT, bT, .call [] (E3 r5) [], bT, bT, bT, .wait 3, .mask [0, 1], .ren []] (by kernel_rfl) (cj (spec_FieldSize_ok no r4 h7) (cj tt (cj h8 (cj h8 (cj (spec_FieldKind_ok no r5 h9) (cj tt (cj h8 (cj h8 (cj h10 (cj1 (od h11))))))))))) (spec_FieldFit_l1_ok no fuel (v2 ++ (bs [32])))) (fun h11 =>
     Pn.none)) (fun h10 =>
     Pn.some (LpO.out [.call [] (E3 r4) [], bT, bT, .call [] (E3 r5) [], bT, bT, bF, .mask [0, 1], .ren []] (by kernel_rfl) (show X.out 2 ≠ X.go from nofun) (cj (spec_FieldSize_ok no r4 h7) (cj tt (cj h8 (cj h8 (cj (spec_FieldKind_ok no r5 h9) (cj tt (cj h8 (cj h8 (cj1 h10))))))))))))) (fun h8 =>
     Pn.some (LpO.out [.call [] (E3 r4) [], bF, bF, bF, bF, bF, .mask [0, 1], .ren []] (by kernel_rfl) (show X.out 2 ≠ X.go from nofun) (cj (spec_FieldSize_ok no r4 h7) (cj tt (cj h8 (cj h8 (cj h8 (cj h8 (cj1 ff))))))))))
def spec_FieldFit (no : Int) (s_ : ByteArray) : Option (ByteArray) :=
 (spec_FieldFit_l0 no FUEL s_).bind fun r3 =>
 (spec_FieldFit_l1 no FUEL r3).bind fun r6 =>
 (spec_FieldOk no r6).bind fun r7 =>
 if r7 = true then
 some r6
 else
 some (bs [])
theorem spec_FieldFit_ok (no : Int) (s_ : ByteArray) : Pn (fun y => Fn Tryz.prog 69 [(false, E3 no), (false, E9 s_)] (E9 y) []) (spec_FieldFit no s_) := by
  unfold spec_FieldFit
  exact
   Pn.bind (fun r3 h6 =>
   Pn.bind (fun r6 h12 =>
   Pn.bind (fun r7 h13 =>
   Pn.ite (fun h14 =>
   Pn.some (Fn.of [.wait 2, .mask [0, 1], .ren [], .loop (X.out 0) (st 34 [(0, vI no), (1, vS r3)] [] []), .wait 1, .mask [0, 1], .ren [], .loop (X.out 2) (st 34 [(0, vI no), (1, vS r6)] [] []), .call [] (E4 r7) [], bF] (by kernel_rfl) (cj (spec_FieldFit_l0_ok no FUEL s_ r3 h6) (cj (spec_FieldFit_l1_ok no FUEL r3 r6 h12) (cj (spec_FieldOk_ok no r6 r7 h13) (cj tt (cj1 (nf h14)))))))) (fun h14 =>
   Pn.some (Fn.of [.wait 2, .mask [0, 1], .ren [], .loop (X.out 0) (st 34 [(0, vI no), (1, vS r3)] [] []), .wait 1, .mask [0, 1], .ren [], .loop (X.out 2) (st 34 [(0, vI no), (1, vS r6)] [] []), .call [] (E4 r7) [], bT] (by kernel_rfl) (cj (spec_FieldFit_l0_ok no FUEL s_ r3 h6) (cj (spec_FieldFit_l1_ok no FUEL r3 r6 h12) (cj (spec_FieldOk_ok no r6 r7 h13) (cj tt (cj1 (nt h14)))))))))))
def spec_ReqMsg_s1 (o : Req) (r1 : Bool) (r2 : Msg × Bool) (r4 : Msg × Bool) (r3 : ByteArray) : St := st 79 [(0, V.agg [vI o.Op, vS o.Acct, vS o.Other, vS o.Hold, vS o.Trace, vS o.Mti, vI o.Amount, vI o.Ttl]), (1, V.ptr 0 0), (2, V.ptr 1 0), (3, vB false), (4, V.ptr 2 0), (5, V.agg [vI o.Op, vS o.Acct, vS o.Other, vS o.Hold, vS o.Trace, vS o.Mti, vI o.Amount, vI o.Ttl]), (6, vB r1), (7, vB (!r1)), (9, V.ptr 0 5), (10, vS o.Mti), (11, V.agg [vS o.Mti, V.nl 115]), (12, V.tup [V.agg [vS r2.1.Mti, V.ow 4], vB r2.2]), (13, V.agg [vS o.Mti, V.nl 115]), (14, V.ptr 0 1), (15, vS o.Acct), (16, V.tup [V.agg [vS r2.1.Mti, V.ow 4], vB r2.2]), (17, V.agg [vS r2.1.Mti, V.ow 4]), (18, vB r2.2), (19, V.tup [V.agg [vS r4.1.Mti, V.ow 3], vB r4.2]), (20, V.agg [vS r2.1.Mti, V.ow 4]), (21, V.ptr 0 0), (22, vI o.Op), (23, vS r3), (24, vS (r3 ++ (bs [48, 48, 48, 48]))), (25, V.tup [V.agg [vS r4.1.Mti, V.ow 3], vB r4.2]), (26, V.agg [vS r4.1.Mti, V.ow 3]), (27, vB r4.2)] [Blk.box 88 [vI o.Op, vS o.Acct, vS o.Other, vS o.Hold, vS o.Trace, vS o.Mti, vI o.Amount, vI o.Ttl], Blk.box 83 [vE, V.nl 115], Blk.box 83 [vS r4.1.Mti, V.ow 3], Blk.row 115 (List.map E115 r4.1.List) [], Blk.row 115 (List.map E115 r2.1.List) []] []
def spec_ReqMsg_s2 (o : Req) (r1 : Bool) (r2 : Msg × Bool) (r4 : Msg × Bool) (r3 : ByteArray) (r5 : Msg × Bool) (r6 : Bool) (r8 : Msg × Bool) (r7 : ByteArray) : St := st 79 [(0, V.agg [vI o.Op, vS o.Acct, vS o.Other, vS o.Hold, vS o.Trace, vS o.Mti, vI o.Amount, vI o.Ttl]), (1, V.ptr 0 0), (2, V.ptr 1 0), (3, vB false), (4, V.ptr 2 0), (5, V.agg [vI o.Op, vS o.Acct, vS o.Other, vS o.Hold, vS o.Trace, vS o.Mti, vI o.Amount, vI o.Ttl]), (6, vB r1), (7, vB (!r1)), (9, V.ptr 0 5), (10, vS o.Mti), (11, V.agg [vS o.Mti, V.nl 115]), (12, V.tup [V.agg [vS r2.1.Mti, V.ow 4], vB r2.2]), (13, V.agg [vS o.Mti, V.nl 115]), (14, V.ptr 0 1), (15, vS o.Acct), (16, V.tup [V.agg [vS r2.1.Mti, V.ow 4], vB r2.2]), (17, V.agg [vS r2.1.Mti, V.ow 4]), (18, vB r2.2), (19, V.tup [V.agg [vS r4.1.Mti, V.ow 5], vB r4.2]), (20, V.agg [vS r2.1.Mti, V.ow 4]), (21, V.ptr 0 0), (22, vI o.Op), (23, vS r3), (24, vS (r3 ++ (bs [48, 48, 48, 48]))), (25, V.tup [V.agg [vS r4.1.Mti, V.ow 5], vB r4.2]), (26, V.agg [vS r4.1.Mti, V.ow 5]), (27, vB r4.2), (28, V.tup [V.agg [vS r5.1.Mti, V.ow 6], vB r5.2]), (29, V.agg [vS r4.1.Mti, V.ow 5]), (30, V.ptr 0 4), (31, vS o.Trace), (32, V.tup [V.agg [vS r5.1.Mti, V.ow 6], vB r5.2]), (33, V.agg [vS r5.1.Mti, V.ow 6]), (34, vB r5.2), (35, V.ptr 0 0), (36, vI o.Op), (37, vB r6), (38, V.tup [V.agg [vS r8.1.Mti, V.ow 3], vB r8.2]), (39, V.agg [vS r5.1.Mti, V.ow 6]), (40, V.ptr 0 3), (41, vS o.Hold), (42, vS r7), (43, V.tup [V.agg [vS r8.1.Mti, V.ow 3], vB r8.2]), (44, V.agg [vS r8.1.Mti, V.ow 3]), (45, vB r8.2)] [Blk.box 88 [vI o.Op, vS o.Acct, vS o.Other, vS o.Hold, vS o.Trace, vS o.Mti, vI o.Amount, vI o.Ttl], Blk.box 83 [vE, V.nl 115], Blk.box 83 [vS r8.1.Mti, V.ow 3], Blk.row 115 (List.map E115 r8.1.List) [], Blk.row 115 (List.map E115 r2.1.List) [], Blk.row 115 (List.map E115 r4.1.List) [], Blk.row 115 (List.map E115 r5.1.List) []] []
def spec_ReqMsg_s3 (o : Req) (r1 : Bool) (r2 : Msg × Bool) (r4 : Msg × Bool) (r3 : ByteArray) (r5 : Msg × Bool) (r6 : Bool) (r8 : Msg × Bool) (r7 : ByteArray) (r9 : Bool) (r11 : Msg × Bool) (r10 : ByteArray) : St := st 79 [(0, V.agg [vI o.Op, vS o.Acct, vS o.Other, vS o.Hold, vS o.Trace, vS o.Mti, vI o.Amount, vI o.Ttl]), (1, V.ptr 0 0), (2, V.ptr 1 0), (3, vB false), (4, V.ptr 2 0), (5, V.agg [vI o.Op, vS o.Acct, vS o.Other, vS o.Hold, vS o.Trace, vS o.Mti, vI o.Amount, vI o.Ttl]), (6, vB r1), (7, vB (!r1)), (9, V.ptr 0 5), (10, vS o.Mti), (11, V.agg [vS o.Mti, V.nl 115]), (12, V.tup [V.agg [vS r2.1.Mti, V.ow 4], vB r2.2]), (13, V.agg [vS o.Mti, V.nl 115]), (14, V.ptr 0 1), (15, vS o.Acct), (16, V.tup [V.agg [vS r2.1.Mti, V.ow 4], vB r2.2]), (17, V.agg [vS r2.1.Mti, V.ow 4]), (18, vB r2.2), (19, V.tup [V.agg [vS r4.1.Mti, V.ow 5], vB r4.2]), (20, V.agg [vS r2.1.Mti, V.ow 4]), (21, V.ptr 0 0), (22, vI o.Op), (23, vS r3), (24, vS (r3 ++ (bs [48, 48, 48, 48]))), (25, V.tup [V.agg [vS r4.1.Mti, V.ow 5], vB r4.2]), (26, V.agg [vS r4.1.Mti, V.ow 5]), (27, vB r4.2), (28, V.tup [V.agg [vS r5.1.Mti, V.ow 6], vB r5.2]), (29, V.agg [vS r4.1.Mti, V.ow 5]), (30, V.ptr 0 4), (31, vS o.Trace), (32, V.tup [V.agg [vS r5.1.Mti, V.ow 6], vB r5.2]), (33, V.agg [vS r5.1.Mti, V.ow 6]), (34, vB r5.2), (35, V.ptr 0 0), (36, vI o.Op), (37, vB r6), (38, V.tup [V.agg [vS r8.1.Mti, V.ow 7], vB r8.2]), (39, V.agg [vS r5.1.Mti, V.ow 6]), (40, V.ptr 0 3), (41, vS o.Hold), (42, vS r7), (43, V.tup [V.agg [vS r8.1.Mti, V.ow 7], vB r8.2]), (44, V.agg [vS r8.1.Mti, V.ow 7]), (45, vB r8.2), (46, V.ptr 0 0), (47, vI o.Op), (48, vB r9), (49, V.tup [V.agg [vS r11.1.Mti, V.ow 3], vB r11.2]), (50, V.agg [vS r8.1.Mti, V.ow 7]), (51, V.ptr 0 6), (52, vI o.Amount), (53, vS r10), (54, V.tup [V.agg [vS r11.1.Mti, V.ow 3], vB r11.2]), (55, V.agg [vS r11.1.Mti, V.ow 3]), (56, vB r11.2)] [Blk.box 88 [vI o.Op, vS o.Acct, vS o.Other, vS o.Hold, vS o.Trace, vS o.Mti, vI o.Amount, vI o.Ttl], Blk.box 83 [vE, V.nl 115], Blk.box 83 [vS r11.1.Mti, V.ow 3], Blk.row 115 (List.map E115 r11.1.List) [], Blk.row 115 (List.map E115 r2.1.List) [], Blk.row 115 (List.map E115 r4.1.List) [], Blk.row 115 (List.map E115 r5.1.List) [], Blk.row 115 (List.map E115 r8.1.List) []] []
def spec_ReqMsg_s4 (o : Req) (r1 : Bool) (r2 : Msg × Bool) (r4 : Msg × Bool) (r3 : ByteArray) (r5 : Msg × Bool) (r6 : Bool) (r8 : Msg × Bool) (r7 : ByteArray) (r9 : Bool) (r11 : Msg × Bool) (r10 : ByteArray) (r13 : Msg × Bool) (r12 : ByteArray) : St := st 79 [(0, V.agg [vI o.Op, vS o.Acct, vS o.Other, vS o.Hold, vS o.Trace, vS o.Mti, vI o.Amount, vI o.Ttl]), (1, V.ptr 0 0), (2, V.ptr 1 0), (3, vB false), (4, V.ptr 2 0), (5, V.agg [vI o.Op, vS o.Acct, vS o.Other, vS o.Hold, vS o.Trace, vS o.Mti, vI o.Amount, vI o.Ttl]), (6, vB r1), (7, vB (!r1)), (9, V.ptr 0 5), (10, vS o.Mti), (11, V.agg [vS o.Mti, V.nl 115]), (12, V.tup [V.agg [vS r2.1.Mti, V.ow 4], vB r2.2]), (13, V.agg [vS o.Mti, V.nl 115]), (14, V.ptr 0 1), (15, vS o.Acct), (16, V.tup [V.agg [vS r2.1.Mti, V.ow 4], vB r2.2]), (17, V.agg [vS r2.1.Mti, V.ow 4]), (18, vB r2.2), (19, V.tup [V.agg [vS r4.1.Mti, V.ow 5], vB r4.2]), (20, V.agg [vS r2.1.Mti, V.ow 4]), (21, V.ptr 0 0), (22, vI o.Op), (23, vS r3), (24, vS (r3 ++ (bs [48, 48, 48, 48]))), (25, V.tup [V.agg [vS r4.1.Mti, V.ow 5], vB r4.2]), (26, V.agg [vS r4.1.Mti, V.ow 5]), (27, vB r4.2), (28, V.tup [V.agg [vS r5.1.Mti, V.ow 6], vB r5.2]), (29, V.agg [vS r4.1.Mti, V.ow 5]), (30, V.ptr 0 4), (31, vS o.Trace), (32, V.tup [V.agg [vS r5.1.Mti, V.ow 6], vB r5.2]), (33, V.agg [vS r5.1.Mti, V.ow 6]), (34, vB r5.2), (35, V.ptr 0 0), (36, vI o.Op), (37, vB r6), (38, V.tup [V.agg [vS r8.1.Mti, V.ow 7], vB r8.2]), (39, V.agg [vS r5.1.Mti, V.ow 6]), (40, V.ptr 0 3), (41, vS o.Hold), (42, vS r7), (43, V.tup [V.agg [vS r8.1.Mti, V.ow 7], vB r8.2]), (44, V.agg [vS r8.1.Mti, V.ow 7]), (45, vB r8.2), (46, V.ptr 0 0), (47, vI o.Op), (48, vB r9), (49, V.tup [V.agg [vS r11.1.Mti, V.ow 8], vB r11.2]), (50, V.agg [vS r8.1.Mti, V.ow 7]), (51, V.ptr 0 6), (52, vI o.Amount), (53, vS r10), (54, V.tup [V.agg [vS r11.1.Mti, V.ow 8], vB r11.2]), (55, V.agg [vS r11.1.Mti, V.ow 8]), (56, vB r11.2), (57, V.ptr 0 0), (58, vI o.Op), (59, vB (o.Op == 1)), (60, V.tup [V.agg [vS r13.1.Mti, V.ow 3], vB r13.2]), (61, V.agg [vS r11.1.Mti, V.ow 8]), (62, V.ptr 0 7), (63, vI o.Ttl), (64, vS r12), (65, V.tup [V.agg [vS r13.1.Mti, V.ow 3], vB r13.2]), (66, V.agg [vS r13.1.Mti, V.ow 3]), (67, vB r13.2)] [Blk.box 88 [vI o.Op, vS o.Acct, vS o.Other, vS o.Hold, vS o.Trace, vS o.Mti, vI o.Amount, vI o.Ttl], Blk.box 83 [vE, V.nl 115], Blk.box 83 [vS r13.1.Mti, V.ow 3], Blk.row 115 (List.map E115 r13.1.List) [], Blk.row 115 (List.map E115 r2.1.List) [], Blk.row 115 (List.map E115 r4.1.List) [], Blk.row 115 (List.map E115 r5.1.List) [], Blk.row 115 (List.map E115 r8.1.List) [], Blk.row 115 (List.map E115 r11.1.List) []] []
def spec_ReqMsg_s5 (o : Req) (r1 : Bool) (r2 : Msg × Bool) (r4 : Msg × Bool) (r3 : ByteArray) (r5 : Msg × Bool) (r6 : Bool) (r8 : Msg × Bool) (r7 : ByteArray) (r9 : Bool) (r17 : Msg × Bool) (r16 : ByteArray) : St := st 79 [(0, V.agg [vI o.Op, vS o.Acct, vS o.Other, vS o.Hold, vS o.Trace, vS o.Mti, vI o.Amount, vI o.Ttl]), (1, V.ptr 0 0), (2, V.ptr 1 0), (3, vB false), (4, V.ptr 2 0), (5, V.agg [vI o.Op, vS o.Acct, vS o.Other, vS o.Hold, vS o.Trace, vS o.Mti, vI o.Amount, vI o.Ttl]), (6, vB r1), (7, vB (!r1)), (9, V.ptr 0 5), (10, vS o.Mti), (11, V.agg [vS o.Mti, V.nl 115]), (12, V.tup [V.agg [vS r2.1.Mti, V.ow 4], vB r2.2]), (13, V.agg [vS o.Mti, V.nl 115]), (14, V.ptr 0 1), (15, vS o.Acct), (16, V.tup [V.agg [vS r2.1.Mti, V.ow 4], vB r2.2]), (17, V.agg [vS r2.1.Mti, V.ow 4]), (18, vB r2.2), (19, V.tup [V.agg [vS r4.1.Mti, V.ow 5], vB r4.2]), (20, V.agg [vS r2.1.Mti, V.ow 4]), (21, V.ptr 0 0), (22, vI o.Op), (23, vS r3), (24, vS (r3 ++ (bs [48, 48, 48, 48]))), (25, V.tup [V.agg [vS r4.1.Mti, V.ow 5], vB r4.2]), (26, V.agg [vS r4.1.Mti, V.ow 5]), (27, vB r4.2), (28, V.tup [V.agg [vS r5.1.Mti, V.ow 6], vB r5.2]), (29, V.agg [vS r4.1.Mti, V.ow 5]), (30, V.ptr 0 4), (31, vS o.Trace), (32, V.tup [V.agg [vS r5.1.Mti, V.ow 6], vB r5.2]), (33, V.agg [vS r5.1.Mti, V.ow 6]), (34, vB r5.2), (35, V.ptr 0 0), (36, vI o.Op), (37, vB r6), (38, V.tup [V.agg [vS r8.1.Mti, V.ow 7], vB r8.2]), (39, V.agg [vS r5.1.Mti, V.ow 6]), (40, V.ptr 0 3), (41, vS o.Hold), (42, vS r7), (43, V.tup [V.agg [vS r8.1.Mti, V.ow 7], vB r8.2]), (44, V.agg [vS r8.1.Mti, V.ow 7]), (45, vB r8.2), (46, V.ptr 0 0), (47, vI o.Op), (48, vB r9), (57, V.ptr 0 0), (58, vI o.Op), (59, vB (o.Op == 1)), (60, V.tup [V.agg [vS r17.1.Mti, V.ow 3], vB r17.2]), (61, V.agg [vS r8.1.Mti, V.ow 7]), (62, V.ptr 0 7), (63, vI o.Ttl), (64, vS r16), (65, V.tup [V.agg [vS r17.1.Mti, V.ow 3], vB r17.2]), (66, V.agg [vS r17.1.Mti, V.ow 3]), (67, vB r17.2)] [Blk.box 88 [vI o.Op, vS o.Acct, vS o.Other, vS o.Hold, vS o.Trace, vS o.Mti, vI o.Amount, vI o.Ttl], Blk.box 83 [vE, V.nl 115], Blk.box 83 [vS r17.1.Mti, V.ow 3], Blk.row 115 (List.map E115 r17.1.List) [], Blk.row 115 (List.map E115 r2.1.List) [], Blk.row 115 (List.map E115 r4.1.List) [], Blk.row 115 (List.map E115 r5.1.List) [], Blk.row 115 (List.map E115 r8.1.List) []] []
def spec_ReqMsg_s6 (o : Req) (r1 : Bool) (r2 : Msg × Bool) (r4 : Msg × Bool) (r3 : ByteArray) (r5 : Msg × Bool) (r6 : Bool) (r20 : Bool) (r22 : Msg × Bool) (r21 : ByteArray) : St := st 79 [(0, V.agg [vI o.Op, vS o.Acct, vS o.Other, vS o.Hold, vS o.Trace, vS o.Mti, vI o.Amount, vI o.Ttl]), (1, V.ptr 0 0), (2, V.ptr 1 0), (3, vB false), (4, V.ptr 2 0), (5, V.agg [vI o.Op, vS o.Acct, vS o.Other, vS o.Hold, vS o.Trace, vS o.Mti, vI o.Amount, vI o.Ttl]), (6, vB r1), (7, vB (!r1)), (9, V.ptr 0 5), (10, vS o.Mti), (11, V.agg [vS o.Mti, V.nl 115]), (12, V.tup [V.agg [vS r2.1.Mti, V.ow 4], vB r2.2]), (13, V.agg [vS o.Mti, V.nl 115]), (14, V.ptr 0 1), (15, vS o.Acct), (16, V.tup [V.agg [vS r2.1.Mti, V.ow 4], vB r2.2]), (17, V.agg [vS r2.1.Mti, V.ow 4]), (18, vB r2.2), (19, V.tup [V.agg [vS r4.1.Mti, V.ow 5], vB r4.2]), (20, V.agg [vS r2.1.Mti, V.ow 4]), (21, V.ptr 0 0), (22, vI o.Op), (23, vS r3), (24, vS (r3 ++ (bs [48, 48, 48, 48]))), (25, V.tup [V.agg [vS r4.1.Mti, V.ow 5], vB r4.2]), (26, V.agg [vS r4.1.Mti, V.ow 5]), (27, vB r4.2), (28, V.tup [V.agg [vS r5.1.Mti, V.ow 6], vB r5.2]), (29, V.agg [vS r4.1.Mti, V.ow 5]), (30, V.ptr 0 4), (31, vS o.Trace), (32, V.tup [V.agg [vS r5.1.Mti, V.ow 6], vB r5.2]), (33, V.agg [vS r5.1.Mti, V.ow 6]), (34, vB r5.2), (35, V.ptr 0 0), (36, vI o.Op), (37, vB r6), (46, V.ptr 0 0), (47, vI o.Op), (48, vB r20), (49, V.tup [V.agg [vS r22.1.Mti, V.ow 3], vB r22.2]), (50, V.agg [vS r5.1.Mti, V.ow 6]), (51, V.ptr 0 6), (52, vI o.Amount), (53, vS r21), (54, V.tup [V.agg [vS r22.1.Mti, V.ow 3], vB r22.2]), (55, V.agg [vS r22.1.Mti, V.ow 3]), (56, vB r22.2)] [Blk.box 88 [vI o.Op, vS o.Acct, vS o.Other, vS o.Hold, vS o.Trace, vS o.Mti, vI o.Amount, vI o.Ttl], Blk.box 83 [vE, V.nl 115], Blk.box 83 [vS r22.1.Mti, V.ow 3], Blk.row 115 (List.map E115 r22.1.List) [], Blk.row 115 (List.map E115 r2.1.List) [], Blk.row 115 (List.map E115 r4.1.List) [], Blk.row 115 (List.map E115 r5.1.List) []] []
def spec_ReqMsg_s7 (o : Req) (r1 : Bool) (r2 : Msg × Bool) (r4 : Msg × Bool) (r3 : ByteArray) (r5 : Msg × Bool) (r6 : Bool) (r20 : Bool) (r22 : Msg × Bool) (r21 : ByteArray) (r24 : Msg × Bool) (r23 : ByteArray) : St := st 79 [(0, V.agg [vI o.Op, vS o.Acct, vS o.Other, vS o.Hold, vS o.Trace, vS o.Mti, vI o.Amount, vI o.Ttl]), (1, V.ptr 0 0), (2, V.ptr 1 0), (3, vB false), (4, V.ptr 2 0), (5, V.agg [vI o.Op, vS o.Acct, vS o.Other, vS o.Hold, vS o.Trace, vS o.Mti, vI o.Amount, vI o.Ttl]), (6, vB r1), (7, vB (!r1)), (9, V.ptr 0 5), (10, vS o.Mti), (11, V.agg [vS o.Mti, V.nl 115]), (12, V.tup [V.agg [vS r2.1.Mti, V.ow 4], vB r2.2]), (13, V.agg [vS o.Mti, V.nl 115]), (14, V.ptr 0 1), (15, vS o.Acct), (16, V.tup [V.agg [vS r2.1.Mti, V.ow 4], vB r2.2]), (17, V.agg [vS r2.1.Mti, V.ow 4]), (18, vB r2.2), (19, V.tup [V.agg [vS r4.1.Mti, V.ow 5], vB r4.2]), (20, V.agg [vS r2.1.Mti, V.ow 4]), (21, V.ptr 0 0), (22, vI o.Op), (23, vS r3), (24, vS (r3 ++ (bs [48, 48, 48, 48]))), (25, V.tup [V.agg [vS r4.1.Mti, V.ow 5], vB r4.2]), (26, V.agg [vS r4.1.Mti, V.ow 5]), (27, vB r4.2), (28, V.tup [V.agg [vS r5.1.Mti, V.ow 6], vB r5.2]), (29, V.agg [vS r4.1.Mti, V.ow 5]), (30, V.ptr 0 4), (31, vS o.Trace), (32, V.tup [V.agg [vS r5.1.Mti, V.ow 6], vB r5.2]), (33, V.agg [vS r5.1.Mti, V.ow 6]), (34, vB r5.2), (35, V.ptr 0 0), (36, vI o.Op), (37, vB r6), (46, V.ptr 0 0), (47, vI o.Op), (48, vB r20), (49, V.tup [V.agg [vS r22.1.Mti, V.ow 7], vB r22.2]), (50, V.agg [vS r5.1.Mti, V.ow 6]), (51, V.ptr 0 6), (52, vI o.Amount), (53, vS r21), (54, V.tup [V.agg [vS r22.1.Mti, V.ow 7], vB r22.2]), (55, V.agg [vS r22.1.Mti, V.ow 7]), (56, vB r22.2), (57, V.ptr 0 0), (58, vI o.Op), (59, vB (o.Op == 1)), (60, V.tup [V.agg [vS r24.1.Mti, V.ow 3], vB r24.2]), (61, V.agg [vS r22.1.Mti, V.ow 7]), (62, V.ptr 0 7), (63, vI o.Ttl), (64, vS r23), (65, V.tup [V.agg [vS r24.1.Mti, V.ow 3], vB r24.2]), (66, V.agg [vS r24.1.Mti, V.ow 3]), (67, vB r24.2)] [Blk.box 88 [vI o.Op, vS o.Acct, vS o.Other, vS o.Hold, vS o.Trace, vS o.Mti, vI o.Amount, vI o.Ttl], Blk.box 83 [vE, V.nl 115], Blk.box 83 [vS r24.1.Mti, V.ow 3], Blk.row 115 (List.map E115 r24.1.List) [], Blk.row 115 (List.map E115 r2.1.List) [], Blk.row 115 (List.map E115 r4.1.List) [], Blk.row 115 (List.map E115 r5.1.List) [], Blk.row 115 (List.map E115 r22.1.List) []] []
def spec_ReqMsg_s8 (o : Req) (r1 : Bool) (r2 : Msg × Bool) (r4 : Msg × Bool) (r3 : ByteArray) (r5 : Msg × Bool) (r6 : Bool) (r20 : Bool) (r28 : Msg × Bool) (r27 : ByteArray) : St := st 79 [(0, V.agg [vI o.Op, vS o.Acct, vS o.Other, vS o.Hold, vS o.Trace, vS o.Mti, vI o.Amount, vI o.Ttl]), (1, V.ptr 0 0), (2, V.ptr 1 0), (3, vB false), (4, V.ptr 2 0), (5, V.agg [vI o.Op, vS o.Acct, vS o.Other, vS o.Hold, vS o.Trace, vS o.Mti, vI o.Amount, vI o.Ttl]), (6, vB r1), (7, vB (!r1)), (9, V.ptr 0 5), (10, vS o.Mti), (11, V.agg [vS o.Mti, V.nl 115]), (12, V.tup [V.agg [vS r2.1.Mti, V.ow 4], vB r2.2]), (13, V.agg [vS o.Mti, V.nl 115]), (14, V.ptr 0 1), (15, vS o.Acct), (16, V.tup [V.agg [vS r2.1.Mti, V.ow 4], vB r2.2]), (17, V.agg [vS r2.1.Mti, V.ow 4]), (18, vB r2.2), (19, V.tup [V.agg [vS r4.1.Mti, V.ow 5], vB r4.2]), (20, V.agg [vS r2.1.Mti, V.ow 4]), (21, V.ptr 0 0), (22, vI o.Op), (23, vS r3), (24, vS (r3 ++ (bs [48, 48, 48, 48]))), (25, V.tup [V.agg [vS r4.1.Mti, V.ow 5], vB r4.2]), (26, V.agg [vS r4.1.Mti, V.ow 5]), (27, vB r4.2), (28, V.tup [V.agg [vS r5.1.Mti, V.ow 6], vB r5.2]), (29, V.agg [vS r4.1.Mti, V.ow 5]), (30, V.ptr 0 4), (31, vS o.Trace), (32, V.tup [V.agg [vS r5.1.Mti, V.ow 6], vB r5.2]), (33, V.agg [vS r5.1.Mti, V.ow 6]), (34, vB r5.2), (35, V.ptr 0 0), (36, vI o.Op), (37, vB r6), (46, V.ptr 0 0), (47, vI o.Op), (48, vB r20), (57, V.ptr 0 0), (58, vI o.Op), (59, vB (o.Op == 1)), (60, V.tup [V.agg [vS r28.1.Mti, V.ow 3], vB r28.2]), (61, V.agg [vS r5.1.Mti, V.ow 6]), (62, V.ptr 0 7), (63, vI o.Ttl), (64, vS r27), (65, V.tup [V.agg [vS r28.1.Mti, V.ow 3], vB r28.2]), (66, V.agg [vS r28.1.Mti, V.ow 3]), (67, vB r28.2)] [Blk.box 88 [vI o.Op, vS o.Acct, vS o.Other, vS o.Hold, vS o.Trace, vS o.Mti, vI o.Amount, vI o.Ttl], Blk.box 83 [vE, V.nl 115], Blk.box 83 [vS r28.1.Mti, V.ow 3], Blk.row 115 (List.map E115 r28.1.List) [], Blk.row 115 (List.map E115 r2.1.List) [], Blk.row 115 (List.map E115 r4.1.List) [], Blk.row 115 (List.map E115 r5.1.List) []] []
def spec_ReqMsg (o : Req) : Option (Msg × Bool) :=
 (spec_ReqOk o).bind fun r1 =>
 if r1 = true then
 (spec_WithField (Msg.mk o.Mti []) 2 o.Acct).bind fun r2 =>
 (spec_OpCode o.Op).bind fun r3 =>
 if (decide (r3.size + (bs [48, 48, 48, 48]).size ≤ 9223372036854775807)) = true then
 (spec_WithField r2.1 3 (r3 ++ (bs [48, 48, 48, 48]))).bind fun r4 =>
 (spec_WithField r4.1 11 o.Trace).bind fun r5 =>
 (spec_l11Hold o.Op).bind fun r6 =>
 if r6 = true then
 (spec_FieldFit 38 o.Hold).bind fun r7 =>
 (spec_WithField r5.1 38 r7).bind fun r8 =>
 (spec_l11Amount o.Op).bind fun r9 =>
 if r9 = true then
 (spec_Wide o.Amount 12).bind fun r10 =>
 (spec_WithField r8.1 4 r10).bind fun r11 =>
 if (o.Op == 1) = true then
 (spec_Wide o.Ttl 4).bind fun r12 =>
 (spec_WithField r11.1 14 r12).bind fun r13 =>
 if (o.Op == 6) = true then
 (spec_WithField r13.1 103 o.Other).bind fun r14 =>
 some (r14.1, true)
 else
 some (r13.1, true)
 else
 if (o.Op == 6) = true then
 (spec_WithField r11.1 103 o.Other).bind fun r15 =>
 some (r15.1, true)
 else
 some (r11.1, true)
 else
 if (o.Op == 1) = true then
 (spec_Wide o.Ttl 4).bind fun r16 =>
 (spec_WithField r8.1 14 r16).bind fun r17 =>
 if (o.Op == 6) = true then
 (spec_WithField r17.1 103 o.Other).bind fun r18 =>
 some (r18.1, true)
 else
 some (r17.1, true)
 else
 if (o.Op == 6) = true then
 (spec_WithField r8.1 103 o.Other).bind fun r19 =>
 some (r19.1, true)
 else
 some (r8.1, true)
 else
 (spec_l11Amount o.Op).bind fun r20 =>
 if r20 = true then
 (spec_Wide o.Amount 12).bind fun r21 =>
 (spec_WithField r5.1 4 r21).bind fun r22 =>
 if (o.Op == 1) = true then
 (spec_Wide o.Ttl 4).bind fun r23 =>
 (spec_WithField r22.1 14 r23).bind fun r24 =>
 if (o.Op == 6) = true then
 (spec_WithField r24.1 103 o.Other).bind fun r25 =>
 some (r25.1, true)
 else
 some (r24.1, true)
 else
 if (o.Op == 6) = true then
 (spec_WithField r22.1 103 o.Other).bind fun r26 =>
 some (r26.1, true)
 else
 some (r22.1, true)
 else
 if (o.Op == 1) = true then
 (spec_Wide o.Ttl 4).bind fun r27 =>
 (spec_WithField r5.1 14 r27).bind fun r28 =>
 if (o.Op == 6) = true then
 (spec_WithField r28.1 103 o.Other).bind fun r29 =>
 some (r29.1, true)
 else
 some (r28.1, true)
 else
 if (o.Op == 6) = true then
 (spec_WithField r5.1 103 o.Other).bind fun r30 =>
 some (r30.1, true)
 else
 some (r5.1, true)
 else none
 else
 some ((Msg.mk ByteArray.empty []), false)
theorem spec_ReqMsg_ok (o : Req) : Pn (fun y => Fn Tryz.prog 39 [(false, E88 o)] (V.tup [E83 y.1, E4 y.2]) []) (spec_ReqMsg o) := by
  unfold spec_ReqMsg
  exact
   Pn.bind (fun r1 h1 =>
   Pn.ite (fun h2 =>
   Pn.bind (fun r2 h3 =>
   Pn.bind (fun r3 h4 =>
   Pn.ite (fun h5 =>
   Pn.bind (fun r4 h6 =>
   Pn.bind (fun r5 h7 =>
   Pn.bind (fun r6 h8 =>
   Pn.ite (fun h9 =>
   Pn.bind (fun r7 h10 =>
   Pn.bind (fun r8 h11 =>
   Pn.bind (fun r9 h12 =>
   Pn.ite (fun h13 =>
   Pn.bind (fun r10 h14 =>
   Pn.bind (fun r11 h15 =>
   Pn.ite (fun h16 =>
   Pn.bind (fun r12 h17 =>
   Pn.bind (fun r13 h18 =>
   Pn.ite (fun h19 =>
   Pn.bind (fun r14 h20 =>
   Pn.some (Fn.of [.call [] (E4 r1) [], bF, .call [] (V.tup [E83 r2.1, E4 r2.2]) [], .draw [9], .call [] (E9 r3) [], .call [] (V.tup [E83 r4.1, E4 r4.2]) [], .loop .go ((spec_ReqMsg_s1 o r1 r2 r4 r3)), .wait 1, .ren [0, 1, 2, 4, 3], .wait 2, .ren [0, 1, 2, 4, 3], .call [] (V.tup [E83 r5.1, E4 r5.2]) [], .call [] (E4 r6) [], bT, .draw [8], .call [] (E9 r7) [], .call [] (V.tup [E83 r8.1, E4 r8.2]) [], .loop .go ((spec_ReqMsg_s2 o r1 r2 r4 r3 r5 r6 r8 r7)), .wait 1, .ren [0, 1, 2, 6, 4, 3, 5], .wait 2, .ren [0, 1, 2, 6, 4, 3, 5], .call [] (E4 r9) [], bT, .draw [8], .call [] (E9 r10) [], .call [] (V.tup [E83 r11.1, E4 r11.2]) [], .loop .go ((spec_ReqMsg_s3 o r1 r2 r4 r3 r5 r6 r8 r7 r9 r11 r10)), .wait 1, .ren [0, 1, 2, 7, 4, 5, 6, 3], .wait 2, .ren [0, 1, 2, 7, 4, 5, 6, 3], bT, .draw [8], .call [] (E9 r12) [], .call [] (V.tup [E83 r13.1, E4 r13.2]) [], .loop .go ((spec_ReqMsg_s4 o r1 r2 r4 r3 r5 r6 r8 r7 r9 r11 r10 r13 r12)), .wait 1, .ren [0, 1, 2, 8, 4, 5, 6, 7, 3], .wait 2, .ren [0, 1, 2, 8, 4, 5, 6, 7, 3], bT, .call [] (V.tup [E83 r14.1, E4 r14.2]) []] (by kernel_rfl) (cj (spec_ReqOk_ok o r1 h1) (cj tt (cj (nf h2) (cj (Fn.nil [115] (by kernel_rfl) (by kernel_rfl) (spec_WithField_ok (Msg.mk o.Mti []) 2 o.Acct r2 h3) : Fn Tryz.prog 41 [(false, V.agg [vS o.Mti, V.nl 115]), (false, E3 2), (false, E9 o.Acct)] (V.tup [E83 r2.1, E4 r2.2]) []) (cj tt (cj (spec_OpCode_ok o.Op r3 h4) (cj tt (cj (od h5) (cj (spec_WithField_ok r2.1 3 (r3 ++ (bs [48, 48, 48, 48])) r4 h6) (cj (by simp [V.nv, nvL, nvL_all, nv_E3, nv_E4, nv_E9, nv_E81, nv_E83, nv_E115] : (false || ((V.tup [E83 r4.1, E4 r4.2]).nv && nvL [])) = true) (cj (rfl : (spec_ReqMsg_s1 o r1 r2 r4 r3) = (spec_ReqMsg_s1 o r1 r2 r4 r3)) (cj (rfl : (spec_ReqMsg_s1 o r1 r2 r4 r3) = (spec_ReqMsg_s1 o r1 r2 r4 r3)) (cj (spec_WithField_ok r4.1 11 o.Trace r5 h7) (cj (by simp [V.nv, nvL, nvL_all, nv_E3, nv_E4, nv_E9, nv_E81, nv_E83, nv_E115] : (false || ((V.tup [E83 r5.1, E4 r5.2]).nv && nvL [])) = true) (cj (spec_l11Hold_ok o.Op r6 h8) (cj tt (cj h9 (cj (spec_FieldFit_ok 38 o.Hold r7 h10) (cj tt (cj (spec_WithField_ok r5.1 38 r7 r8 h11) (cj (by simp [V.nv, nvL, nvL_all, nv_E3, nv_E4, nv_E9, nv_E81, nv_E83, nv_E115] : (false || ((V.tup [E83 r8.1, E4 r8.2]).nv && nvL [])) = true) (cj (rfl : (spec_ReqMsg_s2 o r1 r2 r4 r3 r5 r6 r8 r7) = (spec_ReqMsg_s2 o r1 r2 r4 r3 r5 r6 r8 r7)) (cj (rfl : (spec_ReqMsg_s2 o r1 r2 r4 r3 r5 r6 r8 r7) = (spec_ReqMsg_s2 o r1 r2 r4 r3 r5 r6 r8 r7)) (cj (spec_l11Amount_ok o.Op r9 h12) (cj tt (cj h13 (cj (spec_Wide_ok o.Amount 12 r10 h14) (cj tt (cj (spec_WithField_ok r8.1 4 r10 r11 h15) (cj (by simp [V.nv, nvL, nvL_all, nv_E3, nv_E4, nv_E9, nv_E81, nv_E83, nv_E115] : (false || ((V.tup [E83 r11.1, E4 r11.2]).nv && nvL [])) = true) (cj (rfl : (spec_ReqMsg_s3 o r1 r2 r4 r3 r5 r6 r8 r7 r9 r11 r10) = (spec_ReqMsg_s3 o r1 r2 r4 r3 r5 r6 r8 r7 r9 r11 r10)) (cj (rfl : (spec_ReqMsg_s3 o r1 r2 r4 r3 r5 r6 r8 r7 r9 r11 r10) = (spec_ReqMsg_s3 o r1 r2 r4 r3 r5 r6 r8 r7 r9 r11 r10)) (cj h16 (cj (spec_Wide_ok o.Ttl 4 r12 h17) (cj tt (cj (spec_WithField_ok r11.1 14 r12 r13 h18) (cj (by simp [V.nv, nvL, nvL_all, nv_E3, nv_E4, nv_E9, nv_E81, nv_E83, nv_E115] : (false || ((V.tup [E83 r13.1, E4 r13.2]).nv && nvL [])) = true) (cj (rfl : (spec_ReqMsg_s4 o r1 r2 r4 r3 r5 r6 r8 r7 r9 r11 r10 r13 r12) = (spec_ReqMsg_s4 o r1 r2 r4 r3 r5 r6 r8 r7 r9 r11 r10 r13 r12)) (cj (rfl : (spec_ReqMsg_s4 o r1 r2 r4 r3 r5 r6 r8 r7 r9 r11 r10 r13 r12) = (spec_ReqMsg_s4 o r1 r2 r4 r3 r5 r6 r8 r7 r9 r11 r10 r13 r12)) (cj h19 (cj (spec_WithField_ok r13.1 103 o.Other r14 h20) (cj1 (by simp [V.nv, nvL, nvL_all, nv_E3, nv_E4, nv_E9, nv_E81, nv_E83, nv_E115] : (false || ((V.tup [E83 r14.1, E4 r14.2]).nv && nvL [])) = true)))))))))))))))))))))))))))))))))))))))))))))) (fun h19 =>
   Pn.some (Fn.of [.call [] (E4 r1) [], bF, .call [] (V.tup [E83 r2.1, E4 r2.2]) [], .draw [9], .call [] (E9 r3) [], .call [] (V.tup [E83 r4.1, E4 r4.2]) [], .loop .go ((spec_ReqMsg_s1 o r1 r2 r4 r3)), .wait 1, .ren [0, 1, 2, 4, 3], .wait 2, .ren [0, 1, 2, 4, 3], .call [] (V.tup [E83 r5.1, E4 r5.2]) [], .call [] (E4 r6) [], bT, .draw [8], .call [] (E9 r7) [], .call [] (V.tup [E83 r8.1, E4 r8.2]) [], .loop .go ((spec_ReqMsg_s2 o r1 r2 r4 r3 r5 r6 r8 r7)), .wait 1, .ren [0, 1, 2, 6, 4, 3, 5], .wait 2, .ren [0, 1, 2, 6, 4, 3, 5], .call [] (E4 r9) [], bT, .draw [8], .call [] (E9 r10) [], .call [] (V.tup [E83 r11.1, E4 r11.2]) [], .loop .go ((spec_ReqMsg_s3 o r1 r2 r4 r3 r5 r6 r8 r7 r9 r11 r10)), .wait 1, .ren [0, 1, 2, 7, 4, 5, 6, 3], .wait 2, .ren [0, 1, 2, 7, 4, 5, 6, 3], bT, .draw [8], .call [] (E9 r12) [], .call [] (V.tup [E83 r13.1, E4 r13.2]) [], .loop .go ((spec_ReqMsg_s4 o r1 r2 r4 r3 r5 r6 r8 r7 r9 r11 r10 r13 r12)), .wait 1, .ren [0, 1, 2, 8, 4, 5, 6, 7, 3], .wait 2, .ren [0, 1, 2, 8, 4, 5, 6, 7, 3], bF] (by kernel_rfl) (cj (spec_ReqOk_ok o r1 h1) (cj tt (cj (nf h2) (cj (Fn.nil [115] (by kernel_rfl) (by kernel_rfl) (spec_WithField_ok (Msg.mk o.Mti []) 2 o.Acct r2 h3) : Fn Tryz.prog 41 [(false, V.agg [vS o.Mti, V.nl 115]), (false, E3 2), (false, E9 o.Acct)] (V.tup [E83 r2.1, E4 r2.2]) []) (cj tt (cj (spec_OpCode_ok o.Op r3 h4) (cj tt (cj (od h5) (cj (spec_WithField_ok r2.1 3 (r3 ++ (bs [48, 48, 48, 48])) r4 h6) (cj (by simp [V.nv, nvL, nvL_all, nv_E3, nv_E4, nv_E9, nv_E81, nv_E83, nv_E115] : (false || ((V.tup [E83 r4.1, E4 r4.2]).nv && nvL [])) = true) (cj (rfl : (spec_ReqMsg_s1 o r1 r2 r4 r3) = (spec_ReqMsg_s1 o r1 r2 r4 r3)) (cj (rfl : (spec_ReqMsg_s1 o r1 r2 r4 r3) = (spec_ReqMsg_s1 o r1 r2 r4 r3)) (cj (spec_WithField_ok r4.1 11 o.Trace r5 h7) (cj (by simp [V.nv, nvL, nvL_all, nv_E3, nv_E4, nv_E9, nv_E81, nv_E83, nv_E115] : (false || ((V.tup [E83 r5.1, E4 r5.2]).nv && nvL [])) = true) (cj (spec_l11Hold_ok o.Op r6 h8) (cj tt (cj h9 (cj (spec_FieldFit_ok 38 o.Hold r7 h10) (cj tt (cj (spec_WithField_ok r5.1 38 r7 r8 h11) (cj (by simp [V.nv, nvL, nvL_all, nv_E3, nv_E4, nv_E9, nv_E81, nv_E83, nv_E115] : (false || ((V.tup [E83 r8.1, E4 r8.2]).nv && nvL [])) = true) (cj (rfl : (spec_ReqMsg_s2 o r1 r2 r4 r3 r5 r6 r8 r7) = (spec_ReqMsg_s2 o r1 r2 r4 r3 r5 r6 r8 r7)) (cj (rfl : (spec_ReqMsg_s2 o r1 r2 r4 r3 r5 r6 r8 r7) = (spec_ReqMsg_s2 o r1 r2 r4 r3 r5 r6 r8 r7)) (cj (spec_l11Amount_ok o.Op r9 h12) (cj tt (cj h13 (cj (spec_Wide_ok o.Amount 12 r10 h14) (cj tt (cj (spec_WithField_ok r8.1 4 r10 r11 h15) (cj (by simp [V.nv, nvL, nvL_all, nv_E3, nv_E4, nv_E9, nv_E81, nv_E83, nv_E115] : (false || ((V.tup [E83 r11.1, E4 r11.2]).nv && nvL [])) = true) (cj (rfl : (spec_ReqMsg_s3 o r1 r2 r4 r3 r5 r6 r8 r7 r9 r11 r10) = (spec_ReqMsg_s3 o r1 r2 r4 r3 r5 r6 r8 r7 r9 r11 r10)) (cj (rfl : (spec_ReqMsg_s3 o r1 r2 r4 r3 r5 r6 r8 r7 r9 r11 r10) = (spec_ReqMsg_s3 o r1 r2 r4 r3 r5 r6 r8 r7 r9 r11 r10)) (cj h16 (cj (spec_Wide_ok o.Ttl 4 r12 h17) (cj tt (cj (spec_WithField_ok r11.1 14 r12 r13 h18) (cj (by simp [V.nv, nvL, nvL_all, nv_E3, nv_E4, nv_E9, nv_E81, nv_E83, nv_E115] : (false || ((V.tup [E83 r13.1, E4 r13.2]).nv && nvL [])) = true) (cj (rfl : (spec_ReqMsg_s4 o r1 r2 r4 r3 r5 r6 r8 r7 r9 r11 r10 r13 r12) = (spec_ReqMsg_s4 o r1 r2 r4 r3 r5 r6 r8 r7 r9 r11 r10 r13 r12)) (cj (rfl : (spec_ReqMsg_s4 o r1 r2 r4 r3 r5 r6 r8 r7 r9 r11 r10 r13 r12) = (spec_ReqMsg_s4 o r1 r2 r4 r3 r5 r6 r8 r7 r9 r11 r10 r13 r12)) (cj1 h19))))))))))))))))))))))))))))))))))))))))))))) (fun h16 =>
   Pn.ite (fun h21 =>
   Pn.bind (fun r15 h22 =>
   Pn.some (Fn.of [.call [] (E4 r1) [], bF, .call [] (V.tup [E83 r2.1, E4 r2.2]) [], .draw [9], .call [] (E9 r3) [], .call [] (V.tup [E83 r4.1, E4 r4.2]) [], .loop .go ((spec_ReqMsg_s1 o r1 r2 r4 r3)), .wait 1, .ren [0, 1, 2, 4, 3], .wait 2, .ren [0, 1, 2, 4, 3], .call [] (V.tup [E83 r5.1, E4 r5.2]) [], .call [] (E4 r6) [], bT, .draw [8], .call [] (E9 r7) [], .call [] (V.tup [E83 r8.1, E4 r8.2]) [], .loop .go ((spec_ReqMsg_s2 o r1 r2 r4 r3 r5 r6 r8 r7)), .wait 1, .ren [0, 1, 2, 6, 4, 3, 5], .wait 2, .ren [0, 1, 2, 6, 4, 3, 5], .call [] (E4 r9) [], bT, .draw [8], .call [] (E9 r10) [], .call [] (V.tup [E83 r11.1, E4 r11.2]) [], .loop .go ((spec_ReqMsg_s3 o r1 r2 r4 r3 r5 r6 r8 r7 r9 r11 r10)), .wait 1, .ren [0, 1, 2, 7, 4, 5, 6, 3], .wait 2, .ren [0, 1, 2, 7, 4, 5, 6, 3], bF, bT, .call [] (V.tup [E83 r15.1, E4 r15.2]) []] (by kernel_rfl) (cj (spec_ReqOk_ok o r1 h1) (cj tt (cj (nf h2) (cj (Fn.nil [115] (by kernel_rfl) (by kernel_rfl) (spec_WithField_ok (Msg.mk o.Mti []) 2 o.Acct r2 h3) : Fn Tryz.prog 41 [(false, V.agg [vS o.Mti, V.nl 115]), (false, E3 2), (false, E9 o.Acct)] (V.tup [E83 r2.1, E4 r2.2]) []) (cj tt (cj (spec_OpCode_ok o.Op r3 h4) (cj tt (cj (od h5) (cj (spec_WithField_ok r2.1 3 (r3 ++ (bs [48, 48, 48, 48])) r4 h6) (cj (by simp [V.nv, nvL, nvL_all, nv_E3, nv_E4, nv_E9, nv_E81, nv_E83, nv_E115] : (false || ((V.tup [E83 r4.1, E4 r4.2]).nv && nvL [])) = true) (cj (rfl : (spec_ReqMsg_s1 o r1 r2 r4 r3) = (spec_ReqMsg_s1 o r1 r2 r4 r3)) (cj (rfl : (spec_ReqMsg_s1 o r1 r2 r4 r3) = (spec_ReqMsg_s1 o r1 r2 r4 r3)) (cj (spec_WithField_ok r4.1 11 o.Trace r5 h7) (cj (by simp [V.nv, nvL, nvL_all, nv_E3, nv_E4, nv_E9, nv_E81, nv_E83, nv_E115] : (false || ((V.tup [E83 r5.1, E4 r5.2]).nv && nvL [])) = true) (cj (spec_l11Hold_ok o.Op r6 h8) (cj tt (cj h9 (cj (spec_FieldFit_ok 38 o.Hold r7 h10) (cj tt (cj (spec_WithField_ok r5.1 38 r7 r8 h11) (cj (by simp [V.nv, nvL, nvL_all, nv_E3, nv_E4, nv_E9, nv_E81, nv_E83, nv_E115] : (false || ((V.tup [E83 r8.1, E4 r8.2]).nv && nvL [])) = true) (cj (rfl : (spec_ReqMsg_s2 o r1 r2 r4 r3 r5 r6 r8 r7) = (spec_ReqMsg_s2 o r1 r2 r4 r3 r5 r6 r8 r7)) (cj (rfl : (spec_ReqMsg_s2 o r1 r2 r4 r3 r5 r6 r8 r7) = (spec_ReqMsg_s2 o r1 r2 r4 r3 r5 r6 r8 r7)) (cj (spec_l11Amount_ok o.Op r9 h12) (cj tt (cj h13 (cj (spec_Wide_ok o.Amount 12 r10 h14) (cj tt (cj (spec_WithField_ok r8.1 4 r10 r11 h15) (cj (by simp [V.nv, nvL, nvL_all, nv_E3, nv_E4, nv_E9, nv_E81, nv_E83, nv_E115] : (false || ((V.tup [E83 r11.1, E4 r11.2]).nv && nvL [])) = true) (cj (rfl : (spec_ReqMsg_s3 o r1 r2 r4 r3 r5 r6 r8 r7 r9 r11 r10) = (spec_ReqMsg_s3 o r1 r2 r4 r3 r5 r6 r8 r7 r9 r11 r10)) (cj (rfl : (spec_ReqMsg_s3 o r1 r2 r4 r3 r5 r6 r8 r7 r9 r11 r10) = (spec_ReqMsg_s3 o r1 r2 r4 r3 r5 r6 r8 r7 r9 r11 r10)) (cj h16 (cj h21 (cj (spec_WithField_ok r11.1 103 o.Other r15 h22) (cj1 (by simp [V.nv, nvL, nvL_all, nv_E3, nv_E4, nv_E9, nv_E81, nv_E83, nv_E115] : (false || ((V.tup [E83 r15.1, E4 r15.2]).nv && nvL [])) = true)))))))))))))))))))))))))))))))))))))))) (fun h21 =>
   Pn.some (Fn.of [.call [] (E4 r1) [], bF, .call [] (V.tup [E83 r2.1, E4 r2.2]) [], .draw [9], .call [] (E9 r3) [], .call [] (V.tup [E83 r4.1, E4 r4.2]) [], .loop .go ((spec_ReqMsg_s1 o r1 r2 r4 r3)), .wait 1, .ren [0, 1, 2, 4, 3], .wait 2, .ren [0, 1, 2, 4, 3], .call [] (V.tup [E83 r5.1, E4 r5.2]) [], .call [] (E4 r6) [], bT, .draw [8], .call [] (E9 r7) [], .call [] (V.tup [E83 r8.1, E4 r8.2]) [], .loop .go ((spec_ReqMsg_s2 o r1 r2 r4 r3 r5 r6 r8 r7)), .wait 1, .ren [0, 1, 2, 6, 4, 3, 5], .wait 2, .ren [0, 1, 2, 6, 4, 3, 5], .call [] (E4 r9) [], bT, .draw [8], .call [] (E9 r10) [], .call [] (V.tup [E83 r11.1, E4 r11.2]) [], .loop .go ((spec_ReqMsg_s3 o r1 r2 r4 r3 r5 r6 r8 r7 r9 r11 r10)), .wait 1, .ren [0, 1, 2, 7, 4, 5, 6, 3], .wait 2, .ren [0, 1, 2, 7, 4, 5, 6, 3], bF, bF] (by kernel_rfl) (cj (spec_ReqOk_ok o r1 h1) (cj tt (cj (nf h2) (cj (Fn.nil [115] (by kernel_rfl) (by kernel_rfl) (spec_WithField_ok (Msg.mk o.Mti []) 2 o.Acct r2 h3) : Fn Tryz.prog 41 [(false, V.agg [vS o.Mti, V.nl 115]), (false, E3 2), (false, E9 o.Acct)] (V.tup [E83 r2.1, E4 r2.2]) []) (cj tt (cj (spec_OpCode_ok o.Op r3 h4) (cj tt (cj (od h5) (cj (spec_WithField_ok r2.1 3 (r3 ++ (bs [48, 48, 48, 48])) r4 h6) (cj (by simp [V.nv, nvL, nvL_all, nv_E3, nv_E4, nv_E9, nv_E81, nv_E83, nv_E115] : (false || ((V.tup [E83 r4.1, E4 r4.2]).nv && nvL [])) = true) (cj (rfl : (spec_ReqMsg_s1 o r1 r2 r4 r3) = (spec_ReqMsg_s1 o r1 r2 r4 r3)) (cj (rfl : (spec_ReqMsg_s1 o r1 r2 r4 r3) = (spec_ReqMsg_s1 o r1 r2 r4 r3)) (cj (spec_WithField_ok r4.1 11 o.Trace r5 h7) (cj (by simp [V.nv, nvL, nvL_all, nv_E3, nv_E4, nv_E9, nv_E81, nv_E83, nv_E115] : (false || ((V.tup [E83 r5.1, E4 r5.2]).nv && nvL [])) = true) (cj (spec_l11Hold_ok o.Op r6 h8) (cj tt (cj h9 (cj (spec_FieldFit_ok 38 o.Hold r7 h10) (cj tt (cj (spec_WithField_ok r5.1 38 r7 r8 h11) (cj (by simp [V.nv, nvL, nvL_all, nv_E3, nv_E4, nv_E9, nv_E81, nv_E83, nv_E115] : (false || ((V.tup [E83 r8.1, E4 r8.2]).nv && nvL [])) = true) (cj (rfl : (spec_ReqMsg_s2 o r1 r2 r4 r3 r5 r6 r8 r7) = (spec_ReqMsg_s2 o r1 r2 r4 r3 r5 r6 r8 r7)) (cj (rfl : (spec_ReqMsg_s2 o r1 r2 r4 r3 r5 r6 r8 r7) = (spec_ReqMsg_s2 o r1 r2 r4 r3 r5 r6 r8 r7)) (cj (spec_l11Amount_ok o.Op r9 h12) (cj tt (cj h13 (cj (spec_Wide_ok o.Amount 12 r10 h14) (cj tt (cj (spec_WithField_ok r8.1 4 r10 r11 h15) (cj (by simp [V.nv, nvL, nvL_all, nv_E3, nv_E4, nv_E9, nv_E81, nv_E83, nv_E115] : (false || ((V.tup [E83 r11.1, E4 r11.2]).nv && nvL [])) = true) (cj (rfl : (spec_ReqMsg_s3 o r1 r2 r4 r3 r5 r6 r8 r7 r9 r11 r10) = (spec_ReqMsg_s3 o r1 r2 r4 r3 r5 r6 r8 r7 r9 r11 r10)) (cj (rfl : (spec_ReqMsg_s3 o r1 r2 r4 r3 r5 r6 r8 r7 r9 r11 r10) = (spec_ReqMsg_s3 o r1 r2 r4 r3 r5 r6 r8 r7 r9 r11 r10)) (cj h16 (cj1 h21)))))))))))))))))))))))))))))))))))))))) (fun h13 =>
   Pn.ite (fun h23 =>
   Pn.bind (fun r16 h24 =>
   Pn.bind (fun r17 h25 =>
   Pn.ite (fun h26 =>
   Pn.bind (fun r18 h27 =>
   Pn.some (Fn.of [.call [] (E4 r1) [], bF, .call [] (V.tup [E83 r2.1, E4 r2.2]) [], .draw [9], .call [] (E9 r3) [], .call [] (V.tup [E83 r4.1, E4 r4.2]) [], .loop .go ((spec_ReqMsg_s1 o r1 r2 r4 r3)), .wait 1, .ren [0, 1, 2, 4, 3], .wait 2, .ren [0, 1, 2, 4, 3], .call [] (V.tup [E83 r5.1, E4 r5.2]) [], .call [] (E4 r6) [], bT, .draw [8], .call [] (E9 r7) [], .call [] (V.tup [E83 r8.1, E4 r8.2]) [], .loop .go ((spec_ReqMsg_s2 o r1 r2 r4 r3 r5 r6 r8 r7)), .wait 1, .ren [0, 1, 2, 6, 4, 3, 5], .wait 2, .ren [0, 1, 2, 6, 4, 3, 5], .call [] (E4 r9) [], bF, bT, .draw [8], .call [] (E9 r16) [], .call [] (V.tup [E83 r17.1, E4 r17.2]) [], .loop .go ((spec_ReqMsg_s5 o r1 r2 r4 r3 r5 r6 r8 r7 r9 r17 r16)), .wait 1, .ren [0, 1, 2, 7, 4, 5, 6, 3], .wait 2, .ren [0, 1, 2, 7, 4, 5, 6, 3], bT, .call [] (V.tup [E83 r18.1, E4 r18.2]) []] (by kernel_rfl) (cj (spec_ReqOk_ok o r1 h1) (cj tt (cj (nf h2) (cj (Fn.nil [115] (by kernel_rfl) (by kernel_rfl) (spec_WithField_ok (Msg.mk o.Mti []) 2 o.Acct r2 h3) : Fn Tryz.prog 41 [(false, V.agg [vS o.Mti, V.nl 115]), (false, E3 2), (false, E9 o.Acct)] (V.tup [E83 r2.1, E4 r2.2]) []) (cj tt (cj (spec_OpCode_ok o.Op r3 h4) (cj tt (cj (od h5) (cj (spec_WithField_ok r2.1 3 (r3 ++ (bs [48, 48, 48, 48])) r4 h6) (cj (by simp [V.nv, nvL, nvL_all, nv_E3, nv_E4, nv_E9, nv_E81, nv_E83, nv_E115] : (false || ((V.tup [E83 r4.1, E4 r4.2]).nv && nvL [])) = true) (cj (rfl : (spec_ReqMsg_s1 o r1 r2 r4 r3) = (spec_ReqMsg_s1 o r1 r2 r4 r3)) (cj (rfl : (spec_ReqMsg_s1 o r1 r2 r4 r3) = (spec_ReqMsg_s1 o r1 r2 r4 r3)) (cj (spec_WithField_ok r4.1 11 o.Trace r5 h7) (cj (by simp [V.nv, nvL, nvL_all, nv_E3, nv_E4, nv_E9, nv_E81, nv_E83, nv_E115] : (false || ((V.tup [E83 r5.1, E4 r5.2]).nv && nvL [])) = true) (cj (spec_l11Hold_ok o.Op r6 h8) (cj tt (cj h9 (cj (spec_FieldFit_ok 38 o.Hold r7 h10) (cj tt (cj (spec_WithField_ok r5.1 38 r7 r8 h11) (cj (by simp [V.nv, nvL, nvL_all, nv_E3, nv_E4, nv_E9, nv_E81, nv_E83, nv_E115] : (false || ((V.tup [E83 r8.1, E4 r8.2]).nv && nvL [])) = true) (cj (rfl : (spec_ReqMsg_s2 o r1 r2 r4 r3 r5 r6 r8 r7) = (spec_ReqMsg_s2 o r1 r2 r4 r3 r5 r6 r8 r7)) (cj (rfl : (spec_ReqMsg_s2 o r1 r2 r4 r3 r5 r6 r8 r7) = (spec_ReqMsg_s2 o r1 r2 r4 r3 r5 r6 r8 r7)) (cj (spec_l11Amount_ok o.Op r9 h12) (cj tt (cj h13 (cj h23 (cj (spec_Wide_ok o.Ttl 4 r16 h24) (cj tt (cj (spec_WithField_ok r8.1 14 r16 r17 h25) (cj (by simp [V.nv, nvL, nvL_all, nv_E3, nv_E4, nv_E9, nv_E81, nv_E83, nv_E115] : (false || ((V.tup [E83 r17.1, E4 r17.2]).nv && nvL [])) = true) (cj (rfl : (spec_ReqMsg_s5 o r1 r2 r4 r3 r5 r6 r8 r7 r9 r17 r16) = (spec_ReqMsg_s5 o r1 r2 r4 r3 r5 r6 r8 r7 r9 r17 r16)) (cj (rfl : (spec_ReqMsg_s5 o r1 r2 r4 r3 r5 r6 r8 r7 r9 r17 r16) = (spec_ReqMsg_s5 o r1 r2 r4 r3 r5 r6 r8 r7 r9 r17 r16)) (cj h26 (cj (spec_WithField_ok r17.1 103 o.Other r18 h27) (cj1 (by simp [V.nv, nvL, nvL_all, nv_E3, nv_E4, nv_E9, nv_E81, nv_E83, nv_E115] : (false || ((V.tup [E83 r18.1, E4 r18.2]).nv && nvL [])) = true)))))))))))))))))))))))))))))))))))))))) (fun h26 =>
   Pn.some (Fn.of [.call [] (E4 r1) [], bF, .call [] (V.tup [E83 r2.1, E4 r2.2]) [], .draw [9], .call [] (E9 r3) [], .call [] (V.tup [E83 r4.1, E4 r4.2]) [], .loop .go ((spec_ReqMsg_s1 o r1 r2 r4 r3)), .wait 1, .ren [0, 1, 2, 4, 3], .wait 2, .ren [0, 1, 2, 4, 3], .call [] (V.tup [E83 r5.1, E4 r5.2]) [], .call [] (E4 r6) [], bT, .draw [8], .call [] (E9 r7) [], .call [] (V.tup [E83 r8.1, E4 r8.2]) [], .loop .go ((spec_ReqMsg_s2 o r1 r2 r4 r3 r5 r6 r8 r7)), .wait 1, .ren [0, 1, 2, 6, 4, 3, 5], .wait 2, .ren [0, 1, 2, 6, 4, 3, 5], .call [] (E4 r9) [], bF, bT, .draw [8], .call [] (E9 r16) [], .call [] (V.tup [E83 r17.1, E4 r17.2]) [], .loop .go ((spec_ReqMsg_s5 o r1 r2 r4 r3 r5 r6 r8 r7 r9 r17 r16)), .wait 1, .ren [0, 1, 2, 7, 4, 5, 6, 3], .wait 2, .ren [0, 1, 2, 7, 4, 5, 6, 3], bF] (by kernel_rfl) (cj (spec_ReqOk_ok o r1 h1) (cj tt (cj (nf h2) (cj (Fn.nil [115] (by kernel_rfl) (by kernel_rfl) (spec_WithField_ok (Msg.mk o.Mti []) 2 o.Acct r2 h3) : Fn Tryz.prog 41 [(false, V.agg [vS o.Mti, V.nl 115]), (false, E3 2), (false, E9 o.Acct)] (V.tup [E83 r2.1, E4 r2.2]) []) (cj tt (cj (spec_OpCode_ok o.Op r3 h4) (cj tt (cj (od h5) (cj (spec_WithField_ok r2.1 3 (r3 ++ (bs [48, 48, 48, 48])) r4 h6) (cj (by simp [V.nv, nvL, nvL_all, nv_E3, nv_E4, nv_E9, nv_E81, nv_E83, nv_E115] : (false || ((V.tup [E83 r4.1, E4 r4.2]).nv && nvL [])) = true) (cj (rfl : (spec_ReqMsg_s1 o r1 r2 r4 r3) = (spec_ReqMsg_s1 o r1 r2 r4 r3)) (cj (rfl : (spec_ReqMsg_s1 o r1 r2 r4 r3) = (spec_ReqMsg_s1 o r1 r2 r4 r3)) (cj (spec_WithField_ok r4.1 11 o.Trace r5 h7) (cj (by simp [V.nv, nvL, nvL_all, nv_E3, nv_E4, nv_E9, nv_E81, nv_E83, nv_E115] : (false || ((V.tup [E83 r5.1, E4 r5.2]).nv && nvL [])) = true) (cj (spec_l11Hold_ok o.Op r6 h8) (cj tt (cj h9 (cj (spec_FieldFit_ok 38 o.Hold r7 h10) (cj tt (cj (spec_WithField_ok r5.1 38 r7 r8 h11) (cj (by simp [V.nv, nvL, nvL_all, nv_E3, nv_E4, nv_E9, nv_E81, nv_E83, nv_E115] : (false || ((V.tup [E83 r8.1, E4 r8.2]).nv && nvL [])) = true) (cj (rfl : (spec_ReqMsg_s2 o r1 r2 r4 r3 r5 r6 r8 r7) = (spec_ReqMsg_s2 o r1 r2 r4 r3 r5 r6 r8 r7)) (cj (rfl : (spec_ReqMsg_s2 o r1 r2 r4 r3 r5 r6 r8 r7) = (spec_ReqMsg_s2 o r1 r2 r4 r3 r5 r6 r8 r7)) (cj (spec_l11Amount_ok o.Op r9 h12) (cj tt (cj h13 (cj h23 (cj (spec_Wide_ok o.Ttl 4 r16 h24) (cj tt (cj (spec_WithField_ok r8.1 14 r16 r17 h25) (cj (by simp [V.nv, nvL, nvL_all, nv_E3, nv_E4, nv_E9, nv_E81, nv_E83, nv_E115] : (false || ((V.tup [E83 r17.1, E4 r17.2]).nv && nvL [])) = true) (cj (rfl : (spec_ReqMsg_s5 o r1 r2 r4 r3 r5 r6 r8 r7 r9 r17 r16) = (spec_ReqMsg_s5 o r1 r2 r4 r3 r5 r6 r8 r7 r9 r17 r16)) (cj (rfl : (spec_ReqMsg_s5 o r1 r2 r4 r3 r5 r6 r8 r7 r9 r17 r16) = (spec_ReqMsg_s5 o r1 r2 r4 r3 r5 r6 r8 r7 r9 r17 r16)) (cj1 h26))))))))))))))))))))))))))))))))))))))) (fun h23 =>
   Pn.ite (fun h28 =>
   Pn.bind (fun r19 h29 =>
   Pn.some (Fn.of [.call [] (E4 r1) [], bF, .call [] (V.tup [E83 r2.1, E4 r2.2]) [], .draw [9], .call [] (E9 r3) [], .call [] (V.tup [E83 r4.1, E4 r4.2]) [], .loop .go ((spec_ReqMsg_s1 o r1 r2 r4 r3)), .wait 1, .ren [0, 1, 2, 4, 3], .wait 2, .ren [0, 1, 2, 4, 3], .call [] (V.tup [E83 r5.1, E4 r5.2]) [], .call [] (E4 r6) [], bT, .draw [8], .call [] (E9 r7) [], .call [] (V.tup [E83 r8.1, E4 r8.2]) [], .loop .go ((spec_ReqMsg_s2 o r1 r2 r4 r3 r5 r6 r8 r7)), .wait 1, .ren [0, 1, 2, 6, 4, 3, 5], .wait 2, .ren [0, 1, 2, 6, 4, 3, 5], .call [] (E4 r9) [], bF, bF, bT, .call [] (V.tup [E83 r19.1, E4 r19.2]) []] (by kernel_rfl) (cj (spec_ReqOk_ok o r1 h1) (cj tt (cj (nf h2) (cj (Fn.nil [115] (by kernel_rfl) (by kernel_rfl) (spec_WithField_ok (Msg.mk o.Mti []) 2 o.Acct r2 h3) : Fn Tryz.prog 41 [(false, V.agg [vS o.Mti, V.nl 115]), (false, E3 2), (false, E9 o.Acct)] (V.tup [E83 r2.1, E4 r2.2]) []) (cj tt (cj (spec_OpCode_ok o.Op r3 h4) (cj tt (cj (od h5) (cj (spec_WithField_ok r2.1 3 (r3 ++ (bs [48, 48, 48, 48])) r4 h6) (cj (by simp [V.nv, nvL, nvL_all, nv_E3, nv_E4, nv_E9, nv_E81, nv_E83, nv_E115] : (false || ((V.tup [E83 r4.1, E4 r4.2]).nv && nvL [])) = true) (cj (rfl : (spec_ReqMsg_s1 o r1 r2 r4 r3) = (spec_ReqMsg_s1 o r1 r2 r4 r3)) (cj (rfl : (spec_ReqMsg_s1 o r1 r2 r4 r3) = (spec_ReqMsg_s1 o r1 r2 r4 r3)) (cj (spec_WithField_ok r4.1 11 o.Trace r5 h7) (cj (by simp [V.nv, nvL, nvL_all, nv_E3, nv_E4, nv_E9, nv_E81, nv_E83, nv_E115] : (false || ((V.tup [E83 r5.1, E4 r5.2]).nv && nvL [])) = true) (cj (spec_l11Hold_ok o.Op r6 h8) (cj tt (cj h9 (cj (spec_FieldFit_ok 38 o.Hold r7 h10) (cj tt (cj (spec_WithField_ok r5.1 38 r7 r8 h11) (cj (by simp [V.nv, nvL, nvL_all, nv_E3, nv_E4, nv_E9, nv_E81, nv_E83, nv_E115] : (false || ((V.tup [E83 r8.1, E4 r8.2]).nv && nvL [])) = true) (cj (rfl : (spec_ReqMsg_s2 o r1 r2 r4 r3 r5 r6 r8 r7) = (spec_ReqMsg_s2 o r1 r2 r4 r3 r5 r6 r8 r7)) (cj (rfl : (spec_ReqMsg_s2 o r1 r2 r4 r3 r5 r6 r8 r7) = (spec_ReqMsg_s2 o r1 r2 r4 r3 r5 r6 r8 r7)) (cj (spec_l11Amount_ok o.Op r9 h12) (cj tt (cj h13 (cj h23 (cj h28 (cj (spec_WithField_ok r8.1 103 o.Other r19 h29) (cj1 (by simp [V.nv, nvL, nvL_all, nv_E3, nv_E4, nv_E9, nv_E81, nv_E83, nv_E115] : (false || ((V.tup [E83 r19.1, E4 r19.2]).nv && nvL [])) = true)))))))))))))))))))))))))))))))))) (fun h28 =>
   Pn.some (Fn.of [.call [] (E4 r1) [], bF, .call [] (V.tup [E83 r2.1, E4 r2.2]) [], .draw [9], .call [] (E9 r3) [], .call [] (V.tup [E83 r4.1, E4 r4.2]) [], .loop .go ((spec_ReqMsg_s1 o r1 r2 r4 r3)), .wait 1, .ren [0, 1, 2, 4, 3], .wait 2, .ren [0, 1, 2, 4, 3], .call [] (V.tup [E83 r5.1, E4 r5.2]) [], .call [] (E4 r6) [], bT, .draw [8], .call [] (E9 r7) [], .call [] (V.tup [E83 r8.1, E4 r8.2]) [], .loop .go ((spec_ReqMsg_s2 o r1 r2 r4 r3 r5 r6 r8 r7)), .wait 1, .ren [0, 1, 2, 6, 4, 3, 5], .wait 2, .ren [0, 1, 2, 6, 4, 3, 5], .call [] (E4 r9) [], bF, bF, bF] (by kernel_rfl) (cj (spec_ReqOk_ok o r1 h1) (cj tt (cj (nf h2) (cj (Fn.nil [115] (by kernel_rfl) (by kernel_rfl) (spec_WithField_ok (Msg.mk o.Mti []) 2 o.Acct r2 h3) : Fn Tryz.prog 41 [(false, V.agg [vS o.Mti, V.nl 115]), (false, E3 2), (false, E9 o.Acct)] (V.tup [E83 r2.1, E4 r2.2]) []) (cj tt (cj (spec_OpCode_ok o.Op r3 h4) (cj tt (cj (od h5) (cj (spec_WithField_ok r2.1 3 (r3 ++ (bs [48, 48, 48, 48])) r4 h6) (cj (by simp [V.nv, nvL, nvL_all, nv_E3, nv_E4, nv_E9, nv_E81, nv_E83, nv_E115] : (false || ((V.tup [E83 r4.1, E4 r4.2]).nv && nvL [])) = true) (cj (rfl : (spec_ReqMsg_s1 o r1 r2 r4 r3) = (spec_ReqMsg_s1 o r1 r2 r4 r3)) (cj (rfl : (spec_ReqMsg_s1 o r1 r2 r4 r3) = (spec_ReqMsg_s1 o r1 r2 r4 r3)) (cj (spec_WithField_ok r4.1 11 o.Trace r5 h7) (cj (by simp [V.nv, nvL, nvL_all, nv_E3, nv_E4, nv_E9, nv_E81, nv_E83, nv_E115] : (false || ((V.tup [E83 r5.1, E4 r5.2]).nv && nvL [])) = true) (cj (spec_l11Hold_ok o.Op r6 h8) (cj tt (cj h9 (cj (spec_FieldFit_ok 38 o.Hold r7 h10) (cj tt (cj (spec_WithField_ok r5.1 38 r7 r8 h11) (cj (by simp [V.nv, nvL, nvL_all, nv_E3, nv_E4, nv_E9, nv_E81, nv_E83, nv_E115] : (false || ((V.tup [E83 r8.1, E4 r8.2]).nv && nvL [])) = true) (cj (rfl : (spec_ReqMsg_s2 o r1 r2 r4 r3 r5 r6 r8 r7) = (spec_ReqMsg_s2 o r1 r2 r4 r3 r5 r6 r8 r7)) (cj (rfl : (spec_ReqMsg_s2 o r1 r2 r4 r3 r5 r6 r8 r7) = (spec_ReqMsg_s2 o r1 r2 r4 r3 r5 r6 r8 r7)) (cj (spec_l11Amount_ok o.Op r9 h12) (cj tt (cj h13 (cj h23 (cj1 h28)))))))))))))))))))))))))))))))))))) (fun h9 =>
   Pn.bind (fun r20 h30 =>
   Pn.ite (fun h31 =>
   Pn.bind (fun r21 h32 =>
   Pn.bind (fun r22 h33 =>
   Pn.ite (fun h34 =>
   Pn.bind (fun r23 h35 =>
   Pn.bind (fun r24 h36 =>
   Pn.ite (fun h37 =>
   Pn.bind (fun r25 h38 =>
   Pn.some (Fn.of [.call [] (E4 r1) [], bF, .call [] (V.tup [E83 r2.1, E4 r2.2]) [], .draw [9], .call [] (E9 r3) [], .call [] (V.tup [E83 r4.1, E4 r4.2]) [], .loop .go ((spec_ReqMsg_s1 o r1 r2 r4 r3)), .wait 1, .ren [0, 1, 2, 4, 3], .wait 2, .ren [0, 1, 2, 4, 3], .call [] (V.tup [E83 r5.1, E4 r5.2]) [], .call [] (E4 r6) [], bF, .call [] (E4 r20) [], bT, .draw [8], .call [] (E9 r21) [], .call [] (V.tup [E83 r22.1, E4 r22.2]) [], .loop .go ((spec_ReqMsg_s6 o r1 r2 r4 r3 r5 r6 r20 r22 r21)), .wait 1, .ren [0, 1, 2, 6, 4, 3, 5], .wait 2, .ren [0, 1, 2, 6, 4, 3, 5], bT, .draw [8], .call [] (E9 r23) [], .call [] (V.tup [E83 r24.1, E4 r24.2]) [], .loop .go ((spec_ReqMsg_s7 o r1 r2 r4 r3 r5 r6 r20 r22 r21 r24 r23)), .wait 1, .ren [0, 1, 2, 7, 4, 5, 6, 3], .wait 2, .ren [0, 1, 2, 7, 4, 5, 6, 3], bT, .call [] (V.tup [E83 r25.1, E4 r25.2]) []] (by kernel_rfl) (cj (spec_ReqOk_ok o r1 h1) (cj tt (cj (nf h2) (cj (Fn.nil [115] (by kernel_rfl) (by kernel_rfl) (spec_WithField_ok (Msg.mk o.Mti []) 2 o.Acct r2 h3) : Fn Tryz.prog 41 [(false, V.agg [vS o.Mti, V.nl 115]), (false, E3 2), (false, E9 o.Acct)] (V.tup [E83 r2.1, E4 r2.2]) []) (cj tt (cj (spec_OpCode_ok o.Op r3 h4) (cj tt (cj (od h5) (cj (spec_WithField_ok r2.1 3 (r3 ++ (bs [48, 48, 48, 48])) r4 h6) (cj (by simp [V.nv, nvL, nvL_all, nv_E3, nv_E4, nv_E9, nv_E81, nv_E83, nv_E115] : (false || ((V.tup [E83 r4.1, E4 r4.2]).nv && nvL [])) = true) (cj (rfl : (spec_ReqMsg_s1 o r1 r2 r4 r3) = (spec_ReqMsg_s1 o r1 r2 r4 r3)) (cj (rfl : (spec_ReqMsg_s1 o r1 r2 r4 r3) = (spec_ReqMsg_s1 o r1 r2 r4 r3)) (cj (spec_WithField_ok r4.1 11 o.Trace r5 h7) (cj (by simp [V.nv, nvL, nvL_all, nv_E3, nv_E4, nv_E9, nv_E81, nv_E83, nv_E115] : (false || ((V.tup [E83 r5.1, E4 r5.2]).nv && nvL [])) = true) (cj (spec_l11Hold_ok o.Op r6 h8) (cj tt (cj h9 (cj (spec_l11Amount_ok o.Op r20 h30) (cj tt (cj h31 (cj (spec_Wide_ok o.Amount 12 r21 h32) (cj tt (cj (spec_WithField_ok r5.1 4 r21 r22 h33) (cj (by simp [V.nv, nvL, nvL_all, nv_E3, nv_E4, nv_E9, nv_E81, nv_E83, nv_E115] : (false || ((V.tup [E83 r22.1, E4 r22.2]).nv && nvL [])) = true) (cj (rfl : (spec_ReqMsg_s6 o r1 r2 r4 r3 r5 r6 r20 r22 r21) = (spec_ReqMsg_s6 o r1 r2 r4 r3 r5 r6 r20 r22 r21)) (cj (rfl : (spec_ReqMsg_s6 o r1 r2 r4 r3 r5 r6 r20 r22 r21) = (spec_ReqMsg_s6 o r1 r2 r4 r3 r5 r6 r20 r22 r21)) (cj h34 (cj (spec_Wide_ok o.Ttl 4 r23 h35) (cj tt (cj (spec_WithField_ok r22.1 14 r23 r24 h36) (cj (by simp [V.nv, nvL, nvL_all, nv_E3, nv_E4, nv_E9, nv_E81, nv_E83, nv_E115] : (false || ((V.tup [E83 r24.1, E4 r24.2]).nv && nvL [])) = true) (cj (rfl : (spec_ReqMsg_s7 o r1 r2 r4 r3 r5 r6 r20 r22 r21 r24 r23) = (spec_ReqMsg_s7 o r1 r2 r4 r3 r5 r6 r20 r22 r21 r24 r23)) (cj (rfl : (spec_ReqMsg_s7 o r1 r2 r4 r3 r5 r6 r20 r22 r21 r24 r23) = (spec_ReqMsg_s7 o r1 r2 r4 r3 r5 r6 r20 r22 r21 r24 r23)) (cj h37 (cj (spec_WithField_ok r24.1 103 o.Other r25 h38) (cj1 (by simp [V.nv, nvL, nvL_all, nv_E3, nv_E4, nv_E9, nv_E81, nv_E83, nv_E115] : (false || ((V.tup [E83 r25.1, E4 r25.2]).nv && nvL [])) = true)))))))))))))))))))))))))))))))))))))))) (fun h37 =>
   Pn.some (Fn.of [.call [] (E4 r1) [], bF, .call [] (V.tup [E83 r2.1, E4 r2.2]) [], .draw [9], .call [] (E9 r3) [], .call [] (V.tup [E83 r4.1, E4 r4.2]) [], .loop .go ((spec_ReqMsg_s1 o r1 r2 r4 r3)), .wait 1, .ren [0, 1, 2, 4, 3], .wait 2, .ren [0, 1, 2, 4, 3], .call [] (V.tup [E83 r5.1, E4 r5.2]) [], .call [] (E4 r6) [], bF, .call [] (E4 r20) [], bT, .draw [8], .call [] (E9 r21) [], .call [] (V.tup [E83 r22.1, E4 r22.2]) [], .loop .go ((spec_ReqMsg_s6 o r1 r2 r4 r3 r5 r6 r20 r22 r21)), .wait 1, .ren [0, 1, 2, 6, 4, 3, 5], .wait 2, .ren [0, 1, 2, 6, 4, 3, 5], bT, .draw [8], .call [] (E9 r23) [], .call [] (V.tup [E83 r24.1, E4 r24.2]) [], .loop .go ((spec_ReqMsg_s7 o r1 r2 r4 r3 r5 r6 r20 r22 r21 r24 r23)), .wait 1, .ren [0, 1, 2, 7, 4, 5, 6, 3], .wait 2, .ren [0, 1, 2, 7, 4, 5, 6, 3], bF] (by kernel_rfl) (cj (spec_ReqOk_ok o r1 h1) (cj tt (cj (nf h2) (cj (Fn.nil [115] (by kernel_rfl) (by kernel_rfl) (spec_WithField_ok (Msg.mk o.Mti []) 2 o.Acct r2 h3) : Fn Tryz.prog 41 [(false, V.agg [vS o.Mti, V.nl 115]), (false, E3 2), (false, E9 o.Acct)] (V.tup [E83 r2.1, E4 r2.2]) []) (cj tt (cj (spec_OpCode_ok o.Op r3 h4) (cj tt (cj (od h5) (cj (spec_WithField_ok r2.1 3 (r3 ++ (bs [48, 48, 48, 48])) r4 h6) (cj (by simp [V.nv, nvL, nvL_all, nv_E3, nv_E4, nv_E9, nv_E81, nv_E83, nv_E115] : (false || ((V.tup [E83 r4.1, E4 r4.2]).nv && nvL [])) = true) (cj (rfl : (spec_ReqMsg_s1 o r1 r2 r4 r3) = (spec_ReqMsg_s1 o r1 r2 r4 r3)) (cj (rfl : (spec_ReqMsg_s1 o r1 r2 r4 r3) = (spec_ReqMsg_s1 o r1 r2 r4 r3)) (cj (spec_WithField_ok r4.1 11 o.Trace r5 h7) (cj (by simp [V.nv, nvL, nvL_all, nv_E3, nv_E4, nv_E9, nv_E81, nv_E83, nv_E115] : (false || ((V.tup [E83 r5.1, E4 r5.2]).nv && nvL [])) = true) (cj (spec_l11Hold_ok o.Op r6 h8) (cj tt (cj h9 (cj (spec_l11Amount_ok o.Op r20 h30) (cj tt (cj h31 (cj (spec_Wide_ok o.Amount 12 r21 h32) (cj tt (cj (spec_WithField_ok r5.1 4 r21 r22 h33) (cj (by simp [V.nv, nvL, nvL_all, nv_E3, nv_E4, nv_E9, nv_E81, nv_E83, nv_E115] : (false || ((V.tup [E83 r22.1, E4 r22.2]).nv && nvL [])) = true) (cj (rfl : (spec_ReqMsg_s6 o r1 r2 r4 r3 r5 r6 r20 r22 r21) = (spec_ReqMsg_s6 o r1 r2 r4 r3 r5 r6 r20 r22 r21)) (cj (rfl : (spec_ReqMsg_s6 o r1 r2 r4 r3 r5 r6 r20 r22 r21) = (spec_ReqMsg_s6 o r1 r2 r4 r3 r5 r6 r20 r22 r21)) (cj h34 (cj (spec_Wide_ok o.Ttl 4 r23 h35) (cj tt (cj (spec_WithField_ok r22.1 14 r23 r24 h36) (cj (by simp [V.nv, nvL, nvL_all, nv_E3, nv_E4, nv_E9, nv_E81, nv_E83, nv_E115] : (false || ((V.tup [E83 r24.1, E4 r24.2]).nv && nvL [])) = true) (cj (rfl : (spec_ReqMsg_s7 o r1 r2 r4 r3 r5 r6 r20 r22 r21 r24 r23) = (spec_ReqMsg_s7 o r1 r2 r4 r3 r5 r6 r20 r22 r21 r24 r23)) (cj (rfl : (spec_ReqMsg_s7 o r1 r2 r4 r3 r5 r6 r20 r22 r21 r24 r23) = (spec_ReqMsg_s7 o r1 r2 r4 r3 r5 r6 r20 r22 r21 r24 r23)) (cj1 h37))))))))))))))))))))))))))))))))))))))) (fun h34 =>
   Pn.ite (fun h39 =>
   Pn.bind (fun r26 h40 =>
   Pn.some (Fn.of [.call [] (E4 r1) [], bF, .call [] (V.tup [E83 r2.1, E4 r2.2]) [], .draw [9], .call [] (E9 r3) [], .call [] (V.tup [E83 r4.1, E4 r4.2]) [], .loop .go ((spec_ReqMsg_s1 o r1 r2 r4 r3)), .wait 1, .ren [0, 1, 2, 4, 3], .wait 2, .ren [0, 1, 2, 4, 3], .call [] (V.tup [E83 r5.1, E4 r5.2]) [], .call [] (E4 r6) [], bF, .call [] (E4 r20) [], bT, .draw [8], .call [] (E9 r21) [], .call [] (V.tup [E83 r22.1, E4 r22.2]) [], .loop .go ((spec_ReqMsg_s6 o r1 r2 r4 r3 r5 r6 r20 r22 r21)), .wait 1, .ren [0, 1, 2, 6, 4, 3, 5], .wait 2, .ren [0, 1, 2, 6, 4, 3, 5], bF, bT, .call [] (V.tup [E83 r26.1, E4 r26.2]) []] (by kernel_rfl) (cj (spec_ReqOk_ok o r1 h1) (cj tt (cj (nf h2) (cj (Fn.nil [115] (by kernel_rfl) (by kernel_rfl) (spec_WithField_ok (Msg.mk o.Mti []) 2 o.Acct r2 h3) : Fn Tryz.prog 41 [(false, V.agg [vS o.Mti, V.nl 115]), (false, E3 2), (false, E9 o.Acct)] (V.tup [E83 r2.1, E4 r2.2]) []) (cj tt (cj (spec_OpCode_ok o.Op r3 h4) (cj tt (cj (od h5) (cj (spec_WithField_ok r2.1 3 (r3 ++ (bs [48, 48, 48, 48])) r4 h6) (cj (by simp [V.nv, nvL, nvL_all, nv_E3, nv_E4, nv_E9, nv_E81, nv_E83, nv_E115] : (false || ((V.tup [E83 r4.1, E4 r4.2]).nv && nvL [])) = true) (cj (rfl : (spec_ReqMsg_s1 o r1 r2 r4 r3) = (spec_ReqMsg_s1 o r1 r2 r4 r3)) (cj (rfl : (spec_ReqMsg_s1 o r1 r2 r4 r3) = (spec_ReqMsg_s1 o r1 r2 r4 r3)) (cj (spec_WithField_ok r4.1 11 o.Trace r5 h7) (cj (by simp [V.nv, nvL, nvL_all, nv_E3, nv_E4, nv_E9, nv_E81, nv_E83, nv_E115] : (false || ((V.tup [E83 r5.1, E4 r5.2]).nv && nvL [])) = true) (cj (spec_l11Hold_ok o.Op r6 h8) (cj tt (cj h9 (cj (spec_l11Amount_ok o.Op r20 h30) (cj tt (cj h31 (cj (spec_Wide_ok o.Amount 12 r21 h32) (cj tt (cj (spec_WithField_ok r5.1 4 r21 r22 h33) (cj (by simp [V.nv, nvL, nvL_all, nv_E3, nv_E4, nv_E9, nv_E81, nv_E83, nv_E115] : (false || ((V.tup [E83 r22.1, E4 r22.2]).nv && nvL [])) = true) (cj (rfl : (spec_ReqMsg_s6 o r1 r2 r4 r3 r5 r6 r20 r22 r21) = (spec_ReqMsg_s6 o r1 r2 r4 r3 r5 r6 r20 r22 r21)) (cj (rfl : (spec_ReqMsg_s6 o r1 r2 r4 r3 r5 r6 r20 r22 r21) = (spec_ReqMsg_s6 o r1 r2 r4 r3 r5 r6 r20 r22 r21)) (cj h34 (cj h39 (cj (spec_WithField_ok r22.1 103 o.Other r26 h40) (cj1 (by simp [V.nv, nvL, nvL_all, nv_E3, nv_E4, nv_E9, nv_E81, nv_E83, nv_E115] : (false || ((V.tup [E83 r26.1, E4 r26.2]).nv && nvL [])) = true)))))))))))))))))))))))))))))))))) (fun h39 =>
   Pn.some (Fn.of [.call [] (E4 r1) [], bF, .call [] (V.tup [E83 r2.1, E4 r2.2]) [], .draw [9], .call [] (E9 r3) [], .call [] (V.tup [E83 r4.1, E4 r4.2]) [], .loop .go ((spec_ReqMsg_s1 o r1 r2 r4 r3)), .wait 1, .ren [0, 1, 2, 4, 3], .wait 2, .ren [0, 1, 2, 4, 3], .call [] (V.tup [E83 r5.1, E4 r5.2]) [], .call [] (E4 r6) [], bF, .call [] (E4 r20) [], bT, .draw [8], .call [] (E9 r21) [], .call [] (V.tup [E83 r22.1, E4 r22.2]) [], .loop .go ((spec_ReqMsg_s6 o r1 r2 r4 r3 r5 r6 r20 r22 r21)), .wait 1, .ren [0, 1, 2, 6, 4, 3, 5], .wait 2, .ren [0, 1, 2, 6, 4, 3, 5], bF, bF] (by kernel_rfl) (cj (spec_ReqOk_ok o r1 h1) (cj tt (cj (nf h2) (cj (Fn.nil [115] (by kernel_rfl) (by kernel_rfl) (spec_WithField_ok (Msg.mk o.Mti []) 2 o.Acct r2 h3) : Fn Tryz.prog 41 [(false, V.agg [vS o.Mti, V.nl 115]), (false, E3 2), (false, E9 o.Acct)] (V.tup [E83 r2.1, E4 r2.2]) []) (cj tt (cj (spec_OpCode_ok o.Op r3 h4) (cj tt (cj (od h5) (cj (spec_WithField_ok r2.1 3 (r3 ++ (bs [48, 48, 48, 48])) r4 h6) (cj (by simp [V.nv, nvL, nvL_all, nv_E3, nv_E4, nv_E9, nv_E81, nv_E83, nv_E115] : (false || ((V.tup [E83 r4.1, E4 r4.2]).nv && nvL [])) = true) (cj (rfl : (spec_ReqMsg_s1 o r1 r2 r4 r3) = (spec_ReqMsg_s1 o r1 r2 r4 r3)) (cj (rfl : (spec_ReqMsg_s1 o r1 r2 r4 r3) = (spec_ReqMsg_s1 o r1 r2 r4 r3)) (cj (spec_WithField_ok r4.1 11 o.Trace r5 h7) (cj (by simp [V.nv, nvL, nvL_all, nv_E3, nv_E4, nv_E9, nv_E81, nv_E83, nv_E115] : (false || ((V.tup [E83 r5.1, E4 r5.2]).nv && nvL [])) = true) (cj (spec_l11Hold_ok o.Op r6 h8) (cj tt (cj h9 (cj (spec_l11Amount_ok o.Op r20 h30) (cj tt (cj h31 (cj (spec_Wide_ok o.Amount 12 r21 h32) (cj tt (cj (spec_WithField_ok r5.1 4 r21 r22 h33) (cj (by simp [V.nv, nvL, nvL_all, nv_E3, nv_E4, nv_E9, nv_E81, nv_E83, nv_E115] : (false || ((V.tup [E83 r22.1, E4 r22.2]).nv && nvL [])) = true) (cj (rfl : (spec_ReqMsg_s6 o r1 r2 r4 r3 r5 r6 r20 r22 r21) = (spec_ReqMsg_s6 o r1 r2 r4 r3 r5 r6 r20 r22 r21)) (cj (rfl : (spec_ReqMsg_s6 o r1 r2 r4 r3 r5 r6 r20 r22 r21) = (spec_ReqMsg_s6 o r1 r2 r4 r3 r5 r6 r20 r22 r21)) (cj h34 (cj1 h39)))))))))))))))))))))))))))))))))) (fun h31 =>
   Pn.ite (fun h41 =>
   Pn.bind (fun r27 h42 =>
   Pn.bind (fun r28 h43 =>
   Pn.ite (fun h44 =>
   Pn.bind (fun r29 h45 =>
   Pn.some (Fn.of [.call [] (E4 r1) [], bF, .call [] (V.tup [E83 r2.1, E4 r2.2]) [], .draw [9], .call [] (E9 r3) [], .call [] (V.tup [E83 r4.1, E4 r4.2]) [], .loop .go ((spec_ReqMsg_s1 o r1 r2 r4 r3)), .wait 1, .ren [0, 1, 2, 4, 3], .wait 2, .ren [0, 1, 2, 4, 3], .call [] (V.tup [E83 r5.1, E4 r5.2]) [], .call [] (E4 r6) [], bF, .call [] (E4 r20) [], bF, bT, .draw [8], .call [] (E9 r27) [], .call [] (V.tup [E83 r28.1, E4 r28.2]) [], .loop .go ((spec_ReqMsg_s8 o r1 r2 r4 r3 r5 r6 r20 r28 r27)), .wait 1, .ren [0, 1, 2, 6, 4, 3, 5], .wait 2, .ren [0, 1, 2, 6, 4, 3, 5], bT, .call [] (V.tup [E83 r29.1, E4 r29.2]) []] (by kernel_rfl) (cj (spec_ReqOk_ok o r1 h1) (cj tt (cj (nf h2) (cj (Fn.nil [115] (by kernel_rfl) (by kernel_rfl) (spec_WithField_ok (Msg.mk o.Mti []) 2 o.Acct r2 h3) : Fn Tryz.prog 41 [(false, V.agg [vS o.Mti, V.nl 115]), (false, E3 2), (false, E9 o.Acct)] (V.tup [E83 r2.1, E4 r2.2]) []) (cj tt (cj (spec_OpCode_ok o.Op r3 h4) (cj tt (cj (od h5) (cj (spec_WithField_ok r2.1 3 (r3 ++ (bs [48, 48, 48, 48])) r4 h6) (cj (by simp [V.nv, nvL, nvL_all, nv_E3, nv_E4, nv_E9, nv_E81, nv_E83, nv_E115] : (false || ((V.tup [E83 r4.1, E4 r4.2]).nv && nvL [])) = true) (cj (rfl : (spec_ReqMsg_s1 o r1 r2 r4 r3) = (spec_ReqMsg_s1 o r1 r2 r4 r3)) (cj (rfl : (spec_ReqMsg_s1 o r1 r2 r4 r3) = (spec_ReqMsg_s1 o r1 r2 r4 r3)) (cj (spec_WithField_ok r4.1 11 o.Trace r5 h7) (cj (by simp [V.nv, nvL, nvL_all, nv_E3, nv_E4, nv_E9, nv_E81, nv_E83, nv_E115] : (false || ((V.tup [E83 r5.1, E4 r5.2]).nv && nvL [])) = true) (cj (spec_l11Hold_ok o.Op r6 h8) (cj tt (cj h9 (cj (spec_l11Amount_ok o.Op r20 h30) (cj tt (cj h31 (cj h41 (cj (spec_Wide_ok o.Ttl 4 r27 h42) (cj tt (cj (spec_WithField_ok r5.1 14 r27 r28 h43) (cj (by simp [V.nv, nvL, nvL_all, nv_E3, nv_E4, nv_E9, nv_E81, nv_E83, nv_E115] : (false || ((V.tup [E83 r28.1, E4 r28.2]).nv && nvL [])) = true) (cj (rfl : (spec_ReqMsg_s8 o r1 r2 r4 r3 r5 r6 r20 r28 r27) = (spec_ReqMsg_s8 o r1 r2 r4 r3 r5 r6 r20 r28 r27)) (cj (rfl : (spec_ReqMsg_s8 o r1 r2 r4 r3 r5 r6 r20 r28 r27) = (spec_ReqMsg_s8 o r1 r2 r4 r3 r5 r6 r20 r28 r27)) (cj h44 (cj (spec_WithField_ok r28.1 103 o.Other r29 h45) (cj1 (by simp [V.nv, nvL, nvL_all, nv_E3, nv_E4, nv_E9, nv_E81, nv_E83, nv_E115] : (false || ((V.tup [E83 r29.1, E4 r29.2]).nv && nvL [])) = true)))))))))))))))))))))))))))))))))) (fun h44 =>
   Pn.some (Fn.of [.call [] (E4 r1) [], bF, .call [] (V.tup [E83 r2.1, E4 r2.2]) [], .draw [9], .call [] (E9 r3) [], .call [] (V.tup [E83 r4.1, E4 r4.2]) [], .loop .go ((spec_ReqMsg_s1 o r1 r2 r4 r3)), .wait 1, .ren [0, 1, 2, 4, 3], .wait 2, .ren [0, 1, 2, 4, 3], .call [] (V.tup [E83 r5.1, E4 r5.2]) [], .call [] (E4 r6) [], bF, .call [] (E4 r20) [], bF, bT, .draw [8], .call [] (E9 r27) [], .call [] (V.tup [E83 r28.1, E4 r28.2]) [], .loop .go ((spec_ReqMsg_s8 o r1 r2 r4 r3 r5 r6 r20 r28 r27)), .wait 1, .ren [0, 1, 2, 6, 4, 3, 5], .wait 2, .ren [0, 1, 2, 6, 4, 3, 5], bF] (by kernel_rfl) (cj (spec_ReqOk_ok o r1 h1) (cj tt (cj (nf h2) (cj (Fn.nil [115] (by kernel_rfl) (by kernel_rfl) (spec_WithField_ok (Msg.mk o.Mti []) 2 o.Acct r2 h3) : Fn Tryz.prog 41 [(false, V.agg [vS o.Mti, V.nl 115]), (false, E3 2), (false, E9 o.Acct)] (V.tup [E83 r2.1, E4 r2.2]) []) (cj tt (cj (spec_OpCode_ok o.Op r3 h4) (cj tt (cj (od h5) (cj (spec_WithField_ok r2.1 3 (r3 ++ (bs [48, 48, 48, 48])) r4 h6) (cj (by simp [V.nv, nvL, nvL_all, nv_E3, nv_E4, nv_E9, nv_E81, nv_E83, nv_E115] : (false || ((V.tup [E83 r4.1, E4 r4.2]).nv && nvL [])) = true) (cj (rfl : (spec_ReqMsg_s1 o r1 r2 r4 r3) = (spec_ReqMsg_s1 o r1 r2 r4 r3)) (cj (rfl : (spec_ReqMsg_s1 o r1 r2 r4 r3) = (spec_ReqMsg_s1 o r1 r2 r4 r3)) (cj (spec_WithField_ok r4.1 11 o.Trace r5 h7) (cj (by simp [V.nv, nvL, nvL_all, nv_E3, nv_E4, nv_E9, nv_E81, nv_E83, nv_E115] : (false || ((V.tup [E83 r5.1, E4 r5.2]).nv && nvL [])) = true) (cj (spec_l11Hold_ok o.Op r6 h8) (cj tt (cj h9 (cj (spec_l11Amount_ok o.Op r20 h30) (cj tt (cj h31 (cj h41 (cj (spec_Wide_ok o.Ttl 4 r27 h42) (cj tt (cj (spec_WithField_ok r5.1 14 r27 r28 h43) (cj (by simp [V.nv, nvL, nvL_all, nv_E3, nv_E4, nv_E9, nv_E81, nv_E83, nv_E115] : (false || ((V.tup [E83 r28.1, E4 r28.2]).nv && nvL [])) = true) (cj (rfl : (spec_ReqMsg_s8 o r1 r2 r4 r3 r5 r6 r20 r28 r27) = (spec_ReqMsg_s8 o r1 r2 r4 r3 r5 r6 r20 r28 r27)) (cj (rfl : (spec_ReqMsg_s8 o r1 r2 r4 r3 r5 r6 r20 r28 r27) = (spec_ReqMsg_s8 o r1 r2 r4 r3 r5 r6 r20 r28 r27)) (cj1 h44))))))))))))))))))))))))))))))))) (fun h41 =>
   Pn.ite (fun h46 =>
   Pn.bind (fun r30 h47 =>
   Pn.some (Fn.of [.call [] (E4 r1) [], bF, .call [] (V.tup [E83 r2.1, E4 r2.2]) [], .draw [9], .call [] (E9 r3) [], .call [] (V.tup [E83 r4.1, E4 r4.2]) [], .loop .go ((spec_ReqMsg_s1 o r1 r2 r4 r3)), .wait 1, .ren [0, 1, 2, 4, 3], .wait 2, .ren [0, 1, 2, 4, 3], .call [] (V.tup [E83 r5.1, E4 r5.2]) [], .call [] (E4 r6) [], bF, .call [] (E4 r20) [], bF, bF, bT, .call [] (V.tup [E83 r30.1, E4 r30.2]) []] (by kernel_rfl) (cj (spec_ReqOk_ok o r1 h1) (cj tt (cj (nf h2) (cj (Fn.nil [115] (by kernel_rfl) (by kernel_rfl) (spec_WithField_ok (Msg.mk o.Mti []) 2 o.Acct r2 h3) : Fn Tryz.prog 41 [(false, V.agg [vS o.Mti, V.nl 115]), (false, E3 2), (false, E9 o.Acct)] (V.tup [E83 r2.1, E4 r2.2]) []) (cj tt (cj (spec_OpCode_ok o.Op r3 h4) (cj tt (cj (od h5) (cj (spec_WithField_ok r2.1 3 (r3 ++ (bs [48, 48, 48, 48])) r4 h6) (cj (by simp [V.nv, nvL, nvL_all, nv_E3, nv_E4, nv_E9, nv_E81, nv_E83, nv_E115] : (false || ((V.tup [E83 r4.1, E4 r4.2]).nv && nvL [])) = true) (cj (rfl : (spec_ReqMsg_s1 o r1 r2 r4 r3) = (spec_ReqMsg_s1 o r1 r2 r4 r3)) (cj (rfl : (spec_ReqMsg_s1 o r1 r2 r4 r3) = (spec_ReqMsg_s1 o r1 r2 r4 r3)) (cj (spec_WithField_ok r4.1 11 o.Trace r5 h7) (cj (by simp [V.nv, nvL, nvL_all, nv_E3, nv_E4, nv_E9, nv_E81, nv_E83, nv_E115] : (false || ((V.tup [E83 r5.1, E4 r5.2]).nv && nvL [])) = true) (cj (spec_l11Hold_ok o.Op r6 h8) (cj tt (cj h9 (cj (spec_l11Amount_ok o.Op r20 h30) (cj tt (cj h31 (cj h41 (cj h46 (cj (spec_WithField_ok r5.1 103 o.Other r30 h47) (cj1 (by simp [V.nv, nvL, nvL_all, nv_E3, nv_E4, nv_E9, nv_E81, nv_E83, nv_E115] : (false || ((V.tup [E83 r30.1, E4 r30.2]).nv && nvL [])) = true)))))))))))))))))))))))))))) (fun h46 =>
   Pn.some (Fn.of [.call [] (E4 r1) [], bF, .call [] (V.tup [E83 r2.1, E4 r2.2]) [], .draw [9], .call [] (E9 r3) [], .call [] (V.tup [E83 r4.1, E4 r4.2]) [], .loop .go ((spec_ReqMsg_s1 o r1 r2 r4 r3)), .wait 1, .ren [0, 1, 2, 4, 3], .wait 2, .ren [0, 1, 2, 4, 3], .call [] (V.tup [E83 r5.1, E4 r5.2]) [], .call [] (E4 r6) [], bF, .call [] (E4 r20) [], bF, bF, bF] (by kernel_rfl) (cj (spec_ReqOk_ok o r1 h1) (cj tt (cj (nf h2) (cj (Fn.nil [115] (by kernel_rfl) (by kernel_rfl) (spec_WithField_ok (Msg.mk o.Mti []) 2 o.Acct r2 h3) : Fn Tryz.prog 41 [(false, V.agg [vS o.Mti, V.nl 115]), (false, E3 2), (false, E9 o.Acct)] (V.tup [E83 r2.1, E4 r2.2]) []) (cj tt (cj (spec_OpCode_ok o.Op r3 h4) (cj tt (cj (od h5) (cj (spec_WithField_ok r2.1 3 (r3 ++ (bs [48, 48, 48, 48])) r4 h6) (cj (by simp [V.nv, nvL, nvL_all, nv_E3, nv_E4, nv_E9, nv_E81, nv_E83, nv_E115] : (false || ((V.tup [E83 r4.1, E4 r4.2]).nv && nvL [])) = true) (cj (rfl : (spec_ReqMsg_s1 o r1 r2 r4 r3) = (spec_ReqMsg_s1 o r1 r2 r4 r3)) (cj (rfl : (spec_ReqMsg_s1 o r1 r2 r4 r3) = (spec_ReqMsg_s1 o r1 r2 r4 r3)) (cj (spec_WithField_ok r4.1 11 o.Trace r5 h7) (cj (by simp [V.nv, nvL, nvL_all, nv_E3, nv_E4, nv_E9, nv_E81, nv_E83, nv_E115] : (false || ((V.tup [E83 r5.1, E4 r5.2]).nv && nvL [])) = true) (cj (spec_l11Hold_ok o.Op r6 h8) (cj tt (cj h9 (cj (spec_l11Amount_ok o.Op r20 h30) (cj tt (cj h31 (cj h41 (cj1 h46)))))))))))))))))))))))))))))))) (fun h5 =>
   Pn.none)))) (fun h2 =>
   Pn.some (Fn.of [.call [] (E4 r1) [], bT] (by kernel_rfl) (cj (spec_ReqOk_ok o r1 h1) (cj tt (cj1 (nt h2)))))))
def spec_WithoutField_l0 (m : Msg) (no : Int) : List Field → (List Field) → Option ((List Field))
  | [], v1 =>
   some v1
  | x1 :: t1, v1 =>
   if (x1.No != no) = true then
   if (capOk (v1.length + 1)) = true then
   spec_WithoutField_l0 m no t1 (v1 ++ [x1])
   else none
   else
   spec_WithoutField_l0 m no t1 v1
theorem spec_WithoutField_l0_ok (m : Msg) (no : Int) (h2 : capOk m.List.length = true) : ∀ (t1 p1 : List Field) (_ : m.List = p1 ++ t1) (v1 : List Field), Pn (LpO Tryz.prog (sub (codeOf Tryz.prog 62) [1, 1, 0, 1, 0, 0]) (st 30 [(1, vI no), (4, V.ptr 0 0), (5, V.ptr 1 0), (12, lF115 m.List), (13, vI (m.List.length : Int)), (14, vI (p1.length : Int))] [Blk.box 83 [vE, V.nl 115], Blk.box 83 [vS m.Mti, V.ow 2], Blk.row 115 (List.map E115 v1) []] []) (fun (y : (List Field)) => (X.out 0, st 30 [(4, V.ptr 0 0), (5, V.ptr 1 0)] [Blk.box 83 [vE, V.nl 115], Blk.box 83 [vS m.Mti, V.ow 2], Blk.row 115 (List.map E115 y) []] []))) (spec_WithoutField_l0 m no t1 v1)
  | [], p1, h1, v1 => by
    unfold spec_WithoutField_l0
    exact
     Pn.some (LpO.out [bF, .mask [4, 5], .ren [0, 1, 2]] (by kernel_rfl) (show X.out 0 ≠ X.go from nofun) (cj1 (rng_end h1 : (decide ((p1.length : Int) < (m.List.length : Int))) = false)))
  | x1 :: t1, p1, h1, v1 => by
    unfold spec_WithoutField_l0
    exact
     Pn.ite (fun h3 =>
     Pn.ite (fun h4 =>
     LpO.go [bT, .el (E115 x1), bT, .cp [V.agg [vI x1.No, vS x1.Text]], .nb 5 (.row 115 (List.map E115 (v1 ++ [x1])) []), .wait 5, .mask [1, 4, 5, 12, 13, 14], .ren [0, 1, 5], .nm 14 (vI ((p1 ++ [x1]).length : Int))] (by kernel_rfl) (cj (rng_lt h1 : (decide ((p1.length : Int) < (m.List.length : Int))) = true) (cj (by omega : (0 : Int) ≤ (p1.length : Int)) (cj (rng_get _ h1 : (List.map E115 m.List)[(p1.length : Int).toNat]? = some (E115 x1)) (cj h3 (cj (rfl : [V.agg [vI x1.No, vS x1.Text]] = [V.agg [vI x1.No, vS x1.Text]]) (cj (rfl : [V.agg [vI x1.No, vS x1.Text]].all V.flatE = true) (cj (cap1 (capN (by simp) h4) : (List.map E115 v1).length + [V.agg [vI x1.No, vS x1.Text]].length ≤ 9223372036854775807) (cj (cap2 (capN (by simp) h4) (by decide) : ((List.map E115 v1).length + [V.agg [vI x1.No, vS x1.Text]].length) * 24 ≤ 140737488355328) (cj (nb_app E115 v1 [x1] : Blk.row 115 ((List.map E115 v1) ++ [V.agg [vI x1.No, vS x1.Text]]) [] = Blk.row 115 (List.map E115 (v1 ++ [x1])) []) (cj1 (rng_next h1 h2 : vI (i64 ((p1.length : Int) + 1)) = vI ((p1 ++ [x1]).length : Int)))))))))))) (spec_WithoutField_l0_ok m no h2 t1 (p1 ++ [x1]) (rng_step h1) (v1 ++ [x1]))) (fun h4 =>
     Pn.none)) (fun h3 =>
     LpO.go [bT, .el (E115 x1), bF, .wait 2, .mask [1, 4, 5, 12, 13, 14], .ren [0, 1, 2], .nm 14 (vI ((p1 ++ [x1]).length : Int))] (by kernel_rfl) (cj (rng_lt h1 : (decide ((p1.length : Int) < (m.List.length : Int))) = true) (cj (by omega : (0 : Int) ≤ (p1.length : Int)) (cj (rng_get _ h1 : (List.map E115 m.List)[(p1.length : Int).toNat]? = some (E115 x1)) (cj h3 (cj1 (rng_next h1 h2 : vI (i64 ((p1.length : Int) + 1)) = vI ((p1 ++ [x1]).length : Int))))))) (spec_WithoutField_l0_ok m no h2 t1 (p1 ++ [x1]) (rng_step h1) v1))
def spec_WithoutField (m : Msg) (no : Int) : Option (Msg) :=
 if (capOk m.List.length) = true then
 (spec_WithoutField_l0 m no m.List []).bind fun r1 =>
 some (Msg.mk m.Mti r1)
 else none
theorem spec_WithoutField_ok (m : Msg) (no : Int) : Pn (fun y => Fn Tryz.prog 62 [(false, E83 m), (false, E3 no)] (E83 y) []) (spec_WithoutField m no) := by
  unfold spec_WithoutField
  exact
   Pn.ite (fun h5 =>
   Pn.bind (fun r1 h6 =>
   Pn.some (Fn.of [.wait 10, .nm 13 (vI (m.List.length : Int)), .wait 2, .mask [1, 4, 5, 12, 13, 14], .ren [1, 2], .ownb 1 1, .mask [1, 4, 5, 12, 13, 14], .ren [0, 1, 2], .loop (X.out 0) (st 30 [(4, V.ptr 0 0), (5, V.ptr 1 0)] [Blk.box 83 [vE, V.nl 115], Blk.box 83 [vS m.Mti, V.ow 2], Blk.row 115 (List.map E115 r1) []] [])] (by kernel_rfl) (cj (len_nm E115 m.List) (cj1 (spec_WithoutField_l0_ok m no h5 m.List [] rfl [] r1 h6)))))) (fun h5 =>
   Pn.none)
def spec_l01Raw (c : l01Cur) : Option (Int × l01Cur) :=
 (spec_l01Pick c [0, 1, (-1), 2, 7, 99, 1000, 4611686018427387903, 4611686018427387904, 4611686018427387905, 9007199254740992, 9223372036854775807, (-9223372036854775808), 1000000000]).bind fun r1 =>
 some (r1.1, r1.2.1)
theorem spec_l01Raw_ok (c : l01Cur) : Pn (fun y => Fn Tryz.prog 128 [(true, V.bx 47 [lF5 c.b, vI c.i, vI c.h])] (E3 y.1) [V.bx 47 [lF5 y.2.b, vI y.2.i, vI y.2.h]]) (spec_l01Raw c) := by
  unfold spec_l01Raw
  exact
   Pn.bind (fun r1 h1 =>
   Pn.some (Fn.of [.call [true, true] (E3 r1.1) [V.bx 47 [lF5 r1.2.1.b, vI r1.2.1.i, vI r1.2.1.h], lT3 r1.2.2]] (by kernel_rfl) (cj (spec_l01Pick_ok c [0, 1, (-1), 2, 7, 99, 1000, 4611686018427387903, 4611686018427387904, 4611686018427387905, 9007199254740992, 9223372036854775807, (-9223372036854775808), 1000000000] r1 h1) (cj1 tt))))
def spec_l01Near (c : l01Cur) (lo : Int) (hi : Int) : Option (Int × l01Cur) :=
 (spec_l01Below c 12).bind fun r1 =>
 if (r1.1 == 0) = true then
 some (lo, r1.2)
 else
 if (r1.1 == 1) = true then
 some (hi, r1.2)
 else
 if (r1.1 == 2) = true then
 some (i64 (lo - 1), r1.2)
 else
 if (r1.1 == 3) = true then
 some (i64 (hi + 1), r1.2)
 else
 if (r1.1 == 4) = true then
 (spec_l01Raw r1.2).bind fun r2 =>
 some (r2.1, r2.2)
 else
 if (decide (60000 < (i64 (hi - lo)))) = true then
 (spec_l01Below r1.2 60000).bind fun r3 =>
 some (i64 (lo + r3.1), r3.2)
 else
 (spec_l01Below r1.2 (i64 ((i64 (hi - lo)) + 1))).bind fun r4 =>
 some (i64 (lo + r4.1), r4.2)
theorem spec_l01Near_ok (c : l01Cur) (lo : Int) (hi : Int) : Pn (fun y => Fn Tryz.prog 101 [(true, V.bx 47 [lF5 c.b, vI c.i, vI c.h]), (false, E3 lo), (false, E3 hi)] (E3 y.1) [V.bx 47 [lF5 y.2.b, vI y.2.i, vI y.2.h]]) (spec_l01Near c lo hi) := by
  unfold spec_l01Near
  exact
   Pn.bind (fun r1 h1 =>
   Pn.ite (fun h2 =>
   Pn.some (Fn.of [.call [true, false] (E3 r1.1) [V.bx 47 [lF5 r1.2.b, vI r1.2.i, vI r1.2.h]], bT] (by kernel_rfl) (cj (spec_l01Below_ok c 12 r1 h1) (cj tt (cj1 h2))))) (fun h2 =>
   Pn.ite (fun h3 =>
   Pn.some (Fn.of [.call [true, false] (E3 r1.1) [V.bx 47 [lF5 r1.2.b, vI r1.2.i, vI r1.2.h]], bF, bT] (by kernel_rfl) (cj (spec_l01Below_ok c 12 r1 h1) (cj tt (cj h2 (cj1 h3)))))) (fun h3 =>
   Pn.ite (fun h4 =>
   Pn.some (Fn.of [.call [true, false] (E3 r1.1) [V.bx 47 [lF5 r1.2.b, vI r1.2.i, vI r1.2.h]], bF, bF, bT] (by kernel_rfl) (cj (spec_l01Below_ok c 12 r1 h1) (cj tt (cj h2 (cj h3 (cj1 h4))))))) (fun h4 =>
   Pn.ite (fun h5 =>
   Pn.some (Fn.of [.call [true, false] (E3 r1.1) [V.bx 47 [lF5 r1.2.b, vI r1.2.i, vI r1.2.h]], bF, bF, bF, bT] (by kernel_rfl) (cj (spec_l01Below_ok c 12 r1 h1) (cj tt (cj h2 (cj h3 (cj h4 (cj1 h5)))))))) (fun h5 =>
   Pn.ite (fun h6 =>
   Pn.bind (fun r2 h7 =>
   Pn.some (Fn.of [.call [true, false] (E3 r1.1) [V.bx 47 [lF5 r1.2.b, vI r1.2.i, vI r1.2.h]], bF, bF, bF, bF, bT, .call [true] (E3 r2.1) [V.bx 47 [lF5 r2.2.b, vI r2.2.i, vI r2.2.h]]] (by kernel_rfl) (cj (spec_l01Below_ok c 12 r1 h1) (cj tt (cj h2 (cj h3 (cj h4 (cj h5 (cj h6 (cj (spec_l01Raw_ok r1.2 r2 h7) (cj1 tt)))))))))))) (fun h6 =>
   Pn.ite (fun h8 =>
   Pn.bind (fun r3 h9 =>
   Pn.some (Fn.of [.call [true, false] (E3 r1.1) [V.bx 47 [lF5 r1.2.b, vI r1.2.i, vI r1.2.h]], bF, bF, bF, bF, bF, bT, .call [true, false] (E3 r3.1) [V.bx 47 [lF5 r3.2.b, vI r3.2.i, vI r3.2.h]]] (by kernel_rfl) (cj (spec_l01Below_ok c 12 r1 h1) (cj tt (cj h2 (cj h3 (cj h4 (cj h5 (cj h6 (cj h8 (cj (spec_l01Below_ok r1.2 60000 r3 h9) (cj1 tt))))))))))))) (fun h8 =>
   Pn.bind (fun r4 h10 =>
   Pn.some (Fn.of [.call [true, false] (E3 r1.1) [V.bx 47 [lF5 r1.2.b, vI r1.2.i, vI r1.2.h]], bF, bF, bF, bF, bF, bF, .call [true, false] (E3 r4.1) [V.bx 47 [lF5 r4.2.b, vI r4.2.i, vI r4.2.h]]] (by kernel_rfl) (cj (spec_l01Below_ok c 12 r1 h1) (cj tt (cj h2 (cj h3 (cj h4 (cj h5 (cj h6 (cj h8 (cj (spec_l01Below_ok r1.2 (i64 ((i64 (hi - lo)) + 1)) r4 h10) (cj1 tt)))))))))))))))))))
def spec_l03No (c : l01Cur) : Option (Int × l01Cur) :=
 (spec_l01Once c 10).bind fun r1 =>
 if r1.1 = true then
 (spec_l01Near r1.2 1 128).bind fun r2 =>
 some (r2.1, r2.2)
 else
 (spec_l01Pick r1.2 [2, 3, 4, 7, 11, 14, 37, 38, 39, 41, 48, 49, 54, 95, 102, 103]).bind fun r3 =>
 some (r3.1, r3.2.1)
theorem spec_l03No_ok (c : l01Cur) : Pn (fun y => Fn Tryz.prog 63 [(true, V.bx 47 [lF5 c.b, vI c.i, vI c.h])] (E3 y.1) [V.bx 47 [lF5 y.2.b, vI y.2.i, vI y.2.h]]) (spec_l03No c) := by
  unfold spec_l03No
  exact
   Pn.bind (fun r1 h1 =>
   Pn.ite (fun h2 =>
   Pn.bind (fun r2 h3 =>
   Pn.some (Fn.of [.call [true, false] (E4 r1.1) [V.bx 47 [lF5 r1.2.b, vI r1.2.i, vI r1.2.h]], bT, .call [true, false, false] (E3 r2.1) [V.bx 47 [lF5 r2.2.b, vI r2.2.i, vI r2.2.h]]] (by kernel_rfl) (cj (spec_l01Once_ok c 10 r1 h1) (cj tt (cj h2 (cj (spec_l01Near_ok r1.2 1 128 r2 h3) (cj1 tt)))))))) (fun h2 =>
   Pn.bind (fun r3 h4 =>
   Pn.some (Fn.of [.call [true, false] (E4 r1.1) [V.bx 47 [lF5 r1.2.b, vI r1.2.i, vI r1.2.h]], bF, .call [true, true] (E3 r3.1) [V.bx 47 [lF5 r3.2.1.b, vI r3.2.1.i, vI r3.2.1.h], lT3 r3.2.2]] (by kernel_rfl) (cj (spec_l01Once_ok c 10 r1 h1) (cj tt (cj h2 (cj (spec_l01Pick_ok r1.2 [2, 3, 4, 7, 11, 14, 37, 38, 39, 41, 48, 49, 54, 95, 102, 103] r3 h4) (cj1 tt)))))))))
end Go.Proofs.YtdahdpnkppknfaaGreatDoorM
