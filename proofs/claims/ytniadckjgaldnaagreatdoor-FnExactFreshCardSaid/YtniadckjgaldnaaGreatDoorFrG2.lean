/- Printed by gen.py: functions on plain data, and that the program computes them. No condition. -/
import Derived.Test.YtniadckjgaldnaaGreatDoorFrG1
namespace Go.Proofs.YtniadckjgaldnaaGreatDoorM
set_option linter.unusedVariables false
set_option linter.unusedSimpArgs false
open Go.RowKit
set_option maxRecDepth 100000

def impl_Parse_c0 (o : List Int) (r1 : ByteArray × Int × Bool) : Option (Lo Unit Unit) :=
 if r1.2.2 = true then
 some (.out ())
 else
 some (.ret ())
theorem impl_Parse_c0_ok (o : List Int) (r1 : ByteArray × Int × Bool) : Pn (JnO Tryz.prog (sub (codeOf Tryz.prog 22) [1, 1, 0]) (st 128 [(0, lF5 o), (2, V.ptr 0 0), (4, vS r1.1), (5, vI r1.2.1), (6, vB r1.2.2)] [Blk.box 46 [vE, V.nl 59]] []) (fun (y : Lo Unit Unit) => Lo.elim y (fun s => (X.go, st 128 [(0, lF5 o), (2, V.ptr 0 0), (4, vS r1.1), (5, vI r1.2.1)] [Blk.box 46 [vE, V.nl 59]] [])) (fun s => (X.ret, st 128 [(2, V.ptr 0 0), (3, vI 1)] [Blk.box 46 [vE, V.nl 59]] [])))) (impl_Parse_c0 o r1) := by
  unfold impl_Parse_c0
  exact
   Pn.ite (fun h2 =>
   Pn.some (JnO.of [bF, .mask [0, 2, 4, 5], .ren [0]] (p := [(!r1.2.2) = false]) (by kernel_rfl) (cj1 (nf h2)))) (fun h2 =>
   Pn.some (JnO.of [bT, .wait 3, .mask [2, 3], .ren [0]] (p := [(!r1.2.2) = true]) (by kernel_rfl) (cj1 (nt h2))))
def impl_Parse_c1 (o : List Int) (r1 : ByteArray × Int × Bool) (r3 : (List Int) × Int × Bool) : Option (Lo Unit Unit) :=
 if r3.2.2 = true then
 some (.out ())
 else
 some (.ret ())
theorem impl_Parse_c1_ok (o : List Int) (r1 : ByteArray × Int × Bool) (r3 : (List Int) × Int × Bool) : Pn (JnO Tryz.prog (sub (codeOf Tryz.prog 22) [1, 1, 1, 1, 0]) (st 128 [(0, lF5 o), (2, V.ptr 0 0), (4, vS r1.1), (5, vI r3.2.1), (6, vB r3.2.2), (7, V.ow 1)] [Blk.box 46 [vE, V.nl 59], Blk.row 3 (List.map E3 r3.1) []] []) (fun (y : Lo Unit Unit) => Lo.elim y (fun s => (X.go, st 128 [(0, lF5 o), (2, V.ptr 0 0), (4, vS r1.1), (5, vI r3.2.1), (7, V.ow 1)] [Blk.box 46 [vE, V.nl 59], Blk.row 3 (List.map E3 r3.1) []] [])) (fun s => (X.ret, st 128 [(2, V.ptr 0 0), (3, vI 2)] [Blk.box 46 [vE, V.nl 59]] [])))) (impl_Parse_c1 o r1 r3) := by
  unfold impl_Parse_c1
  exact
   Pn.ite (fun h7 =>
   Pn.some (JnO.of [bF, .mask [0, 2, 4, 5, 7], .ren [0, 1]] (p := [(!r3.2.2) = false]) (by kernel_rfl) (cj1 (nf h7)))) (fun h7 =>
   Pn.some (JnO.of [bT, .wait 3, .mask [2, 3], .ren [0]] (p := [(!r3.2.2) = true]) (by kernel_rfl) (cj1 (nt h7))))
def impl_Parse_c4 (o : List Int) (r1 : ByteArray × Int × Bool) (r3 : (List Int) × Int × Bool) (v1 : Int) (v2 : Bool) (v3 : List Int) : Option (Lo Unit Unit) :=
 if (decide (v1 < (r3.1.length : Int))) = true then
 some (.out ())
 else
 some (.ret ())
theorem impl_Parse_c4_ok (o : List Int) (r1 : ByteArray × Int × Bool) (r3 : (List Int) × Int × Bool) (v1 : Int) (v2 : Bool) (v3 : List Int) : Pn (JnO Tryz.prog (sub (codeOf Tryz.prog 22) [1, 1, 1, 1, 1, 1, 0, 1, 0, 0, 1, 0]) (st 128 [(0, lF5 o), (2, V.ptr 0 0), (4, vS r1.1), (5, vI r3.2.1), (8, V.ow 1), (9, vB v2), (41, V.ow 2), (42, vI (r3.1.length : Int)), (43, vI v1), (44, vB (decide (v1 < (r3.1.length : Int))))] [Blk.box 46 [vE, V.nl 59], Blk.row 3 (List.map E3 v3) [], Blk.row 3 (List.map E3 r3.1) []] []) (fun (y : Lo Unit Unit) => Lo.elim y (fun s => (X.go, st 128 [(0, lF5 o), (2, V.ptr 0 0), (4, vS r1.1), (5, vI r3.2.1), (8, V.ow 1), (9, vB v2), (41, V.ow 2), (42, vI (r3.1.length : Int)), (43, vI v1)] [Blk.box 46 [vE, V.nl 59], Blk.row 3 (List.map E3 v3) [], Blk.row 3 (List.map E3 r3.1) []] [])) (fun s => (X.out 0, st 128 [(0, lF5 o), (2, V.ptr 0 0), (4, vS r1.1), (5, vI r3.2.1), (8, V.ow 1), (9, vB v2)] [Blk.box 46 [vE, V.nl 59], Blk.row 3 (List.map E3 v3) []] [])))) (impl_Parse_c4 o r1 r3 v1 v2 v3) := by
  unfold impl_Parse_c4
  exact
   Pn.ite (fun h11 =>
   Pn.some (JnO.of [bT, .mask [0, 2, 4, 5, 8, 9, 41, 42, 43], .ren [0, 1, 2]] (p := [(decide (v1 < (r3.1.length : Int))) = true]) (by kernel_rfl) (cj1 h11))) (fun h11 =>
   Pn.some (JnO.of [bF, .mask [0, 2, 4, 5, 8, 9], .ren [0, 1]] (p := [(decide (v1 < (r3.1.length : Int))) = false]) (by kernel_rfl) (cj1 h11)))
def impl_Parse_c5 (o : List Int) (r1 : ByteArray × Int × Bool) (r3 : (List Int) × Int × Bool) (v1 : Int) (v2 : Bool) (v3 : List Int) : Option (Lo (Bool × (List Int)) Unit) :=
 if (decide (0 ≤ v1)) = true then
 (r3.1[v1.toNat]?).bind fun x1 =>
 if (x1 == 1) = true then
 some (.out (true, v3))
 else
 (impl_FieldKind x1).bind fun r6 =>
 if (r6 == 0) = true then
 some (.ret ())
 else
 if (capOk (v3.length + 1)) = true then
 some (.out (v2, (v3 ++ [x1])))
 else none
 else none
theorem impl_Parse_c5_ok (o : List Int) (r1 : ByteArray × Int × Bool) (r3 : (List Int) × Int × Bool) (v1 : Int) (v2 : Bool) (v3 : List Int) : Pn (JnO Tryz.prog (sub (codeOf Tryz.prog 22) [1, 1, 1, 1, 1, 1, 0, 1, 0, 0, 1, 1, 0]) (st 128 [(0, lF5 o), (2, V.ptr 0 0), (4, vS r1.1), (5, vI r3.2.1), (8, V.ow 1), (9, vB v2), (41, V.ow 2), (42, vI (r3.1.length : Int)), (43, vI v1)] [Blk.box 46 [vE, V.nl 59], Blk.row 3 (List.map E3 v3) [], Blk.row 3 (List.map E3 r3.1) []] []) (fun (y : Lo (Bool × (List Int)) Unit) => Lo.elim y (fun s => (X.go, st 128 [(0, lF5 o), (2, V.ptr 0 0), (4, vS r1.1), (5, vI r3.2.1), (8, V.ow 1), (9, vB s.1), (41, V.ow 2), (42, vI (r3.1.length : Int)), (43, vI v1)] [Blk.box 46 [vE, V.nl 59], Blk.row 3 (List.map E3 s.2) [], Blk.row 3 (List.map E3 r3.1) []] [])) (fun s => (X.ret, st 128 [(2, V.ptr 0 0), (3, vI 2)] [Blk.box 46 [vE, V.nl 59]] [])))) (impl_Parse_c5 o r1 r3 v1 v2 v3) := by
  unfold impl_Parse_c5
  exact
   Pn.ite (fun h15 =>
   Pn.bind (fun x1 h16 =>
   Pn.ite (fun h17 =>
   Pn.some (JnO.of [.el (E3 x1), bT, .wait 1, .mask [0, 2, 4, 5, 8, 9, 41, 42, 43], .ren [0, 1, 2]] (p := [(0 : Int) ≤ v1,(v1 : Int) < ((List.map E3 r3.1).length : Int),look [] v1.toNat = none,(List.map E3 r3.1)[v1.toNat]? = some (E3 x1),(x1 == 1) = true]) (by kernel_rfl) (cj (od h15) (cj (map_ltN (od h15) h16) (cj rfl (cj (map_get h16) (cj1 h17))))))) (fun h17 =>
   Pn.bind (fun r6 h18 =>
   Pn.ite (fun h19 =>
   Pn.some (JnO.of [.el (E3 x1), bF, .call [] (E3 r6) [], bT, .wait 3, .mask [2, 3], .ren [0]] (p := [(0 : Int) ≤ v1,(v1 : Int) < ((List.map E3 r3.1).length : Int),look [] v1.toNat = none,(List.map E3 r3.1)[v1.toNat]? = some (E3 x1),(x1 == 1) = false,Fn Tryz.prog 39 [(false, E3 x1)] (E3 r6) [],(true || ((E3 r6).nv && nvL [])) = true,(r6 == 0) = true]) (by kernel_rfl) (cj (od h15) (cj (map_ltN (od h15) h16) (cj rfl (cj (map_get h16) (cj h17 (cj (impl_FieldKind_ok x1 r6 h18) (cj rfl (cj1 h19)))))))))) (fun h19 =>
   Pn.ite (fun h20 =>
   Pn.some (JnO.of [.el (E3 x1), bF, .call [] (E3 r6) [], bF, .cp [vI x1], .nb 4 (.row 3 (List.map E3 (v3 ++ [x1])) []), .wait 2, .mask [0, 2, 4, 5, 8, 9, 41, 42, 43], .ren [0, 4, 2]] (p := [(0 : Int) ≤ v1,(v1 : Int) < ((List.map E3 r3.1).length : Int),look [] v1.toNat = none,(List.map E3 r3.1)[v1.toNat]? = some (E3 x1),(x1 == 1) = false,Fn Tryz.prog 39 [(false, E3 x1)] (E3 r6) [],(true || ((E3 r6).nv && nvL [])) = true,(r6 == 0) = false,[vI x1] = [vI x1],[vI x1].all V.flatE = true,(List.map E3 v3).length + [vI x1].length ≤ 9223372036854775807,((List.map E3 v3).length + [vI x1].length) * 8 ≤ 140737488355328,Blk.row 3 ((List.map E3 v3) ++ [vI x1]) [] = Blk.row 3 (List.map E3 (v3 ++ [x1])) []]) (by kernel_rfl) (cj (od h15) (cj (map_ltN (od h15) h16) (cj rfl (cj (map_get h16) (cj h17 (cj (impl_FieldKind_ok x1 r6 h18) (cj rfl (cj h19 (cj rfl (cj rfl (cj (cap1 (capN (by simp) h20)) (cj (cap2 (capN (by simp) h20) (by decide)) (cj1 (nb_app E3 v3 [x1])))))))))))))))) (fun h20 =>
   Pn.none)))))) (fun h15 =>
   Pn.none)
def impl_Parse_l0 (o : List Int) (r1 : ByteArray × Int × Bool) (r3 : (List Int) × Int × Bool) : Nat → Int → Bool → (List Int) → Option (Lo (Bool × (List Int)) Unit)
  | 0, _, _, _ => none
  | fuel + 1, v1, v2, v3 =>
   (impl_Parse_c4 o r1 r3 v1 v2 v3).bind fun r5 =>
   Lo.elim r5 (fun s5 =>
   (impl_Parse_c5 o r1 r3 v1 v2 v3).bind fun r7 =>
   Lo.elim r7 (fun s7 =>
   impl_Parse_l0 o r1 r3 fuel (i64 (v1 + 1)) s7.1 s7.2) (fun s8 =>
   some (.ret ()))) (fun s6 =>
   some (.out (v2, v3)))
theorem impl_Parse_l0_ok (o : List Int) (r1 : ByteArray × Int × Bool) (r3 : (List Int) × Int × Bool) : ∀ (fuel : Nat) (v1 : Int) (v2 : Bool) (v3 : List Int), Pn (LpO Tryz.prog (sub (codeOf Tryz.prog 22) [1, 1, 1, 1, 1, 1, 0, 1, 0, 0]) (st 128 [(0, lF5 o), (2, V.ptr 0 0), (4, vS r1.1), (5, vI r3.2.1), (8, V.ow 1), (9, vB v2), (41, V.ow 2), (42, vI (r3.1.length : Int)), (43, vI v1)] [Blk.box 46 [vE, V.nl 59], Blk.row 3 (List.map E3 v3) [], Blk.row 3 (List.map E3 r3.1) []] []) (fun (y : Lo (Bool × (List Int)) Unit) => Lo.elim y (fun s => (X.out 0, st 128 [(0, lF5 o), (2, V.ptr 0 0), (4, vS r1.1), (5, vI r3.2.1), (8, V.ow 1), (9, vB s.1)] [Blk.box 46 [vE, V.nl 59], Blk.row 3 (List.map E3 s.2) []] [])) (fun s => (X.ret, st 128 [(2, V.ptr 0 0), (3, vI 2)] [Blk.box 46 [vE, V.nl 59]] [])))) (impl_Parse_l0 o r1 r3 fuel v1 v2 v3)
  | 0, _, _, _ => Pn.none
  | fuel + 1, v1, v2, v3 => by
    unfold impl_Parse_l0
    exact
     Pn.bind (fun r5 h12 =>
     Pn.lo (fun s5 h13 =>
     Pn.bind (fun r7 h21 =>
     Pn.lo (fun s7 h22 =>
     LpO.go [.wait 2, .mask [0, 2, 4, 5, 8, 9, 41, 42, 43, 44], .ren [0, 1, 2], .join 3 (X.go) (st 128 [(0, lF5 o), (2, V.ptr 0 0), (4, vS r1.1), (5, vI r3.2.1), (8, V.ow 1), (9, vB v2), (41, V.ow 2), (42, vI (r3.1.length : Int)), (43, vI v1)] [Blk.box 46 [vE, V.nl 59], Blk.row 3 (List.map E3 v3) [], Blk.row 3 (List.map E3 r3.1) []] []), .wait 1, .mask [0, 2, 4, 5, 8, 9, 41, 42, 43], .ren [0, 1, 2], .join 15 (X.go) (st 128 [(0, lF5 o), (2, V.ptr 0 0), (4, vS r1.1), (5, vI r3.2.1), (8, V.ow 1), (9, vB s7.1), (41, V.ow 2), (42, vI (r3.1.length : Int)), (43, vI v1)] [Blk.box 46 [vE, V.nl 59], Blk.row 3 (List.map E3 s7.2) [], Blk.row 3 (List.map E3 r3.1) []] []), .wait 3, .mask [0, 2, 4, 5, 8, 9, 41, 42, 43], .ren [0, 1, 2]] (p := [HT Tryz.prog (sub (codeOf Tryz.prog 22) [1, 1, 1, 1, 1, 1, 0, 1, 0, 0, 1, 0]) (st 128 [(0, lF5 o), (2, V.ptr 0 0), (4, vS r1.1), (5, vI r3.2.1), (8, V.ow 1), (9, vB v2), (41, V.ow 2), (42, vI (r3.1.length : Int)), (43, vI v1), (44, vB (decide (v1 < (r3.1.length : Int))))] [Blk.box 46 [vE, V.nl 59], Blk.row 3 (List.map E3 v3) [], Blk.row 3 (List.map E3 r3.1) []] []) (X.go) (st 128 [(0, lF5 o), (2, V.ptr 0 0), (4, vS r1.1), (5, vI r3.2.1), (8, V.ow 1), (9, vB v2), (41, V.ow 2), (42, vI (r3.1.length : Int)), (43, vI v1)] [Blk.box 46 [vE, V.nl 59], Blk.row 3 (List.map E3 v3) [], Blk.row 3 (List.map E3 r3.1) []] []),HT Tryz.prog (sub (codeOf Tryz.prog 22) [1, 1, 1, 1, 1, 1, 0, 1, 0, 0, 1, 1, 0]) (st 128 [(0, lF5 o), (2, V.ptr 0 0), (4, vS r1.1), (5, vI r3.2.1), (8, V.ow 1), (9, vB v2), (41, V.ow 2), (42, vI (r3.1.length : Int)), (43, vI v1)] [Blk.box 46 [vE, V.nl 59], Blk.row 3 (List.map E3 v3) [], Blk.row 3 (List.map E3 r3.1) []] []) (X.go) (st 128 [(0, lF5 o), (2, V.ptr 0 0), (4, vS r1.1), (5, vI r3.2.1), (8, V.ow 1), (9, vB s7.1), (41, V.ow 2), (42, vI (r3.1.length : Int)), (43, vI v1)] [Blk.box 46 [vE, V.nl 59], Blk.row 3 (List.map E3 s7.2) [], Blk.row 3 (List.map E3 r3.1) []] [])]) (by kernel_rfl) (cj ((impl_Parse_c4_ok o r1 r3 v1 v2 v3 r5 h12).at h13 :) (cj1 ((impl_Parse_c5_ok o r1 r3 v1 v2 v3 r7 h21).at h22 :))) (impl_Parse_l0_ok o r1 r3 fuel (i64 (v1 + 1)) s7.1 s7.2)) (fun s8 h23 =>
     Pn.some (LpO.out [.wait 2, .mask [0, 2, 4, 5, 8, 9, 41, 42, 43, 44], .ren [0, 1, 2], .join 3 (X.go) (st 128 [(0, lF5 o), (2, V.ptr 0 0), (4, vS r1.1), (5, vI r3.2.1), (8, V.ow 1), (9, vB v2), (41, V.ow 2), (42, vI (r3.1.length : Int)), (43, vI v1)] [Blk.box 46 [vE, V.nl 59], Blk.row 3 (List.map E3 v3) [], Blk.row 3 (List.map E3 r3.1) []] []), .wait 1, .mask [0, 2, 4, 5, 8, 9, 41, 42, 43], .ren [0, 1, 2], .join 15 (X.ret) (st 128 [(2, V.ptr 0 0), (3, vI 2)] [Blk.box 46 [vE, V.nl 59]] []), .wait 1, .mask [2, 3], .ren [0]] (p := [HT Tryz.prog (sub (codeOf Tryz.prog 22) [1, 1, 1, 1, 1, 1, 0, 1, 0, 0, 1, 0]) (st 128 [(0, lF5 o), (2, V.ptr 0 0), (4, vS r1.1), (5, vI r3.2.1), (8, V.ow 1), (9, vB v2), (41, V.ow 2), (42, vI (r3.1.length : Int)), (43, vI v1), (44, vB (decide (v1 < (r3.1.length : Int))))] [Blk.box 46 [vE, V.nl 59], Blk.row 3 (List.map E3 v3) [], Blk.row 3 (List.map E3 r3.1) []] []) (X.go) (st 128 [(0, lF5 o), (2, V.ptr 0 0), (4, vS r1.1), (5, vI r3.2.1), (8, V.ow 1), (9, vB v2), (41, V.ow 2), (42, vI (r3.1.length : Int)), (43, vI v1)] [Blk.box 46 [vE, V.nl 59], Blk.row 3 (List.map E3 v3) [], Blk.row 3 (List.map E3 r3.1) []] []),HT Tryz.prog (sub (codeOf Tryz.prog 22) [1, 1, 1, 1, 1, 1, 0, 1, 0, 0, 1, 1, 0]) (st 128 [(0, lF5 o), (2, V.ptr 0 0), (4, vS r1.1), (5, vI r3.2.1), (8, V.ow 1), (9, vB v2), (41, V.ow 2), (42, vI (r3.1.length : Int)), (43, vI v1)] [Blk.box 46 [vE, V.nl 59], Blk.row 3 (List.map E3 v3) [], Blk.row 3 (List.map E3 r3.1) []] []) (X.ret) (st 128 [(2, V.ptr 0 0), (3, vI 2)] [Blk.box 46 [vE, V.nl 59]] [])]) (by kernel_rfl) (show X.ret ≠ X.go from nofun) (cj ((impl_Parse_c4_ok o r1 r3 v1 v2 v3 r5 h12).at h13 :) (cj1 ((impl_Parse_c5_ok o r1 r3 v1 v2 v3 r7 h21).at h23 :))))))) (fun s6 h14 =>
     Pn.some (LpO.out [.wait 2, .mask [0, 2, 4, 5, 8, 9, 41, 42, 43, 44], .ren [0, 1, 2], .join 3 (X.out 0) (st 128 [(0, lF5 o), (2, V.ptr 0 0), (4, vS r1.1), (5, vI r3.2.1), (8, V.ow 1), (9, vB v2)] [Blk.box 46 [vE, V.nl 59], Blk.row 3 (List.map E3 v3) []] []), .wait 1, .mask [0, 2, 4, 5, 8, 9], .ren [0, 1]] (p := [HT Tryz.prog (sub (codeOf Tryz.prog 22) [1, 1, 1, 1, 1, 1, 0, 1, 0, 0, 1, 0]) (st 128 [(0, lF5 o), (2, V.ptr 0 0), (4, vS r1.1), (5, vI r3.2.1), (8, V.ow 1), (9, vB v2), (41, V.ow 2), (42, vI (r3.1.length : Int)), (43, vI v1), (44, vB (decide (v1 < (r3.1.length : Int))))] [Blk.box 46 [vE, V.nl 59], Blk.row 3 (List.map E3 v3) [], Blk.row 3 (List.map E3 r3.1) []] []) (X.out 0) (st 128 [(0, lF5 o), (2, V.ptr 0 0), (4, vS r1.1), (5, vI r3.2.1), (8, V.ow 1), (9, vB v2)] [Blk.box 46 [vE, V.nl 59], Blk.row 3 (List.map E3 v3) []] [])]) (by kernel_rfl) (show X.out 0 ≠ X.go from nofun) (cj1 ((impl_Parse_c4_ok o r1 r3 v1 v2 v3 r5 h12).at h14 :)))))
def impl_Parse_c7 (o : List Int) (r1 : ByteArray × Int × Bool) (s9 : Bool × (List Int)) (r9 : (List Int) × Int × Bool) : Option (Lo Unit Unit) :=
 if r9.2.2 = true then
 if ((r9.1.length : Int) == 0) = true then
 some (.ret ())
 else
 some (.out ())
 else
 some (.ret ())
theorem impl_Parse_c7_ok (o : List Int) (r1 : ByteArray × Int × Bool) (s9 : Bool × (List Int)) (r9 : (List Int) × Int × Bool) : Pn (JnO Tryz.prog (sub (codeOf Tryz.prog 22) [1, 1, 1, 1, 1, 1, 1, 0, 1, 0, 1, 1, 0]) (st 128 [(0, lF5 o), (2, V.ptr 0 0), (4, vS r1.1), (5, vI r9.2.1), (6, vB r9.2.2), (8, V.ow 1), (12, V.ow 2)] [Blk.box 46 [vE, V.nl 59], Blk.row 3 (List.map E3 s9.2) [], Blk.row 3 (List.map E3 r9.1) []] []) (fun (y : Lo Unit Unit) => Lo.elim y (fun s => (X.go, st 128 [(0, lF5 o), (2, V.ptr 0 0), (4, vS r1.1), (5, vI r9.2.1), (8, V.ow 1), (12, V.ow 2)] [Blk.box 46 [vE, V.nl 59], Blk.row 3 (List.map E3 s9.2) [], Blk.row 3 (List.map E3 r9.1) []] [])) (fun s => (X.ret, st 128 [(2, V.ptr 0 0), (3, vI 2)] [Blk.box 46 [vE, V.nl 59]] [])))) (impl_Parse_c7 o r1 s9 r9) := by
  unfold impl_Parse_c7
  exact
   Pn.ite (fun h29 =>
   Pn.ite (fun h30 =>
   Pn.some (JnO.of [bF, bF, .nm 72 (vI (r9.1.length : Int)), bF, bF, bT, .wait 3, .mask [2, 3], .ren [0]] (p := [(!r9.2.2) = false,(!r9.2.2) = false,vI ((List.map E3 r9.1).length : Int) = vI (r9.1.length : Int),(!r9.2.2) = false,(!r9.2.2) = false,((r9.1.length : Int) == 0) = true]) (by kernel_rfl) (cj (nf h29) (cj (nf h29) (cj (len_nm _ _) (cj (nf h29) (cj (nf h29) (cj1 h30)))))))) (fun h30 =>
   Pn.some (JnO.of [bF, bF, .nm 72 (vI (r9.1.length : Int)), bF, bF, bF, .mask [0, 2, 4, 5, 8, 12], .ren [0, 1, 2]] (p := [(!r9.2.2) = false,(!r9.2.2) = false,vI ((List.map E3 r9.1).length : Int) = vI (r9.1.length : Int),(!r9.2.2) = false,(!r9.2.2) = false,((r9.1.length : Int) == 0) = false]) (by kernel_rfl) (cj (nf h29) (cj (nf h29) (cj (len_nm _ _) (cj (nf h29) (cj (nf h29) (cj1 h30))))))))) (fun h29 =>
   Pn.some (JnO.of [bT, bT, bT, bT, bT, .wait 3, .mask [2, 3], .ren [0]] (p := [(!r9.2.2) = true,(!r9.2.2) = true,(!r9.2.2) = true,(!r9.2.2) = true,true = true]) (by kernel_rfl) (cj (nt h29) (cj (nt h29) (cj (nt h29) (cj (nt h29) (cj1 rfl)))))))
def impl_Parse_c11 (o : List Int) (r1 : ByteArray × Int × Bool) (r9 : (List Int) × Int × Bool) (v4 : Int) (v5 : List Int) : Option (Lo Unit Unit) :=
 if (decide (v4 < (r9.1.length : Int))) = true then
 some (.out ())
 else
 some (.ret ())
theorem impl_Parse_c11_ok (o : List Int) (r1 : ByteArray × Int × Bool) (r9 : (List Int) × Int × Bool) (v4 : Int) (v5 : List Int) : Pn (JnO Tryz.prog (sub (codeOf Tryz.prog 22) [1, 1, 1, 1, 1, 1, 1, 0, 1, 0, 1, 1, 1, 1, 0, 0, 1, 0]) (st 128 [(0, lF5 o), (2, V.ptr 0 0), (4, vS r1.1), (5, vI r9.2.1), (8, V.ow 1), (76, V.ow 2), (77, vI (r9.1.length : Int)), (78, vI v4), (79, vB (decide (v4 < (r9.1.length : Int))))] [Blk.box 46 [vE, V.nl 59], Blk.row 3 (List.map E3 v5) [], Blk.row 3 (List.map E3 r9.1) []] []) (fun (y : Lo Unit Unit) => Lo.elim y (fun s => (X.go, st 128 [(0, lF5 o), (2, V.ptr 0 0), (4, vS r1.1), (5, vI r9.2.1), (8, V.ow 1), (76, V.ow 2), (77, vI (r9.1.length : Int)), (78, vI v4)] [Blk.box 46 [vE, V.nl 59], Blk.row 3 (List.map E3 v5) [], Blk.row 3 (List.map E3 r9.1) []] [])) (fun s => (X.out 3, st 128 [(0, lF5 o), (2, V.ptr 0 0), (4, vS r1.1), (5, vI r9.2.1), (8, V.ow 1)] [Blk.box 46 [vE, V.nl 59], Blk.row 3 (List.map E3 v5) []] [])))) (impl_Parse_c11 o r1 r9 v4 v5) := by
  unfold impl_Parse_c11
  exact
   Pn.ite (fun h34 =>
   Pn.some (JnO.of [bT, .mask [0, 2, 4, 5, 8, 76, 77, 78], .ren [0, 1, 2]] (p := [(decide (v4 < (r9.1.length : Int))) = true]) (by kernel_rfl) (cj1 h34))) (fun h34 =>
   Pn.some (JnO.of [bF, .mask [0, 2, 4, 5, 8], .ren [0, 1]] (p := [(decide (v4 < (r9.1.length : Int))) = false]) (by kernel_rfl) (cj1 h34)))
def impl_Parse_c13 (o : List Int) (r1 : ByteArray × Int × Bool) (r9 : (List Int) × Int × Bool) (v4 : Int) (v5 : List Int) (x2 : Int) : Option (Lo Unit Unit) :=
 (impl_FieldKind (i64 (x2 + 64))).bind fun r12 =>
 if (r12 == 0) = true then
 some (.ret ())
 else
 some (.out ())
theorem impl_Parse_c13_ok (o : List Int) (r1 : ByteArray × Int × Bool) (r9 : (List Int) × Int × Bool) (v4 : Int) (v5 : List Int) (x2 : Int) : Pn (JnO Tryz.prog (sub (codeOf Tryz.prog 22) [1, 1, 1, 1, 1, 1, 1, 0, 1, 0, 1, 1, 1, 1, 0, 0, 1, 1, 0, 0, 1, 0]) (st 128 [(0, lF5 o), (2, V.ptr 0 0), (4, vS r1.1), (5, vI r9.2.1), (8, V.ow 1), (14, vI x2), (76, V.ow 2), (77, vI (r9.1.length : Int)), (78, vI v4)] [Blk.box 46 [vE, V.nl 59], Blk.row 3 (List.map E3 v5) [], Blk.row 3 (List.map E3 r9.1) []] []) (fun (y : Lo Unit Unit) => Lo.elim y (fun s => (X.go, st 128 [(0, lF5 o), (2, V.ptr 0 0), (4, vS r1.1), (5, vI r9.2.1), (8, V.ow 1), (14, vI x2), (76, V.ow 2), (77, vI (r9.1.length : Int)), (78, vI v4)] [Blk.box 46 [vE, V.nl 59], Blk.row 3 (List.map E3 v5) [], Blk.row 3 (List.map E3 r9.1) []] [])) (fun s => (X.ret, st 128 [(2, V.ptr 0 0), (3, vI 2)] [Blk.box 46 [vE, V.nl 59]] [])))) (impl_Parse_c13 o r1 r9 v4 v5 x2) := by
  unfold impl_Parse_c13
  exact
   Pn.bind (fun r12 h40 =>
   Pn.ite (fun h41 =>
   Pn.some (JnO.of [.call [] (E3 r12) [], bT, .wait 3, .mask [2, 3], .ren [0]] (p := [Fn Tryz.prog 39 [(false, E3 (i64 (x2 + 64)))] (E3 r12) [],(true || ((E3 r12).nv && nvL [])) = true,(r12 == 0) = true]) (by kernel_rfl) (cj (impl_FieldKind_ok (i64 (x2 + 64)) r12 h40) (cj rfl (cj1 h41))))) (fun h41 =>
   Pn.some (JnO.of [.call [] (E3 r12) [], bF, .mask [0, 2, 4, 5, 8, 14, 76, 77, 78], .ren [0, 1, 2]] (p := [Fn Tryz.prog 39 [(false, E3 (i64 (x2 + 64)))] (E3 r12) [],(true || ((E3 r12).nv && nvL [])) = true,(r12 == 0) = false]) (by kernel_rfl) (cj (impl_FieldKind_ok (i64 (x2 + 64)) r12 h40) (cj rfl (cj1 h41))))))
def impl_Parse_c12 (o : List Int) (r1 : ByteArray × Int × Bool) (r9 : (List Int) × Int × Bool) (v4 : Int) (v5 : List Int) : Option (Lo ((List Int)) Unit) :=
 if (decide (0 ≤ v4)) = true then
 (r9.1[v4.toNat]?).bind fun x2 =>
 (impl_Parse_c13 o r1 r9 v4 v5 x2).bind fun r13 =>
 Lo.elim r13 (fun s15 =>
 if (capOk (v5.length + 1)) = true then
 some (.out (v5 ++ [i64 (x2 + 64)]))
 else none) (fun s16 =>
 some (.ret ()))
 else none
theorem impl_Parse_c12_ok (o : List Int) (r1 : ByteArray × Int × Bool) (r9 : (List Int) × Int × Bool) (v4 : Int) (v5 : List Int) : Pn (JnO Tryz.prog (sub (codeOf Tryz.prog 22) [1, 1, 1, 1, 1, 1, 1, 0, 1, 0, 1, 1, 1, 1, 0, 0, 1, 1, 0]) (st 128 [(0, lF5 o), (2, V.ptr 0 0), (4, vS r1.1), (5, vI r9.2.1), (8, V.ow 1), (76, V.ow 2), (77, vI (r9.1.length : Int)), (78, vI v4)] [Blk.box 46 [vE, V.nl 59], Blk.row 3 (List.map E3 v5) [], Blk.row 3 (List.map E3 r9.1) []] []) (fun (y : Lo ((List Int)) Unit) => Lo.elim y (fun s => (X.go, st 128 [(0, lF5 o), (2, V.ptr 0 0), (4, vS r1.1), (5, vI r9.2.1), (8, V.ow 1), (76, V.ow 2), (77, vI (r9.1.length : Int)), (78, vI v4)] [Blk.box 46 [vE, V.nl 59], Blk.row 3 (List.map E3 s) [], Blk.row 3 (List.map E3 r9.1) []] [])) (fun s => (X.ret, st 128 [(2, V.ptr 0 0), (3, vI 2)] [Blk.box 46 [vE, V.nl 59]] [])))) (impl_Parse_c12 o r1 r9 v4 v5) := by
  unfold impl_Parse_c12
  exact
   Pn.ite (fun h38 =>
   Pn.bind (fun x2 h39 =>
   Pn.bind (fun r13 h42 =>
   Pn.lo (fun s15 h43 =>
   Pn.ite (fun h45 =>
   Pn.some (JnO.of [.el (E3 x2), .wait 2, .mask [0, 2, 4, 5, 8, 14, 76, 77, 78], .ren [0, 1, 2], .join 7 (X.go) (st 128 [(0, lF5 o), (2, V.ptr 0 0), (4, vS r1.1), (5, vI r9.2.1), (8, V.ow 1), (14, vI x2), (76, V.ow 2), (77, vI (r9.1.length : Int)), (78, vI v4)] [Blk.box 46 [vE, V.nl 59], Blk.row 3 (List.map E3 v5) [], Blk.row 3 (List.map E3 r9.1) []] []), .cp [vI (i64 (x2 + 64))], .nb 4 (.row 3 (List.map E3 (v5 ++ [i64 (x2 + 64)])) []), .wait 2, .mask [0, 2, 4, 5, 8, 76, 77, 78], .ren [0, 4, 2]] (p := [(0 : Int) ≤ v4,(v4 : Int) < ((List.map E3 r9.1).length : Int),look [] v4.toNat = none,(List.map E3 r9.1)[v4.toNat]? = some (E3 x2),HT Tryz.prog (sub (codeOf Tryz.prog 22) [1, 1, 1, 1, 1, 1, 1, 0, 1, 0, 1, 1, 1, 1, 0, 0, 1, 1, 0, 0, 1, 0]) (st 128 [(0, lF5 o), (2, V.ptr 0 0), (4, vS r1.1), (5, vI r9.2.1), (8, V.ow 1), (14, vI x2), (76, V.ow 2), (77, vI (r9.1.length : Int)), (78, vI v4)] [Blk.box 46 [vE, V.nl 59], Blk.row 3 (List.map E3 v5) [], Blk.row 3 (List.map E3 r9.1) []] []) (X.go) (st 128 [(0, lF5 o), (2, V.ptr 0 0), (4, vS r1.1), (5, vI r9.2.1), (8, V.ow 1), (14, vI x2), (76, V.ow 2), (77, vI (r9.1.length : Int)), (78, vI v4)] [Blk.box 46 [vE, V.nl 59], Blk.row 3 (List.map E3 v5) [], Blk.row 3 (List.map E3 r9.1) []] []),[vI (i64 (x2 + 64))] = [vI (i64 (x2 + 64))],[vI (i64 (x2 + 64))].all V.flatE = true,(List.map E3 v5).length + [vI (i64 (x2 + 64))].length ≤ 9223372036854775807,((List.map E3 v5).length + [vI (i64 (x2 + 64))].length) * 8 ≤ 140737488355328,Blk.row 3 ((List.map E3 v5) ++ [vI (i64 (x2 + 64))]) [] = Blk.row 3 (List.map E3 (v5 ++ [i64 (x2 + 64)])) []]) (by kernel_rfl) (cj (od h38) (cj (map_ltN (od h38) h39) (cj rfl (cj (map_get h39) (cj ((impl_Parse_c13_ok o r1 r9 v4 v5 x2 r13 h42).at h43 :) (cj rfl (cj rfl (cj (cap1 (capN (by simp) h45)) (cj (cap2 (capN (by simp) h45) (by decide)) (cj1 (nb_app E3 v5 [i64 (x2 + 64)]))))))))))))) (fun h45 =>
   Pn.none)) (fun s16 h44 =>
   Pn.some (JnO.of [.el (E3 x2), .wait 2, .mask [0, 2, 4, 5, 8, 14, 76, 77, 78], .ren [0, 1, 2], .join 7 (X.ret) (st 128 [(2, V.ptr 0 0), (3, vI 2)] [Blk.box 46 [vE, V.nl 59]] []), .wait 1, .mask [2, 3], .ren [0]] (p := [(0 : Int) ≤ v4,(v4 : Int) < ((List.map E3 r9.1).length : Int),look [] v4.toNat = none,(List.map E3 r9.1)[v4.toNat]? = some (E3 x2),HT Tryz.prog (sub (codeOf Tryz.prog 22) [1, 1, 1, 1, 1, 1, 1, 0, 1, 0, 1, 1, 1, 1, 0, 0, 1, 1, 0, 0, 1, 0]) (st 128 [(0, lF5 o), (2, V.ptr 0 0), (4, vS r1.1), (5, vI r9.2.1), (8, V.ow 1), (14, vI x2), (76, V.ow 2), (77, vI (r9.1.length : Int)), (78, vI v4)] [Blk.box 46 [vE, V.nl 59], Blk.row 3 (List.map E3 v5) [], Blk.row 3 (List.map E3 r9.1) []] []) (X.ret) (st 128 [(2, V.ptr 0 0), (3, vI 2)] [Blk.box 46 [vE, V.nl 59]] [])]) (by kernel_rfl) (cj (od h38) (cj (map_ltN (od h38) h39) (cj rfl (cj (map_get h39) (cj1 ((impl_Parse_c13_ok o r1 r9 v4 v5 x2 r13 h42).at h44 :))))))))))) (fun h38 =>
   Pn.none)
def impl_Parse_l1 (o : List Int) (r1 : ByteArray × Int × Bool) (r9 : (List Int) × Int × Bool) : Nat → Int → (List Int) → Option (Lo ((List Int)) Unit)
  | 0, _, _ => none
  | fuel + 1, v4, v5 =>
   (impl_Parse_c11 o r1 r9 v4 v5).bind fun r11 =>
   Lo.elim r11 (fun s13 =>
   (impl_Parse_c12 o r1 r9 v4 v5).bind fun r14 =>
   Lo.elim r14 (fun s17 =>
   impl_Parse_l1 o r1 r9 fuel (i64 (v4 + 1)) s17) (fun s18 =>
   some (.ret ()))) (fun s14 =>
   some (.out v5))
theorem impl_Parse_l1_ok (o : List Int) (r1 : ByteArray × Int × Bool) (r9 : (List Int) × Int × Bool) : ∀ (fuel : Nat) (v4 : Int) (v5 : List Int), Pn (LpO Tryz.prog (sub (codeOf Tryz.prog 22) [1, 1, 1, 1, 1, 1, 1, 0, 1, 0, 1, 1, 1, 1, 0, 0]) (st 128 [(0, lF5 o), (2, V.ptr 0 0), (4, vS r1.1), (5, vI r9.2.1), (8, V.ow 1), (76, V.ow 2), (77, vI (r9.1.length : Int)), (78, vI v4)] [Blk.box 46 [vE, V.nl 59], Blk.row 3 (List.map E3 v5) [], Blk.row 3 (List.map E3 r9.1) []] []) (fun (y : Lo ((List Int)) Unit) => Lo.elim y (fun s => (X.out 3, st 128 [(0, lF5 o), (2, V.ptr 0 0), (4, vS r1.1), (5, vI r9.2.1), (8, V.ow 1)] [Blk.box 46 [vE, V.nl 59], Blk.row 3 (List.map E3 s) []] [])) (fun s => (X.ret, st 128 [(2, V.ptr 0 0), (3, vI 2)] [Blk.box 46 [vE, V.nl 59]] [])))) (impl_Parse_l1 o r1 r9 fuel v4 v5)
  | 0, _, _ => Pn.none
  | fuel + 1, v4, v5 => by
    unfold impl_Parse_l1
    exact
     Pn.bind (fun r11 h35 =>
     Pn.lo (fun s13 h36 =>
     Pn.bind (fun r14 h46 =>
     Pn.lo (fun s17 h47 =>
     LpO.go [.wait 2, .mask [0, 2, 4, 5, 8, 76, 77, 78, 79], .ren [0, 1, 2], .join 3 (X.go) (st 128 [(0, lF5 o), (2, V.ptr 0 0), (4, vS r1.1), (5, vI r9.2.1), (8, V.ow 1), (76, V.ow 2), (77, vI (r9.1.length : Int)), (78, vI v4)] [Blk.box 46 [vE, V.nl 59], Blk.row 3 (List.map E3 v5) [], Blk.row 3 (List.map E3 r9.1) []] []), .wait 1, .mask [0, 2, 4, 5, 8, 76, 77, 78], .ren [0, 1, 2], .join 12 (X.go) (st 128 [(0, lF5 o), (2, V.ptr 0 0), (4, vS r1.1), (5, vI r9.2.1), (8, V.ow 1), (76, V.ow 2), (77, vI (r9.1.length : Int)), (78, vI v4)] [Blk.box 46 [vE, V.nl 59], Blk.row 3 (List.map E3 s17) [], Blk.row 3 (List.map E3 r9.1) []] []), .wait 3, .mask [0, 2, 4, 5, 8, 76, 77, 78], .ren [0, 1, 2]] (p := [HT Tryz.prog (sub (codeOf Tryz.prog 22) [1, 1, 1, 1, 1, 1, 1, 0, 1, 0, 1, 1, 1, 1, 0, 0, 1, 0]) (st 128 [(0, lF5 o), (2, V.ptr 0 0), (4, vS r1.1), (5, vI r9.2.1), (8, V.ow 1), (76, V.ow 2), (77, vI (r9.1.length : Int)), (78, vI v4), (79, vB (decide (v4 < (r9.1.length : Int))))] [Blk.box 46 [vE, V.nl 59], Blk.row 3 (List.map E3 v5) [], Blk.row 3 (List.map E3 r9.1) []] []) (X.go) (st 128 [(0, lF5 o), (2, V.ptr 0 0), (4, vS r1.1), (5, vI r9.2.1), (8, V.ow 1), (76, V.ow 2), (77, vI (r9.1.length : Int)), (78, vI v4)] [Blk.box 46 [vE, V.nl 59], Blk.row 3 (List.map E3 v5) [], Blk.row 3 (List.map E3 r9.1) []] []),HT Tryz.prog (sub (codeOf Tryz.prog 22) [1, 1, 1, 1, 1, 1, 1, 0, 1, 0, 1, 1, 1, 1, 0, 0, 1, 1, 0]) (st 128 [(0, lF5 o), (2, V.ptr 0 0), (4, vS r1.1), (5, vI r9.2.1), (8, V.ow 1), (76, V.ow 2), (77, vI (r9.1.length : Int)), (78, vI v4)] [Blk.box 46 [vE, V.nl 59], Blk.row 3 (List.map E3 v5) [], Blk.row 3 (List.map E3 r9.1) []] []) (X.go) (st 128 [(0, lF5 o), (2, V.ptr 0 0), (4, vS r1.1), (5, vI r9.2.1), (8, V.ow 1), (76, V.ow 2), (77, vI (r9.1.length : Int)), (78, vI v4)] [Blk.box 46 [vE, V.nl 59], Blk.row 3 (List.map E3 s17) [], Blk.row 3 (List.map E3 r9.1) []] [])]) (by kernel_rfl) (cj ((impl_Parse_c11_ok o r1 r9 v4 v5 r11 h35).at h36 :) (cj1 ((impl_Parse_c12_ok o r1 r9 v4 v5 r14 h46).at h47 :))) (impl_Parse_l1_ok o r1 r9 fuel (i64 (v4 + 1)) s17)) (fun s18 h48 =>
     Pn.some (LpO.out [.wait 2, .mask [0, 2, 4, 5, 8, 76, 77, 78, 79], .ren [0, 1, 2], .join 3 (X.go) (st 128 [(0, lF5 o), (2, V.ptr 0 0), (4, vS r1.1), (5, vI r9.2.1), (8, V.ow 1), (76, V.ow 2), (77, vI (r9.1.length : Int)), (78, vI v4)] [Blk.box 46 [vE, V.nl 59], Blk.row 3 (List.map E3 v5) [], Blk.row 3 (List.map E3 r9.1) []] []), .wait 1, .mask [0, 2, 4, 5, 8, 76, 77, 78], .ren [0, 1, 2], .join 12 (X.ret) (st 128 [(2, V.ptr 0 0), (3, vI 2)] [Blk.box 46 [vE, V.nl 59]] []), .wait 1, .mask [2, 3], .ren [0]] (p := [HT Tryz.prog (sub (codeOf Tryz.prog 22) [1, 1, 1, 1, 1, 1, 1, 0, 1, 0, 1, 1, 1, 1, 0, 0, 1, 0]) (st 128 [(0, lF5 o), (2, V.ptr 0 0), (4, vS r1.1), (5, vI r9.2.1), (8, V.ow 1), (76, V.ow 2), (77, vI (r9.1.length : Int)), (78, vI v4), (79, vB (decide (v4 < (r9.1.length : Int))))] [Blk.box 46 [vE, V.nl 59], Blk.row 3 (List.map E3 v5) [], Blk.row 3 (List.map E3 r9.1) []] []) (X.go) (st 128 [(0, lF5 o), (2, V.ptr 0 0), (4, vS r1.1), (5, vI r9.2.1), (8, V.ow 1), (76, V.ow 2), (77, vI (r9.1.length : Int)), (78, vI v4)] [Blk.box 46 [vE, V.nl 59], Blk.row 3 (List.map E3 v5) [], Blk.row 3 (List.map E3 r9.1) []] []),HT Tryz.prog (sub (codeOf Tryz.prog 22) [1, 1, 1, 1, 1, 1, 1, 0, 1, 0, 1, 1, 1, 1, 0, 0, 1, 1, 0]) (st 128 [(0, lF5 o), (2, V.ptr 0 0), (4, vS r1.1), (5, vI r9.2.1), (8, V.ow 1), (76, V.ow 2), (77, vI (r9.1.length : Int)), (78, vI v4)] [Blk.box 46 [vE, V.nl 59], Blk.row 3 (List.map E3 v5) [], Blk.row 3 (List.map E3 r9.1) []] []) (X.ret) (st 128 [(2, V.ptr 0 0), (3, vI 2)] [Blk.box 46 [vE, V.nl 59]] [])]) (by kernel_rfl) (show X.ret ≠ X.go from nofun) (cj ((impl_Parse_c11_ok o r1 r9 v4 v5 r11 h35).at h36 :) (cj1 ((impl_Parse_c12_ok o r1 r9 v4 v5 r14 h46).at h48 :))))))) (fun s14 h37 =>
     Pn.some (LpO.out [.wait 2, .mask [0, 2, 4, 5, 8, 76, 77, 78, 79], .ren [0, 1, 2], .join 3 (X.out 3) (st 128 [(0, lF5 o), (2, V.ptr 0 0), (4, vS r1.1), (5, vI r9.2.1), (8, V.ow 1)] [Blk.box 46 [vE, V.nl 59], Blk.row 3 (List.map E3 v5) []] []), .wait 1, .mask [0, 2, 4, 5, 8], .ren [0, 1]] (p := [HT Tryz.prog (sub (codeOf Tryz.prog 22) [1, 1, 1, 1, 1, 1, 1, 0, 1, 0, 1, 1, 1, 1, 0, 0, 1, 0]) (st 128 [(0, lF5 o), (2, V.ptr 0 0), (4, vS r1.1), (5, vI r9.2.1), (8, V.ow 1), (76, V.ow 2), (77, vI (r9.1.length : Int)), (78, vI v4), (79, vB (decide (v4 < (r9.1.length : Int))))] [Blk.box 46 [vE, V.nl 59], Blk.row 3 (List.map E3 v5) [], Blk.row 3 (List.map E3 r9.1) []] []) (X.out 3) (st 128 [(0, lF5 o), (2, V.ptr 0 0), (4, vS r1.1), (5, vI r9.2.1), (8, V.ow 1)] [Blk.box 46 [vE, V.nl 59], Blk.row 3 (List.map E3 v5) []] [])]) (by kernel_rfl) (show X.out 3 ≠ X.go from nofun) (cj1 ((impl_Parse_c11_ok o r1 r9 v4 v5 r11 h35).at h37 :)))))
def impl_Parse_c6 (o : List Int) (r1 : ByteArray × Int × Bool) (r3 : (List Int) × Int × Bool) (s9 : Bool × (List Int)) : Option (Lo (Int × (List Int)) Unit) :=
 if s9.1 = true then
 (impl_GetBits o r3.2.1).bind fun r9 =>
 (impl_Parse_c7 o r1 s9 r9).bind fun r10 =>
 Lo.elim r10 (fun s11 =>
 (impl_Parse_l1 o r1 r9 FUEL 0 s9.2).bind fun r15 =>
 Lo.elim r15 (fun s19 =>
 some (.out (r9.2.1, s19))) (fun s20 =>
 some (.ret ()))) (fun s12 =>
 some (.ret ()))
 else
 some (.out (r3.2.1, s9.2))
theorem impl_Parse_c6_ok (o : List Int) (r1 : ByteArray × Int × Bool) (r3 : (List Int) × Int × Bool) (s9 : Bool × (List Int)) : Pn (JnO Tryz.prog (sub (codeOf Tryz.prog 22) [1, 1, 1, 1, 1, 1, 1, 0]) (st 128 [(0, lF5 o), (2, V.ptr 0 0), (4, vS r1.1), (5, vI r3.2.1), (8, V.ow 1), (9, vB s9.1)] [Blk.box 46 [vE, V.nl 59], Blk.row 3 (List.map E3 s9.2) []] []) (fun (y : Lo (Int × (List Int)) Unit) => Lo.elim y (fun s => (X.go, st 128 [(0, lF5 o), (2, V.ptr 0 0), (4, vS r1.1), (5, vI s.1), (8, V.ow 1)] [Blk.box 46 [vE, V.nl 59], Blk.row 3 (List.map E3 s.2) []] [])) (fun s => (X.ret, st 128 [(2, V.ptr 0 0), (3, vI 2)] [Blk.box 46 [vE, V.nl 59]] [])))) (impl_Parse_c6 o r1 r3 s9) := by
  unfold impl_Parse_c6
  exact
   Pn.ite (fun h27 =>
   Pn.bind (fun r9 h28 =>
   Pn.bind (fun r10 h31 =>
   Pn.lo (fun s11 h32 =>
   Pn.bind (fun r15 h49 =>
   Pn.lo (fun s19 h50 =>
   Pn.some (JnO.of [bT, .call [] (V.tup [E55 r9.1, E3 r9.2.1, E4 r9.2.2]) [], .wait 8, .mask [0, 2, 4, 5, 6, 8, 12], .ren [0, 1, 2], .join 7 (X.go) (st 128 [(0, lF5 o), (2, V.ptr 0 0), (4, vS r1.1), (5, vI r9.2.1), (8, V.ow 1), (12, V.ow 2)] [Blk.box 46 [vE, V.nl 59], Blk.row 3 (List.map E3 s9.2) [], Blk.row 3 (List.map E3 r9.1) []] []), .wait 2, .nm 77 (vI (r9.1.length : Int)), .wait 2, .mask [0, 2, 4, 5, 8, 76, 77, 78], .ren [0, 1, 2], .loop (X.out 3) (st 128 [(0, lF5 o), (2, V.ptr 0 0), (4, vS r1.1), (5, vI r9.2.1), (8, V.ow 1)] [Blk.box 46 [vE, V.nl 59], Blk.row 3 (List.map E3 s19) []] []), .wait 1, .mask [0, 2, 4, 5, 8], .ren [0, 1]] (p := [s9.1 = true,Fn Tryz.prog 38 [(false, E31 o), (false, E3 r3.2.1)] (V.tup [E55 r9.1, E3 r9.2.1, E4 r9.2.2]) [],(true || ((V.tup [E55 r9.1, E3 r9.2.1, E4 r9.2.2]).nv && nvL [])) = true,HT Tryz.prog (sub (codeOf Tryz.prog 22) [1, 1, 1, 1, 1, 1, 1, 0, 1, 0, 1, 1, 0]) (st 128 [(0, lF5 o), (2, V.ptr 0 0), (4, vS r1.1), (5, vI r9.2.1), (6, vB r9.2.2), (8, V.ow 1), (12, V.ow 2)] [Blk.box 46 [vE, V.nl 59], Blk.row 3 (List.map E3 s9.2) [], Blk.row 3 (List.map E3 r9.1) []] []) (X.go) (st 128 [(0, lF5 o), (2, V.ptr 0 0), (4, vS r1.1), (5, vI r9.2.1), (8, V.ow 1), (12, V.ow 2)] [Blk.box 46 [vE, V.nl 59], Blk.row 3 (List.map E3 s9.2) [], Blk.row 3 (List.map E3 r9.1) []] []),vI ((List.map E3 r9.1).length : Int) = vI (r9.1.length : Int),Loop Tryz.prog (sub (codeOf Tryz.prog 22) [1, 1, 1, 1, 1, 1, 1, 0, 1, 0, 1, 1, 1, 1, 0, 0]) (st 128 [(0, lF5 o), (2, V.ptr 0 0), (4, vS r1.1), (5, vI r9.2.1), (8, V.ow 1), (76, V.ow 2), (77, vI (r9.1.length : Int)), (78, vI 0)] [Blk.box 46 [vE, V.nl 59], Blk.row 3 (List.map E3 s9.2) [], Blk.row 3 (List.map E3 r9.1) []] []) (X.out 3) (st 128 [(0, lF5 o), (2, V.ptr 0 0), (4, vS r1.1), (5, vI r9.2.1), (8, V.ow 1)] [Blk.box 46 [vE, V.nl 59], Blk.row 3 (List.map E3 s19) []] [])]) (by kernel_rfl) (cj h27 (cj (impl_GetBits_ok o r3.2.1 r9 h28) (cj rfl (cj ((impl_Parse_c7_ok o r1 s9 r9 r10 h31).at h32 :) (cj (len_nm _ _) (cj1 ((impl_Parse_l1_ok o r1 r9 FUEL 0 s9.2 r15 h49).at h50 :))))))))) (fun s20 h51 =>
   Pn.some (JnO.of [bT, .call [] (V.tup [E55 r9.1, E3 r9.2.1, E4 r9.2.2]) [], .wait 8, .mask [0, 2, 4, 5, 6, 8, 12], .ren [0, 1, 2], .join 7 (X.go) (st 128 [(0, lF5 o), (2, V.ptr 0 0), (4, vS r1.1), (5, vI r9.2.1), (8, V.ow 1), (12, V.ow 2)] [Blk.box 46 [vE, V.nl 59], Blk.row 3 (List.map E3 s9.2) [], Blk.row 3 (List.map E3 r9.1) []] []), .wait 2, .nm 77 (vI (r9.1.length : Int)), .wait 2, .mask [0, 2, 4, 5, 8, 76, 77, 78], .ren [0, 1, 2], .loop (X.ret) (st 128 [(2, V.ptr 0 0), (3, vI 2)] [Blk.box 46 [vE, V.nl 59]] []), .wait 1, .mask [2, 3], .ren [0]] (p := [s9.1 = true,Fn Tryz.prog 38 [(false, E31 o), (false, E3 r3.2.1)] (V.tup [E55 r9.1, E3 r9.2.1, E4 r9.2.2]) [],(true || ((V.tup [E55 r9.1, E3 r9.2.1, E4 r9.2.2]).nv && nvL [])) = true,HT Tryz.prog (sub (codeOf Tryz.prog 22) [1, 1, 1, 1, 1, 1, 1, 0, 1, 0, 1, 1, 0]) (st 128 [(0, lF5 o), (2, V.ptr 0 0), (4, vS r1.1), (5, vI r9.2.1), (6, vB r9.2.2), (8, V.ow 1), (12, V.ow 2)] [Blk.box 46 [vE, V.nl 59], Blk.row 3 (List.map E3 s9.2) [], Blk.row 3 (List.map E3 r9.1) []] []) (X.go) (st 128 [(0, lF5 o), (2, V.ptr 0 0), (4, vS r1.1), (5, vI r9.2.1), (8, V.ow 1), (12, V.ow 2)] [Blk.box 46 [vE, V.nl 59], Blk.row 3 (List.map E3 s9.2) [], Blk.row 3 (List.map E3 r9.1) []] []),vI ((List.map E3 r9.1).length : Int) = vI (r9.1.length : Int),Loop Tryz.prog (sub (codeOf Tryz.prog 22) [1, 1, 1, 1, 1, 1, 1, 0, 1, 0, 1, 1, 1, 1, 0, 0]) (st 128 [(0, lF5 o), (2, V.ptr 0 0), (4, vS r1.1), (5, vI r9.2.1), (8, V.ow 1), (76, V.ow 2), (77, vI (r9.1.length : Int)), (78, vI 0)] [Blk.box 46 [vE, V.nl 59], Blk.row 3 (List.map E3 s9.2) [], Blk.row 3 (List.map E3 r9.1) []] []) (X.ret) (st 128 [(2, V.ptr 0 0), (3, vI 2)] [Blk.box 46 [vE, V.nl 59]] [])]) (by kernel_rfl) (cj h27 (cj (impl_GetBits_ok o r3.2.1 r9 h28) (cj rfl (cj ((impl_Parse_c7_ok o r1 s9 r9 r10 h31).at h32 :) (cj (len_nm _ _) (cj1 ((impl_Parse_l1_ok o r1 r9 FUEL 0 s9.2 r15 h49).at h51 :))))))))))) (fun s12 h33 =>
   Pn.some (JnO.of [bT, .call [] (V.tup [E55 r9.1, E3 r9.2.1, E4 r9.2.2]) [], .wait 8, .mask [0, 2, 4, 5, 6, 8, 12], .ren [0, 1, 2], .join 7 (X.ret) (st 128 [(2, V.ptr 0 0), (3, vI 2)] [Blk.box 46 [vE, V.nl 59]] []), .wait 1, .mask [2, 3], .ren [0]] (p := [s9.1 = true,Fn Tryz.prog 38 [(false, E31 o), (false, E3 r3.2.1)] (V.tup [E55 r9.1, E3 r9.2.1, E4 r9.2.2]) [],(true || ((V.tup [E55 r9.1, E3 r9.2.1, E4 r9.2.2]).nv && nvL [])) = true,HT Tryz.prog (sub (codeOf Tryz.prog 22) [1, 1, 1, 1, 1, 1, 1, 0, 1, 0, 1, 1, 0]) (st 128 [(0, lF5 o), (2, V.ptr 0 0), (4, vS r1.1), (5, vI r9.2.1), (6, vB r9.2.2), (8, V.ow 1), (12, V.ow 2)] [Blk.box 46 [vE, V.nl 59], Blk.row 3 (List.map E3 s9.2) [], Blk.row 3 (List.map E3 r9.1) []] []) (X.ret) (st 128 [(2, V.ptr 0 0), (3, vI 2)] [Blk.box 46 [vE, V.nl 59]] [])]) (by kernel_rfl) (cj h27 (cj (impl_GetBits_ok o r3.2.1 r9 h28) (cj rfl (cj1 ((impl_Parse_c7_ok o r1 s9 r9 r10 h31).at h33 :)))))))))) (fun h27 =>
   Pn.some (JnO.of [bF, .mask [0, 2, 4, 5, 8], .ren [0, 1]] (p := [s9.1 = false]) (by kernel_rfl) (cj1 h27)))
def impl_Parse_c20 (o : List Int) (r1 : ByteArray × Int × Bool) (s21 : Int × (List Int)) (v6 : Int) (v7 : Int) (v8 : List Field) : Option (Lo Unit Unit) :=
 if (decide (v7 < (s21.2.length : Int))) = true then
 some (.out ())
 else
 some (.ret ())
theorem impl_Parse_c20_ok (o : List Int) (r1 : ByteArray × Int × Bool) (s21 : Int × (List Int)) (v6 : Int) (v7 : Int) (v8 : List Field) : Pn (JnO Tryz.prog (sub (codeOf Tryz.prog 22) [1, 1, 1, 1, 1, 1, 1, 1, 1, 0, 1, 0, 0, 1, 0]) (st 128 [(0, lF5 o), (2, V.ptr 0 0), (5, vI v6), (15, V.ptr 1 0), (95, V.ow 3), (96, vI (s21.2.length : Int)), (97, vI v7), (98, vB (decide (v7 < (s21.2.length : Int))))] [Blk.box 46 [vE, V.nl 59], Blk.box 46 [vS r1.1, V.ow 2], Blk.row 59 (List.map E59 v8) [], Blk.row 3 (List.map E3 s21.2) []] []) (fun (y : Lo Unit Unit) => Lo.elim y (fun s => (X.go, st 128 [(0, lF5 o), (2, V.ptr 0 0), (5, vI v6), (15, V.ptr 1 0), (95, V.ow 3), (96, vI (s21.2.length : Int)), (97, vI v7)] [Blk.box 46 [vE, V.nl 59], Blk.box 46 [vS r1.1, V.ow 2], Blk.row 59 (List.map E59 v8) [], Blk.row 3 (List.map E3 s21.2) []] [])) (fun s => (X.out 5, st 128 [(0, lF5 o), (2, V.ptr 0 0), (5, vI v6), (15, V.ptr 1 0)] [Blk.box 46 [vE, V.nl 59], Blk.box 46 [vS r1.1, V.ow 2], Blk.row 59 (List.map E59 v8) []] [])))) (impl_Parse_c20 o r1 s21 v6 v7 v8) := by
  unfold impl_Parse_c20
  exact
   Pn.ite (fun h55 =>
   Pn.some (JnO.of [bT, .mask [0, 2, 5, 15, 95, 96, 97], .ren [0, 1, 2, 3]] (p := [(decide (v7 < (s21.2.length : Int))) = true]) (by kernel_rfl) (cj1 h55))) (fun h55 =>
   Pn.some (JnO.of [bF, .mask [0, 2, 5, 15], .ren [0, 1, 2]] (p := [(decide (v7 < (s21.2.length : Int))) = false]) (by kernel_rfl) (cj1 h55)))
def impl_Parse_c22 (o : List Int) (r1 : ByteArray × Int × Bool) (s21 : Int × (List Int)) (v7 : Int) (v8 : List Field) (x3 : Int) (r18 : ByteArray × Int × Bool) : Option (Lo Unit Unit) :=
 if r18.2.2 = true then
 some (.out ())
 else
 some (.ret ())
theorem impl_Parse_c22_ok (o : List Int) (r1 : ByteArray × Int × Bool) (s21 : Int × (List Int)) (v7 : Int) (v8 : List Field) (x3 : Int) (r18 : ByteArray × Int × Bool) : Pn (JnO Tryz.prog (sub (codeOf Tryz.prog 22) [1, 1, 1, 1, 1, 1, 1, 1, 1, 0, 1, 0, 0, 1, 1, 0, 0, 1, 1, 0]) (st 128 [(0, lF5 o), (2, V.ptr 0 0), (15, V.ptr 1 0), (17, vI x3), (18, vS r18.1), (19, vI r18.2.1), (20, vB r18.2.2), (95, V.ow 3), (96, vI (s21.2.length : Int)), (97, vI v7)] [Blk.box 46 [vE, V.nl 59], Blk.box 46 [vS r1.1, V.ow 2], Blk.row 59 (List.map E59 v8) [], Blk.row 3 (List.map E3 s21.2) []] []) (fun (y : Lo Unit Unit) => Lo.elim y (fun s => (X.go, st 128 [(0, lF5 o), (2, V.ptr 0 0), (15, V.ptr 1 0), (17, vI x3), (18, vS r18.1), (19, vI r18.2.1), (95, V.ow 3), (96, vI (s21.2.length : Int)), (97, vI v7)] [Blk.box 46 [vE, V.nl 59], Blk.box 46 [vS r1.1, V.ow 2], Blk.row 59 (List.map E59 v8) [], Blk.row 3 (List.map E3 s21.2) []] [])) (fun s => (X.ret, st 128 [(2, V.ptr 0 0), (3, vI 3)] [Blk.box 46 [vE, V.nl 59]] [])))) (impl_Parse_c22 o r1 s21 v7 v8 x3 r18) := by
  unfold impl_Parse_c22
  exact
   Pn.ite (fun h62 =>
   Pn.some (JnO.of [bF, .mask [0, 2, 15, 17, 18, 19, 95, 96, 97], .ren [0, 1, 2, 3]] (p := [(!r18.2.2) = false]) (by kernel_rfl) (cj1 (nf h62)))) (fun h62 =>
   Pn.some (JnO.of [bT, .wait 3, .mask [2, 3], .ren [0]] (p := [(!r18.2.2) = true]) (by kernel_rfl) (cj1 (nt h62))))
def impl_Parse_c21 (o : List Int) (r1 : ByteArray × Int × Bool) (s21 : Int × (List Int)) (v6 : Int) (v7 : Int) (v8 : List Field) : Option (Lo (Int × (List Field)) Unit) :=
 if (decide (0 ≤ v7)) = true then
 (s21.2[v7.toNat]?).bind fun x3 =>
 (impl_GetField o v6 x3).bind fun r18 =>
 (impl_Parse_c22 o r1 s21 v7 v8 x3 r18).bind fun r19 =>
 Lo.elim r19 (fun s25 =>
 if (capOk (v8.length + 1)) = true then
 some (.out (r18.2.1, (v8 ++ [(Field.mk x3 r18.1)])))
 else none) (fun s26 =>
 some (.ret ()))
 else none
theorem impl_Parse_c21_ok (o : List Int) (r1 : ByteArray × Int × Bool) (s21 : Int × (List Int)) (v6 : Int) (v7 : Int) (v8 : List Field) : Pn (JnO Tryz.prog (sub (codeOf Tryz.prog 22) [1, 1, 1, 1, 1, 1, 1, 1, 1, 0, 1, 0, 0, 1, 1, 0]) (st 128 [(0, lF5 o), (2, V.ptr 0 0), (5, vI v6), (15, V.ptr 1 0), (95, V.ow 3), (96, vI (s21.2.length : Int)), (97, vI v7)] [Blk.box 46 [vE, V.nl 59], Blk.box 46 [vS r1.1, V.ow 2], Blk.row 59 (List.map E59 v8) [], Blk.row 3 (List.map E3 s21.2) []] []) (fun (y : Lo (Int × (List Field)) Unit) => Lo.elim y (fun s => (X.go, st 128 [(0, lF5 o), (2, V.ptr 0 0), (5, vI s.1), (15, V.ptr 1 0), (95, V.ow 3), (96, vI (s21.2.length : Int)), (97, vI v7)] [Blk.box 46 [vE, V.nl 59], Blk.box 46 [vS r1.1, V.ow 2], Blk.row 59 (List.map E59 s.2) [], Blk.row 3 (List.map E3 s21.2) []] [])) (fun s => (X.ret, st 128 [(2, V.ptr 0 0), (3, vI 3)] [Blk.box 46 [vE, V.nl 59]] [])))) (impl_Parse_c21 o r1 s21 v6 v7 v8) := by
  unfold impl_Parse_c21
  exact
   Pn.ite (fun h59 =>
   Pn.bind (fun x3 h60 =>
   Pn.bind (fun r18 h61 =>
   Pn.bind (fun r19 h63 =>
   Pn.lo (fun s25 h64 =>
   Pn.ite (fun h66 =>
   Pn.some (JnO.of [.el (E3 x3), .call [] (V.tup [E9 r18.1, E3 r18.2.1, E4 r18.2.2]) [], .wait 8, .mask [0, 2, 15, 17, 18, 19, 20, 95, 96, 97], .ren [0, 1, 2, 3], .join 7 (X.go) (st 128 [(0, lF5 o), (2, V.ptr 0 0), (15, V.ptr 1 0), (17, vI x3), (18, vS r18.1), (19, vI r18.2.1), (95, V.ow 3), (96, vI (s21.2.length : Int)), (97, vI v7)] [Blk.box 46 [vE, V.nl 59], Blk.box 46 [vS r1.1, V.ow 2], Blk.row 59 (List.map E59 v8) [], Blk.row 3 (List.map E3 s21.2) []] []), .cp [V.agg [vI x3, vS r18.1]], .nb 5 (.row 59 (List.map E59 (v8 ++ [(Field.mk x3 r18.1)])) []), .wait 5, .mask [0, 2, 5, 15, 95, 96, 97], .ren [0, 1, 5, 3]] (p := [(0 : Int) ≤ v7,(v7 : Int) < ((List.map E3 s21.2).length : Int),look [] v7.toNat = none,(List.map E3 s21.2)[v7.toNat]? = some (E3 x3),Fn Tryz.prog 40 [(false, E31 o), (false, E3 v6), (false, E3 x3)] (V.tup [E9 r18.1, E3 r18.2.1, E4 r18.2.2]) [],(true || ((V.tup [E9 r18.1, E3 r18.2.1, E4 r18.2.2]).nv && nvL [])) = true,HT Tryz.prog (sub (codeOf Tryz.prog 22) [1, 1, 1, 1, 1, 1, 1, 1, 1, 0, 1, 0, 0, 1, 1, 0, 0, 1, 1, 0]) (st 128 [(0, lF5 o), (2, V.ptr 0 0), (15, V.ptr 1 0), (17, vI x3), (18, vS r18.1), (19, vI r18.2.1), (20, vB r18.2.2), (95, V.ow 3), (96, vI (s21.2.length : Int)), (97, vI v7)] [Blk.box 46 [vE, V.nl 59], Blk.box 46 [vS r1.1, V.ow 2], Blk.row 59 (List.map E59 v8) [], Blk.row 3 (List.map E3 s21.2) []] []) (X.go) (st 128 [(0, lF5 o), (2, V.ptr 0 0), (15, V.ptr 1 0), (17, vI x3), (18, vS r18.1), (19, vI r18.2.1), (95, V.ow 3), (96, vI (s21.2.length : Int)), (97, vI v7)] [Blk.box 46 [vE, V.nl 59], Blk.box 46 [vS r1.1, V.ow 2], Blk.row 59 (List.map E59 v8) [], Blk.row 3 (List.map E3 s21.2) []] []),[V.agg [vI x3, vS r18.1]] = [V.agg [vI x3, vS r18.1]],[V.agg [vI x3, vS r18.1]].all V.flatE = true,(List.map E59 v8).length + [V.agg [vI x3, vS r18.1]].length ≤ 9223372036854775807,((List.map E59 v8).length + [V.agg [vI x3, vS r18.1]].length) * 24 ≤ 140737488355328,Blk.row 59 ((List.map E59 v8) ++ [V.agg [vI x3, vS r18.1]]) [] = Blk.row 59 (List.map E59 (v8 ++ [(Field.mk x3 r18.1)])) []]) (by kernel_rfl) (cj (od h59) (cj (map_ltN (od h59) h60) (cj rfl (cj (map_get h60) (cj (impl_GetField_ok o v6 x3 r18 h61) (cj rfl (cj ((impl_Parse_c22_ok o r1 s21 v7 v8 x3 r18 r19 h63).at h64 :) (cj rfl (cj rfl (cj (cap1 (capN (by simp) h66)) (cj (cap2 (capN (by simp) h66) (by decide)) (cj1 (nb_app E59 v8 [(Field.mk x3 r18.1)]))))))))))))))) (fun h66 =>
   Pn.none)) (fun s26 h65 =>
   Pn.some (JnO.of [.el (E3 x3), .call [] (V.tup [E9 r18.1, E3 r18.2.1, E4 r18.2.2]) [], .wait 8, .mask [0, 2, 15, 17, 18, 19, 20, 95, 96, 97], .ren [0, 1, 2, 3], .join 7 (X.ret) (st 128 [(2, V.ptr 0 0), (3, vI 3)] [Blk.box 46 [vE, V.nl 59]] []), .wait 1, .mask [2, 3], .ren [0]] (p := [(0 : Int) ≤ v7,(v7 : Int) < ((List.map E3 s21.2).length : Int),look [] v7.toNat = none,(List.map E3 s21.2)[v7.toNat]? = some (E3 x3),Fn Tryz.prog 40 [(false, E31 o), (false, E3 v6), (false, E3 x3)] (V.tup [E9 r18.1, E3 r18.2.1, E4 r18.2.2]) [],(true || ((V.tup [E9 r18.1, E3 r18.2.1, E4 r18.2.2]).nv && nvL [])) = true,HT Tryz.prog (sub (codeOf Tryz.prog 22) [1, 1, 1, 1, 1, 1, 1, 1, 1, 0, 1, 0, 0, 1, 1, 0, 0, 1, 1, 0]) (st 128 [(0, lF5 o), (2, V.ptr 0 0), (15, V.ptr 1 0), (17, vI x3), (18, vS r18.1), (19, vI r18.2.1), (20, vB r18.2.2), (95, V.ow 3), (96, vI (s21.2.length : Int)), (97, vI v7)] [Blk.box 46 [vE, V.nl 59], Blk.box 46 [vS r1.1, V.ow 2], Blk.row 59 (List.map E59 v8) [], Blk.row 3 (List.map E3 s21.2) []] []) (X.ret) (st 128 [(2, V.ptr 0 0), (3, vI 3)] [Blk.box 46 [vE, V.nl 59]] [])]) (by kernel_rfl) (cj (od h59) (cj (map_ltN (od h59) h60) (cj rfl (cj (map_get h60) (cj (impl_GetField_ok o v6 x3 r18 h61) (cj rfl (cj1 ((impl_Parse_c22_ok o r1 s21 v7 v8 x3 r18 r19 h63).at h65 :)))))))))))))) (fun h59 =>
   Pn.none)
def impl_Parse_l2 (o : List Int) (r1 : ByteArray × Int × Bool) (s21 : Int × (List Int)) : Nat → Int → Int → (List Field) → Option (Lo (Int × (List Field)) Unit)
  | 0, _, _, _ => none
  | fuel + 1, v6, v7, v8 =>
   (impl_Parse_c20 o r1 s21 v6 v7 v8).bind fun r17 =>
   Lo.elim r17 (fun s23 =>
   (impl_Parse_c21 o r1 s21 v6 v7 v8).bind fun r20 =>
   Lo.elim r20 (fun s27 =>
   impl_Parse_l2 o r1 s21 fuel s27.1 (i64 (v7 + 1)) s27.2) (fun s28 =>
   some (.ret ()))) (fun s24 =>
   some (.out (v6, v8)))
theorem impl_Parse_l2_ok (o : List Int) (r1 : ByteArray × Int × Bool) (s21 : Int × (List Int)) : ∀ (fuel : Nat) (v6 : Int) (v7 : Int) (v8 : List Field), Pn (LpO Tryz.prog (sub (codeOf Tryz.prog 22) [1, 1, 1, 1, 1, 1, 1, 1, 1, 0, 1, 0, 0]) (st 128 [(0, lF5 o), (2, V.ptr 0 0), (5, vI v6), (15, V.ptr 1 0), (95, V.ow 3), (96, vI (s21.2.length : Int)), (97, vI v7)] [Blk.box 46 [vE, V.nl 59], Blk.box 46 [vS r1.1, V.ow 2], Blk.row 59 (List.map E59 v8) [], Blk.row 3 (List.map E3 s21.2) []] []) (fun (y : Lo (Int × (List Field)) Unit) => Lo.elim y (fun s => (X.out 5, st 128 [(0, lF5 o), (2, V.ptr 0 0), (5, vI s.1), (15, V.ptr 1 0)] [Blk.box 46 [vE, V.nl 59], Blk.box 46 [vS r1.1, V.ow 2], Blk.row 59 (List.map E59 s.2) []] [])) (fun s => (X.ret, st 128 [(2, V.ptr 0 0), (3, vI 3)] [Blk.box 46 [vE, V.nl 59]] [])))) (impl_Parse_l2 o r1 s21 fuel v6 v7 v8)
  | 0, _, _, _ => Pn.none
  | fuel + 1, v6, v7, v8 => by
    unfold impl_Parse_l2
    exact
     Pn.bind (fun r17 h56 =>
     Pn.lo (fun s23 h57 =>
     Pn.bind (fun r20 h67 =>
     Pn.lo (fun s27 h68 =>
     LpO.go [.wait 2, .mask [0, 2, 5, 15, 95, 96, 97, 98], .ren [0, 1, 2, 3], .join 3 (X.go) (st 128 [(0, lF5 o), (2, V.ptr 0 0), (5, vI v6), (15, V.ptr 1 0), (95, V.ow 3), (96, vI (s21.2.length : Int)), (97, vI v7)] [Blk.box 46 [vE, V.nl 59], Blk.box 46 [vS r1.1, V.ow 2], Blk.row 59 (List.map E59 v8) [], Blk.row 3 (List.map E3 s21.2) []] []), .wait 1, .mask [0, 2, 5, 15, 95, 96, 97], .ren [0, 1, 2, 3], .join 14 (X.go) (st 128 [(0, lF5 o), (2, V.ptr 0 0), (5, vI s27.1), (15, V.ptr 1 0), (95, V.ow 3), (96, vI (s21.2.length : Int)), (97, vI v7)] [Blk.box 46 [vE, V.nl 59], Blk.box 46 [vS r1.1, V.ow 2], Blk.row 59 (List.map E59 s27.2) [], Blk.row 3 (List.map E3 s21.2) []] []), .wait 3, .mask [0, 2, 5, 15, 95, 96, 97], .ren [0, 1, 2, 3]] (p := [HT Tryz.prog (sub (codeOf Tryz.prog 22) [1, 1, 1, 1, 1, 1, 1, 1, 1, 0, 1, 0, 0, 1, 0]) (st 128 [(0, lF5 o), (2, V.ptr 0 0), (5, vI v6), (15, V.ptr 1 0), (95, V.ow 3), (96, vI (s21.2.length : Int)), (97, vI v7), (98, vB (decide (v7 < (s21.2.length : Int))))] [Blk.box 46 [vE, V.nl 59], Blk.box 46 [vS r1.1, V.ow 2], Blk.row 59 (List.map E59 v8) [], Blk.row 3 (List.map E3 s21.2) []] []) (X.go) (st 128 [(0, lF5 o), (2, V.ptr 0 0), (5, vI v6), (15, V.ptr 1 0), (95, V.ow 3), (96, vI (s21.2.length : Int)), (97, vI v7)] [Blk.box 46 [vE, V.nl 59], Blk.box 46 [vS r1.1, V.ow 2], Blk.row 59 (List.map E59 v8) [], Blk.row 3 (List.map E3 s21.2) []] []),HT Tryz.prog (sub (codeOf Tryz.prog 22) [1, 1, 1, 1, 1, 1, 1, 1, 1, 0, 1, 0, 0, 1, 1, 0]) (st 128 [(0, lF5 o), (2, V.ptr 0 0), (5, vI v6), (15, V.ptr 1 0), (95, V.ow 3), (96, vI (s21.2.length : Int)), (97, vI v7)] [Blk.box 46 [vE, V.nl 59], Blk.box 46 [vS r1.1, V.ow 2], Blk.row 59 (List.map E59 v8) [], Blk.row 3 (List.map E3 s21.2) []] []) (X.go) (st 128 [(0, lF5 o), (2, V.ptr 0 0), (5, vI s27.1), (15, V.ptr 1 0), (95, V.ow 3), (96, vI (s21.2.length : Int)), (97, vI v7)] [Blk.box 46 [vE, V.nl 59], Blk.box 46 [vS r1.1, V.ow 2], Blk.row 59 (List.map E59 s27.2) [], Blk.row 3 (List.map E3 s21.2) []] [])]) (by kernel_rfl) (cj ((impl_Parse_c20_ok o r1 s21 v6 v7 v8 r17 h56).at h57 :) (cj1 ((impl_Parse_c21_ok o r1 s21 v6 v7 v8 r20 h67).at h68 :))) (impl_Parse_l2_ok o r1 s21 fuel s27.1 (i64 (v7 + 1)) s27.2)) (fun s28 h69 =>
     Pn.some (LpO.out [.wait 2, .mask [0, 2, 5, 15, 95, 96, 97, 98], .ren [0, 1, 2, 3], .join 3 (X.go) (st 128 [(0, lF5 o), (2, V.ptr 0 0), (5, vI v6), (15, V.ptr 1 0), (95, V.ow 3), (96, vI (s21.2.length : Int)), (97, vI v7)] [Blk.box 46 [vE, V.nl 59], Blk.box 46 [vS r1.1, V.ow 2], Blk.row 59 (List.map E59 v8) [], Blk.row 3 (List.map E3 s21.2) []] []), .wait 1, .mask [0, 2, 5, 15, 95, 96, 97], .ren [0, 1, 2, 3], .join 14 (X.ret) (st 128 [(2, V.ptr 0 0), (3, vI 3)] [Blk.box 46 [vE, V.nl 59]] []), .wait 1, .mask [2, 3], .ren [0]] (p := [HT Tryz.prog (sub (codeOf Tryz.prog 22) [1, 1, 1, 1, 1, 1, 1, 1, 1, 0, 1, 0, 0, 1, 0]) (st 128 [(0, lF5 o), (2, V.ptr 0 0), (5, vI v6), (15, V.ptr 1 0), (95, V.ow 3), (96, vI (s21.2.length : Int)), (97, vI v7), (98, vB (decide (v7 < (s21.2.length : Int))))] [Blk.box 46 [vE, V.nl 59], Blk.box 46 [vS r1.1, V.ow 2], Blk.row 59 (List.map E59 v8) [], Blk.row 3 (List.map E3 s21.2) []] []) (X.go) (st 128 [(0, lF5 o), (2, V.ptr 0 0), (5, vI v6), (15, V.ptr 1 0), (95, V.ow 3), (96, vI (s21.2.length : Int)), (97, vI v7)] [Blk.box 46 [vE, V.nl 59], Blk.box 46 [vS r1.1, V.ow 2], Blk.row 59 (List.map E59 v8) [], Blk.row 3 (List.map E3 s21.2) []] []),HT Tryz.prog (sub (codeOf Tryz.prog 22) [1, 1, 1, 1, 1, 1, 1, 1, 1, 0, 1, 0, 0, 1, 1, 0]) (st 128 [(0, lF5 o), (2, V.ptr 0 0), (5, vI v6), (15, V.ptr 1 0), (95, V.ow 3), (96, vI (s21.2.length : Int)), (97, vI v7)] [Blk.box 46 [vE, V.nl 59], Blk.box 46 [vS r1.1, V.ow 2], Blk.row 59 (List.map E59 v8) [], Blk.row 3 (List.map E3 s21.2) []] []) (X.ret) (st 128 [(2, V.ptr 0 0), (3, vI 3)] [Blk.box 46 [vE, V.nl 59]] [])]) (by kernel_rfl) (show X.ret ≠ X.go from nofun) (cj ((impl_Parse_c20_ok o r1 s21 v6 v7 v8 r17 h56).at h57 :) (cj1 ((impl_Parse_c21_ok o r1 s21 v6 v7 v8 r20 h67).at h69 :))))))) (fun s24 h58 =>
     Pn.some (LpO.out [.wait 2, .mask [0, 2, 5, 15, 95, 96, 97, 98], .ren [0, 1, 2, 3], .join 3 (X.out 5) (st 128 [(0, lF5 o), (2, V.ptr 0 0), (5, vI v6), (15, V.ptr 1 0)] [Blk.box 46 [vE, V.nl 59], Blk.box 46 [vS r1.1, V.ow 2], Blk.row 59 (List.map E59 v8) []] []), .wait 1, .mask [0, 2, 5, 15], .ren [0, 1, 2]] (p := [HT Tryz.prog (sub (codeOf Tryz.prog 22) [1, 1, 1, 1, 1, 1, 1, 1, 1, 0, 1, 0, 0, 1, 0]) (st 128 [(0, lF5 o), (2, V.ptr 0 0), (5, vI v6), (15, V.ptr 1 0), (95, V.ow 3), (96, vI (s21.2.length : Int)), (97, vI v7), (98, vB (decide (v7 < (s21.2.length : Int))))] [Blk.box 46 [vE, V.nl 59], Blk.box 46 [vS r1.1, V.ow 2], Blk.row 59 (List.map E59 v8) [], Blk.row 3 (List.map E3 s21.2) []] []) (X.out 5) (st 128 [(0, lF5 o), (2, V.ptr 0 0), (5, vI v6), (15, V.ptr 1 0)] [Blk.box 46 [vE, V.nl 59], Blk.box 46 [vS r1.1, V.ow 2], Blk.row 59 (List.map E59 v8) []] [])]) (by kernel_rfl) (show X.out 5 ≠ X.go from nofun) (cj1 ((impl_Parse_c20_ok o r1 s21 v6 v7 v8 r17 h56).at h58 :)))))
def impl_Parse_c23 (o : List Int) (r1 : ByteArray × Int × Bool) (s29 : Int × (List Field)) : Option (Lo Unit Unit) :=
 if (s29.1 != (o.length : Int)) = true then
 some (.ret ())
 else
 some (.out ())
theorem impl_Parse_c23_ok (o : List Int) (r1 : ByteArray × Int × Bool) (s29 : Int × (List Field)) : Pn (JnO Tryz.prog (sub (codeOf Tryz.prog 22) [1, 1, 1, 1, 1, 1, 1, 1, 1, 1, 0]) (st 128 [(0, lF5 o), (2, V.ptr 0 0), (5, vI s29.1), (15, V.ptr 1 0)] [Blk.box 46 [vE, V.nl 59], Blk.box 46 [vS r1.1, V.ow 2], Blk.row 59 (List.map E59 s29.2) []] []) (fun (y : Lo Unit Unit) => Lo.elim y (fun s => (X.go, st 128 [(2, V.ptr 0 0), (15, V.ptr 1 0)] [Blk.box 46 [vE, V.nl 59], Blk.box 46 [vS r1.1, V.ow 2], Blk.row 59 (List.map E59 s29.2) []] [])) (fun s => (X.ret, st 128 [(2, V.ptr 0 0), (3, vI 4)] [Blk.box 46 [vE, V.nl 59]] [])))) (impl_Parse_c23 o r1 s29) := by
  unfold impl_Parse_c23
  exact
   Pn.ite (fun h73 =>
   Pn.some (JnO.of [.wait 3, .nm 124 (vI (o.length : Int)), bT, .wait 3, .mask [2, 3], .ren [0]] (p := [vI ((List.map E5 o).length : Int) = vI (o.length : Int),(s29.1 != (o.length : Int)) = true]) (by kernel_rfl) (cj (len_nm _ _) (cj1 h73)))) (fun h73 =>
   Pn.some (JnO.of [.wait 3, .nm 124 (vI (o.length : Int)), bF, .mask [2, 15], .ren [0, 1, 2]] (p := [vI ((List.map E5 o).length : Int) = vI (o.length : Int),(s29.1 != (o.length : Int)) = false]) (by kernel_rfl) (cj (len_nm _ _) (cj1 h73))))
def impl_Parse (o : List Int) : Option (Msg × Int) :=
 (impl_GetBcd o 0 4).bind fun r1 =>
 (impl_Parse_c0 o r1).bind fun r2 =>
 Lo.elim r2 (fun s1 =>
 (impl_GetBits o r1.2.1).bind fun r3 =>
 (impl_Parse_c1 o r1 r3).bind fun r4 =>
 Lo.elim r4 (fun s3 =>
 (impl_Parse_l0 o r1 r3 FUEL 0 false []).bind fun r8 =>
 Lo.elim r8 (fun s9 =>
 (impl_Parse_c6 o r1 r3 s9).bind fun r16 =>
 Lo.elim r16 (fun s21 =>
 (impl_Parse_l2 o r1 s21 FUEL s21.1 0 []).bind fun r21 =>
 Lo.elim r21 (fun s29 =>
 (impl_Parse_c23 o r1 s29).bind fun r22 =>
 Lo.elim r22 (fun s31 =>
 some ((Msg.mk r1.1 s29.2), 0)) (fun s32 =>
 some ((Msg.mk ByteArray.empty []), 4))) (fun s30 =>
 some ((Msg.mk ByteArray.empty []), 3))) (fun s22 =>
 some ((Msg.mk ByteArray.empty []), 2))) (fun s10 =>
 some ((Msg.mk ByteArray.empty []), 2))) (fun s4 =>
 some ((Msg.mk ByteArray.empty []), 2))) (fun s2 =>
 some ((Msg.mk ByteArray.empty []), 1))
theorem impl_Parse_ok (o : List Int) : Pn (fun y => Fn Tryz.prog 22 [(false, E31 o)] (V.tup [E46 y.1, E3 y.2]) []) (impl_Parse o) := by
  unfold impl_Parse
  exact
   Pn.bind (fun r1 h1 =>
   Pn.bind (fun r2 h3 =>
   Pn.lo (fun s1 h4 =>
   Pn.bind (fun r3 h6 =>
   Pn.bind (fun r4 h8 =>
   Pn.lo (fun s3 h9 =>
   Pn.bind (fun r8 h24 =>
   Pn.lo (fun s9 h25 =>
   Pn.bind (fun r16 h52 =>
   Pn.lo (fun s21 h53 =>
   Pn.bind (fun r21 h70 =>
   Pn.lo (fun s29 h71 =>
   Pn.bind (fun r22 h74 =>
   Pn.lo (fun s31 h75 =>
   Pn.some (Fn.of [.call [] (V.tup [E9 r1.1, E3 r1.2.1, E4 r1.2.2]) [], .wait 8, .mask [0, 2, 4, 5, 6], .ren [0], .join 7 (X.go) (st 128 [(0, lF5 o), (2, V.ptr 0 0), (4, vS r1.1), (5, vI r1.2.1)] [Blk.box 46 [vE, V.nl 59]] []), .call [] (V.tup [E55 r3.1, E3 r3.2.1, E4 r3.2.2]) [], .wait 8, .mask [0, 2, 4, 5, 6, 7], .ren [0, 1], .join 7 (X.go) (st 128 [(0, lF5 o), (2, V.ptr 0 0), (4, vS r1.1), (5, vI r3.2.1), (7, V.ow 1)] [Blk.box 46 [vE, V.nl 59], Blk.row 3 (List.map E3 r3.1) []] []), .wait 5, .nm 42 (vI (r3.1.length : Int)), .wait 2, .mask [0, 2, 4, 5, 8, 9, 41, 42, 43], .ren [0, 2, 1], .loop (X.out 0) (st 128 [(0, lF5 o), (2, V.ptr 0 0), (4, vS r1.1), (5, vI r3.2.1), (8, V.ow 1), (9, vB s9.1)] [Blk.box 46 [vE, V.nl 59], Blk.row 3 (List.map E3 s9.2) []] []), .wait 1, .mask [0, 2, 4, 5, 8, 9], .ren [0, 1], .join 40 (X.go) (st 128 [(0, lF5 o), (2, V.ptr 0 0), (4, vS r1.1), (5, vI s21.1), (8, V.ow 1)] [Blk.box 46 [vE, V.nl 59], Blk.row 3 (List.map E3 s21.2) []] []), .wait 6, .nm 96 (vI (s21.2.length : Int)), .wait 2, .mask [0, 2, 5, 15, 95, 96, 97], .ren [0, 2, 1], .ownb 1 1, .mask [0, 2, 5, 15, 95, 96, 97], .ren [0, 1, 3, 2], .loop (X.out 5) (st 128 [(0, lF5 o), (2, V.ptr 0 0), (5, vI s29.1), (15, V.ptr 1 0)] [Blk.box 46 [vE, V.nl 59], Blk.box 46 [vS r1.1, V.ow 2], Blk.row 59 (List.map E59 s29.2) []] []), .wait 1, .mask [0, 2, 5, 15], .ren [0, 1, 2], .join 7 (X.go) (st 128 [(2, V.ptr 0 0), (15, V.ptr 1 0)] [Blk.box 46 [vE, V.nl 59], Blk.box 46 [vS r1.1, V.ow 2], Blk.row 59 (List.map E59 s29.2) []] [])] (p := [Fn Tryz.prog 37 [(false, E31 o), (false, E3 0), (false, E3 4)] (V.tup [E9 r1.1, E3 r1.2.1, E4 r1.2.2]) [],(true || ((V.tup [E9 r1.1, E3 r1.2.1, E4 r1.2.2]).nv && nvL [])) = true,HT Tryz.prog (sub (codeOf Tryz.prog 22) [1, 1, 0]) (st 128 [(0, lF5 o), (2, V.ptr 0 0), (4, vS r1.1), (5, vI r1.2.1), (6, vB r1.2.2)] [Blk.box 46 [vE, V.nl 59]] []) (X.go) (st 128 [(0, lF5 o), (2, V.ptr 0 0), (4, vS r1.1), (5, vI r1.2.1)] [Blk.box 46 [vE, V.nl 59]] []),Fn Tryz.prog 38 [(false, E31 o), (false, E3 r1.2.1)] (V.tup [E55 r3.1, E3 r3.2.1, E4 r3.2.2]) [],(true || ((V.tup [E55 r3.1, E3 r3.2.1, E4 r3.2.2]).nv && nvL [])) = true,HT Tryz.prog (sub (codeOf Tryz.prog 22) [1, 1, 1, 1, 0]) (st 128 [(0, lF5 o), (2, V.ptr 0 0), (4, vS r1.1), (5, vI r3.2.1), (6, vB r3.2.2), (7, V.ow 1)] [Blk.box 46 [vE, V.nl 59], Blk.row 3 (List.map E3 r3.1) []] []) (X.go) (st 128 [(0, lF5 o), (2, V.ptr 0 0), (4, vS r1.1), (5, vI r3.2.1), (7, V.ow 1)] [Blk.box 46 [vE, V.nl 59], Blk.row 3 (List.map E3 r3.1) []] []),vI ((List.map E3 r3.1).length : Int) = vI (r3.1.length : Int),Loop Tryz.prog (sub (codeOf Tryz.prog 22) [1, 1, 1, 1, 1, 1, 0, 1, 0, 0]) (st 128 [(0, lF5 o), (2, V.ptr 0 0), (4, vS r1.1), (5, vI r3.2.1), (8, V.ow 1), (9, vB false), (41, V.ow 2), (42, vI (r3.1.length : Int)), (43, vI 0)] [Blk.box 46 [vE, V.nl 59], Blk.row 3 ([] : List V) [], Blk.row 3 (List.map E3 r3.1) []] []) (X.out 0) (st 128 [(0, lF5 o), (2, V.ptr 0 0), (4, vS r1.1), (5, vI r3.2.1), (8, V.ow 1), (9, vB s9.1)] [Blk.box 46 [vE, V.nl 59], Blk.row 3 (List.map E3 s9.2) []] []),HT Tryz.prog (sub (codeOf Tryz.prog 22) [1, 1, 1, 1, 1, 1, 1, 0]) (st 128 [(0, lF5 o), (2, V.ptr 0 0), (4, vS r1.1), (5, vI r3.2.1), (8, V.ow 1), (9, vB s9.1)] [Blk.box 46 [vE, V.nl 59], Blk.row 3 (List.map E3 s9.2) []] []) (X.go) (st 128 [(0, lF5 o), (2, V.ptr 0 0), (4, vS r1.1), (5, vI s21.1), (8, V.ow 1)] [Blk.box 46 [vE, V.nl 59], Blk.row 3 (List.map E3 s21.2) []] []),vI ((List.map E3 s21.2).length : Int) = vI (s21.2.length : Int),Loop Tryz.prog (sub (codeOf Tryz.prog 22) [1, 1, 1, 1, 1, 1, 1, 1, 1, 0, 1, 0, 0]) (st 128 [(0, lF5 o), (2, V.ptr 0 0), (5, vI s21.1), (15, V.ptr 1 0), (95, V.ow 3), (96, vI (s21.2.length : Int)), (97, vI 0)] [Blk.box 46 [vE, V.nl 59], Blk.box 46 [vS r1.1, V.ow 2], Blk.row 59 ([] : List V) [], Blk.row 3 (List.map E3 s21.2) []] []) (X.out 5) (st 128 [(0, lF5 o), (2, V.ptr 0 0), (5, vI s29.1), (15, V.ptr 1 0)] [Blk.box 46 [vE, V.nl 59], Blk.box 46 [vS r1.1, V.ow 2], Blk.row 59 (List.map E59 s29.2) []] []),HT Tryz.prog (sub (codeOf Tryz.prog 22) [1, 1, 1, 1, 1, 1, 1, 1, 1, 1, 0]) (st 128 [(0, lF5 o), (2, V.ptr 0 0), (5, vI s29.1), (15, V.ptr 1 0)] [Blk.box 46 [vE, V.nl 59], Blk.box 46 [vS r1.1, V.ow 2], Blk.row 59 (List.map E59 s29.2) []] []) (X.go) (st 128 [(2, V.ptr 0 0), (15, V.ptr 1 0)] [Blk.box 46 [vE, V.nl 59], Blk.box 46 [vS r1.1, V.ow 2], Blk.row 59 (List.map E59 s29.2) []] [])]) (by kernel_rfl) (cj (impl_GetBcd_ok o 0 4 r1 h1) (cj rfl (cj ((impl_Parse_c0_ok o r1 r2 h3).at h4 :) (cj (impl_GetBits_ok o r1.2.1 r3 h6) (cj rfl (cj ((impl_Parse_c1_ok o r1 r3 r4 h8).at h9 :) (cj (len_nm _ _) (cj ((impl_Parse_l0_ok o r1 r3 FUEL 0 false [] r8 h24).at h25 :) (cj ((impl_Parse_c6_ok o r1 r3 s9 r16 h52).at h53 :) (cj (len_nm _ _) (cj ((impl_Parse_l2_ok o r1 s21 FUEL s21.1 0 [] r21 h70).at h71 :) (cj1 ((impl_Parse_c23_ok o r1 s29 r22 h74).at h75 :))))))))))))))) (fun s32 h76 =>
   Pn.some (Fn.of [.call [] (V.tup [E9 r1.1, E3 r1.2.1, E4 r1.2.2]) [], .wait 8, .mask [0, 2, 4, 5, 6], .ren [0], .join 7 (X.go) (st 128 [(0, lF5 o), (2, V.ptr 0 0), (4, vS r1.1), (5, vI r1.2.1)] [Blk.box 46 [vE, V.nl 59]] []), .call [] (V.tup [E55 r3.1, E3 r3.2.1, E4 r3.2.2]) [], .wait 8, .mask [0, 2, 4, 5, 6, 7], .ren [0, 1], .join 7 (X.go) (st 128 [(0, lF5 o), (2, V.ptr 0 0), (4, vS r1.1), (5, vI r3.2.1), (7, V.ow 1)] [Blk.box 46 [vE, V.nl 59], Blk.row 3 (List.map E3 r3.1) []] []), .wait 5, .nm 42 (vI (r3.1.length : Int)), .wait 2, .mask [0, 2, 4, 5, 8, 9, 41, 42, 43], .ren [0, 2, 1], .loop (X.out 0) (st 128 [(0, lF5 o), (2, V.ptr 0 0), (4, vS r1.1), (5, vI r3.2.1), (8, V.ow 1), (9, vB s9.1)] [Blk.box 46 [vE, V.nl 59], Blk.row 3 (List.map E3 s9.2) []] []), .wait 1, .mask [0, 2, 4, 5, 8, 9], .ren [0, 1], .join 40 (X.go) (st 128 [(0, lF5 o), (2, V.ptr 0 0), (4, vS r1.1), (5, vI s21.1), (8, V.ow 1)] [Blk.box 46 [vE, V.nl 59], Blk.row 3 (List.map E3 s21.2) []] []), .wait 6, .nm 96 (vI (s21.2.length : Int)), .wait 2, .mask [0, 2, 5, 15, 95, 96, 97], .ren [0, 2, 1], .ownb 1 1, .mask [0, 2, 5, 15, 95, 96, 97], .ren [0, 1, 3, 2], .loop (X.out 5) (st 128 [(0, lF5 o), (2, V.ptr 0 0), (5, vI s29.1), (15, V.ptr 1 0)] [Blk.box 46 [vE, V.nl 59], Blk.box 46 [vS r1.1, V.ow 2], Blk.row 59 (List.map E59 s29.2) []] []), .wait 1, .mask [0, 2, 5, 15], .ren [0, 1, 2], .join 7 (X.ret) (st 128 [(2, V.ptr 0 0), (3, vI 4)] [Blk.box 46 [vE, V.nl 59]] [])] (p := [Fn Tryz.prog 37 [(false, E31 o), (false, E3 0), (false, E3 4)] (V.tup [E9 r1.1, E3 r1.2.1, E4 r1.2.2]) [],(true || ((V.tup [E9 r1.1, E3 r1.2.1, E4 r1.2.2]).nv && nvL [])) = true,HT Tryz.prog (sub (codeOf Tryz.prog 22) [1, 1, 0]) (st 128 [(0, lF5 o), (2, V.ptr 0 0), (4, vS r1.1), (5, vI r1.2.1), (6, vB r1.2.2)] [Blk.box 46 [vE, V.nl 59]] []) (X.go) (st 128 [(0, lF5 o), (2, V.ptr 0 0), (4, vS r1.1), (5, vI r1.2.1)] [Blk.box 46 [vE, V.nl 59]] []),Fn Tryz.prog 38 [(false, E31 o), (false, E3 r1.2.1)] (V.tup [E55 r3.1, E3 r3.2.1, E4 r3.2.2]) [],(true || ((V.tup [E55 r3.1, E3 r3.2.1, E4 r3.2.2]).nv && nvL [])) = true,HT Tryz.prog (sub (codeOf Tryz.prog 22) [1, 1, 1, 1, 0]) (st 128 [(0, lF5 o), (2, V.ptr 0 0), (4, vS r1.1), (5, vI r3.2.1), (6, vB r3.2.2), (7, V.ow 1)] [Blk.box 46 [vE, V.nl 59], Blk.row 3 (List.map E3 r3.1) []] []) (X.go) (st 128 [(0, lF5 o), (2, V.ptr 0 0), (4, vS r1.1), (5, vI r3.2.1), (7, V.ow 1)] [Blk.box 46 [vE, V.nl 59], Blk.row 3 (List.map E3 r3.1) []] []),vI ((List.map E3 r3.1).length : Int) = vI (r3.1.length : Int),Loop Tryz.prog (sub (codeOf Tryz.prog 22) [1, 1, 1, 1, 1, 1, 0, 1, 0, 0]) (st 128 [(0, lF5 o), (2, V.ptr 0 0), (4, vS r1.1), (5, vI r3.2.1), (8, V.ow 1), (9, vB false), (41, V.ow 2), (42, vI (r3.1.length : Int)), (43, vI 0)] [Blk.box 46 [vE, V.nl 59], Blk.row 3 ([] : List V) [], Blk.row 3 (List.map E3 r3.1) []] []) (X.out 0) (st 128 [(0, lF5 o), (2, V.ptr 0 0), (4, vS r1.1), (5, vI r3.2.1), (8, V.ow 1), (9, vB s9.1)] [Blk.box 46 [vE, V.nl 59], Blk.row 3 (List.map E3 s9.2) []] []),HT Tryz.prog (sub (codeOf Tryz.prog 22) [1, 1, 1, 1, 1, 1, 1, 0]) (st 128 [(0, lF5 o), (2, V.ptr 0 0), (4, vS r1.1), (5, vI r3.2.1), (8, V.ow 1), (9, vB s9.1)] [Blk.box 46 [vE, V.nl 59], Blk.row 3 (List.map E3 s9.2) []] []) (X.go) (st 128 [(0, lF5 o), (2, V.ptr 0 0), (4, vS r1.1), (5, vI s21.1), (8, V.ow 1)] [Blk.box 46 [vE, V.nl 59], Blk.row 3 (List.map E3 s21.2) []] []),vI ((List.map E3 s21.2).length : Int) = vI (s21.2.length : Int),Loop Tryz.prog (sub (codeOf Tryz.prog 22) [1, 1, 1, 1, 1, 1, 1, 1, 1, 0, 1, 0, 0]) (st 128 [(0, lF5 o), (2, V.ptr 0 0), (5, vI s21.1), (15, V.ptr 1 0), (95, V.ow 3), (96, vI (s21.2.length : Int)), (97, vI 0)] [Blk.box 46 [vE, V.nl 59], Blk.box 46 [vS r1.1, V.ow 2], Blk.row 59 ([] : List V) [], Blk.row 3 (List.map E3 s21.2) []] []) (X.out 5) (st 128 [(0, lF5 o), (2, V.ptr 0 0), (5, vI s29.1), (15, V.ptr 1 0)] [Blk.box 46 [vE, V.nl 59], Blk.box 46 [vS r1.1, V.ow 2], Blk.row 59 (List.map E59 s29.2) []] []),HT Tryz.prog (sub (codeOf Tryz.prog 22) [1, 1, 1, 1, 1, 1, 1, 1, 1, 1, 0]) (st 128 [(0, lF5 o), (2, V.ptr 0 0), (5, vI s29.1), (15, V.ptr 1 0)] [Blk.box 46 [vE, V.nl 59], Blk.box 46 [vS r1.1, V.ow 2], Blk.row 59 (List.map E59 s29.2) []] []) (X.ret) (st 128 [(2, V.ptr 0 0), (3, vI 4)] [Blk.box 46 [vE, V.nl 59]] [])]) (by kernel_rfl) (cj (impl_GetBcd_ok o 0 4 r1 h1) (cj rfl (cj ((impl_Parse_c0_ok o r1 r2 h3).at h4 :) (cj (impl_GetBits_ok o r1.2.1 r3 h6) (cj rfl (cj ((impl_Parse_c1_ok o r1 r3 r4 h8).at h9 :) (cj (len_nm _ _) (cj ((impl_Parse_l0_ok o r1 r3 FUEL 0 false [] r8 h24).at h25 :) (cj ((impl_Parse_c6_ok o r1 r3 s9 r16 h52).at h53 :) (cj (len_nm _ _) (cj ((impl_Parse_l2_ok o r1 s21 FUEL s21.1 0 [] r21 h70).at h71 :) (cj1 ((impl_Parse_c23_ok o r1 s29 r22 h74).at h76 :))))))))))))))))) (fun s30 h72 =>
   Pn.some (Fn.of [.call [] (V.tup [E9 r1.1, E3 r1.2.1, E4 r1.2.2]) [], .wait 8, .mask [0, 2, 4, 5, 6], .ren [0], .join 7 (X.go) (st 128 [(0, lF5 o), (2, V.ptr 0 0), (4, vS r1.1), (5, vI r1.2.1)] [Blk.box 46 [vE, V.nl 59]] []), .call [] (V.tup [E55 r3.1, E3 r3.2.1, E4 r3.2.2]) [], .wait 8, .mask [0, 2, 4, 5, 6, 7], .ren [0, 1], .join 7 (X.go) (st 128 [(0, lF5 o), (2, V.ptr 0 0), (4, vS r1.1), (5, vI r3.2.1), (7, V.ow 1)] [Blk.box 46 [vE, V.nl 59], Blk.row 3 (List.map E3 r3.1) []] []), .wait 5, .nm 42 (vI (r3.1.length : Int)), .wait 2, .mask [0, 2, 4, 5, 8, 9, 41, 42, 43], .ren [0, 2, 1], .loop (X.out 0) (st 128 [(0, lF5 o), (2, V.ptr 0 0), (4, vS r1.1), (5, vI r3.2.1), (8, V.ow 1), (9, vB s9.1)] [Blk.box 46 [vE, V.nl 59], Blk.row 3 (List.map E3 s9.2) []] []), .wait 1, .mask [0, 2, 4, 5, 8, 9], .ren [0, 1], .join 40 (X.go) (st 128 [(0, lF5 o), (2, V.ptr 0 0), (4, vS r1.1), (5, vI s21.1), (8, V.ow 1)] [Blk.box 46 [vE, V.nl 59], Blk.row 3 (List.map E3 s21.2) []] []), .wait 6, .nm 96 (vI (s21.2.length : Int)), .wait 2, .mask [0, 2, 5, 15, 95, 96, 97], .ren [0, 2, 1], .ownb 1 1, .mask [0, 2, 5, 15, 95, 96, 97], .ren [0, 1, 3, 2], .loop (X.ret) (st 128 [(2, V.ptr 0 0), (3, vI 3)] [Blk.box 46 [vE, V.nl 59]] [])] (p := [Fn Tryz.prog 37 [(false, E31 o), (false, E3 0), (false, E3 4)] (V.tup [E9 r1.1, E3 r1.2.1, E4 r1.2.2]) [],(true || ((V.tup [E9 r1.1, E3 r1.2.1, E4 r1.2.2]).nv && nvL [])) = true,HT Tryz.prog (sub (codeOf Tryz.prog 22) [1, 1, 0]) (st 128 [(0, lF5 o), (2, V.ptr 0 0), (4, vS r1.1), (5, vI r1.2.1), (6, vB r1.2.2)] [Blk.box 46 [vE, V.nl 59]] []) (X.go) (st 128 [(0, lF5 o), (2, V.ptr 0 0), (4, vS r1.1), (5, vI r1.2.1)] [Blk.box 46 [vE, V.nl 59]] []),Fn Tryz.prog 38 [(false, E31 o), (false, E3 r1.2.1)] (V.tup [E55 r3.1, E3 r3.2.1, E4 r3.2.2]) [],(true || ((V.tup [E55 r3.1, E3 r3.2.1, E4 r3.2.2]).nv && nvL [])) = true,HT Tryz.prog (sub (codeOf Tryz.prog 22) [1, 1, 1, 1, 0]) (st 128 [(0, lF5 o), (2, V.ptr 0 0), (4, vS r1.1), (5, vI r3.2.1), (6, vB r3.2.2), (7, V.ow 1)] [Blk.box 46 [vE, V.nl 59], Blk.row 3 (List.map E3 r3.1) []] []) (X.go) (st 128 [(0, lF5 o), (2, V.ptr 0 0), (4, vS r1.1), (5, vI r3.2.1), (7, V.ow 1)] [Blk.box 46 [vE, V.nl 59], Blk.row 3 (List.map E3 r3.1) []] []),vI ((List.map E3 r3.1).length : Int) = vI (r3.1.length : Int),Loop Tryz.prog (sub (codeOf Tryz.prog 22) [1, 1, 1, 1, 1, 1, 0, 1, 0, 0]) (st 128 [(0, lF5 o), (2, V.ptr 0 0), (4, vS r1.1), (5, vI r3.2.1), (8, V.ow 1), (9, vB false), (41, V.ow 2), (42, vI (r3.1.length : Int)), (43, vI 0)] [Blk.box 46 [vE, V.nl 59], Blk.row 3 ([] : List V) [], Blk.row 3 (List.map E3 r3.1) []] []) (X.out 0) (st 128 [(0, lF5 o), (2, V.ptr 0 0), (4, vS r1.1), (5, vI r3.2.1), (8, V.ow 1), (9, vB s9.1)] [Blk.box 46 [vE, V.nl 59], Blk.row 3 (List.map E3 s9.2) []] []),HT Tryz.prog (sub (codeOf Tryz.prog 22) [1, 1, 1, 1, 1, 1, 1, 0]) (st 128 [(0, lF5 o), (2, V.ptr 0 0), (4, vS r1.1), (5, vI r3.2.1), (8, V.ow 1), (9, vB s9.1)] [Blk.box 46 [vE, V.nl 59], Blk.row 3 (List.map E3 s9.2) []] []) (X.go) (st 128 [(0, lF5 o), (2, V.ptr 0 0), (4, vS r1.1), (5, vI s21.1), (8, V.ow 1)] [Blk.box 46 [vE, V.nl 59], Blk.row 3 (List.map E3 s21.2) []] []),vI ((List.map E3 s21.2).length : Int) = vI (s21.2.length : Int),Loop Tryz.prog (sub (codeOf Tryz.prog 22) [1, 1, 1, 1, 1, 1, 1, 1, 1, 0, 1, 0, 0]) (st 128 [(0, lF5 o), (2, V.ptr 0 0), (5, vI s21.1), (15, V.ptr 1 0), (95, V.ow 3), (96, vI (s21.2.length : Int)), (97, vI 0)] [Blk.box 46 [vE, V.nl 59], Blk.box 46 [vS r1.1, V.ow 2], Blk.row 59 ([] : List V) [], Blk.row 3 (List.map E3 s21.2) []] []) (X.ret) (st 128 [(2, V.ptr 0 0), (3, vI 3)] [Blk.box 46 [vE, V.nl 59]] [])]) (by kernel_rfl) (cj (impl_GetBcd_ok o 0 4 r1 h1) (cj rfl (cj ((impl_Parse_c0_ok o r1 r2 h3).at h4 :) (cj (impl_GetBits_ok o r1.2.1 r3 h6) (cj rfl (cj ((impl_Parse_c1_ok o r1 r3 r4 h8).at h9 :) (cj (len_nm _ _) (cj ((impl_Parse_l0_ok o r1 r3 FUEL 0 false [] r8 h24).at h25 :) (cj ((impl_Parse_c6_ok o r1 r3 s9 r16 h52).at h53 :) (cj (len_nm _ _) (cj1 ((impl_Parse_l2_ok o r1 s21 FUEL s21.1 0 [] r21 h70).at h72 :)))))))))))))))) (fun s22 h54 =>
   Pn.some (Fn.of [.call [] (V.tup [E9 r1.1, E3 r1.2.1, E4 r1.2.2]) [], .wait 8, .mask [0, 2, 4, 5, 6], .ren [0], .join 7 (X.go) (st 128 [(0, lF5 o), (2, V.ptr 0 0), (4, vS r1.1), (5, vI r1.2.1)] [Blk.box 46 [vE, V.nl 59]] []), .call [] (V.tup [E55 r3.1, E3 r3.2.1, E4 r3.2.2]) [], .wait 8, .mask [0, 2, 4, 5, 6, 7], .ren [0, 1], .join 7 (X.go) (st 128 [(0, lF5 o), (2, V.ptr 0 0), (4, vS r1.1), (5, vI r3.2.1), (7, V.ow 1)] [Blk.box 46 [vE, V.nl 59], Blk.row 3 (List.map E3 r3.1) []] []), .wait 5, .nm 42 (vI (r3.1.length : Int)), .wait 2, .mask [0, 2, 4, 5, 8, 9, 41, 42, 43], .ren [0, 2, 1], .loop (X.out 0) (st 128 [(0, lF5 o), (2, V.ptr 0 0), (4, vS r1.1), (5, vI r3.2.1), (8, V.ow 1), (9, vB s9.1)] [Blk.box 46 [vE, V.nl 59], Blk.row 3 (List.map E3 s9.2) []] []), .wait 1, .mask [0, 2, 4, 5, 8, 9], .ren [0, 1], .join 40 (X.ret) (st 128 [(2, V.ptr 0 0), (3, vI 2)] [Blk.box 46 [vE, V.nl 59]] [])] (p := [Fn Tryz.prog 37 [(false, E31 o), (false, E3 0), (false, E3 4)] (V.tup [E9 r1.1, E3 r1.2.1, E4 r1.2.2]) [],(true || ((V.tup [E9 r1.1, E3 r1.2.1, E4 r1.2.2]).nv && nvL [])) = true,HT Tryz.prog (sub (codeOf Tryz.prog 22) [1, 1, 0]) (st 128 [(0, lF5 o), (2, V.ptr 0 0), (4, vS r1.1), (5, vI r1.2.1), (6, vB r1.2.2)] [Blk.box 46 [vE, V.nl 59]] []) (X.go) (st 128 [(0, lF5 o), (2, V.ptr 0 0), (4, vS r1.1), (5, vI r1.2.1)] [Blk.box 46 [vE, V.nl 59]] []),Fn Tryz.prog 38 [(false, E31 o), (false, E3 r1.2.1)] (V.tup [E55 r3.1, E3 r3.2.1, E4 r3.2.2]) [],(true || ((V.tup [E55 r3.1, E3 r3.2.1, E4 r3.2.2]).nv && nvL [])) = true,HT Tryz.prog (sub (codeOf Tryz.prog 22) [1, 1, 1, 1, 0]) (st 128 [(0, lF5 o), (2, V.ptr 0 0), (4, vS r1.1), (5, vI r3.2.1), (6, vB r3.2.2), (7, V.ow 1)] [Blk.box 46 [vE, V.nl 59], Blk.row 3 (List.map E3 r3.1) []] []) (X.go) (st 128 [(0, lF5 o), (2, V.ptr 0 0), (4, vS r1.1), (5, vI r3.2.1), (7, V.ow 1)] [Blk.box 46 [vE, V.nl 59], Blk.row 3 (List.map E3 r3.1) []] []),vI ((List.map E3 r3.1).length : Int) = vI (r3.1.length : Int),Loop Tryz.prog (sub (codeOf Tryz.prog 22) [1, 1, 1, 1, 1, 1, 0, 1, 0, 0]) (st 128 [(0, lF5 o), (2, V.ptr 0 0), (4, vS r1.1), (5, vI r3.2.1), (8, V.ow 1), (9, vB false), (41, V.ow 2), (42, vI (r3.1.length : Int)), (43, vI 0)] [Blk.box 46 [vE, V.nl 59], Blk.row 3 ([] : List V) [], Blk.row 3 (List.map E3 r3.1) []] []) (X.out 0) (st 128 [(0, lF5 o), (2, V.ptr 0 0), (4, vS r1.1), (5, vI r3.2.1), (8, V.ow 1), (9, vB s9.1)] [Blk.box 46 [vE, V.nl 59], Blk.row 3 (List.map E3 s9.2) []] []),HT Tryz.prog (sub (codeOf Tryz.prog 22) [1, 1, 1, 1, 1, 1, 1, 0]) (st 128 [(0, lF5 o), (2, V.ptr 0 0), (4, vS r1.1), (5, vI r3.2.1), (8, V.ow 1), (9, vB s9.1)] [Blk.box 46 [vE, V.nl 59], Blk.row 3 (List.map E3 s9.2) []] []) (X.ret) (st 128 [(2, V.ptr 0 0), (3, vI 2)] [Blk.box 46 [vE, V.nl 59]] [])]) (by kernel_rfl) (cj (impl_GetBcd_ok o 0 4 r1 h1) (cj rfl (cj ((impl_Parse_c0_ok o r1 r2 h3).at h4 :) (cj (impl_GetBits_ok o r1.2.1 r3 h6) (cj rfl (cj ((impl_Parse_c1_ok o r1 r3 r4 h8).at h9 :) (cj (len_nm _ _) (cj ((impl_Parse_l0_ok o r1 r3 FUEL 0 false [] r8 h24).at h25 :) (cj1 ((impl_Parse_c6_ok o r1 r3 s9 r16 h52).at h54 :)))))))))))))) (fun s10 h26 =>
   Pn.some (Fn.of [.call [] (V.tup [E9 r1.1, E3 r1.2.1, E4 r1.2.2]) [], .wait 8, .mask [0, 2, 4, 5, 6], .ren [0], .join 7 (X.go) (st 128 [(0, lF5 o), (2, V.ptr 0 0), (4, vS r1.1), (5, vI r1.2.1)] [Blk.box 46 [vE, V.nl 59]] []), .call [] (V.tup [E55 r3.1, E3 r3.2.1, E4 r3.2.2]) [], .wait 8, .mask [0, 2, 4, 5, 6, 7], .ren [0, 1], .join 7 (X.go) (st 128 [(0, lF5 o), (2, V.ptr 0 0), (4, vS r1.1), (5, vI r3.2.1), (7, V.ow 1)] [Blk.box 46 [vE, V.nl 59], Blk.row 3 (List.map E3 r3.1) []] []), .wait 5, .nm 42 (vI (r3.1.length : Int)), .wait 2, .mask [0, 2, 4, 5, 8, 9, 41, 42, 43], .ren [0, 2, 1], .loop (X.ret) (st 128 [(2, V.ptr 0 0), (3, vI 2)] [Blk.box 46 [vE, V.nl 59]] [])] (p := [Fn Tryz.prog 37 [(false, E31 o), (false, E3 0), (false, E3 4)] (V.tup [E9 r1.1, E3 r1.2.1, E4 r1.2.2]) [],(true || ((V.tup [E9 r1.1, E3 r1.2.1, E4 r1.2.2]).nv && nvL [])) = true,HT Tryz.prog (sub (codeOf Tryz.prog 22) [1, 1, 0]) (st 128 [(0, lF5 o), (2, V.ptr 0 0), (4, vS r1.1), (5, vI r1.2.1), (6, vB r1.2.2)] [Blk.box 46 [vE, V.nl 59]] []) (X.go) (st 128 [(0, lF5 o), (2, V.ptr 0 0), (4, vS r1.1), (5, vI r1.2.1)] [Blk.box 46 [vE, V.nl 59]] []),Fn Tryz.prog 38 [(false, E31 o), (false, E3 r1.2.1)] (V.tup [E55 r3.1, E3 r3.2.1, E4 r3.2.2]) [],(true || ((V.tup [E55 r3.1, E3 r3.2.1, E4 r3.2.2]).nv && nvL [])) = true,HT Tryz.prog (sub (codeOf Tryz.prog 22) [1, 1, 1, 1, 0]) (st 128 [(0, lF5 o), (2, V.ptr 0 0), (4, vS r1.1), (5, vI r3.2.1), (6, vB r3.2.2), (7, V.ow 1)] [Blk.box 46 [vE, V.nl 59], Blk.row 3 (List.map E3 r3.1) []] []) (X.go) (st 128 [(0, lF5 o), (2, V.ptr 0 0), (4, vS r1.1), (5, vI r3.2.1), (7, V.ow 1)] [Blk.box 46 [vE, V.nl 59], Blk.row 3 (List.map E3 r3.1) []] []),vI ((List.map E3 r3.1).length : Int) = vI (r3.1.length : Int),Loop Tryz.prog (sub (codeOf Tryz.prog 22) [1, 1, 1, 1, 1, 1, 0, 1, 0, 0]) (st 128 [(0, lF5 o), (2, V.ptr 0 0), (4, vS r1.1), (5, vI r3.2.1), (8, V.ow 1), (9, vB false), (41, V.ow 2), (42, vI (r3.1.length : Int)), (43, vI 0)] [Blk.box 46 [vE, V.nl 59], Blk.row 3 ([] : List V) [], Blk.row 3 (List.map E3 r3.1) []] []) (X.ret) (st 128 [(2, V.ptr 0 0), (3, vI 2)] [Blk.box 46 [vE, V.nl 59]] [])]) (by kernel_rfl) (cj (impl_GetBcd_ok o 0 4 r1 h1) (cj rfl (cj ((impl_Parse_c0_ok o r1 r2 h3).at h4 :) (cj (impl_GetBits_ok o r1.2.1 r3 h6) (cj rfl (cj ((impl_Parse_c1_ok o r1 r3 r4 h8).at h9 :) (cj (len_nm _ _) (cj1 ((impl_Parse_l0_ok o r1 r3 FUEL 0 false [] r8 h24).at h26 :))))))))))))) (fun s4 h10 =>
   Pn.some (Fn.of [.call [] (V.tup [E9 r1.1, E3 r1.2.1, E4 r1.2.2]) [], .wait 8, .mask [0, 2, 4, 5, 6], .ren [0], .join 7 (X.go) (st 128 [(0, lF5 o), (2, V.ptr 0 0), (4, vS r1.1), (5, vI r1.2.1)] [Blk.box 46 [vE, V.nl 59]] []), .call [] (V.tup [E55 r3.1, E3 r3.2.1, E4 r3.2.2]) [], .wait 8, .mask [0, 2, 4, 5, 6, 7], .ren [0, 1], .join 7 (X.ret) (st 128 [(2, V.ptr 0 0), (3, vI 2)] [Blk.box 46 [vE, V.nl 59]] [])] (p := [Fn Tryz.prog 37 [(false, E31 o), (false, E3 0), (false, E3 4)] (V.tup [E9 r1.1, E3 r1.2.1, E4 r1.2.2]) [],(true || ((V.tup [E9 r1.1, E3 r1.2.1, E4 r1.2.2]).nv && nvL [])) = true,HT Tryz.prog (sub (codeOf Tryz.prog 22) [1, 1, 0]) (st 128 [(0, lF5 o), (2, V.ptr 0 0), (4, vS r1.1), (5, vI r1.2.1), (6, vB r1.2.2)] [Blk.box 46 [vE, V.nl 59]] []) (X.go) (st 128 [(0, lF5 o), (2, V.ptr 0 0), (4, vS r1.1), (5, vI r1.2.1)] [Blk.box 46 [vE, V.nl 59]] []),Fn Tryz.prog 38 [(false, E31 o), (false, E3 r1.2.1)] (V.tup [E55 r3.1, E3 r3.2.1, E4 r3.2.2]) [],(true || ((V.tup [E55 r3.1, E3 r3.2.1, E4 r3.2.2]).nv && nvL [])) = true,HT Tryz.prog (sub (codeOf Tryz.prog 22) [1, 1, 1, 1, 0]) (st 128 [(0, lF5 o), (2, V.ptr 0 0), (4, vS r1.1), (5, vI r3.2.1), (6, vB r3.2.2), (7, V.ow 1)] [Blk.box 46 [vE, V.nl 59], Blk.row 3 (List.map E3 r3.1) []] []) (X.ret) (st 128 [(2, V.ptr 0 0), (3, vI 2)] [Blk.box 46 [vE, V.nl 59]] [])]) (by kernel_rfl) (cj (impl_GetBcd_ok o 0 4 r1 h1) (cj rfl (cj ((impl_Parse_c0_ok o r1 r2 h3).at h4 :) (cj (impl_GetBits_ok o r1.2.1 r3 h6) (cj rfl (cj1 ((impl_Parse_c1_ok o r1 r3 r4 h8).at h10 :)))))))))))) (fun s2 h5 =>
   Pn.some (Fn.of [.call [] (V.tup [E9 r1.1, E3 r1.2.1, E4 r1.2.2]) [], .wait 8, .mask [0, 2, 4, 5, 6], .ren [0], .join 7 (X.ret) (st 128 [(2, V.ptr 0 0), (3, vI 1)] [Blk.box 46 [vE, V.nl 59]] [])] (p := [Fn Tryz.prog 37 [(false, E31 o), (false, E3 0), (false, E3 4)] (V.tup [E9 r1.1, E3 r1.2.1, E4 r1.2.2]) [],(true || ((V.tup [E9 r1.1, E3 r1.2.1, E4 r1.2.2]).nv && nvL [])) = true,HT Tryz.prog (sub (codeOf Tryz.prog 22) [1, 1, 0]) (st 128 [(0, lF5 o), (2, V.ptr 0 0), (4, vS r1.1), (5, vI r1.2.1), (6, vB r1.2.2)] [Blk.box 46 [vE, V.nl 59]] []) (X.ret) (st 128 [(2, V.ptr 0 0), (3, vI 1)] [Blk.box 46 [vE, V.nl 59]] [])]) (by kernel_rfl) (cj (impl_GetBcd_ok o 0 4 r1 h1) (cj rfl (cj1 ((impl_Parse_c0_ok o r1 r2 h3).at h5 :))))))))
def impl_isWide (s_ : ByteArray) (n : Int) : Option (Bool) :=
 (impl_Digits s_).bind fun r1 =>
 if r1 = true then
 some ((s_.size : Int) == n)
 else
 some false
theorem impl_isWide_ok (s_ : ByteArray) (n : Int) : Pn (fun y => Fn Tryz.prog 73 [(false, E9 s_), (false, E3 n)] (E4 y) []) (impl_isWide s_ n) := by
  unfold impl_isWide
  exact
   Pn.bind (fun r1 h1 =>
   Pn.ite (fun h2 =>
   Pn.some (Fn.of [.call [] (E4 r1) [], bT, bT, bT, bT, bT] (p := [Fn Tryz.prog 67 [(false, E9 s_)] (E4 r1) [],(true || ((E4 r1).nv && nvL [])) = true,r1 = true,r1 = true,r1 = true,r1 = true,r1 = true]) (by kernel_rfl) (cj (impl_Digits_ok s_ r1 h1) (cj rfl (cj h2 (cj h2 (cj h2 (cj h2 (cj1 h2))))))))) (fun h2 =>
   Pn.some (Fn.of [.call [] (E4 r1) [], bF, bF, bF, bF, bF] (p := [Fn Tryz.prog 67 [(false, E9 s_)] (E4 r1) [],(true || ((E4 r1).nv && nvL [])) = true,r1 = false,r1 = false,r1 = false,r1 = false,r1 = false]) (by kernel_rfl) (cj (impl_Digits_ok s_ r1 h1) (cj rfl (cj h2 (cj h2 (cj h2 (cj h2 (cj1 h2))))))))))
def impl_MsgOk_c2 (m : Msg) (v1 : Int) : Option (Lo Unit Unit) :=
 if (decide (v1 < (m.List.length : Int))) = true then
 some (.out ())
 else
 some (.ret ())
theorem impl_MsgOk_c2_ok (m : Msg) (v1 : Int) : Pn (JnO Tryz.prog (sub (codeOf Tryz.prog 41) [1, 0, 1, 0, 0, 1, 0]) (st 39 [(1, V.ptr 0 0), (6, lF59 m.List), (7, vI (m.List.length : Int)), (8, vI v1), (9, vB (decide (v1 < (m.List.length : Int))))] [Blk.box 46 [vS m.Mti, lF59 m.List]] []) (fun (y : Lo Unit Unit) => Lo.elim y (fun s => (X.go, st 39 [(1, V.ptr 0 0), (6, lF59 m.List), (7, vI (m.List.length : Int)), (8, vI v1)] [Blk.box 46 [vS m.Mti, lF59 m.List]] [])) (fun s => (X.out 0, st 39 [(1, V.ptr 0 0)] [Blk.box 46 [vS m.Mti, lF59 m.List]] [])))) (impl_MsgOk_c2 m v1) := by
  unfold impl_MsgOk_c2
  exact
   Pn.ite (fun h1 =>
   Pn.some (JnO.of [bT, .mask [1, 6, 7, 8], .ren [0]] (p := [(decide (v1 < (m.List.length : Int))) = true]) (by kernel_rfl) (cj1 h1))) (fun h1 =>
   Pn.some (JnO.of [bF, .mask [1], .ren [0]] (p := [(decide (v1 < (m.List.length : Int))) = false]) (by kernel_rfl) (cj1 h1)))
def impl_MsgOk_c3 (m : Msg) (v1 : Int) : Option (Lo Unit Unit) :=
 if (decide (0 ≤ v1)) = true then
 (m.List[v1.toNat]?).bind fun x1 =>
 (impl_FieldOk x1.No x1.Text).bind fun r2 =>
 if r2 = true then
 if (decide (0 < v1)) = true then
 if (decide (0 ≤ (i64 (v1 - 1)))) = true then
 (m.List[(i64 (v1 - 1)).toNat]?).bind fun x2 =>
 if (decide (x1.No ≤ x2.No)) = true then
 some (.ret ())
 else
 some (.out ())
 else none
 else
 some (.out ())
 else
 some (.ret ())
 else none
theorem impl_MsgOk_c3_ok (m : Msg) (v1 : Int) : Pn (JnO Tryz.prog (sub (codeOf Tryz.prog 41) [1, 0, 1, 0, 0, 1, 1, 0]) (st 39 [(1, V.ptr 0 0), (6, lF59 m.List), (7, vI (m.List.length : Int)), (8, vI v1)] [Blk.box 46 [vS m.Mti, lF59 m.List]] []) (fun (y : Lo Unit Unit) => Lo.elim y (fun s => (X.go, st 39 [(1, V.ptr 0 0), (6, lF59 m.List), (7, vI (m.List.length : Int)), (8, vI v1)] [Blk.box 46 [vS m.Mti, lF59 m.List]] [])) (fun s => (X.ret, st 39 [(2, vB false)] [] [])))) (impl_MsgOk_c3 m v1) := by
  unfold impl_MsgOk_c3
  exact
   Pn.ite (fun h5 =>
   Pn.bind (fun x1 h6 =>
   Pn.bind (fun r2 h7 =>
   Pn.ite (fun h8 =>
   Pn.ite (fun h9 =>
   Pn.ite (fun h10 =>
   Pn.bind (fun x2 h11 =>
   Pn.ite (fun h12 =>
   Pn.some (JnO.of [.el (E59 x1), .draw [], .call [] (E4 r2) [], bF, bF, bF, bT, bT, bT, bT, bT, bT, bT, .el (E59 x2), bT, bT, bT, bF, bT, bF, bT, .wait 1, .mask [2], .ren []] (p := [(0 : Int) ≤ v1,(List.map E59 m.List)[v1.toNat]? = some (E59 x1),Fn Tryz.prog 72 [(false, E3 x1.No), (false, E9 x1.Text)] (E4 r2) [],(true || ((E4 r2).nv && nvL [])) = true,(!r2) = false,(!r2) = false,(!r2) = false,(decide (0 < v1)) = true,(decide (0 < v1)) = true,(decide (0 < v1)) = true,(decide (0 < v1)) = true,(decide (0 < v1)) = true,(decide (0 < v1)) = true,(decide (0 < v1)) = true,(0 : Int) ≤ (i64 (v1 - 1)),(List.map E59 m.List)[(i64 (v1 - 1)).toNat]? = some (E59 x2),(decide (0 < v1)) = true,(decide (0 < v1)) = true,(decide (0 < v1)) = true,(!r2) = false,(decide (0 < v1)) = true,(!r2) = false,(decide (x1.No ≤ x2.No)) = true]) (by kernel_rfl) (cj (od h5) (cj (map_get h6) (cj (impl_FieldOk_ok x1.No x1.Text r2 h7) (cj rfl (cj (nf h8) (cj (nf h8) (cj (nf h8) (cj h9 (cj h9 (cj h9 (cj h9 (cj h9 (cj h9 (cj h9 (cj (od h10) (cj (map_get h11) (cj h9 (cj h9 (cj h9 (cj (nf h8) (cj h9 (cj (nf h8) (cj1 h12))))))))))))))))))))))))) (fun h12 =>
   Pn.some (JnO.of [.el (E59 x1), .draw [], .call [] (E4 r2) [], bF, bF, bF, bT, bT, bT, bT, bT, bT, bT, .el (E59 x2), bT, bT, bT, bF, bT, bF, bF, .mask [1, 6, 7, 8], .ren [0]] (p := [(0 : Int) ≤ v1,(List.map E59 m.List)[v1.toNat]? = some (E59 x1),Fn Tryz.prog 72 [(false, E3 x1.No), (false, E9 x1.Text)] (E4 r2) [],(true || ((E4 r2).nv && nvL [])) = true,(!r2) = false,(!r2) = false,(!r2) = false,(decide (0 < v1)) = true,(decide (0 < v1)) = true,(decide (0 < v1)) = true,(decide (0 < v1)) = true,(decide (0 < v1)) = true,(decide (0 < v1)) = true,(decide (0 < v1)) = true,(0 : Int) ≤ (i64 (v1 - 1)),(List.map E59 m.List)[(i64 (v1 - 1)).toNat]? = some (E59 x2),(decide (0 < v1)) = true,(decide (0 < v1)) = true,(decide (0 < v1)) = true,(!r2) = false,(decide (0 < v1)) = true,(!r2) = false,(decide (x1.No ≤ x2.No)) = false]) (by kernel_rfl) (cj (od h5) (cj (map_get h6) (cj (impl_FieldOk_ok x1.No x1.Text r2 h7) (cj rfl (cj (nf h8) (cj (nf h8) (cj (nf h8) (cj h9 (cj h9 (cj h9 (cj h9 (cj h9 (cj h9 (cj h9 (cj (od h10) (cj (map_get h11) (cj h9 (cj h9 (cj h9 (cj (nf h8) (cj h9 (cj (nf h8) (cj1 h12))))))))))))))))))))))))))) (fun h10 =>
   Pn.none)) (fun h9 =>
   Pn.some (JnO.of [.el (E59 x1), .draw [], .call [] (E4 r2) [], bF, bF, bF, bF, bF, bF, bF, bF, bF, bF, bF, bF, bF, bF, bF, bF, bF, .mask [1, 6, 7, 8], .ren [0]] (p := [(0 : Int) ≤ v1,(List.map E59 m.List)[v1.toNat]? = some (E59 x1),Fn Tryz.prog 72 [(false, E3 x1.No), (false, E9 x1.Text)] (E4 r2) [],(true || ((E4 r2).nv && nvL [])) = true,(!r2) = false,(!r2) = false,(!r2) = false,(decide (0 < v1)) = false,(decide (0 < v1)) = false,(decide (0 < v1)) = false,(decide (0 < v1)) = false,(decide (0 < v1)) = false,(decide (0 < v1)) = false,(decide (0 < v1)) = false,(decide (0 < v1)) = false,(decide (0 < v1)) = false,(decide (0 < v1)) = false,(!r2) = false,(decide (0 < v1)) = false,(!r2) = false,false = false]) (by kernel_rfl) (cj (od h5) (cj (map_get h6) (cj (impl_FieldOk_ok x1.No x1.Text r2 h7) (cj rfl (cj (nf h8) (cj (nf h8) (cj (nf h8) (cj h9 (cj h9 (cj h9 (cj h9 (cj h9 (cj h9 (cj h9 (cj h9 (cj h9 (cj h9 (cj (nf h8) (cj h9 (cj (nf h8) (cj1 rfl)))))))))))))))))))))))) (fun h8 =>
   Pn.some (JnO.of [.el (E59 x1), .draw [], .call [] (E4 r2) [], bT, bT, bT, bT, bT, bT, .wait 1, .mask [2], .ren []] (p := [(0 : Int) ≤ v1,(List.map E59 m.List)[v1.toNat]? = some (E59 x1),Fn Tryz.prog 72 [(false, E3 x1.No), (false, E9 x1.Text)] (E4 r2) [],(true || ((E4 r2).nv && nvL [])) = true,(!r2) = true,(!r2) = true,(!r2) = true,(!r2) = true,(!r2) = true,true = true]) (by kernel_rfl) (cj (od h5) (cj (map_get h6) (cj (impl_FieldOk_ok x1.No x1.Text r2 h7) (cj rfl (cj (nt h8) (cj (nt h8) (cj (nt h8) (cj (nt h8) (cj (nt h8) (cj1 rfl))))))))))))))) (fun h5 =>
   Pn.none)
def impl_MsgOk_l0 (m : Msg) : Nat → Int → Option (Lo Unit Unit)
  | 0, _ => none
  | fuel + 1, v1 =>
   (impl_MsgOk_c2 m v1).bind fun r1 =>
   Lo.elim r1 (fun s1 =>
   (impl_MsgOk_c3 m v1).bind fun r3 =>
   Lo.elim r3 (fun s3 =>
   impl_MsgOk_l0 m fuel (i64 (v1 + 1))) (fun s4 =>
   some (.ret ()))) (fun s2 =>
   some (.out ()))
theorem impl_MsgOk_l0_ok (m : Msg) : ∀ (fuel : Nat) (v1 : Int), Pn (LpO Tryz.prog (sub (codeOf Tryz.prog 41) [1, 0, 1, 0, 0]) (st 39 [(1, V.ptr 0 0), (6, lF59 m.List), (7, vI (m.List.length : Int)), (8, vI v1)] [Blk.box 46 [vS m.Mti, lF59 m.List]] []) (fun (y : Lo Unit Unit) => Lo.elim y (fun s => (X.out 0, st 39 [(1, V.ptr 0 0)] [Blk.box 46 [vS m.Mti, lF59 m.List]] [])) (fun s => (X.ret, st 39 [(2, vB false)] [] [])))) (impl_MsgOk_l0 m fuel v1)
  | 0, _ => Pn.none
  | fuel + 1, v1 => by
    unfold impl_MsgOk_l0
    exact
     Pn.bind (fun r1 h2 =>
     Pn.lo (fun s1 h3 =>
     Pn.bind (fun r3 h13 =>
     Pn.lo (fun s3 h14 =>
     LpO.go [.wait 2, .mask [1, 6, 7, 8, 9], .ren [0], .join 3 (X.go) (st 39 [(1, V.ptr 0 0), (6, lF59 m.List), (7, vI (m.List.length : Int)), (8, vI v1)] [Blk.box 46 [vS m.Mti, lF59 m.List]] []), .wait 1, .mask [1, 6, 7, 8], .ren [0], .join 10 (X.go) (st 39 [(1, V.ptr 0 0), (6, lF59 m.List), (7, vI (m.List.length : Int)), (8, vI v1)] [Blk.box 46 [vS m.Mti, lF59 m.List]] []), .wait 3, .mask [1, 6, 7, 8], .ren [0]] (p := [HT Tryz.prog (sub (codeOf Tryz.prog 41) [1, 0, 1, 0, 0, 1, 0]) (st 39 [(1, V.ptr 0 0), (6, lF59 m.List), (7, vI (m.List.length : Int)), (8, vI v1), (9, vB (decide (v1 < (m.List.length : Int))))] [Blk.box 46 [vS m.Mti, lF59 m.List]] []) (X.go) (st 39 [(1, V.ptr 0 0), (6, lF59 m.List), (7, vI (m.List.length : Int)), (8, vI v1)] [Blk.box 46 [vS m.Mti, lF59 m.List]] []),HT Tryz.prog (sub (codeOf Tryz.prog 41) [1, 0, 1, 0, 0, 1, 1, 0]) (st 39 [(1, V.ptr 0 0), (6, lF59 m.List), (7, vI (m.List.length : Int)), (8, vI v1)] [Blk.box 46 [vS m.Mti, lF59 m.List]] []) (X.go) (st 39 [(1, V.ptr 0 0), (6, lF59 m.List), (7, vI (m.List.length : Int)), (8, vI v1)] [Blk.box 46 [vS m.Mti, lF59 m.List]] [])]) (by kernel_rfl) (cj ((impl_MsgOk_c2_ok m v1 r1 h2).at h3 :) (cj1 ((impl_MsgOk_c3_ok m v1 r3 h13).at h14 :))) (impl_MsgOk_l0_ok m fuel (i64 (v1 + 1)))) (fun s4 h15 =>
     Pn.some (LpO.out [.wait 2, .mask [1, 6, 7, 8, 9], .ren [0], .join 3 (X.go) (st 39 [(1, V.ptr 0 0), (6, lF59 m.List), (7, vI (m.List.length : Int)), (8, vI v1)] [Blk.box 46 [vS m.Mti, lF59 m.List]] []), .wait 1, .mask [1, 6, 7, 8], .ren [0], .join 10 (X.ret) (st 39 [(2, vB false)] [] []), .wait 1, .mask [2], .ren []] (p := [HT Tryz.prog (sub (codeOf Tryz.prog 41) [1, 0, 1, 0, 0, 1, 0]) (st 39 [(1, V.ptr 0 0), (6, lF59 m.List), (7, vI (m.List.length : Int)), (8, vI v1), (9, vB (decide (v1 < (m.List.length : Int))))] [Blk.box 46 [vS m.Mti, lF59 m.List]] []) (X.go) (st 39 [(1, V.ptr 0 0), (6, lF59 m.List), (7, vI (m.List.length : Int)), (8, vI v1)] [Blk.box 46 [vS m.Mti, lF59 m.List]] []),HT Tryz.prog (sub (codeOf Tryz.prog 41) [1, 0, 1, 0, 0, 1, 1, 0]) (st 39 [(1, V.ptr 0 0), (6, lF59 m.List), (7, vI (m.List.length : Int)), (8, vI v1)] [Blk.box 46 [vS m.Mti, lF59 m.List]] []) (X.ret) (st 39 [(2, vB false)] [] [])]) (by kernel_rfl) (show X.ret ≠ X.go from nofun) (cj ((impl_MsgOk_c2_ok m v1 r1 h2).at h3 :) (cj1 ((impl_MsgOk_c3_ok m v1 r3 h13).at h15 :))))))) (fun s2 h4 =>
     Pn.some (LpO.out [.wait 2, .mask [1, 6, 7, 8, 9], .ren [0], .join 3 (X.out 0) (st 39 [(1, V.ptr 0 0)] [Blk.box 46 [vS m.Mti, lF59 m.List]] []), .wait 1, .mask [1], .ren [0]] (p := [HT Tryz.prog (sub (codeOf Tryz.prog 41) [1, 0, 1, 0, 0, 1, 0]) (st 39 [(1, V.ptr 0 0), (6, lF59 m.List), (7, vI (m.List.length : Int)), (8, vI v1), (9, vB (decide (v1 < (m.List.length : Int))))] [Blk.box 46 [vS m.Mti, lF59 m.List]] []) (X.out 0) (st 39 [(1, V.ptr 0 0)] [Blk.box 46 [vS m.Mti, lF59 m.List]] [])]) (by kernel_rfl) (show X.out 0 ≠ X.go from nofun) (cj1 ((impl_MsgOk_c2_ok m v1 r1 h2).at h4 :)))))
def impl_MsgOk (m : Msg) : Option (Bool) :=
 (impl_MsgOk_l0 m FUEL 0).bind fun r4 =>
 Lo.elim r4 (fun s5 =>
 (impl_isWide m.Mti 4).bind fun r5 =>
 some r5) (fun s6 =>
 some false)
theorem impl_MsgOk_ok (m : Msg) : Pn (fun y => Fn Tryz.prog 41 [(false, E46 m)] (E4 y) []) (impl_MsgOk m) := by
  unfold impl_MsgOk
  exact
   Pn.bind (fun r4 h16 =>
   Pn.lo (fun s5 h17 =>
   Pn.bind (fun r5 h19 =>
   Pn.some (Fn.of [.wait 5, .nm 7 (vI (m.List.length : Int)), .wait 2, .mask [1, 6, 7, 8], .ren [0], .loop (X.out 0) (st 39 [(1, V.ptr 0 0)] [Blk.box 46 [vS m.Mti, lF59 m.List]] []), .call [] (E4 r5) []] (p := [vI ((List.map E59 m.List).length : Int) = vI (m.List.length : Int),Loop Tryz.prog (sub (codeOf Tryz.prog 41) [1, 0, 1, 0, 0]) (st 39 [(1, V.ptr 0 0), (6, lF59 m.List), (7, vI (m.List.length : Int)), (8, vI 0)] [Blk.box 46 [vS m.Mti, lF59 m.List]] []) (X.out 0) (st 39 [(1, V.ptr 0 0)] [Blk.box 46 [vS m.Mti, lF59 m.List]] []),Fn Tryz.prog 73 [(false, E9 m.Mti), (false, E3 4)] (E4 r5) [],(true || ((E4 r5).nv && nvL [])) = true]) (by kernel_rfl) (cj (len_nm _ _) (cj ((impl_MsgOk_l0_ok m FUEL 0 r4 h16).at h17 :) (cj (impl_isWide_ok m.Mti 4 r5 h19) (cj1 rfl))))))) (fun s6 h18 =>
   Pn.some (Fn.of [.wait 5, .nm 7 (vI (m.List.length : Int)), .wait 2, .mask [1, 6, 7, 8], .ren [0], .loop (X.ret) (st 39 [(2, vB false)] [] [])] (p := [vI ((List.map E59 m.List).length : Int) = vI (m.List.length : Int),Loop Tryz.prog (sub (codeOf Tryz.prog 41) [1, 0, 1, 0, 0]) (st 39 [(1, V.ptr 0 0), (6, lF59 m.List), (7, vI (m.List.length : Int)), (8, vI 0)] [Blk.box 46 [vS m.Mti, lF59 m.List]] []) (X.ret) (st 39 [(2, vB false)] [] [])]) (by kernel_rfl) (cj (len_nm _ _) (cj1 ((impl_MsgOk_l0_ok m FUEL 0 r4 h16).at h18 :))))))
def impl_MtiKnown (mti : ByteArray) : Option (Bool) :=
 if (mti == (bs [48, 49, 48, 48])) = true then
 some true
 else
 if (mti == (bs [48, 50, 48, 48])) = true then
 some true
 else
 some (mti == (bs [48, 50, 50, 48]))
theorem impl_MtiKnown_ok (mti : ByteArray) : Pn (fun y => Fn Tryz.prog 42 [(false, E9 mti)] (E4 y) []) (impl_MtiKnown mti) := by
  unfold impl_MtiKnown
  exact
   Pn.ite (fun h1 =>
   Pn.some (Fn.of [bT, bT, bT, bT, bT, bT] (p := [(mti == (bs [48, 49, 48, 48])) = true,(mti == (bs [48, 49, 48, 48])) = true,(mti == (bs [48, 49, 48, 48])) = true,true = true,true = true,true = true]) (by kernel_rfl) (cj h1 (cj h1 (cj h1 (cj rfl (cj rfl (cj1 rfl)))))))) (fun h1 =>
   Pn.ite (fun h2 =>
   Pn.some (Fn.of [bF, bF, bF, bT, bT, bT] (p := [(mti == (bs [48, 49, 48, 48])) = false,(mti == (bs [48, 49, 48, 48])) = false,(mti == (bs [48, 49, 48, 48])) = false,(mti == (bs [48, 50, 48, 48])) = true,(mti == (bs [48, 50, 48, 48])) = true,(mti == (bs [48, 50, 48, 48])) = true]) (by kernel_rfl) (cj h1 (cj h1 (cj h1 (cj h2 (cj h2 (cj1 h2)))))))) (fun h2 =>
   Pn.some (Fn.of [bF, bF, bF, bF, bF, bF] (p := [(mti == (bs [48, 49, 48, 48])) = false,(mti == (bs [48, 49, 48, 48])) = false,(mti == (bs [48, 49, 48, 48])) = false,(mti == (bs [48, 50, 48, 48])) = false,(mti == (bs [48, 50, 48, 48])) = false,(mti == (bs [48, 50, 48, 48])) = false]) (by kernel_rfl) (cj h1 (cj h1 (cj h1 (cj h2 (cj h2 (cj1 h2)))))))))
def impl_FieldOf_l0 (m : Msg) (no : Int) : List Field → Option (Lo Unit ByteArray)
  | [] =>
   some (.out ())
  | x1 :: t1 =>
   if (x1.No == no) = true then
   some (.ret x1.Text)
   else
   impl_FieldOf_l0 m no t1
theorem impl_FieldOf_l0_ok (m : Msg) (no : Int) (h2 : capOk m.List.length = true) : ∀ (t1 p1 : List Field) (_ : m.List = p1 ++ t1) , Pn (LpO Tryz.prog (sub (codeOf Tryz.prog 43) [1, 0, 1, 0, 0]) (st 22 [(1, vI no), (9, lF59 m.List), (10, vI (m.List.length : Int)), (11, vI (p1.length : Int))] [] []) (fun (y : Lo Unit ByteArray) => Lo.elim y (fun s => (X.out 0, st 22 [] [] [])) (fun s => (X.ret, st 22 [(4, vS s), (5, vB true)] [] [])))) (impl_FieldOf_l0 m no t1)
  | [], p1, h1 => by
    unfold impl_FieldOf_l0
    exact
     Pn.some (LpO.out [bF, .mask [], .ren []] (p := [(decide ((p1.length : Int) < (m.List.length : Int))) = false]) (by kernel_rfl) (show X.out 0 ≠ X.go from nofun) (cj1 (rng_end h1)))
  | x1 :: t1, p1, h1 => by
    unfold impl_FieldOf_l0
    exact
     Pn.ite (fun h3 =>
     Pn.some (LpO.out [bT, .el (E59 x1), bT, .wait 4, .mask [4, 5], .ren []] (p := [(decide ((p1.length : Int) < (m.List.length : Int))) = true,(0 : Int) ≤ (p1.length : Int),(List.map E59 m.List)[(p1.length : Int).toNat]? = some (E59 x1),(x1.No == no) = true]) (by kernel_rfl) (show X.ret ≠ X.go from nofun) (cj (rng_lt h1) (cj (by omega) (cj (rng_get _ h1) (cj1 h3)))))) (fun h3 =>
     LpO.go [bT, .el (E59 x1), bF, .wait 2, .mask [1, 9, 10, 11], .ren [], .nm 11 (vI ((p1 ++ [x1]).length : Int))] (p := [(decide ((p1.length : Int) < (m.List.length : Int))) = true,(0 : Int) ≤ (p1.length : Int),(List.map E59 m.List)[(p1.length : Int).toNat]? = some (E59 x1),(x1.No == no) = false,vI (i64 ((p1.length : Int) + 1)) = vI ((p1 ++ [x1]).length : Int)]) (by kernel_rfl) (cj (rng_lt h1) (cj (by omega) (cj (rng_get _ h1) (cj h3 (cj1 (rng_next h1 h2)))))) (impl_FieldOf_l0_ok m no h2 t1 (p1 ++ [x1]) (rng_step h1)))
def impl_FieldOf (m : Msg) (no : Int) : Option (ByteArray × Bool) :=
 if (capOk m.List.length) = true then
 (impl_FieldOf_l0 m no m.List).bind fun r1 =>
 Lo.elim r1 (fun s1 =>
 some (bs [], false)) (fun s2 =>
 some (s2, true))
 else none
theorem impl_FieldOf_ok (m : Msg) (no : Int) : Pn (fun y => Fn Tryz.prog 43 [(false, E46 m), (false, E3 no)] (V.tup [E9 y.1, E4 y.2]) []) (impl_FieldOf m no) := by
  unfold impl_FieldOf
  exact
   Pn.ite (fun h4 =>
   Pn.bind (fun r1 h5 =>
   Pn.lo (fun s1 h6 =>
   Pn.some (Fn.of [.wait 6, .nm 10 (vI (m.List.length : Int)), .wait 2, .mask [1, 9, 10, 11], .ren [], .loop (X.out 0) (st 22 [] [] [])] (p := [vI ((List.map E59 m.List).length : Int) = vI (m.List.length : Int),Loop Tryz.prog (sub (codeOf Tryz.prog 43) [1, 0, 1, 0, 0]) (st 22 [(1, vI no), (9, lF59 m.List), (10, vI (m.List.length : Int)), (11, vI 0)] [] []) (X.out 0) (st 22 [] [] [])]) (by kernel_rfl) (cj (len_nm _ _) (cj1 ((impl_FieldOf_l0_ok m no h4 m.List [] rfl r1 h5).at h6 :))))) (fun s2 h7 =>
   Pn.some (Fn.of [.wait 6, .nm 10 (vI (m.List.length : Int)), .wait 2, .mask [1, 9, 10, 11], .ren [], .loop (X.ret) (st 22 [(4, vS s2), (5, vB true)] [] [])] (p := [vI ((List.map E59 m.List).length : Int) = vI (m.List.length : Int),Loop Tryz.prog (sub (codeOf Tryz.prog 43) [1, 0, 1, 0, 0]) (st 22 [(1, vI no), (9, lF59 m.List), (10, vI (m.List.length : Int)), (11, vI 0)] [] []) (X.ret) (st 22 [(4, vS s2), (5, vB true)] [] [])]) (by kernel_rfl) (cj (len_nm _ _) (cj1 ((impl_FieldOf_l0_ok m no h4 m.List [] rfl r1 h5).at h7 :))))))) (fun h4 =>
   Pn.none)
def impl_opRows  : Option ((List opRow)) :=
 some [(opRow.mk (bs [48, 49, 48, 48]) (bs [48, 48]) (bs [97, 117, 116, 104]) [4, 14, 38]), (opRow.mk (bs [48, 49, 48, 48]) (bs [48, 50]) (bs [109, 111, 114, 101]) [4, 38]), (opRow.mk (bs [48, 50, 50, 48]) (bs [48, 49]) (bs [112, 97, 114, 116]) [4, 38]), (opRow.mk (bs [48, 50, 50, 48]) (bs [48, 48]) (bs [102, 105, 110, 97, 108]) [4, 38]), (opRow.mk (bs [48, 50, 50, 48]) (bs [50, 48]) (bs [102, 114, 101, 101]) [38]), (opRow.mk (bs [48, 50, 48, 48]) (bs [52, 48]) (bs [109, 111, 118, 101]) [38, 103]), (opRow.mk (bs [48, 49, 48, 48]) (bs [51, 49]) (bs [97, 115, 107]) []), (opRow.mk (bs [48, 50, 48, 48]) (bs [57, 48]) (bs [115, 119, 101, 101, 112]) [])]
theorem impl_opRows_ok  : Pn (fun y => Fn Tryz.prog 45 [] (E73 y) []) (impl_opRows) := by
  unfold impl_opRows
  exact
   Pn.some (Fn.of [.wait 18, .shut 6] (p := []) (by kernel_rfl) trivial)
def impl_ReqOf_1 (r_ : opRow) (c0_0 : ByteArray) (c0_1 : List Field) (c1_0 : ByteArray) : Option (Bool) :=
 if (r_.mti == c0_0) = true then
 if (decide (0 ≤ 2)) = true then
 if (decide (2 ≤ (c1_0.size : Int))) = true then
 some (r_.code == (c1_0.extract 0 2))
 else none
 else none
 else
 some false
theorem impl_ReqOf_1_ok (r_ : opRow) (c0_0 : ByteArray) (c0_1 : List Field) (c1_0 : ByteArray) : Pn (fun y => Fn Tryz.prog 46 [(false, E75 r_), (false, V.cp [vS c0_0, lT59 c0_1]), (false, V.cp [vS c1_0])] (E4 y) []) (impl_ReqOf_1 r_ c0_0 c0_1 c1_0) := by
  unfold impl_ReqOf_1
  exact
   Pn.ite (fun h1 =>
   Pn.ite (fun h2 =>
   Pn.ite (fun h3 =>
   Pn.some (Fn.of [.draw [], bT, bT, bT, bT, bT, bT] (p := [(r_.mti == c0_0) = true,(r_.mti == c0_0) = true,(r_.mti == c0_0) = true,(r_.mti == c0_0) = true,(0 : Int) ≤ 0,(0 : Int) ≤ 2,(2 : Int) ≤ (c1_0.size : Int),(r_.mti == c0_0) = true,(r_.mti == c0_0) = true]) (by kernel_rfl) (cj h1 (cj h1 (cj h1 (cj h1 (cj (by decide) (cj (od h2) (cj (od h3) (cj h1 (cj1 h1))))))))))) (fun h3 =>
   Pn.none)) (fun h2 =>
   Pn.none)) (fun h1 =>
   Pn.some (Fn.of [.draw [], bF, bF, bF, bF, bF, bF] (p := [(r_.mti == c0_0) = false,(r_.mti == c0_0) = false,(r_.mti == c0_0) = false,(r_.mti == c0_0) = false,(r_.mti == c0_0) = false,(r_.mti == c0_0) = false]) (by kernel_rfl) (cj h1 (cj h1 (cj h1 (cj h1 (cj h1 (cj1 h1))))))))
def slices_IndexFunc_impl_opRow_impl_ReqOf_1_l0 (s_ : List opRow) (f0_0 : ByteArray) (f0_1 : List Field) (f1_0 : ByteArray) : List opRow → List opRow → Option (Lo Unit Int)
  | [], p1 =>
   some (.out ())
  | x1 :: t1, p1 =>
   (impl_ReqOf_1 x1 f0_0 f0_1 f1_0).bind fun r1 =>
   if r1 = true then
   some (.ret (p1.length : Int))
   else
   slices_IndexFunc_impl_opRow_impl_ReqOf_1_l0 s_ f0_0 f0_1 f1_0 t1 (p1 ++ [x1])
theorem slices_IndexFunc_impl_opRow_impl_ReqOf_1_l0_ok (s_ : List opRow) (f0_0 : ByteArray) (f0_1 : List Field) (f1_0 : ByteArray) (h2 : capOk s_.length = true) : ∀ (t1 p1 : List opRow) (_ : s_ = p1 ++ t1) , Pn (LpO Tryz.prog (sub (codeOf Tryz.prog 44) [1, 0, 1, 0, 0]) (st 19 [(0, lF75 s_), (1, V.fn 46 [V.cp [vS f0_0, lT59 f0_1], V.cp [vS f1_0]]), (7, vI (s_.length : Int)), (8, vI (p1.length : Int))] [] []) (fun (y : Lo Unit Int) => Lo.elim y (fun s => (X.out 0, st 19 [] [] [])) (fun s => (X.ret, st 19 [(4, vI s)] [] [])))) (slices_IndexFunc_impl_opRow_impl_ReqOf_1_l0 s_ f0_0 f0_1 f1_0 t1 p1)
  | [], p1, h1 => by
    unfold slices_IndexFunc_impl_opRow_impl_ReqOf_1_l0
    exact
     Pn.some (LpO.out [bF, .mask [], .ren []] (p := [(decide ((p1.length : Int) < (s_.length : Int))) = false]) (by kernel_rfl) (show X.out 0 ≠ X.go from nofun) (cj1 (rng_end h1)))
  | x1 :: t1, p1, h1 => by
    unfold slices_IndexFunc_impl_opRow_impl_ReqOf_1_l0
    exact
     Pn.bind (fun r1 h3 =>
     Pn.ite (fun h4 =>
     Pn.some (LpO.out [bT, .el (E75 x1), .call [] (E4 r1) [], bT, .wait 2, .mask [4], .ren []] (p := [(decide ((p1.length : Int) < (s_.length : Int))) = true,(0 : Int) ≤ (p1.length : Int),(List.map E75 s_)[(p1.length : Int).toNat]? = some (E75 x1),Fn Tryz.prog 46 [(false, E75 x1), (false, V.cp [vS f0_0, lT59 f0_1]), (false, V.cp [vS f1_0])] (E4 r1) [],(true || ((E4 r1).nv && nvL [])) = true,r1 = true]) (by kernel_rfl) (show X.ret ≠ X.go from nofun) (cj (rng_lt h1) (cj (by omega) (cj (rng_get _ h1) (cj (impl_ReqOf_1_ok x1 f0_0 f0_1 f1_0 r1 h3) (cj rfl (cj1 h4)))))))) (fun h4 =>
     LpO.go [bT, .el (E75 x1), .call [] (E4 r1) [], bF, .wait 2, .mask [0, 1, 7, 8], .ren [], .nm 8 (vI ((p1 ++ [x1]).length : Int))] (p := [(decide ((p1.length : Int) < (s_.length : Int))) = true,(0 : Int) ≤ (p1.length : Int),(List.map E75 s_)[(p1.length : Int).toNat]? = some (E75 x1),Fn Tryz.prog 46 [(false, E75 x1), (false, V.cp [vS f0_0, lT59 f0_1]), (false, V.cp [vS f1_0])] (E4 r1) [],(true || ((E4 r1).nv && nvL [])) = true,r1 = false,vI (i64 ((p1.length : Int) + 1)) = vI ((p1 ++ [x1]).length : Int)]) (by kernel_rfl) (cj (rng_lt h1) (cj (by omega) (cj (rng_get _ h1) (cj (impl_ReqOf_1_ok x1 f0_0 f0_1 f1_0 r1 h3) (cj rfl (cj h4 (cj1 (rng_next h1 h2)))))))) (slices_IndexFunc_impl_opRow_impl_ReqOf_1_l0_ok s_ f0_0 f0_1 f1_0 h2 t1 (p1 ++ [x1]) (rng_step h1))))
def slices_IndexFunc_impl_opRow_impl_ReqOf_1 (s_ : List opRow) (f0_0 : ByteArray) (f0_1 : List Field) (f1_0 : ByteArray) : Option (Int) :=
 if (capOk s_.length) = true then
 (slices_IndexFunc_impl_opRow_impl_ReqOf_1_l0 s_ f0_0 f0_1 f1_0 s_ []).bind fun r2 =>
 Lo.elim r2 (fun s1 =>
 some (-1)) (fun s2 =>
 some s2)
 else none
theorem slices_IndexFunc_impl_opRow_impl_ReqOf_1_ok (s_ : List opRow) (f0_0 : ByteArray) (f0_1 : List Field) (f1_0 : ByteArray) : Pn (fun y => Fn Tryz.prog 44 [(false, E73 s_), (false, V.fn 46 [V.cp [vS f0_0, lT59 f0_1], V.cp [vS f1_0]])] (E3 y) []) (slices_IndexFunc_impl_opRow_impl_ReqOf_1 s_ f0_0 f0_1 f1_0) := by
  unfold slices_IndexFunc_impl_opRow_impl_ReqOf_1
  exact
   Pn.ite (fun h5 =>
   Pn.bind (fun r2 h6 =>
   Pn.lo (fun s1 h7 =>
   Pn.some (Fn.of [.wait 3, .nm 7 (vI (s_.length : Int)), .wait 2, .mask [0, 1, 7, 8], .ren [], .loop (X.out 0) (st 19 [] [] [])] (p := [vI ((List.map E75 s_).length : Int) = vI (s_.length : Int),Loop Tryz.prog (sub (codeOf Tryz.prog 44) [1, 0, 1, 0, 0]) (st 19 [(0, lF75 s_), (1, V.fn 46 [V.cp [vS f0_0, lT59 f0_1], V.cp [vS f1_0]]), (7, vI (s_.length : Int)), (8, vI 0)] [] []) (X.out 0) (st 19 [] [] [])]) (by kernel_rfl) (cj (len_nm _ _) (cj1 ((slices_IndexFunc_impl_opRow_impl_ReqOf_1_l0_ok s_ f0_0 f0_1 f1_0 h5 s_ [] rfl r2 h6).at h7 :))))) (fun s2 h8 =>
   Pn.some (Fn.of [.wait 3, .nm 7 (vI (s_.length : Int)), .wait 2, .mask [0, 1, 7, 8], .ren [], .loop (X.ret) (st 19 [(4, vI s2)] [] [])] (p := [vI ((List.map E75 s_).length : Int) = vI (s_.length : Int),Loop Tryz.prog (sub (codeOf Tryz.prog 44) [1, 0, 1, 0, 0]) (st 19 [(0, lF75 s_), (1, V.fn 46 [V.cp [vS f0_0, lT59 f0_1], V.cp [vS f1_0]]), (7, vI (s_.length : Int)), (8, vI 0)] [] []) (X.ret) (st 19 [(4, vI s2)] [] [])]) (by kernel_rfl) (cj (len_nm _ _) (cj1 ((slices_IndexFunc_impl_opRow_impl_ReqOf_1_l0_ok s_ f0_0 f0_1 f1_0 h5 s_ [] rfl r2 h6).at h8 :))))))) (fun h5 =>
   Pn.none)
def impl_opOf (op : Int) : Option (opRow) :=
 (impl_within op 1 8).bind fun r1 =>
 if r1 = true then
 (impl_opRows).bind fun r2 =>
 if (decide (0 ≤ (i64 (op - 1)))) = true then
 (r2[(i64 (op - 1)).toNat]?).bind fun x1 =>
 some x1
 else none
 else
 some (opRow.mk ByteArray.empty ByteArray.empty ByteArray.empty [])
theorem impl_opOf_ok (op : Int) : Pn (fun y => Fn Tryz.prog 47 [(false, E3 op)] (E75 y) []) (impl_opOf op) := by
  unfold impl_opOf
  exact
   Pn.bind (fun r1 h1 =>
   Pn.ite (fun h2 =>
   Pn.bind (fun r2 h3 =>
   Pn.ite (fun h4 =>
   Pn.bind (fun x1 h5 =>
   Pn.some (Fn.of [.call [] (E4 r1) [], bF, .call [] (E73 r2) [], .wait 3, .foc 1 ((i64 (op - 1)).toNat) (E75 x1), .fo 0] (p := [Fn Tryz.prog 65 [(false, E3 op), (false, E3 1), (false, E3 8)] (E4 r1) [],(true || ((E4 r1).nv && nvL [])) = true,(!r1) = false,Fn Tryz.prog 45 [] (E73 r2) [],(true || ((E73 r2).nv && nvL [])) = true,(0 : Int) ≤ (i64 (op - 1)),((i64 (op - 1)) : Int) < ((List.map E75 r2).length : Int),look [] ((i64 (op - 1)).toNat) = none,(List.map E75 r2)[(i64 (op - 1)).toNat]? = some (E75 x1),look [((i64 (op - 1)).toNat, V.agg [vS x1.mti, vS x1.code, vS x1.name, V.ow 2])] ((i64 (op - 1)).toNat) = some (V.agg [vS x1.mti, vS x1.code, vS x1.name, V.ow 2]),((i64 (op - 1)).toNat) < (List.map E75 r2).length]) (by kernel_rfl) (cj (impl_within_ok op 1 8 r1 h1) (cj rfl (cj (nf h2) (cj (impl_opRows_ok  r2 h3) (cj rfl (cj (od h4) (cj (map_ltN (od h4) h5) (cj rfl (cj (map_get h5) (cj (look_cons_self _ _ _) (cj1 (map_lt h5))))))))))))))) (fun h4 =>
   Pn.none))) (fun h2 =>
   Pn.some (Fn.of [.call [] (E4 r1) [], bT] (p := [Fn Tryz.prog 65 [(false, E3 op), (false, E3 1), (false, E3 8)] (E4 r1) [],(true || ((E4 r1).nv && nvL [])) = true,(!r1) = true]) (by kernel_rfl) (cj (impl_within_ok op 1 8 r1 h1) (cj rfl (cj1 (nt h2)))))))
def strings_TrimRight (s_ : ByteArray) (cutset : ByteArray) : Option (ByteArray) := if (decide (s_.size ≤ 9223372036854775807) && decide (cutset = bs [32])) = true then some (trimP s_ 32) else none
theorem strings_TrimRight_ok (s_ : ByteArray) (cutset : ByteArray) : Pn (fun y => Fn Tryz.prog 75 [(false, E9 s_), (false, E9 cutset)] (E9 y) []) (strings_TrimRight s_ cutset) := by
  unfold strings_TrimRight
  exact Pn.ite (fun h => Pn.some (by
    simp only [Bool.and_eq_true, decide_eq_true_eq] at h
    exact Fn.flat [(.string s_), (.string cutset)] (by kernel_rfl) rfl (fun w hw => by
      rw [h.2]
      exact (Go.Proofs.Any.strings_TrimRight_one Tryz.lays162 s_ 32 (by decide) w h.1).mono fun e w2 ⟨h1, h2⟩ => ⟨h1, h2 ▸ Below.refl _ _⟩))) (fun _ => Pn.none)
def impl_FieldBare (s_ : ByteArray) : Option (ByteArray) :=
 (strings_TrimRight s_ (bs [32])).bind fun r1 =>
 some r1
theorem impl_FieldBare_ok (s_ : ByteArray) : Pn (fun y => Fn Tryz.prog 49 [(false, E9 s_)] (E9 y) []) (impl_FieldBare s_) := by
  unfold impl_FieldBare
  exact
   Pn.bind (fun r1 h1 =>
   Pn.some (Fn.of [.call [] (E9 r1) []] (p := [Fn Tryz.prog 75 [(false, E9 s_), (false, E9 (bs [32]))] (E9 r1) [],(true || ((E9 r1).nv && nvL [])) = true]) (by kernel_rfl) (cj (strings_TrimRight_ok s_ (bs [32]) r1 h1) (cj1 rfl))))
def impl_Luhn_l0 (s_ : ByteArray) : Nat → Int → Bool → Int → Option (Int)
  | 0, _, _, _ => none
  | fuel + 1, v1, v2, v3 =>
   if (decide (0 ≤ v3)) = true then
   if (decide ((v3 : Int) < (s_.size : Int))) = true then
   if v2 = true then
   if (decide (9 < (i64 ((i64 (u8 ((sAt s_ v3) - 48))) * 2)))) = true then
   impl_Luhn_l0 s_ fuel (i64 (v1 + (i64 ((i64 ((i64 (u8 ((sAt s_ v3) - 48))) * 2)) - 9)))) (!v2) (i64 (v3 - 1))
   else
   impl_Luhn_l0 s_ fuel (i64 (v1 + (i64 ((i64 (u8 ((sAt s_ v3) - 48))) * 2)))) (!v2) (i64 (v3 - 1))
   else
   impl_Luhn_l0 s_ fuel (i64 (v1 + (i64 (u8 ((sAt s_ v3) - 48))))) (!v2) (i64 (v3 - 1))
   else none
   else
   some v1
theorem impl_Luhn_l0_ok (s_ : ByteArray) : ∀ (fuel : Nat) (v1 : Int) (v2 : Bool) (v3 : Int), Pn (LpO Tryz.prog (sub (codeOf Tryz.prog 101) [1, 1, 1, 0, 1, 0, 0]) (st 38 [(0, vS s_), (3, vI v1), (4, vB v2), (5, vI v3)] [] []) (fun (y : Int) => (X.out 0, st 38 [(3, vI y)] [] []))) (impl_Luhn_l0 s_ fuel v1 v2 v3)
  | 0, _, _, _ => Pn.none
  | fuel + 1, v1, v2, v3 => by
    unfold impl_Luhn_l0
    exact
     Pn.ite (fun h3 =>
     Pn.ite (fun h4 =>
     Pn.ite (fun h5 =>
     Pn.ite (fun h6 =>
     LpO.go [bT, bT, bT, .wait 13, .mask [0, 3, 4, 5], .ren []] (p := [(decide (0 ≤ v3)) = true,(0 : Int) ≤ v3,(v3 : Int) < s_.size,v2 = true,(decide (9 < (i64 ((i64 (u8 ((sAt s_ v3) - 48))) * 2)))) = true]) (by kernel_rfl) (cj h3 (cj (od h3) (cj (od h4) (cj h5 (cj1 h6))))) (impl_Luhn_l0_ok s_ fuel (i64 (v1 + (i64 ((i64 ((i64 (u8 ((sAt s_ v3) - 48))) * 2)) - 9)))) (!v2) (i64 (v3 - 1)))) (fun h6 =>
     LpO.go [bT, bT, bF, .wait 10, .mask [0, 3, 4, 5], .ren []] (p := [(decide (0 ≤ v3)) = true,(0 : Int) ≤ v3,(v3 : Int) < s_.size,v2 = true,(decide (9 < (i64 ((i64 (u8 ((sAt s_ v3) - 48))) * 2)))) = false]) (by kernel_rfl) (cj h3 (cj (od h3) (cj (od h4) (cj h5 (cj1 h6))))) (impl_Luhn_l0_ok s_ fuel (i64 (v1 + (i64 ((i64 (u8 ((sAt s_ v3) - 48))) * 2)))) (!v2) (i64 (v3 - 1))))) (fun h5 =>
     LpO.go [bT, bF, .wait 10, .mask [0, 3, 4, 5], .ren []] (p := [(decide (0 ≤ v3)) = true,(0 : Int) ≤ v3,(v3 : Int) < s_.size,v2 = false]) (by kernel_rfl) (cj h3 (cj (od h3) (cj (od h4) (cj1 h5)))) (impl_Luhn_l0_ok s_ fuel (i64 (v1 + (i64 (u8 ((sAt s_ v3) - 48))))) (!v2) (i64 (v3 - 1))))) (fun h4 =>
     Pn.none)) (fun h3 =>
     Pn.some (LpO.out [bF, .mask [3], .ren []] (p := [(decide (0 ≤ v3)) = false]) (by kernel_rfl) (show X.out 0 ≠ X.go from nofun) (cj1 h3)))
def impl_Luhn (s_ : ByteArray) : Option (Int) :=
 (impl_Digits s_).bind fun r1 =>
 if r1 = true then
 (impl_Luhn_l0 s_ FUEL 0 true (i64 ((s_.size : Int) - 1))).bind fun r2 =>
 some (Int.tmod (i64 (10 - (Int.tmod r2 10))) 10)
 else
 some (-1)
theorem impl_Luhn_ok (s_ : ByteArray) : Pn (fun y => Fn Tryz.prog 101 [(false, E9 s_)] (E3 y) []) (impl_Luhn s_) := by
  unfold impl_Luhn
  exact
   Pn.bind (fun r1 h1 =>
   Pn.ite (fun h2 =>
   Pn.bind (fun r2 h7 =>
   Pn.some (Fn.of [.call [] (E4 r1) [], bF, .wait 6, .mask [0, 3, 4, 5], .ren [], .loop (X.out 0) (st 38 [(3, vI r2)] [] [])] (p := [Fn Tryz.prog 67 [(false, E9 s_)] (E4 r1) [],(true || ((E4 r1).nv && nvL [])) = true,(!r1) = false,Loop Tryz.prog (sub (codeOf Tryz.prog 101) [1, 1, 1, 0, 1, 0, 0]) (st 38 [(0, vS s_), (3, vI 0), (4, vB true), (5, vI (i64 ((s_.size : Int) - 1)))] [] []) (X.out 0) (st 38 [(3, vI r2)] [] []),(10 : Int) ≠ 0,(10 : Int) ≠ 0]) (by kernel_rfl) (cj (impl_Digits_ok s_ r1 h1) (cj rfl (cj (nf h2) (cj (impl_Luhn_l0_ok s_ FUEL 0 true (i64 ((s_.size : Int) - 1)) r2 h7) (cj (by decide) (cj1 (by decide)))))))))) (fun h2 =>
   Pn.some (Fn.of [.call [] (E4 r1) [], bT] (p := [Fn Tryz.prog 67 [(false, E9 s_)] (E4 r1) [],(true || ((E4 r1).nv && nvL [])) = true,(!r1) = true]) (by kernel_rfl) (cj (impl_Digits_ok s_ r1 h1) (cj rfl (cj1 (nt h2)))))))
def impl_LuhnOk (s_ : ByteArray) : Option (Bool) :=
 if (decide (1 ≤ (i64 ((s_.size : Int) - 1)))) = true then
 (impl_Digits s_).bind fun r1 =>
 if r1 = true then
 if (decide (0 ≤ (i64 ((s_.size : Int) - 1)))) = true then
 if (decide ((i64 ((s_.size : Int) - 1)) ≤ (s_.size : Int))) = true then
 if (decide (0 ≤ i64 ((s_.size : Int) - 1))) = true then
 if (decide ((i64 ((s_.size : Int) - 1) : Int) < (s_.size : Int))) = true then
 (impl_Luhn (s_.extract 0 (i64 ((s_.size : Int) - 1)).toNat)).bind fun r2 =>
 some (r2 == (i64 (u8 ((sAt s_ (i64 ((s_.size : Int) - 1))) - 48))))
 else none
 else none
 else none
 else none
 else
 some false
 else
 some false
theorem impl_LuhnOk_ok (s_ : ByteArray) : Pn (fun y => Fn Tryz.prog 90 [(false, E9 s_)] (E4 y) []) (impl_LuhnOk s_) := by
  unfold impl_LuhnOk
  exact
   Pn.ite (fun h1 =>
   Pn.bind (fun r1 h2 =>
   Pn.ite (fun h3 =>
   Pn.ite (fun h4 =>
   Pn.ite (fun h5 =>
   Pn.ite (fun h6 =>
   Pn.ite (fun h7 =>
   Pn.bind (fun r2 h8 =>
   Pn.some (Fn.of [.draw [], bT, bT, .call [] (E4 r1) [], bT, bT, bT, bT, bT, bT, bT, bT, bT, bT, .call [] (E3 r2) [], bT, bT] (p := [(decide (1 ≤ (i64 ((s_.size : Int) - 1)))) = true,(decide (1 ≤ (i64 ((s_.size : Int) - 1)))) = true,Fn Tryz.prog 67 [(false, E9 s_)] (E4 r1) [],(true || ((E4 r1).nv && nvL [])) = true,(decide (1 ≤ (i64 ((s_.size : Int) - 1)))) = true,r1 = true,r1 = true,r1 = true,(0 : Int) ≤ 0,(0 : Int) ≤ (i64 ((s_.size : Int) - 1)),((i64 ((s_.size : Int) - 1)) : Int) ≤ (s_.size : Int),r1 = true,r1 = true,r1 = true,(0 : Int) ≤ i64 ((s_.size : Int) - 1),(i64 ((s_.size : Int) - 1) : Int) < s_.size,r1 = true,r1 = true,r1 = true,Fn Tryz.prog 101 [(false, E9 (s_.extract 0 (i64 ((s_.size : Int) - 1)).toNat))] (E3 r2) [],(true || ((E3 r2).nv && nvL [])) = true,r1 = true,r1 = true]) (by kernel_rfl) (cj h1 (cj h1 (cj (impl_Digits_ok s_ r1 h2) (cj rfl (cj h1 (cj h3 (cj h3 (cj h3 (cj (by decide) (cj (od h4) (cj (od h5) (cj h3 (cj h3 (cj h3 (cj (od h6) (cj (od h7) (cj h3 (cj h3 (cj h3 (cj (impl_Luhn_ok (s_.extract 0 (i64 ((s_.size : Int) - 1)).toNat) r2 h8) (cj rfl (cj h3 (cj1 h3)))))))))))))))))))))))))) (fun h7 =>
   Pn.none)) (fun h6 =>
   Pn.none)) (fun h5 =>
   Pn.none)) (fun h4 =>
   Pn.none)) (fun h3 =>
   Pn.some (Fn.of [.draw [], bT, bT, .call [] (E4 r1) [], bT, bF, bF, bF, bF, bF, bF, bF, bF, bF, bF, bF] (p := [(decide (1 ≤ (i64 ((s_.size : Int) - 1)))) = true,(decide (1 ≤ (i64 ((s_.size : Int) - 1)))) = true,Fn Tryz.prog 67 [(false, E9 s_)] (E4 r1) [],(true || ((E4 r1).nv && nvL [])) = true,(decide (1 ≤ (i64 ((s_.size : Int) - 1)))) = true,r1 = false,r1 = false,r1 = false,r1 = false,r1 = false,r1 = false,r1 = false,r1 = false,r1 = false,r1 = false,r1 = false]) (by kernel_rfl) (cj h1 (cj h1 (cj (impl_Digits_ok s_ r1 h2) (cj rfl (cj h1 (cj h3 (cj h3 (cj h3 (cj h3 (cj h3 (cj h3 (cj h3 (cj h3 (cj h3 (cj h3 (cj1 h3)))))))))))))))))))) (fun h1 =>
   Pn.some (Fn.of [.draw [], bF, bF, bF, bF, bF, bF, bF, bF, bF, bF, bF, bF, bF, bF] (p := [(decide (1 ≤ (i64 ((s_.size : Int) - 1)))) = false,(decide (1 ≤ (i64 ((s_.size : Int) - 1)))) = false,(decide (1 ≤ (i64 ((s_.size : Int) - 1)))) = false,false = false,false = false,false = false,false = false,false = false,false = false,false = false,false = false,false = false,false = false,false = false]) (by kernel_rfl) (cj h1 (cj h1 (cj h1 (cj rfl (cj rfl (cj rfl (cj rfl (cj rfl (cj rfl (cj rfl (cj rfl (cj rfl (cj rfl (cj1 rfl))))))))))))))))
def impl_AcctIdOk (s_ : ByteArray) : Option (Bool) :=
 if (decide ((s_.size : Int) ≤ 19)) = true then
 (impl_LuhnOk s_).bind fun r1 =>
 some r1
 else
 some false
theorem impl_AcctIdOk_ok (s_ : ByteArray) : Pn (fun y => Fn Tryz.prog 76 [(false, E9 s_)] (E4 y) []) (impl_AcctIdOk s_) := by
  unfold impl_AcctIdOk
  exact
   Pn.ite (fun h1 =>
   Pn.bind (fun r1 h2 =>
   Pn.some (Fn.of [bT, bT, .call [] (E4 r1) [], bT] (p := [(decide ((s_.size : Int) ≤ 19)) = true,(decide ((s_.size : Int) ≤ 19)) = true,Fn Tryz.prog 90 [(false, E9 s_)] (E4 r1) [],(true || ((E4 r1).nv && nvL [])) = true,(decide ((s_.size : Int) ≤ 19)) = true]) (by kernel_rfl) (cj h1 (cj h1 (cj (impl_LuhnOk_ok s_ r1 h2) (cj rfl (cj1 h1)))))))) (fun h1 =>
   Pn.some (Fn.of [bF, bF, bF] (p := [(decide ((s_.size : Int) ≤ 19)) = false,(decide ((s_.size : Int) ≤ 19)) = false,(decide ((s_.size : Int) ≤ 19)) = false]) (by kernel_rfl) (cj h1 (cj h1 (cj1 h1)))))
def slices_Index_int_l0 (s_ : List Int) (v_ : Int) : List Int → List Int → Option (Lo Unit Int)
  | [], p1 =>
   some (.out ())
  | x1 :: t1, p1 =>
   if (v_ == x1) = true then
   some (.ret (p1.length : Int))
   else
   slices_Index_int_l0 s_ v_ t1 (p1 ++ [x1])
theorem slices_Index_int_l0_ok (s_ : List Int) (v_ : Int) (h2 : capOk s_.length = true) : ∀ (t1 p1 : List Int) (_ : s_ = p1 ++ t1) , Pn (LpO Tryz.prog (sub (codeOf Tryz.prog 102) [1, 0, 1, 0, 0]) (st 19 [(0, lF3 s_), (1, vI v_), (7, vI (s_.length : Int)), (8, vI (p1.length : Int))] [] []) (fun (y : Lo Unit Int) => Lo.elim y (fun s => (X.out 0, st 19 [] [] [])) (fun s => (X.ret, st 19 [(4, vI s)] [] [])))) (slices_Index_int_l0 s_ v_ t1 p1)
  | [], p1, h1 => by
    unfold slices_Index_int_l0
    exact
     Pn.some (LpO.out [bF, .mask [], .ren []] (p := [(decide ((p1.length : Int) < (s_.length : Int))) = false]) (by kernel_rfl) (show X.out 0 ≠ X.go from nofun) (cj1 (rng_end h1)))
  | x1 :: t1, p1, h1 => by
    unfold slices_Index_int_l0
    exact
     Pn.ite (fun h3 =>
     Pn.some (LpO.out [bT, .el (E3 x1), bT, .wait 2, .mask [4], .ren []] (p := [(decide ((p1.length : Int) < (s_.length : Int))) = true,(0 : Int) ≤ (p1.length : Int),(List.map E3 s_)[(p1.length : Int).toNat]? = some (E3 x1),(v_ == x1) = true]) (by kernel_rfl) (show X.ret ≠ X.go from nofun) (cj (rng_lt h1) (cj (by omega) (cj (rng_get _ h1) (cj1 h3)))))) (fun h3 =>
     LpO.go [bT, .el (E3 x1), bF, .wait 2, .mask [0, 1, 7, 8], .ren [], .nm 8 (vI ((p1 ++ [x1]).length : Int))] (p := [(decide ((p1.length : Int) < (s_.length : Int))) = true,(0 : Int) ≤ (p1.length : Int),(List.map E3 s_)[(p1.length : Int).toNat]? = some (E3 x1),(v_ == x1) = false,vI (i64 ((p1.length : Int) + 1)) = vI ((p1 ++ [x1]).length : Int)]) (by kernel_rfl) (cj (rng_lt h1) (cj (by omega) (cj (rng_get _ h1) (cj h3 (cj1 (rng_next h1 h2)))))) (slices_Index_int_l0_ok s_ v_ h2 t1 (p1 ++ [x1]) (rng_step h1)))
def slices_Index_int (s_ : List Int) (v_ : Int) : Option (Int) :=
 if (capOk s_.length) = true then
 (slices_Index_int_l0 s_ v_ s_ []).bind fun r1 =>
 Lo.elim r1 (fun s1 =>
 some (-1)) (fun s2 =>
 some s2)
 else none
theorem slices_Index_int_ok (s_ : List Int) (v_ : Int) : Pn (fun y => Fn Tryz.prog 102 [(false, E55 s_), (false, E3 v_)] (E3 y) []) (slices_Index_int s_ v_) := by
  unfold slices_Index_int
  exact
   Pn.ite (fun h4 =>
   Pn.bind (fun r1 h5 =>
   Pn.lo (fun s1 h6 =>
   Pn.some (Fn.of [.wait 3, .nm 7 (vI (s_.length : Int)), .wait 2, .mask [0, 1, 7, 8], .ren [], .loop (X.out 0) (st 19 [] [] [])] (p := [vI ((List.map E3 s_).length : Int) = vI (s_.length : Int),Loop Tryz.prog (sub (codeOf Tryz.prog 102) [1, 0, 1, 0, 0]) (st 19 [(0, lF3 s_), (1, vI v_), (7, vI (s_.length : Int)), (8, vI 0)] [] []) (X.out 0) (st 19 [] [] [])]) (by kernel_rfl) (cj (len_nm _ _) (cj1 ((slices_Index_int_l0_ok s_ v_ h4 s_ [] rfl r1 h5).at h6 :))))) (fun s2 h7 =>
   Pn.some (Fn.of [.wait 3, .nm 7 (vI (s_.length : Int)), .wait 2, .mask [0, 1, 7, 8], .ren [], .loop (X.ret) (st 19 [(4, vI s2)] [] [])] (p := [vI ((List.map E3 s_).length : Int) = vI (s_.length : Int),Loop Tryz.prog (sub (codeOf Tryz.prog 102) [1, 0, 1, 0, 0]) (st 19 [(0, lF3 s_), (1, vI v_), (7, vI (s_.length : Int)), (8, vI 0)] [] []) (X.ret) (st 19 [(4, vI s2)] [] [])]) (by kernel_rfl) (cj (len_nm _ _) (cj1 ((slices_Index_int_l0_ok s_ v_ h4 s_ [] rfl r1 h5).at h7 :))))))) (fun h4 =>
   Pn.none)
def slices_Contains_int (s_ : List Int) (v_ : Int) : Option (Bool) :=
 (slices_Index_int s_ v_).bind fun r1 =>
 some (decide (0 ≤ r1))
theorem slices_Contains_int_ok (s_ : List Int) (v_ : Int) : Pn (fun y => Fn Tryz.prog 91 [(false, E55 s_), (false, E3 v_)] (E4 y) []) (slices_Contains_int s_ v_) := by
  unfold slices_Contains_int
  exact
   Pn.bind (fun r1 h1 =>
   Pn.some (Fn.of [.call [] (E3 r1) []] (p := [Fn Tryz.prog 102 [(false, E55 s_), (false, E3 v_)] (E3 r1) [],(true || ((E3 r1).nv && nvL [])) = true]) (by kernel_rfl) (cj (slices_Index_int_ok s_ v_ r1 h1) (cj1 rfl))))
def impl_uses (op : Int) (no : Int) : Option (Bool) :=
 (impl_opOf op).bind fun r1 =>
 (slices_Contains_int r1.fields no).bind fun r2 =>
 some r2
theorem impl_uses_ok (op : Int) (no : Int) : Pn (fun y => Fn Tryz.prog 77 [(false, E3 op), (false, E3 no)] (E4 y) []) (impl_uses op no) := by
  unfold impl_uses
  exact
   Pn.bind (fun r1 h1 =>
   Pn.bind (fun r2 h2 =>
   Pn.some (Fn.of [.call [] (E75 r1) [], .call [] (E4 r2) []] (p := [Fn Tryz.prog 47 [(false, E3 op)] (E75 r1) [],(true || ((E75 r1).nv && nvL [])) = true,Fn Tryz.prog 91 [(false, E55 r1.fields), (false, E3 no)] (E4 r2) [],(false || ((E4 r2).nv && nvL [])) = true]) (by kernel_rfl) (cj (impl_opOf_ok op r1 h1) (cj rfl (cj (slices_Contains_int_ok r1.fields no r2 h2) (cj1 (by simp [V.nv, nvL, nvL_all, nv_E4]))))))))
def impl_HoldIdOk_l0 (s_ : ByteArray) : Nat → Int → Option (Lo Unit Unit)
  | 0, _ => none
  | fuel + 1, v1 =>
   if (decide (v1 < (s_.size : Int))) = true then
   if (decide (0 ≤ v1)) = true then
   if (decide ((v1 : Int) < (s_.size : Int))) = true then
   if (decide ((sAt s_ v1) < 48)) = true then
   if (decide ((sAt s_ v1) < 97)) = true then
   some (.ret ())
   else
   if (decide (122 < (sAt s_ v1))) = true then
   some (.ret ())
   else
   impl_HoldIdOk_l0 s_ fuel (i64 (v1 + 1))
   else
   if (decide (57 < (sAt s_ v1))) = true then
   if (decide ((sAt s_ v1) < 97)) = true then
   some (.ret ())
   else
   if (decide (122 < (sAt s_ v1))) = true then
   some (.ret ())
   else
   impl_HoldIdOk_l0 s_ fuel (i64 (v1 + 1))
   else
   impl_HoldIdOk_l0 s_ fuel (i64 (v1 + 1))
   else none
   else none
   else
   some (.out ())
theorem impl_HoldIdOk_l0_ok (s_ : ByteArray) : ∀ (fuel : Nat) (v1 : Int), Pn (LpO Tryz.prog (sub (codeOf Tryz.prog 78) [1, 0, 1, 0, 0]) (st 35 [(0, vS s_), (5, vI (s_.size : Int)), (6, vI v1)] [] []) (fun (y : Lo Unit Unit) => Lo.elim y (fun s => (X.out 0, st 35 [(0, vS s_)] [] [])) (fun s => (X.ret, st 35 [(2, vB false)] [] [])))) (impl_HoldIdOk_l0 s_ fuel v1)
  | 0, _ => Pn.none
  | fuel + 1, v1 => by
    unfold impl_HoldIdOk_l0
    exact
     Pn.ite (fun h1 =>
     Pn.ite (fun h2 =>
     Pn.ite (fun h3 =>
     Pn.ite (fun h4 =>
     Pn.ite (fun h5 =>
     Pn.some (LpO.out [bT, bT, bT, bT, bT, bT, bT, bT, bT, bT, bT, bT, bT, bT, bT, bT, bT, bT, bT, .wait 1, .mask [2], .ren []] (p := [(decide (v1 < (s_.size : Int))) = true,(0 : Int) ≤ v1,(v1 : Int) < s_.size,(decide ((sAt s_ v1) < 48)) = true,(decide ((sAt s_ v1) < 48)) = true,(decide ((sAt s_ v1) < 48)) = true,(decide ((sAt s_ v1) < 48)) = true,(decide ((sAt s_ v1) < 48)) = true,true = true,true = true,true = true,(0 : Int) ≤ v1,(v1 : Int) < s_.size,true = true,true = true,(decide ((sAt s_ v1) < 97)) = true,(decide ((sAt s_ v1) < 97)) = true,(decide ((sAt s_ v1) < 97)) = true,(decide ((sAt s_ v1) < 97)) = true,true = true,(decide ((sAt s_ v1) < 97)) = true,true = true,true = true]) (by kernel_rfl) (show X.ret ≠ X.go from nofun) (cj h1 (cj (od h2) (cj (od h3) (cj h4 (cj h4 (cj h4 (cj h4 (cj h4 (cj rfl (cj rfl (cj rfl (cj (od h2) (cj (od h3) (cj rfl (cj rfl (cj h5 (cj h5 (cj h5 (cj h5 (cj rfl (cj h5 (cj rfl (cj1 rfl))))))))))))))))))))))))) (fun h5 =>
     Pn.ite (fun h6 =>
     Pn.some (LpO.out [bT, bT, bT, bT, bT, bT, bT, bT, bT, bT, bT, bF, bF, bF, bF, bT, bF, bT, bT, .wait 1, .mask [2], .ren []] (p := [(decide (v1 < (s_.size : Int))) = true,(0 : Int) ≤ v1,(v1 : Int) < s_.size,(decide ((sAt s_ v1) < 48)) = true,(decide ((sAt s_ v1) < 48)) = true,(decide ((sAt s_ v1) < 48)) = true,(decide ((sAt s_ v1) < 48)) = true,(decide ((sAt s_ v1) < 48)) = true,true = true,true = true,true = true,(0 : Int) ≤ v1,(v1 : Int) < s_.size,true = true,true = true,(decide ((sAt s_ v1) < 97)) = false,(decide ((sAt s_ v1) < 97)) = false,(decide ((sAt s_ v1) < 97)) = false,(0 : Int) ≤ v1,(v1 : Int) < s_.size,(decide ((sAt s_ v1) < 97)) = false,true = true,(decide ((sAt s_ v1) < 97)) = false,true = true,(decide (122 < (sAt s_ v1))) = true]) (by kernel_rfl) (show X.ret ≠ X.go from nofun) (cj h1 (cj (od h2) (cj (od h3) (cj h4 (cj h4 (cj h4 (cj h4 (cj h4 (cj rfl (cj rfl (cj rfl (cj (od h2) (cj (od h3) (cj rfl (cj rfl (cj h5 (cj h5 (cj h5 (cj (od h2) (cj (od h3) (cj h5 (cj rfl (cj h5 (cj rfl (cj1 h6))))))))))))))))))))))))))) (fun h6 =>
     LpO.go [bT, bT, bT, bT, bT, bT, bT, bT, bT, bT, bT, bF, bF, bF, bF, bT, bF, bT, bF, .wait 2, .mask [0, 5, 6], .ren []] (p := [(decide (v1 < (s_.size : Int))) = true,(0 : Int) ≤ v1,(v1 : Int) < s_.size,(decide ((sAt s_ v1) < 48)) = true,(decide ((sAt s_ v1) < 48)) = true,(decide ((sAt s_ v1) < 48)) = true,(decide ((sAt s_ v1) < 48)) = true,(decide ((sAt s_ v1) < 48)) = true,true = true,true = true,true = true,(0 : Int) ≤ v1,(v1 : Int) < s_.size,true = true,true = true,(decide ((sAt s_ v1) < 97)) = false,(decide ((sAt s_ v1) < 97)) = false,(decide ((sAt s_ v1) < 97)) = false,(0 : Int) ≤ v1,(v1 : Int) < s_.size,(decide ((sAt s_ v1) < 97)) = false,true = true,(decide ((sAt s_ v1) < 97)) = false,true = true,(decide (122 < (sAt s_ v1))) = false]) (by kernel_rfl) (cj h1 (cj (od h2) (cj (od h3) (cj h4 (cj h4 (cj h4 (cj h4 (cj h4 (cj rfl (cj rfl (cj rfl (cj (od h2) (cj (od h3) (cj rfl (cj rfl (cj h5 (cj h5 (cj h5 (cj (od h2) (cj (od h3) (cj h5 (cj rfl (cj h5 (cj rfl (cj1 h6))))))))))))))))))))))))) (impl_HoldIdOk_l0_ok s_ fuel (i64 (v1 + 1)))))) (fun h4 =>
     Pn.ite (fun h7 =>
     Pn.ite (fun h8 =>
     Pn.some (LpO.out [bT, bF, bF, bF, bF, bF, bT, bT, bT, bT, bT, bT, bT, bT, bT, bT, bT, bT, bT, .wait 1, .mask [2], .ren []] (p := [(decide (v1 < (s_.size : Int))) = true,(0 : Int) ≤ v1,(v1 : Int) < s_.size,(decide ((sAt s_ v1) < 48)) = false,(decide ((sAt s_ v1) < 48)) = false,(decide ((sAt s_ v1) < 48)) = false,(0 : Int) ≤ v1,(v1 : Int) < s_.size,(decide ((sAt s_ v1) < 48)) = false,(decide ((sAt s_ v1) < 48)) = false,(decide (57 < (sAt s_ v1))) = true,(decide (57 < (sAt s_ v1))) = true,(decide (57 < (sAt s_ v1))) = true,(0 : Int) ≤ v1,(v1 : Int) < s_.size,(decide (57 < (sAt s_ v1))) = true,(decide (57 < (sAt s_ v1))) = true,(decide ((sAt s_ v1) < 97)) = true,(decide ((sAt s_ v1) < 97)) = true,(decide ((sAt s_ v1) < 97)) = true,(decide ((sAt s_ v1) < 97)) = true,(decide (57 < (sAt s_ v1))) = true,(decide ((sAt s_ v1) < 97)) = true,(decide (57 < (sAt s_ v1))) = true,true = true]) (by kernel_rfl) (show X.ret ≠ X.go from nofun) (cj h1 (cj (od h2) (cj (od h3) (cj h4 (cj h4 (cj h4 (cj (od h2) (cj (od h3) (cj h4 (cj h4 (cj h7 (cj h7 (cj h7 (cj (od h2) (cj (od h3) (cj h7 (cj h7 (cj h8 (cj h8 (cj h8 (cj h8 (cj h7 (cj h8 (cj h7 (cj1 rfl))))))))))))))))))))))))))) (fun h8 =>
     Pn.ite (fun h9 =>
     Pn.some (LpO.out [bT, bF, bF, bF, bF, bF, bT, bT, bT, bT, bT, bF, bF, bF, bF, bT, bF, bT, bT, .wait 1, .mask [2], .ren []] (p := [(decide (v1 < (s_.size : Int))) = true,(0 : Int) ≤ v1,(v1 : Int) < s_.size,(decide ((sAt s_ v1) < 48)) = false,(decide ((sAt s_ v1) < 48)) = false,(decide ((sAt s_ v1) < 48)) = false,(0 : Int) ≤ v1,(v1 : Int) < s_.size,(decide ((sAt s_ v1) < 48)) = false,(decide ((sAt s_ v1) < 48)) = false,(decide (57 < (sAt s_ v1))) = true,(decide (57 < (sAt s_ v1))) = true,(decide (57 < (sAt s_ v1))) = true,(0 : Int) ≤ v1,(v1 : Int) < s_.size,(decide (57 < (sAt s_ v1))) = true,(decide (57 < (sAt s_ v1))) = true,(decide ((sAt s_ v1) < 97)) = false,(decide ((sAt s_ v1) < 97)) = false,(decide ((sAt s_ v1) < 97)) = false,(0 : Int) ≤ v1,(v1 : Int) < s_.size,(decide ((sAt s_ v1) < 97)) = false,(decide (57 < (sAt s_ v1))) = true,(decide ((sAt s_ v1) < 97)) = false,(decide (57 < (sAt s_ v1))) = true,(decide (122 < (sAt s_ v1))) = true]) (by kernel_rfl) (show X.ret ≠ X.go from nofun) (cj h1 (cj (od h2) (cj (od h3) (cj h4 (cj h4 (cj h4 (cj (od h2) (cj (od h3) (cj h4 (cj h4 (cj h7 (cj h7 (cj h7 (cj (od h2) (cj (od h3) (cj h7 (cj h7 (cj h8 (cj h8 (cj h8 (cj (od h2) (cj (od h3) (cj h8 (cj h7 (cj h8 (cj h7 (cj1 h9))))))))))))))))))))))))))))) (fun h9 =>
     LpO.go [bT, bF, bF, bF, bF, bF, bT, bT, bT, bT, bT, bF, bF, bF, bF, bT, bF, bT, bF, .wait 2, .mask [0, 5, 6], .ren []] (p := [(decide (v1 < (s_.size : Int))) = true,(0 : Int) ≤ v1,(v1 : Int) < s_.size,(decide ((sAt s_ v1) < 48)) = false,(decide ((sAt s_ v1) < 48)) = false,(decide ((sAt s_ v1) < 48)) = false,(0 : Int) ≤ v1,(v1 : Int) < s_.size,(decide ((sAt s_ v1) < 48)) = false,(decide ((sAt s_ v1) < 48)) = false,(decide (57 < (sAt s_ v1))) = true,(decide (57 < (sAt s_ v1))) = true,(decide (57 < (sAt s_ v1))) = true,(0 : Int) ≤ v1,(v1 : Int) < s_.size,(decide (57 < (sAt s_ v1))) = true,(decide (57 < (sAt s_ v1))) = true,(decide ((sAt s_ v1) < 97)) = false,(decide ((sAt s_ v1) < 97)) = false,(decide ((sAt s_ v1) < 97)) = false,(0 : Int) ≤ v1,(v1 : Int) < s_.size,(decide ((sAt s_ v1) < 97)) = false,(decide (57 < (sAt s_ v1))) = true,(decide ((sAt s_ v1) < 97)) = false,(decide (57 < (sAt s_ v1))) = true,(decide (122 < (sAt s_ v1))) = false]) (by kernel_rfl) (cj h1 (cj (od h2) (cj (od h3) (cj h4 (cj h4 (cj h4 (cj (od h2) (cj (od h3) (cj h4 (cj h4 (cj h7 (cj h7 (cj h7 (cj (od h2) (cj (od h3) (cj h7 (cj h7 (cj h8 (cj h8 (cj h8 (cj (od h2) (cj (od h3) (cj h8 (cj h7 (cj h8 (cj h7 (cj1 h9))))))))))))))))))))))))))) (impl_HoldIdOk_l0_ok s_ fuel (i64 (v1 + 1)))))) (fun h7 =>
     LpO.go [bT, bF, bF, bF, bF, bF, bF, bF, bF, bF, bF, bF, bF, bF, .wait 2, .mask [0, 5, 6], .ren []] (p := [(decide (v1 < (s_.size : Int))) = true,(0 : Int) ≤ v1,(v1 : Int) < s_.size,(decide ((sAt s_ v1) < 48)) = false,(decide ((sAt s_ v1) < 48)) = false,(decide ((sAt s_ v1) < 48)) = false,(0 : Int) ≤ v1,(v1 : Int) < s_.size,(decide ((sAt s_ v1) < 48)) = false,(decide ((sAt s_ v1) < 48)) = false,(decide (57 < (sAt s_ v1))) = false,(decide (57 < (sAt s_ v1))) = false,(decide (57 < (sAt s_ v1))) = false,(decide (57 < (sAt s_ v1))) = false,(decide (57 < (sAt s_ v1))) = false,(decide (57 < (sAt s_ v1))) = false,(decide (57 < (sAt s_ v1))) = false,false = false]) (by kernel_rfl) (cj h1 (cj (od h2) (cj (od h3) (cj h4 (cj h4 (cj h4 (cj (od h2) (cj (od h3) (cj h4 (cj h4 (cj h7 (cj h7 (cj h7 (cj h7 (cj h7 (cj h7 (cj h7 (cj1 rfl)))))))))))))))))) (impl_HoldIdOk_l0_ok s_ fuel (i64 (v1 + 1)))))) (fun h3 =>
     Pn.none)) (fun h2 =>
     Pn.none)) (fun h1 =>
     Pn.some (LpO.out [bF, .mask [0], .ren []] (p := [(decide (v1 < (s_.size : Int))) = false]) (by kernel_rfl) (show X.out 0 ≠ X.go from nofun) (cj1 h1)))
def impl_HoldIdOk (s_ : ByteArray) : Option (Bool) :=
 (impl_HoldIdOk_l0 s_ FUEL 0).bind fun r1 =>
 Lo.elim r1 (fun s1 =>
 (impl_within (s_.size : Int) 1 6).bind fun r2 =>
 some r2) (fun s2 =>
 some false)
theorem impl_HoldIdOk_ok (s_ : ByteArray) : Pn (fun y => Fn Tryz.prog 78 [(false, E9 s_)] (E4 y) []) (impl_HoldIdOk s_) := by
  unfold impl_HoldIdOk
  exact
   Pn.bind (fun r1 h10 =>
   Pn.lo (fun s1 h11 =>
   Pn.bind (fun r2 h13 =>
   Pn.some (Fn.of [.wait 5, .mask [0, 5, 6], .ren [], .loop (X.out 0) (st 35 [(0, vS s_)] [] []), .call [] (E4 r2) []] (p := [Loop Tryz.prog (sub (codeOf Tryz.prog 78) [1, 0, 1, 0, 0]) (st 35 [(0, vS s_), (5, vI (s_.size : Int)), (6, vI 0)] [] []) (X.out 0) (st 35 [(0, vS s_)] [] []),Fn Tryz.prog 65 [(false, E3 (s_.size : Int)), (false, E3 1), (false, E3 6)] (E4 r2) [],(true || ((E4 r2).nv && nvL [])) = true]) (by kernel_rfl) (cj ((impl_HoldIdOk_l0_ok s_ FUEL 0 r1 h10).at h11 :) (cj (impl_within_ok (s_.size : Int) 1 6 r2 h13) (cj1 rfl)))))) (fun s2 h12 =>
   Pn.some (Fn.of [.wait 5, .mask [0, 5, 6], .ren [], .loop (X.ret) (st 35 [(2, vB false)] [] [])] (p := [Loop Tryz.prog (sub (codeOf Tryz.prog 78) [1, 0, 1, 0, 0]) (st 35 [(0, vS s_), (5, vI (s_.size : Int)), (6, vI 0)] [] []) (X.ret) (st 35 [(2, vB false)] [] [])]) (by kernel_rfl) (cj1 ((impl_HoldIdOk_l0_ok s_ FUEL 0 r1 h10).at h12 :)))))
def impl_ReqOk_c0 (o : Req) (r1 : opRow) : Option (Lo Unit Unit) :=
 if (r1.name == (bs [])) = true then
 some (.ret ())
 else
 if (o.Mti == r1.mti) = true then
 (impl_AcctIdOk o.Acct).bind fun r2 =>
 if r2 = true then
 (impl_isWide o.Trace 6).bind fun r3 =>
 if r3 = true then
 some (.out ())
 else
 some (.ret ())
 else
 some (.ret ())
 else
 some (.ret ())
theorem impl_ReqOk_c0_ok (o : Req) (r1 : opRow) : Pn (JnO Tryz.prog (sub (codeOf Tryz.prog 50) [1, 1, 0]) (st 79 [(1, V.ptr 0 0), (3, V.ptr 1 0)] [Blk.box 36 [vI o.Op, vS o.Acct, vS o.Other, vS o.Hold, vS o.Trace, vS o.Mti, vI o.Amount, vI o.Ttl], Blk.box 75 [vS r1.mti, vS r1.code, vS r1.name, V.ow 2], Blk.row 3 (List.map E3 r1.fields) []] []) (fun (y : Lo Unit Unit) => Lo.elim y (fun s => (X.go, st 79 [(1, V.ptr 0 0)] [Blk.box 36 [vI o.Op, vS o.Acct, vS o.Other, vS o.Hold, vS o.Trace, vS o.Mti, vI o.Amount, vI o.Ttl]] [])) (fun s => (X.ret, st 79 [(2, vB false)] [] [])))) (impl_ReqOk_c0 o r1) := by
  unfold impl_ReqOk_c0
  exact
   Pn.ite (fun h2 =>
   Pn.some (JnO.of [bT, bT, bT, bT, bT, bT, bT, bT, bT, bT, bT, bT, bT, bT, bT, bT, bT, .wait 1, .mask [2], .ren []] (p := [(r1.name == (bs [])) = true,(r1.name == (bs [])) = true,(r1.name == (bs [])) = true,(r1.name == (bs [])) = true,(r1.name == (bs [])) = true,(r1.name == (bs [])) = true,true = true,true = true,true = true,true = true,true = true,true = true,true = true,true = true,true = true,true = true,true = true]) (by kernel_rfl) (cj h2 (cj h2 (cj h2 (cj h2 (cj h2 (cj h2 (cj rfl (cj rfl (cj rfl (cj rfl (cj rfl (cj rfl (cj rfl (cj rfl (cj rfl (cj rfl (cj1 rfl))))))))))))))))))) (fun h2 =>
   Pn.ite (fun h3 =>
   Pn.bind (fun r2 h4 =>
   Pn.ite (fun h5 =>
   Pn.bind (fun r3 h6 =>
   Pn.ite (fun h7 =>
   Pn.some (JnO.of [bF, bF, bF, bF, bF, bF, bF, bF, bF, .call [] (E4 r2) [], bF, bF, bF, bF, bF, .call [] (E4 r3) [], bF, bF, bF, .mask [1], .ren [0]] (p := [(r1.name == (bs [])) = false,(r1.name == (bs [])) = false,(r1.name == (bs [])) = false,(r1.name == (bs [])) = false,(r1.name == (bs [])) = false,(r1.name == (bs [])) = false,(!(o.Mti == r1.mti)) = false,(!(o.Mti == r1.mti)) = false,(!(o.Mti == r1.mti)) = false,Fn Tryz.prog 76 [(false, E9 o.Acct)] (E4 r2) [],(true || ((E4 r2).nv && nvL [])) = true,(!(o.Mti == r1.mti)) = false,(!(o.Mti == r1.mti)) = false,(!r2) = false,(!r2) = false,(!r2) = false,Fn Tryz.prog 73 [(false, E9 o.Trace), (false, E3 6)] (E4 r3) [],(true || ((E4 r3).nv && nvL [])) = true,(!r2) = false,(!r2) = false,(!r3) = false]) (by kernel_rfl) (cj h2 (cj h2 (cj h2 (cj h2 (cj h2 (cj h2 (cj (nf h3) (cj (nf h3) (cj (nf h3) (cj (impl_AcctIdOk_ok o.Acct r2 h4) (cj rfl (cj (nf h3) (cj (nf h3) (cj (nf h5) (cj (nf h5) (cj (nf h5) (cj (impl_isWide_ok o.Trace 6 r3 h6) (cj rfl (cj (nf h5) (cj (nf h5) (cj1 (nf h7)))))))))))))))))))))))) (fun h7 =>
   Pn.some (JnO.of [bF, bF, bF, bF, bF, bF, bF, bF, bF, .call [] (E4 r2) [], bF, bF, bF, bF, bF, .call [] (E4 r3) [], bF, bF, bT, .wait 1, .mask [2], .ren []] (p := [(r1.name == (bs [])) = false,(r1.name == (bs [])) = false,(r1.name == (bs [])) = false,(r1.name == (bs [])) = false,(r1.name == (bs [])) = false,(r1.name == (bs [])) = false,(!(o.Mti == r1.mti)) = false,(!(o.Mti == r1.mti)) = false,(!(o.Mti == r1.mti)) = false,Fn Tryz.prog 76 [(false, E9 o.Acct)] (E4 r2) [],(true || ((E4 r2).nv && nvL [])) = true,(!(o.Mti == r1.mti)) = false,(!(o.Mti == r1.mti)) = false,(!r2) = false,(!r2) = false,(!r2) = false,Fn Tryz.prog 73 [(false, E9 o.Trace), (false, E3 6)] (E4 r3) [],(true || ((E4 r3).nv && nvL [])) = true,(!r2) = false,(!r2) = false,(!r3) = true]) (by kernel_rfl) (cj h2 (cj h2 (cj h2 (cj h2 (cj h2 (cj h2 (cj (nf h3) (cj (nf h3) (cj (nf h3) (cj (impl_AcctIdOk_ok o.Acct r2 h4) (cj rfl (cj (nf h3) (cj (nf h3) (cj (nf h5) (cj (nf h5) (cj (nf h5) (cj (impl_isWide_ok o.Trace 6 r3 h6) (cj rfl (cj (nf h5) (cj (nf h5) (cj1 (nt h7)))))))))))))))))))))))))) (fun h5 =>
   Pn.some (JnO.of [bF, bF, bF, bF, bF, bF, bF, bF, bF, .call [] (E4 r2) [], bF, bF, bT, bT, bT, bT, bT, bT, .wait 1, .mask [2], .ren []] (p := [(r1.name == (bs [])) = false,(r1.name == (bs [])) = false,(r1.name == (bs [])) = false,(r1.name == (bs [])) = false,(r1.name == (bs [])) = false,(r1.name == (bs [])) = false,(!(o.Mti == r1.mti)) = false,(!(o.Mti == r1.mti)) = false,(!(o.Mti == r1.mti)) = false,Fn Tryz.prog 76 [(false, E9 o.Acct)] (E4 r2) [],(true || ((E4 r2).nv && nvL [])) = true,(!(o.Mti == r1.mti)) = false,(!(o.Mti == r1.mti)) = false,(!r2) = true,(!r2) = true,(!r2) = true,(!r2) = true,(!r2) = true,true = true]) (by kernel_rfl) (cj h2 (cj h2 (cj h2 (cj h2 (cj h2 (cj h2 (cj (nf h3) (cj (nf h3) (cj (nf h3) (cj (impl_AcctIdOk_ok o.Acct r2 h4) (cj rfl (cj (nf h3) (cj (nf h3) (cj (nt h5) (cj (nt h5) (cj (nt h5) (cj (nt h5) (cj (nt h5) (cj1 rfl))))))))))))))))))))))) (fun h3 =>
   Pn.some (JnO.of [bF, bF, bF, bF, bF, bF, bT, bT, bT, bT, bT, bT, bT, bT, bT, bT, bT, .wait 1, .mask [2], .ren []] (p := [(r1.name == (bs [])) = false,(r1.name == (bs [])) = false,(r1.name == (bs [])) = false,(r1.name == (bs [])) = false,(r1.name == (bs [])) = false,(r1.name == (bs [])) = false,(!(o.Mti == r1.mti)) = true,(!(o.Mti == r1.mti)) = true,(!(o.Mti == r1.mti)) = true,(!(o.Mti == r1.mti)) = true,(!(o.Mti == r1.mti)) = true,true = true,true = true,true = true,true = true,true = true,true = true]) (by kernel_rfl) (cj h2 (cj h2 (cj h2 (cj h2 (cj h2 (cj h2 (cj (nt h3) (cj (nt h3) (cj (nt h3) (cj (nt h3) (cj (nt h3) (cj rfl (cj rfl (cj rfl (cj rfl (cj rfl (cj1 rfl))))))))))))))))))))
def impl_ReqOk_c1 (o : Req) : Option (Bool) :=
 (impl_uses o.Op 38).bind fun r5 =>
 if r5 = true then
 (impl_HoldIdOk o.Hold).bind fun r6 =>
 some r6
 else
 some (o.Hold == (bs []))
theorem impl_ReqOk_c1_ok (o : Req) : Pn (JnO Tryz.prog (sub (codeOf Tryz.prog 50) [1, 1, 1, 1, 0]) (st 79 [(1, V.ptr 0 0), (4, vB (o.Hold == (bs []))), (5, vB (o.Amount == 0)), (6, vB (o.Ttl == 0)), (7, vB (o.Other == (bs [])))] [Blk.box 36 [vI o.Op, vS o.Acct, vS o.Other, vS o.Hold, vS o.Trace, vS o.Mti, vI o.Amount, vI o.Ttl]] []) (fun (y : Bool) => (X.go, st 79 [(1, V.ptr 0 0), (4, vB y), (5, vB (o.Amount == 0)), (6, vB (o.Ttl == 0)), (7, vB (o.Other == (bs [])))] [Blk.box 36 [vI o.Op, vS o.Acct, vS o.Other, vS o.Hold, vS o.Trace, vS o.Mti, vI o.Amount, vI o.Ttl]] []))) (impl_ReqOk_c1 o) := by
  unfold impl_ReqOk_c1
  exact
   Pn.bind (fun r5 h11 =>
   Pn.ite (fun h12 =>
   Pn.bind (fun r6 h13 =>
   Pn.some (JnO.of [.call [] (E4 r5) [], bT, .call [] (E4 r6) [], .wait 2, .mask [1, 4, 5, 6, 7], .ren [0]] (p := [Fn Tryz.prog 77 [(false, E3 o.Op), (false, E3 38)] (E4 r5) [],(true || ((E4 r5).nv && nvL [])) = true,r5 = true,Fn Tryz.prog 78 [(false, E9 o.Hold)] (E4 r6) [],(true || ((E4 r6).nv && nvL [])) = true]) (by kernel_rfl) (cj (impl_uses_ok o.Op 38 r5 h11) (cj rfl (cj h12 (cj (impl_HoldIdOk_ok o.Hold r6 h13) (cj1 rfl)))))))) (fun h12 =>
   Pn.some (JnO.of [.call [] (E4 r5) [], bF, .mask [1, 4, 5, 6, 7], .ren [0]] (p := [Fn Tryz.prog 77 [(false, E3 o.Op), (false, E3 38)] (E4 r5) [],(true || ((E4 r5).nv && nvL [])) = true,r5 = false]) (by kernel_rfl) (cj (impl_uses_ok o.Op 38 r5 h11) (cj rfl (cj1 h12))))))
def impl_ReqOk_c2 (o : Req) (r7 : Bool) : Option (Bool) :=
 (impl_uses o.Op 4).bind fun r8 =>
 if r8 = true then
 (impl_within o.Amount 0 999999999999).bind fun r9 =>
 some r9
 else
 some (o.Amount == 0)
theorem impl_ReqOk_c2_ok (o : Req) (r7 : Bool) : Pn (JnO Tryz.prog (sub (codeOf Tryz.prog 50) [1, 1, 1, 1, 1, 0]) (st 79 [(1, V.ptr 0 0), (4, vB r7), (5, vB (o.Amount == 0)), (6, vB (o.Ttl == 0)), (7, vB (o.Other == (bs [])))] [Blk.box 36 [vI o.Op, vS o.Acct, vS o.Other, vS o.Hold, vS o.Trace, vS o.Mti, vI o.Amount, vI o.Ttl]] []) (fun (y : Bool) => (X.go, st 79 [(1, V.ptr 0 0), (4, vB r7), (5, vB y), (6, vB (o.Ttl == 0)), (7, vB (o.Other == (bs [])))] [Blk.box 36 [vI o.Op, vS o.Acct, vS o.Other, vS o.Hold, vS o.Trace, vS o.Mti, vI o.Amount, vI o.Ttl]] []))) (impl_ReqOk_c2 o r7) := by
  unfold impl_ReqOk_c2
  exact
   Pn.bind (fun r8 h15 =>
   Pn.ite (fun h16 =>
   Pn.bind (fun r9 h17 =>
   Pn.some (JnO.of [.call [] (E4 r8) [], bT, .call [] (E4 r9) [], .wait 2, .mask [1, 4, 5, 6, 7], .ren [0]] (p := [Fn Tryz.prog 77 [(false, E3 o.Op), (false, E3 4)] (E4 r8) [],(true || ((E4 r8).nv && nvL [])) = true,r8 = true,Fn Tryz.prog 65 [(false, E3 o.Amount), (false, E3 0), (false, E3 999999999999)] (E4 r9) [],(true || ((E4 r9).nv && nvL [])) = true]) (by kernel_rfl) (cj (impl_uses_ok o.Op 4 r8 h15) (cj rfl (cj h16 (cj (impl_within_ok o.Amount 0 999999999999 r9 h17) (cj1 rfl)))))))) (fun h16 =>
   Pn.some (JnO.of [.call [] (E4 r8) [], bF, .mask [1, 4, 5, 6, 7], .ren [0]] (p := [Fn Tryz.prog 77 [(false, E3 o.Op), (false, E3 4)] (E4 r8) [],(true || ((E4 r8).nv && nvL [])) = true,r8 = false]) (by kernel_rfl) (cj (impl_uses_ok o.Op 4 r8 h15) (cj rfl (cj1 h16))))))
def impl_ReqOk_c3 (o : Req) (r7 : Bool) (r10 : Bool) : Option (Bool) :=
 (impl_uses o.Op 14).bind fun r11 =>
 if r11 = true then
 (impl_within o.Ttl 0 9999).bind fun r12 =>
 some r12
 else
 some (o.Ttl == 0)
theorem impl_ReqOk_c3_ok (o : Req) (r7 : Bool) (r10 : Bool) : Pn (JnO Tryz.prog (sub (codeOf Tryz.prog 50) [1, 1, 1, 1, 1, 1, 0]) (st 79 [(1, V.ptr 0 0), (4, vB r7), (5, vB r10), (6, vB (o.Ttl == 0)), (7, vB (o.Other == (bs [])))] [Blk.box 36 [vI o.Op, vS o.Acct, vS o.Other, vS o.Hold, vS o.Trace, vS o.Mti, vI o.Amount, vI o.Ttl]] []) (fun (y : Bool) => (X.go, st 79 [(1, V.ptr 0 0), (4, vB r7), (5, vB r10), (6, vB y), (7, vB (o.Other == (bs [])))] [Blk.box 36 [vI o.Op, vS o.Acct, vS o.Other, vS o.Hold, vS o.Trace, vS o.Mti, vI o.Amount, vI o.Ttl]] []))) (impl_ReqOk_c3 o r7 r10) := by
  unfold impl_ReqOk_c3
  exact
   Pn.bind (fun r11 h19 =>
   Pn.ite (fun h20 =>
   Pn.bind (fun r12 h21 =>
   Pn.some (JnO.of [.call [] (E4 r11) [], bT, .call [] (E4 r12) [], .wait 2, .mask [1, 4, 5, 6, 7], .ren [0]] (p := [Fn Tryz.prog 77 [(false, E3 o.Op), (false, E3 14)] (E4 r11) [],(true || ((E4 r11).nv && nvL [])) = true,r11 = true,Fn Tryz.prog 65 [(false, E3 o.Ttl), (false, E3 0), (false, E3 9999)] (E4 r12) [],(true || ((E4 r12).nv && nvL [])) = true]) (by kernel_rfl) (cj (impl_uses_ok o.Op 14 r11 h19) (cj rfl (cj h20 (cj (impl_within_ok o.Ttl 0 9999 r12 h21) (cj1 rfl)))))))) (fun h20 =>
   Pn.some (JnO.of [.call [] (E4 r11) [], bF, .mask [1, 4, 5, 6, 7], .ren [0]] (p := [Fn Tryz.prog 77 [(false, E3 o.Op), (false, E3 14)] (E4 r11) [],(true || ((E4 r11).nv && nvL [])) = true,r11 = false]) (by kernel_rfl) (cj (impl_uses_ok o.Op 14 r11 h19) (cj rfl (cj1 h20))))))
def impl_ReqOk_c4 (o : Req) (r7 : Bool) (r10 : Bool) (r13 : Bool) : Option (Bool) :=
 (impl_uses o.Op 103).bind fun r14 =>
 if r14 = true then
 (impl_AcctIdOk o.Other).bind fun r15 =>
 some r15
 else
 some (o.Other == (bs []))
theorem impl_ReqOk_c4_ok (o : Req) (r7 : Bool) (r10 : Bool) (r13 : Bool) : Pn (JnO Tryz.prog (sub (codeOf Tryz.prog 50) [1, 1, 1, 1, 1, 1, 1, 0]) (st 79 [(1, V.ptr 0 0), (4, vB r7), (5, vB r10), (6, vB r13), (7, vB (o.Other == (bs [])))] [Blk.box 36 [vI o.Op, vS o.Acct, vS o.Other, vS o.Hold, vS o.Trace, vS o.Mti, vI o.Amount, vI o.Ttl]] []) (fun (y : Bool) => (X.go, st 79 [(4, vB r7), (5, vB r10), (6, vB r13), (7, vB y)] [] []))) (impl_ReqOk_c4 o r7 r10 r13) := by
  unfold impl_ReqOk_c4
  exact
   Pn.bind (fun r14 h23 =>
   Pn.ite (fun h24 =>
   Pn.bind (fun r15 h25 =>
   Pn.some (JnO.of [.call [] (E4 r14) [], bT, .call [] (E4 r15) [], .wait 2, .mask [4, 5, 6, 7], .ren []] (p := [Fn Tryz.prog 77 [(false, E3 o.Op), (false, E3 103)] (E4 r14) [],(true || ((E4 r14).nv && nvL [])) = true,r14 = true,Fn Tryz.prog 76 [(false, E9 o.Other)] (E4 r15) [],(true || ((E4 r15).nv && nvL [])) = true]) (by kernel_rfl) (cj (impl_uses_ok o.Op 103 r14 h23) (cj rfl (cj h24 (cj (impl_AcctIdOk_ok o.Other r15 h25) (cj1 rfl)))))))) (fun h24 =>
   Pn.some (JnO.of [.call [] (E4 r14) [], bF, .mask [4, 5, 6, 7], .ren []] (p := [Fn Tryz.prog 77 [(false, E3 o.Op), (false, E3 103)] (E4 r14) [],(true || ((E4 r14).nv && nvL [])) = true,r14 = false]) (by kernel_rfl) (cj (impl_uses_ok o.Op 103 r14 h23) (cj rfl (cj1 h24))))))
def impl_ReqOk (o : Req) : Option (Bool) :=
 (impl_opOf o.Op).bind fun r1 =>
 (impl_ReqOk_c0 o r1).bind fun r4 =>
 Lo.elim r4 (fun s1 =>
 (impl_ReqOk_c1 o).bind fun r7 =>
 (impl_ReqOk_c2 o r7).bind fun r10 =>
 (impl_ReqOk_c3 o r7 r10).bind fun r13 =>
 (impl_ReqOk_c4 o r7 r10 r13).bind fun r16 =>
 if r7 = true then
 if r10 = true then
 if r13 = true then
 some r16
 else
 some false
 else
 some false
 else
 some false) (fun s2 =>
 some false)
theorem impl_ReqOk_ok (o : Req) : Pn (fun y => Fn Tryz.prog 50 [(false, E36 o)] (E4 y) []) (impl_ReqOk o) := by
  unfold impl_ReqOk
  exact
   Pn.bind (fun r1 h1 =>
   Pn.bind (fun r4 h8 =>
   Pn.lo (fun s1 h9 =>
   Pn.bind (fun r7 h14 =>
   Pn.bind (fun r10 h18 =>
   Pn.bind (fun r13 h22 =>
   Pn.bind (fun r16 h26 =>
   Pn.ite (fun h27 =>
   Pn.ite (fun h28 =>
   Pn.ite (fun h29 =>
   Pn.some (Fn.of [.call [] (E75 r1) [], .wait 3, .mask [1, 3], .ren [0, 2, 1], .join 7 (X.go) (st 79 [(1, V.ptr 0 0)] [Blk.box 36 [vI o.Op, vS o.Acct, vS o.Other, vS o.Hold, vS o.Trace, vS o.Mti, vI o.Amount, vI o.Ttl]] []), .draw [], .wait 16, .mask [1, 4, 5, 6, 7], .ren [0], .join 5 (X.go) (st 79 [(1, V.ptr 0 0), (4, vB r7), (5, vB (o.Amount == 0)), (6, vB (o.Ttl == 0)), (7, vB (o.Other == (bs [])))] [Blk.box 36 [vI o.Op, vS o.Acct, vS o.Other, vS o.Hold, vS o.Trace, vS o.Mti, vI o.Amount, vI o.Ttl]] []), .wait 1, .mask [1, 4, 5, 6, 7], .ren [0], .join 5 (X.go) (st 79 [(1, V.ptr 0 0), (4, vB r7), (5, vB r10), (6, vB (o.Ttl == 0)), (7, vB (o.Other == (bs [])))] [Blk.box 36 [vI o.Op, vS o.Acct, vS o.Other, vS o.Hold, vS o.Trace, vS o.Mti, vI o.Amount, vI o.Ttl]] []), .wait 1, .mask [1, 4, 5, 6, 7], .ren [0], .join 5 (X.go) (st 79 [(1, V.ptr 0 0), (4, vB r7), (5, vB r10), (6, vB r13), (7, vB (o.Other == (bs [])))] [Blk.box 36 [vI o.Op, vS o.Acct, vS o.Other, vS o.Hold, vS o.Trace, vS o.Mti, vI o.Amount, vI o.Ttl]] []), .wait 1, .mask [1, 4, 5, 6, 7], .ren [0], .join 5 (X.go) (st 79 [(4, vB r7), (5, vB r10), (6, vB r13), (7, vB r16)] [] []), bT, bT, bT, bT, bT, bT] (p := [Fn Tryz.prog 47 [(false, E3 o.Op)] (E75 r1) [],(true || ((E75 r1).nv && nvL [])) = true,HT Tryz.prog (sub (codeOf Tryz.prog 50) [1, 1, 0]) (st 79 [(1, V.ptr 0 0), (3, V.ptr 1 0)] [Blk.box 36 [vI o.Op, vS o.Acct, vS o.Other, vS o.Hold, vS o.Trace, vS o.Mti, vI o.Amount, vI o.Ttl], Blk.box 75 [vS r1.mti, vS r1.code, vS r1.name, V.ow 2], Blk.row 3 (List.map E3 r1.fields) []] []) (X.go) (st 79 [(1, V.ptr 0 0)] [Blk.box 36 [vI o.Op, vS o.Acct, vS o.Other, vS o.Hold, vS o.Trace, vS o.Mti, vI o.Amount, vI o.Ttl]] []),HT Tryz.prog (sub (codeOf Tryz.prog 50) [1, 1, 1, 1, 0]) (st 79 [(1, V.ptr 0 0), (4, vB (o.Hold == (bs []))), (5, vB (o.Amount == 0)), (6, vB (o.Ttl == 0)), (7, vB (o.Other == (bs [])))] [Blk.box 36 [vI o.Op, vS o.Acct, vS o.Other, vS o.Hold, vS o.Trace, vS o.Mti, vI o.Amount, vI o.Ttl]] []) (X.go) (st 79 [(1, V.ptr 0 0), (4, vB r7), (5, vB (o.Amount == 0)), (6, vB (o.Ttl == 0)), (7, vB (o.Other == (bs [])))] [Blk.box 36 [vI o.Op, vS o.Acct, vS o.Other, vS o.Hold, vS o.Trace, vS o.Mti, vI o.Amount, vI o.Ttl]] []),HT Tryz.prog (sub (codeOf Tryz.prog 50) [1, 1, 1, 1, 1, 0]) (st 79 [(1, V.ptr 0 0), (4, vB r7), (5, vB (o.Amount == 0)), (6, vB (o.Ttl == 0)), (7, vB (o.Other == (bs [])))] [Blk.box 36 [vI o.Op, vS o.Acct, vS o.Other, vS o.Hold, vS o.Trace, vS o.Mti, vI o.Amount, vI o.Ttl]] []) (X.go) (st 79 [(1, V.ptr 0 0), (4, vB r7), (5, vB r10), (6, vB (o.Ttl == 0)), (7, vB (o.Other == (bs [])))] [Blk.box 36 [vI o.Op, vS o.Acct, vS o.Other, vS o.Hold, vS o.Trace, vS o.Mti, vI o.Amount, vI o.Ttl]] []),HT Tryz.prog (sub (codeOf Tryz.prog 50) [1, 1, 1, 1, 1, 1, 0]) (st 79 [(1, V.ptr 0 0), (4, vB r7), (5, vB r10), (6, vB (o.Ttl == 0)), (7, vB (o.Other == (bs [])))] [Blk.box 36 [vI o.Op, vS o.Acct, vS o.Other, vS o.Hold, vS o.Trace, vS o.Mti, vI o.Amount, vI o.Ttl]] []) (X.go) (st 79 [(1, V.ptr 0 0), (4, vB r7), (5, vB r10), (6, vB r13), (7, vB (o.Other == (bs [])))] [Blk.box 36 [vI o.Op, vS o.Acct, vS o.Other, vS o.Hold, vS o.Trace, vS o.Mti, vI o.Amount, vI o.Ttl]] []),HT Tryz.prog (sub (codeOf Tryz.prog 50) [1, 1, 1, 1, 1, 1, 1, 0]) (st 79 [(1, V.ptr 0 0), (4, vB r7), (5, vB r10), (6, vB r13), (7, vB (o.Other == (bs [])))] [Blk.box 36 [vI o.Op, vS o.Acct, vS o.Other, vS o.Hold, vS o.Trace, vS o.Mti, vI o.Amount, vI o.Ttl]] []) (X.go) (st 79 [(4, vB r7), (5, vB r10), (6, vB r13), (7, vB r16)] [] []),r7 = true,r7 = true,r10 = true,r10 = true,r13 = true,r13 = true]) (by kernel_rfl) (cj (impl_opOf_ok o.Op r1 h1) (cj rfl (cj ((impl_ReqOk_c0_ok o r1 r4 h8).at h9 :) (cj (impl_ReqOk_c1_ok o r7 h14) (cj (impl_ReqOk_c2_ok o r7 r10 h18) (cj (impl_ReqOk_c3_ok o r7 r10 r13 h22) (cj (impl_ReqOk_c4_ok o r7 r10 r13 r16 h26) (cj h27 (cj h27 (cj h28 (cj h28 (cj h29 (cj1 h29))))))))))))))) (fun h29 =>
   Pn.some (Fn.of [.call [] (E75 r1) [], .wait 3, .mask [1, 3], .ren [0, 2, 1], .join 7 (X.go) (st 79 [(1, V.ptr 0 0)] [Blk.box 36 [vI o.Op, vS o.Acct, vS o.Other, vS o.Hold, vS o.Trace, vS o.Mti, vI o.Amount, vI o.Ttl]] []), .draw [], .wait 16, .mask [1, 4, 5, 6, 7], .ren [0], .join 5 (X.go) (st 79 [(1, V.ptr 0 0), (4, vB r7), (5, vB (o.Amount == 0)), (6, vB (o.Ttl == 0)), (7, vB (o.Other == (bs [])))] [Blk.box 36 [vI o.Op, vS o.Acct, vS o.Other, vS o.Hold, vS o.Trace, vS o.Mti, vI o.Amount, vI o.Ttl]] []), .wait 1, .mask [1, 4, 5, 6, 7], .ren [0], .join 5 (X.go) (st 79 [(1, V.ptr 0 0), (4, vB r7), (5, vB r10), (6, vB (o.Ttl == 0)), (7, vB (o.Other == (bs [])))] [Blk.box 36 [vI o.Op, vS o.Acct, vS o.Other, vS o.Hold, vS o.Trace, vS o.Mti, vI o.Amount, vI o.Ttl]] []), .wait 1, .mask [1, 4, 5, 6, 7], .ren [0], .join 5 (X.go) (st 79 [(1, V.ptr 0 0), (4, vB r7), (5, vB r10), (6, vB r13), (7, vB (o.Other == (bs [])))] [Blk.box 36 [vI o.Op, vS o.Acct, vS o.Other, vS o.Hold, vS o.Trace, vS o.Mti, vI o.Amount, vI o.Ttl]] []), .wait 1, .mask [1, 4, 5, 6, 7], .ren [0], .join 5 (X.go) (st 79 [(4, vB r7), (5, vB r10), (6, vB r13), (7, vB r16)] [] []), bT, bT, bT, bT, bF, bF] (p := [Fn Tryz.prog 47 [(false, E3 o.Op)] (E75 r1) [],(true || ((E75 r1).nv && nvL [])) = true,HT Tryz.prog (sub (codeOf Tryz.prog 50) [1, 1, 0]) (st 79 [(1, V.ptr 0 0), (3, V.ptr 1 0)] [Blk.box 36 [vI o.Op, vS o.Acct, vS o.Other, vS o.Hold, vS o.Trace, vS o.Mti, vI o.Amount, vI o.Ttl], Blk.box 75 [vS r1.mti, vS r1.code, vS r1.name, V.ow 2], Blk.row 3 (List.map E3 r1.fields) []] []) (X.go) (st 79 [(1, V.ptr 0 0)] [Blk.box 36 [vI o.Op, vS o.Acct, vS o.Other, vS o.Hold, vS o.Trace, vS o.Mti, vI o.Amount, vI o.Ttl]] []),HT Tryz.prog (sub (codeOf Tryz.prog 50) [1, 1, 1, 1, 0]) (st 79 [(1, V.ptr 0 0), (4, vB (o.Hold == (bs []))), (5, vB (o.Amount == 0)), (6, vB (o.Ttl == 0)), (7, vB (o.Other == (bs [])))] [Blk.box 36 [vI o.Op, vS o.Acct, vS o.Other, vS o.Hold, vS o.Trace, vS o.Mti, vI o.Amount, vI o.Ttl]] []) (X.go) (st 79 [(1, V.ptr 0 0), (4, vB r7), (5, vB (o.Amount == 0)), (6, vB (o.Ttl == 0)), (7, vB (o.Other == (bs [])))] [Blk.box 36 [vI o.Op, vS o.Acct, vS o.Other, vS o.Hold, vS o.Trace, vS o.Mti, vI o.Amount, vI o.Ttl]] []),HT Tryz.prog (sub (codeOf Tryz.prog 50) [1, 1, 1, 1, 1, 0]) (st 79 [(1, V.ptr 0 0), (4, vB r7), (5, vB (o.Amount == 0)), (6, vB (o.Ttl == 0)), (7, vB (o.Other == (bs [])))] [Blk.box 36 [vI o.Op, vS o.Acct, vS o.Other, vS o.Hold, vS o.Trace, vS o.Mti, vI o.Amount, vI o.Ttl]] []) (X.go) (st 79 [(1, V.ptr 0 0), (4, vB r7), (5, vB r10), (6, vB (o.Ttl == 0)), (7, vB (o.Other == (bs [])))] [Blk.box 36 [vI o.Op, vS o.Acct, vS o.Other, vS o.Hold, vS o.Trace, vS o.Mti, vI o.Amount, vI o.Ttl]] []),HT Tryz.prog (sub (codeOf Tryz.prog 50) [1, 1, 1, 1, 1, 1, 0]) (st 79 [(1, V.ptr 0 0), (4, vB r7), (5, vB r10), (6, vB (o.Ttl == 0)), (7, vB (o.Other == (bs [])))] [Blk.box 36 [vI o.Op, vS o.Acct, vS o.Other, vS o.Hold, vS o.Trace, vS o.Mti, vI o.Amount, vI o.Ttl]] []) (X.go) (st 79 [(1, V.ptr 0 0), (4, vB r7), (5, vB r10), (6, vB r13), (7, vB (o.Other == (bs [])))] [Blk.box 36 [vI o.Op, vS o.Acct, vS o.Other, vS o.Hold, vS o.Trace, vS o.Mti, vI o.Amount, vI o.Ttl]] []),HT Tryz.prog (sub (codeOf Tryz.prog 50) [1, 1, 1, 1, 1, 1, 1, 0]) (st 79 [(1, V.ptr 0 0), (4, vB r7), (5, vB r10), (6, vB r13), (7, vB (o.Other == (bs [])))] [Blk.box 36 [vI o.Op, vS o.Acct, vS o.Other, vS o.Hold, vS o.Trace, vS o.Mti, vI o.Amount, vI o.Ttl]] []) (X.go) (st 79 [(4, vB r7), (5, vB r10), (6, vB r13), (7, vB r16)] [] []),r7 = true,r7 = true,r10 = true,r10 = true,r13 = false,r13 = false]) (by kernel_rfl) (cj (impl_opOf_ok o.Op r1 h1) (cj rfl (cj ((impl_ReqOk_c0_ok o r1 r4 h8).at h9 :) (cj (impl_ReqOk_c1_ok o r7 h14) (cj (impl_ReqOk_c2_ok o r7 r10 h18) (cj (impl_ReqOk_c3_ok o r7 r10 r13 h22) (cj (impl_ReqOk_c4_ok o r7 r10 r13 r16 h26) (cj h27 (cj h27 (cj h28 (cj h28 (cj h29 (cj1 h29)))))))))))))))) (fun h28 =>
   Pn.some (Fn.of [.call [] (E75 r1) [], .wait 3, .mask [1, 3], .ren [0, 2, 1], .join 7 (X.go) (st 79 [(1, V.ptr 0 0)] [Blk.box 36 [vI o.Op, vS o.Acct, vS o.Other, vS o.Hold, vS o.Trace, vS o.Mti, vI o.Amount, vI o.Ttl]] []), .draw [], .wait 16, .mask [1, 4, 5, 6, 7], .ren [0], .join 5 (X.go) (st 79 [(1, V.ptr 0 0), (4, vB r7), (5, vB (o.Amount == 0)), (6, vB (o.Ttl == 0)), (7, vB (o.Other == (bs [])))] [Blk.box 36 [vI o.Op, vS o.Acct, vS o.Other, vS o.Hold, vS o.Trace, vS o.Mti, vI o.Amount, vI o.Ttl]] []), .wait 1, .mask [1, 4, 5, 6, 7], .ren [0], .join 5 (X.go) (st 79 [(1, V.ptr 0 0), (4, vB r7), (5, vB r10), (6, vB (o.Ttl == 0)), (7, vB (o.Other == (bs [])))] [Blk.box 36 [vI o.Op, vS o.Acct, vS o.Other, vS o.Hold, vS o.Trace, vS o.Mti, vI o.Amount, vI o.Ttl]] []), .wait 1, .mask [1, 4, 5, 6, 7], .ren [0], .join 5 (X.go) (st 79 [(1, V.ptr 0 0), (4, vB r7), (5, vB r10), (6, vB r13), (7, vB (o.Other == (bs [])))] [Blk.box 36 [vI o.Op, vS o.Acct, vS o.Other, vS o.Hold, vS o.Trace, vS o.Mti, vI o.Amount, vI o.Ttl]] []), .wait 1, .mask [1, 4, 5, 6, 7], .ren [0], .join 5 (X.go) (st 79 [(4, vB r7), (5, vB r10), (6, vB r13), (7, vB r16)] [] []), bT, bT, bF, bF, bF, bF] (p := [Fn Tryz.prog 47 [(false, E3 o.Op)] (E75 r1) [],(true || ((E75 r1).nv && nvL [])) = true,HT Tryz.prog (sub (codeOf Tryz.prog 50) [1, 1, 0]) (st 79 [(1, V.ptr 0 0), (3, V.ptr 1 0)] [Blk.box 36 [vI o.Op, vS o.Acct, vS o.Other, vS o.Hold, vS o.Trace, vS o.Mti, vI o.Amount, vI o.Ttl], Blk.box 75 [vS r1.mti, vS r1.code, vS r1.name, V.ow 2], Blk.row 3 (List.map E3 r1.fields) []] []) (X.go) (st 79 [(1, V.ptr 0 0)] [Blk.box 36 [vI o.Op, vS o.Acct, vS o.Other, vS o.Hold, vS o.Trace, vS o.Mti, vI o.Amount, vI o.Ttl]] []),HT Tryz.prog (sub (codeOf Tryz.prog 50) [1, 1, 1, 1, 0]) (st 79 [(1, V.ptr 0 0), (4, vB (o.Hold == (bs []))), (5, vB (o.Amount == 0)), (6, vB (o.Ttl == 0)), (7, vB (o.Other == (bs [])))] [Blk.box 36 [vI o.Op, vS o.Acct, vS o.Other, vS o.Hold, vS o.Trace, vS o.Mti, vI o.Amount, vI o.Ttl]] []) (X.go) (st 79 [(1, V.ptr 0 0), (4, vB r7), (5, vB (o.Amount == 0)), (6, vB (o.Ttl == 0)), (7, vB (o.Other == (bs [])))] [Blk.box 36 [vI o.Op, vS o.Acct, vS o.Other, vS o.Hold, vS o.Trace, vS o.Mti, vI o.Amount, vI o.Ttl]] []),HT Tryz.prog (sub (codeOf Tryz.prog 50) [1, 1, 1, 1, 1, 0]) (st 79 [(1, V.ptr 0 0), (4, vB r7), (5, vB (o.Amount == 0)), (6, vB (o.Ttl == 0)), (7, vB (o.Other == (bs [])))] [Blk.box 36 [vI o.Op, vS o.Acct, vS o.Other, vS o.Hold, vS o.Trace, vS o.Mti, vI o.Amount, vI o.Ttl]] []) (X.go) (st 79 [(1, V.ptr 0 0), (4, vB r7), (5, vB r10), (6, vB (o.Ttl == 0)), (7, vB (o.Other == (bs [])))] [Blk.box 36 [vI o.Op, vS o.Acct, vS o.Other, vS o.Hold, vS o.Trace, vS o.Mti, vI o.Amount, vI o.Ttl]] []),HT Tryz.prog (sub (codeOf Tryz.prog 50) [1, 1, 1, 1, 1, 1, 0]) (st 79 [(1, V.ptr 0 0), (4, vB r7), (5, vB r10), (6, vB (o.Ttl == 0)), (7, vB (o.Other == (bs [])))] [Blk.box 36 [vI o.Op, vS o.Acct, vS o.Other, vS o.Hold, vS o.Trace, vS o.Mti, vI o.Amount, vI o.Ttl]] []) (X.go) (st 79 [(1, V.ptr 0 0), (4, vB r7), (5, vB r10), (6, vB r13), (7, vB (o.Other == (bs [])))] [Blk.box 36 [vI o.Op, vS o.Acct, vS o.Other, vS o.Hold, vS o.Trace, vS o.Mti, vI o.Amount, vI o.Ttl]] []),HT Tryz.prog (sub (codeOf Tryz.prog 50) [1, 1, 1, 1, 1, 1, 1, 0]) (st 79 [(1, V.ptr 0 0), (4, vB r7), (5, vB r10), (6, vB r13), (7, vB (o.Other == (bs [])))] [Blk.box 36 [vI o.Op, vS o.Acct, vS o.Other, vS o.Hold, vS o.Trace, vS o.Mti, vI o.Amount, vI o.Ttl]] []) (X.go) (st 79 [(4, vB r7), (5, vB r10), (6, vB r13), (7, vB r16)] [] []),r7 = true,r7 = true,r10 = false,r10 = false,false = false,false = false]) (by kernel_rfl) (cj (impl_opOf_ok o.Op r1 h1) (cj rfl (cj ((impl_ReqOk_c0_ok o r1 r4 h8).at h9 :) (cj (impl_ReqOk_c1_ok o r7 h14) (cj (impl_ReqOk_c2_ok o r7 r10 h18) (cj (impl_ReqOk_c3_ok o r7 r10 r13 h22) (cj (impl_ReqOk_c4_ok o r7 r10 r13 r16 h26) (cj h27 (cj h27 (cj h28 (cj h28 (cj rfl (cj1 rfl)))))))))))))))) (fun h27 =>
   Pn.some (Fn.of [.call [] (E75 r1) [], .wait 3, .mask [1, 3], .ren [0, 2, 1], .join 7 (X.go) (st 79 [(1, V.ptr 0 0)] [Blk.box 36 [vI o.Op, vS o.Acct, vS o.Other, vS o.Hold, vS o.Trace, vS o.Mti, vI o.Amount, vI o.Ttl]] []), .draw [], .wait 16, .mask [1, 4, 5, 6, 7], .ren [0], .join 5 (X.go) (st 79 [(1, V.ptr 0 0), (4, vB r7), (5, vB (o.Amount == 0)), (6, vB (o.Ttl == 0)), (7, vB (o.Other == (bs [])))] [Blk.box 36 [vI o.Op, vS o.Acct, vS o.Other, vS o.Hold, vS o.Trace, vS o.Mti, vI o.Amount, vI o.Ttl]] []), .wait 1, .mask [1, 4, 5, 6, 7], .ren [0], .join 5 (X.go) (st 79 [(1, V.ptr 0 0), (4, vB r7), (5, vB r10), (6, vB (o.Ttl == 0)), (7, vB (o.Other == (bs [])))] [Blk.box 36 [vI o.Op, vS o.Acct, vS o.Other, vS o.Hold, vS o.Trace, vS o.Mti, vI o.Amount, vI o.Ttl]] []), .wait 1, .mask [1, 4, 5, 6, 7], .ren [0], .join 5 (X.go) (st 79 [(1, V.ptr 0 0), (4, vB r7), (5, vB r10), (6, vB r13), (7, vB (o.Other == (bs [])))] [Blk.box 36 [vI o.Op, vS o.Acct, vS o.Other, vS o.Hold, vS o.Trace, vS o.Mti, vI o.Amount, vI o.Ttl]] []), .wait 1, .mask [1, 4, 5, 6, 7], .ren [0], .join 5 (X.go) (st 79 [(4, vB r7), (5, vB r10), (6, vB r13), (7, vB r16)] [] []), bF, bF, bF, bF, bF, bF] (p := [Fn Tryz.prog 47 [(false, E3 o.Op)] (E75 r1) [],(true || ((E75 r1).nv && nvL [])) = true,HT Tryz.prog (sub (codeOf Tryz.prog 50) [1, 1, 0]) (st 79 [(1, V.ptr 0 0), (3, V.ptr 1 0)] [Blk.box 36 [vI o.Op, vS o.Acct, vS o.Other, vS o.Hold, vS o.Trace, vS o.Mti, vI o.Amount, vI o.Ttl], Blk.box 75 [vS r1.mti, vS r1.code, vS r1.name, V.ow 2], Blk.row 3 (List.map E3 r1.fields) []] []) (X.go) (st 79 [(1, V.ptr 0 0)] [Blk.box 36 [vI o.Op, vS o.Acct, vS o.Other, vS o.Hold, vS o.Trace, vS o.Mti, vI o.Amount, vI o.Ttl]] []),HT Tryz.prog (sub (codeOf Tryz.prog 50) [1, 1, 1, 1, 0]) (st 79 [(1, V.ptr 0 0), (4, vB (o.Hold == (bs []))), (5, vB (o.Amount == 0)), (6, vB (o.Ttl == 0)), (7, vB (o.Other == (bs [])))] [Blk.box 36 [vI o.Op, vS o.Acct, vS o.Other, vS o.Hold, vS o.Trace, vS o.Mti, vI o.Amount, vI o.Ttl]] []) (X.go) (st 79 [(1, V.ptr 0 0), (4, vB r7), (5, vB (o.Amount == 0)), (6, vB (o.Ttl == 0)), (7, vB (o.Other == (bs [])))] [Blk.box 36 [vI o.Op, vS o.Acct, vS o.Other, vS o.Hold, vS o.Trace, vS o.Mti, vI o.Amount, vI o.Ttl]] []),HT Tryz.prog (sub (codeOf Tryz.prog 50) [1, 1, 1, 1, 1, 0]) (st 79 [(1, V.ptr 0 0), (4, vB r7), (5, vB (o.Amount == 0)), (6, vB (o.Ttl == 0)), (7, vB (o.Other == (bs [])))] [Blk.box 36 [vI o.Op, vS o.Acct, vS o.Other, vS o.Hold, vS o.Trace, vS o.Mti, vI o.Amount, vI o.Ttl]] []) (X.go) (st 79 [(1, V.ptr 0 0), (4, vB r7), (5, vB r10), (6, vB (o.Ttl == 0)), (7, vB (o.Other == (bs [])))] [Blk.box 36 [vI o.Op, vS o.Acct, vS o.Other, vS o.Hold, vS o.Trace, vS o.Mti, vI o.Amount, vI o.Ttl]] []),HT Tryz.prog (sub (codeOf Tryz.prog 50) [1, 1, 1, 1, 1, 1, 0]) (st 79 [(1, V.ptr 0 0), (4, vB r7), (5, vB r10), (6, vB (o.Ttl == 0)), (7, vB (o.Other == (bs [])))] [Blk.box 36 [vI o.Op, vS o.Acct, vS o.Other, vS o.Hold, vS o.Trace, vS o.Mti, vI o.Amount, vI o.Ttl]] []) (X.go) (st 79 [(1, V.ptr 0 0), (4, vB r7), (5, vB r10), (6, vB r13), (7, vB (o.Other == (bs [])))] [Blk.box 36 [vI o.Op, vS o.Acct, vS o.Other, vS o.Hold, vS o.Trace, vS o.Mti, vI o.Amount, vI o.Ttl]] []),HT Tryz.prog (sub (codeOf Tryz.prog 50) [1, 1, 1, 1, 1, 1, 1, 0]) (st 79 [(1, V.ptr 0 0), (4, vB r7), (5, vB r10), (6, vB r13), (7, vB (o.Other == (bs [])))] [Blk.box 36 [vI o.Op, vS o.Acct, vS o.Other, vS o.Hold, vS o.Trace, vS o.Mti, vI o.Amount, vI o.Ttl]] []) (X.go) (st 79 [(4, vB r7), (5, vB r10), (6, vB r13), (7, vB r16)] [] []),r7 = false,r7 = false,false = false,false = false,false = false,false = false]) (by kernel_rfl) (cj (impl_opOf_ok o.Op r1 h1) (cj rfl (cj ((impl_ReqOk_c0_ok o r1 r4 h8).at h9 :) (cj (impl_ReqOk_c1_ok o r7 h14) (cj (impl_ReqOk_c2_ok o r7 r10 h18) (cj (impl_ReqOk_c3_ok o r7 r10 r13 h22) (cj (impl_ReqOk_c4_ok o r7 r10 r13 r16 h26) (cj h27 (cj h27 (cj rfl (cj rfl (cj rfl (cj1 rfl)))))))))))))))))))) (fun s2 h10 =>
   Pn.some (Fn.of [.call [] (E75 r1) [], .wait 3, .mask [1, 3], .ren [0, 2, 1], .join 7 (X.ret) (st 79 [(2, vB false)] [] [])] (p := [Fn Tryz.prog 47 [(false, E3 o.Op)] (E75 r1) [],(true || ((E75 r1).nv && nvL [])) = true,HT Tryz.prog (sub (codeOf Tryz.prog 50) [1, 1, 0]) (st 79 [(1, V.ptr 0 0), (3, V.ptr 1 0)] [Blk.box 36 [vI o.Op, vS o.Acct, vS o.Other, vS o.Hold, vS o.Trace, vS o.Mti, vI o.Amount, vI o.Ttl], Blk.box 75 [vS r1.mti, vS r1.code, vS r1.name, V.ow 2], Blk.row 3 (List.map E3 r1.fields) []] []) (X.ret) (st 79 [(2, vB false)] [] [])]) (by kernel_rfl) (cj (impl_opOf_ok o.Op r1 h1) (cj rfl (cj1 ((impl_ReqOk_c0_ok o r1 r4 h8).at h10 :))))))))
def impl_ReqOf_l0 (o : Msg) (r5 : Int) (r6 : opRow) : List Int → ByteArray → ByteArray → ByteArray → ByteArray → Int → Int → Option (Lo (ByteArray × ByteArray × ByteArray × ByteArray × Int × Int) Unit)
  | [], v1, v2, v3, v4, v5, v6 =>
   some (.out (v1, v2, v3, v4, v5, v6))
  | x1 :: t1, v1, v2, v3, v4, v5, v6 =>
   (impl_FieldOf o x1).bind fun r7 =>
   if r7.2 = true then
   if (x1 == 2) = true then
   impl_ReqOf_l0 o r5 r6 t1 r7.1 v2 v3 v4 v5 v6
   else
   if (x1 == 4) = true then
   (impl_Narrow r7.1).bind fun r8 =>
   impl_ReqOf_l0 o r5 r6 t1 v1 v2 v3 v4 r8.1 v6
   else
   if (x1 == 11) = true then
   impl_ReqOf_l0 o r5 r6 t1 v1 v2 v3 r7.1 v5 v6
   else
   if (x1 == 14) = true then
   (impl_Narrow r7.1).bind fun r9 =>
   impl_ReqOf_l0 o r5 r6 t1 v1 v2 v3 v4 v5 r9.1
   else
   if (x1 == 38) = true then
   (impl_FieldBare r7.1).bind fun r10 =>
   impl_ReqOf_l0 o r5 r6 t1 v1 v2 r10 v4 v5 v6
   else
   if (x1 == 103) = true then
   impl_ReqOf_l0 o r5 r6 t1 v1 r7.1 v3 v4 v5 v6
   else
   impl_ReqOf_l0 o r5 r6 t1 v1 v2 v3 v4 v5 v6
   else
   some (.ret ())
theorem impl_ReqOf_l0_ok (o : Msg) (r5 : Int) (r6 : opRow) (h12 : capOk ([2, 11] ++ r6.fields).length = true) : ∀ (t1 p1 : List Int) (_ : ([2, 11] ++ r6.fields) = p1 ++ t1) (v1 : ByteArray) (v2 : ByteArray) (v3 : ByteArray) (v4 : ByteArray) (v5 : Int) (v6 : Int), Pn (LpO Tryz.prog (sub (codeOf Tryz.prog 23) [1, 1, 1, 1, 1, 1, 1, 0, 1, 0, 0]) (st 96 [(1, V.ptr 0 0), (2, V.ptr 1 0), (6, V.ptr 2 0), (41, V.ow 3), (42, vI (([2, 11] ++ r6.fields).length : Int)), (43, vI (p1.length : Int))] [Blk.box 46 [vS o.Mti, lF59 o.List], Blk.box 36 [vI 0, vE, vE, vE, vE, vE, vI 0, vI 0], Blk.box 36 [vI (i64 (1 + r5)), vS v1, vS v2, vS v3, vS v4, vS o.Mti, vI v5, vI v6], Blk.row 3 (List.map E3 ([2, 11] ++ r6.fields)) []] []) (fun (y : Lo (ByteArray × ByteArray × ByteArray × ByteArray × Int × Int) Unit) => Lo.elim y (fun s => (X.out 0, st 96 [(2, V.ptr 0 0), (6, V.ptr 1 0)] [Blk.box 36 [vI 0, vE, vE, vE, vE, vE, vI 0, vI 0], Blk.box 36 [vI (i64 (1 + r5)), vS s.1, vS s.2.1, vS s.2.2.1, vS s.2.2.2.1, vS o.Mti, vI s.2.2.2.2.1, vI s.2.2.2.2.2]] [])) (fun s => (X.ret, st 96 [(2, V.ptr 0 0), (3, vI 1)] [Blk.box 36 [vI 0, vE, vE, vE, vE, vE, vI 0, vI 0]] [])))) (impl_ReqOf_l0 o r5 r6 t1 v1 v2 v3 v4 v5 v6)
  | [], p1, h11, v1, v2, v3, v4, v5, v6 => by
    unfold impl_ReqOf_l0
    exact
     Pn.some (LpO.out [bF, .mask [2, 6], .ren [1, 2]] (p := [(decide ((p1.length : Int) < (([2, 11] ++ r6.fields).length : Int))) = false]) (by kernel_rfl) (show X.out 0 ≠ X.go from nofun) (cj1 (rng_end h11)))
  | x1 :: t1, p1, h11, v1, v2, v3, v4, v5, v6 => by
    unfold impl_ReqOf_l0
    exact
     Pn.bind (fun r7 h13 =>
     Pn.ite (fun h14 =>
     Pn.ite (fun h15 =>
     LpO.go [bT, .el (E3 x1), .call [] (V.tup [E9 r7.1, E4 r7.2]) [], bF, bT, .wait 5, .mask [1, 2, 6, 41, 42, 43], .ren [0, 1, 2, 3], .nm 43 (vI ((p1 ++ [x1]).length : Int))] (p := [(decide ((p1.length : Int) < (([2, 11] ++ r6.fields).length : Int))) = true,(0 : Int) ≤ (p1.length : Int),((p1.length : Int) : Int) < ((List.map E3 ([2, 11] ++ r6.fields)).length : Int),look [] ((p1.length : Int).toNat) = none,(List.map E3 ([2, 11] ++ r6.fields))[(p1.length : Int).toNat]? = some (E3 x1),Fn Tryz.prog 43 [(false, E46 o), (false, E3 x1)] (V.tup [E9 r7.1, E4 r7.2]) [],(true || ((V.tup [E9 r7.1, E4 r7.2]).nv && nvL [])) = true,(!r7.2) = false,(x1 == 2) = true,vI (i64 ((p1.length : Int) + 1)) = vI ((p1 ++ [x1]).length : Int)]) (by kernel_rfl) (cj (rng_lt h11) (cj (by omega) (cj (rng_ltI _ h11) (cj rfl (cj (rng_get _ h11) (cj (impl_FieldOf_ok o x1 r7 h13) (cj rfl (cj (nf h14) (cj h15 (cj1 (rng_next h11 h12))))))))))) (impl_ReqOf_l0_ok o r5 r6 h12 t1 (p1 ++ [x1]) (rng_step h11) r7.1 v2 v3 v4 v5 v6)) (fun h15 =>
     Pn.ite (fun h16 =>
     Pn.bind (fun r8 h17 =>
     LpO.go [bT, .el (E3 x1), .call [] (V.tup [E9 r7.1, E4 r7.2]) [], bF, bF, bT, .call [] (V.tup [E3 r8.1, E4 r8.2]) [], .wait 8, .mask [1, 2, 6, 41, 42, 43], .ren [0, 1, 2, 3], .nm 43 (vI ((p1 ++ [x1]).length : Int))] (p := [(decide ((p1.length : Int) < (([2, 11] ++ r6.fields).length : Int))) = true,(0 : Int) ≤ (p1.length : Int),((p1.length : Int) : Int) < ((List.map E3 ([2, 11] ++ r6.fields)).length : Int),look [] ((p1.length : Int).toNat) = none,(List.map E3 ([2, 11] ++ r6.fields))[(p1.length : Int).toNat]? = some (E3 x1),Fn Tryz.prog 43 [(false, E46 o), (false, E3 x1)] (V.tup [E9 r7.1, E4 r7.2]) [],(true || ((V.tup [E9 r7.1, E4 r7.2]).nv && nvL [])) = true,(!r7.2) = false,(x1 == 2) = false,(x1 == 4) = true,Fn Tryz.prog 48 [(false, E9 r7.1)] (V.tup [E3 r8.1, E4 r8.2]) [],(true || ((V.tup [E3 r8.1, E4 r8.2]).nv && nvL [])) = true,vI (i64 ((p1.length : Int) + 1)) = vI ((p1 ++ [x1]).length : Int)]) (by kernel_rfl) (cj (rng_lt h11) (cj (by omega) (cj (rng_ltI _ h11) (cj rfl (cj (rng_get _ h11) (cj (impl_FieldOf_ok o x1 r7 h13) (cj rfl (cj (nf h14) (cj h15 (cj h16 (cj (impl_Narrow_ok r7.1 r8 h17) (cj rfl (cj1 (rng_next h11 h12)))))))))))))) (impl_ReqOf_l0_ok o r5 r6 h12 t1 (p1 ++ [x1]) (rng_step h11) v1 v2 v3 v4 r8.1 v6))) (fun h16 =>
     Pn.ite (fun h18 =>
     LpO.go [bT, .el (E3 x1), .call [] (V.tup [E9 r7.1, E4 r7.2]) [], bF, bF, bF, bT, .wait 5, .mask [1, 2, 6, 41, 42, 43], .ren [0, 1, 2, 3], .nm 43 (vI ((p1 ++ [x1]).length : Int))] (p := [(decide ((p1.length : Int) < (([2, 11] ++ r6.fields).length : Int))) = true,(0 : Int) ≤ (p1.length : Int),((p1.length : Int) : Int) < ((List.map E3 ([2, 11] ++ r6.fields)).length : Int),look [] ((p1.length : Int).toNat) = none,(List.map E3 ([2, 11] ++ r6.fields))[(p1.length : Int).toNat]? = some (E3 x1),Fn Tryz.prog 43 [(false, E46 o), (false, E3 x1)] (V.tup [E9 r7.1, E4 r7.2]) [],(true || ((V.tup [E9 r7.1, E4 r7.2]).nv && nvL [])) = true,(!r7.2) = false,(x1 == 2) = false,(x1 == 4) = false,(x1 == 11) = true,vI (i64 ((p1.length : Int) + 1)) = vI ((p1 ++ [x1]).length : Int)]) (by kernel_rfl) (cj (rng_lt h11) (cj (by omega) (cj (rng_ltI _ h11) (cj rfl (cj (rng_get _ h11) (cj (impl_FieldOf_ok o x1 r7 h13) (cj rfl (cj (nf h14) (cj h15 (cj h16 (cj h18 (cj1 (rng_next h11 h12))))))))))))) (impl_ReqOf_l0_ok o r5 r6 h12 t1 (p1 ++ [x1]) (rng_step h11) v1 v2 v3 r7.1 v5 v6)) (fun h18 =>
     Pn.ite (fun h19 =>
     Pn.bind (fun r9 h20 =>
     LpO.go [bT, .el (E3 x1), .call [] (V.tup [E9 r7.1, E4 r7.2]) [], bF, bF, bF, bF, bT, .call [] (V.tup [E3 r9.1, E4 r9.2]) [], .wait 8, .mask [1, 2, 6, 41, 42, 43], .ren [0, 1, 2, 3], .nm 43 (vI ((p1 ++ [x1]).length : Int))] (p := [(decide ((p1.length : Int) < (([2, 11] ++ r6.fields).length : Int))) = true,(0 : Int) ≤ (p1.length : Int),((p1.length : Int) : Int) < ((List.map E3 ([2, 11] ++ r6.fields)).length : Int),look [] ((p1.length : Int).toNat) = none,(List.map E3 ([2, 11] ++ r6.fields))[(p1.length : Int).toNat]? = some (E3 x1),Fn Tryz.prog 43 [(false, E46 o), (false, E3 x1)] (V.tup [E9 r7.1, E4 r7.2]) [],(true || ((V.tup [E9 r7.1, E4 r7.2]).nv && nvL [])) = true,(!r7.2) = false,(x1 == 2) = false,(x1 == 4) = false,(x1 == 11) = false,(x1 == 14) = true,Fn Tryz.prog 48 [(false, E9 r7.1)] (V.tup [E3 r9.1, E4 r9.2]) [],(true || ((V.tup [E3 r9.1, E4 r9.2]).nv && nvL [])) = true,vI (i64 ((p1.length : Int) + 1)) = vI ((p1 ++ [x1]).length : Int)]) (by kernel_rfl) (cj (rng_lt h11) (cj (by omega) (cj (rng_ltI _ h11) (cj rfl (cj (rng_get _ h11) (cj (impl_FieldOf_ok o x1 r7 h13) (cj rfl (cj (nf h14) (cj h15 (cj h16 (cj h18 (cj h19 (cj (impl_Narrow_ok r7.1 r9 h20) (cj rfl (cj1 (rng_next h11 h12)))))))))))))))) (impl_ReqOf_l0_ok o r5 r6 h12 t1 (p1 ++ [x1]) (rng_step h11) v1 v2 v3 v4 v5 r9.1))) (fun h19 =>
     Pn.ite (fun h21 =>
     Pn.bind (fun r10 h22 =>
     LpO.go [bT, .el (E3 x1), .call [] (V.tup [E9 r7.1, E4 r7.2]) [], bF, bF, bF, bF, bF, bT, .call [] (E9 r10) [], .wait 5, .mask [1, 2, 6, 41, 42, 43], .ren [0, 1, 2, 3], .nm 43 (vI ((p1 ++ [x1]).length : Int))] (p := [(decide ((p1.length : Int) < (([2, 11] ++ r6.fields).length : Int))) = true,(0 : Int) ≤ (p1.length : Int),((p1.length : Int) : Int) < ((List.map E3 ([2, 11] ++ r6.fields)).length : Int),look [] ((p1.length : Int).toNat) = none,(List.map E3 ([2, 11] ++ r6.fields))[(p1.length : Int).toNat]? = some (E3 x1),Fn Tryz.prog 43 [(false, E46 o), (false, E3 x1)] (V.tup [E9 r7.1, E4 r7.2]) [],(true || ((V.tup [E9 r7.1, E4 r7.2]).nv && nvL [])) = true,(!r7.2) = false,(x1 == 2) = false,(x1 == 4) = false,(x1 == 11) = false,(x1 == 14) = false,(x1 == 38) = true,Fn Tryz.prog 49 [(false, E9 r7.1)] (E9 r10) [],(true || ((E9 r10).nv && nvL [])) = true,vI (i64 ((p1.length : Int) + 1)) = vI ((p1 ++ [x1]).length : Int)]) (by kernel_rfl) (cj (rng_lt h11) (cj (by omega) (cj (rng_ltI _ h11) (cj rfl (cj (rng_get _ h11) (cj (impl_FieldOf_ok o x1 r7 h13) (cj rfl (cj (nf h14) (cj h15 (cj h16 (cj h18 (cj h19 (cj h21 (cj (impl_FieldBare_ok r7.1 r10 h22) (cj rfl (cj1 (rng_next h11 h12))))))))))))))))) (impl_ReqOf_l0_ok o r5 r6 h12 t1 (p1 ++ [x1]) (rng_step h11) v1 v2 r10 v4 v5 v6))) (fun h21 =>
     Pn.ite (fun h23 =>
     LpO.go [bT, .el (E3 x1), .call [] (V.tup [E9 r7.1, E4 r7.2]) [], bF, bF, bF, bF, bF, bF, bT, .wait 5, .mask [1, 2, 6, 41, 42, 43], .ren [0, 1, 2, 3], .nm 43 (vI ((p1 ++ [x1]).length : Int))] (p := [(decide ((p1.length : Int) < (([2, 11] ++ r6.fields).length : Int))) = true,(0 : Int) ≤ (p1.length : Int),((p1.length : Int) : Int) < ((List.map E3 ([2, 11] ++ r6.fields)).length : Int),look [] ((p1.length : Int).toNat) = none,(List.map E3 ([2, 11] ++ r6.fields))[(p1.length : Int).toNat]? = some (E3 x1),Fn Tryz.prog 43 [(false, E46 o), (false, E3 x1)] (V.tup [E9 r7.1, E4 r7.2]) [],(true || ((V.tup [E9 r7.1, E4 r7.2]).nv && nvL [])) = true,(!r7.2) = false,(x1 == 2) = false,(x1 == 4) = false,(x1 == 11) = false,(x1 == 14) = false,(x1 == 38) = false,(x1 == 103) = true,vI (i64 ((p1.length : Int) + 1)) = vI ((p1 ++ [x1]).length : Int)]) (by kernel_rfl) (cj (rng_lt h11) (cj (by omega) (cj (rng_ltI _ h11) (cj rfl (cj (rng_get _ h11) (cj (impl_FieldOf_ok o x1 r7 h13) (cj rfl (cj (nf h14) (cj h15 (cj h16 (cj h18 (cj h19 (cj h21 (cj h23 (cj1 (rng_next h11 h12)))))))))))))))) (impl_ReqOf_l0_ok o r5 r6 h12 t1 (p1 ++ [x1]) (rng_step h11) v1 r7.1 v3 v4 v5 v6)) (fun h23 =>
     LpO.go [bT, .el (E3 x1), .call [] (V.tup [E9 r7.1, E4 r7.2]) [], bF, bF, bF, bF, bF, bF, bF, .wait 2, .mask [1, 2, 6, 41, 42, 43], .ren [0, 1, 2, 3], .nm 43 (vI ((p1 ++ [x1]).length : Int))] (p := [(decide ((p1.length : Int) < (([2, 11] ++ r6.fields).length : Int))) = true,(0 : Int) ≤ (p1.length : Int),((p1.length : Int) : Int) < ((List.map E3 ([2, 11] ++ r6.fields)).length : Int),look [] ((p1.length : Int).toNat) = none,(List.map E3 ([2, 11] ++ r6.fields))[(p1.length : Int).toNat]? = some (E3 x1),Fn Tryz.prog 43 [(false, E46 o), (false, E3 x1)] (V.tup [E9 r7.1, E4 r7.2]) [],(true || ((V.tup [E9 r7.1, E4 r7.2]).nv && nvL [])) = true,(!r7.2) = false,(x1 == 2) = false,(x1 == 4) = false,(x1 == 11) = false,(x1 == 14) = false,(x1 == 38) = false,(x1 == 103) = false,vI (i64 ((p1.length : Int) + 1)) = vI ((p1 ++ [x1]).length : Int)]) (by kernel_rfl) (cj (rng_lt h11) (cj (by omega) (cj (rng_ltI _ h11) (cj rfl (cj (rng_get _ h11) (cj (impl_FieldOf_ok o x1 r7 h13) (cj rfl (cj (nf h14) (cj h15 (cj h16 (cj h18 (cj h19 (cj h21 (cj h23 (cj1 (rng_next h11 h12)))))))))))))))) (impl_ReqOf_l0_ok o r5 r6 h12 t1 (p1 ++ [x1]) (rng_step h11) v1 v2 v3 v4 v5 v6)))))))) (fun h14 =>
     Pn.some (LpO.out [bT, .el (E3 x1), .call [] (V.tup [E9 r7.1, E4 r7.2]) [], bT, .wait 3, .mask [2, 3], .ren [1]] (p := [(decide ((p1.length : Int) < (([2, 11] ++ r6.fields).length : Int))) = true,(0 : Int) ≤ (p1.length : Int),((p1.length : Int) : Int) < ((List.map E3 ([2, 11] ++ r6.fields)).length : Int),look [] ((p1.length : Int).toNat) = none,(List.map E3 ([2, 11] ++ r6.fields))[(p1.length : Int).toNat]? = some (E3 x1),Fn Tryz.prog 43 [(false, E46 o), (false, E3 x1)] (V.tup [E9 r7.1, E4 r7.2]) [],(true || ((V.tup [E9 r7.1, E4 r7.2]).nv && nvL [])) = true,(!r7.2) = true]) (by kernel_rfl) (show X.ret ≠ X.go from nofun) (cj (rng_lt h11) (cj (by omega) (cj (rng_ltI _ h11) (cj rfl (cj (rng_get _ h11) (cj (impl_FieldOf_ok o x1 r7 h13) (cj rfl (cj1 (nt h14))))))))))))
def impl_ReqOf (o : Msg) : Option (Req × Int) :=
 (impl_MsgOk o).bind fun r1 =>
 if r1 = true then
 (impl_MtiKnown o.Mti).bind fun r2 =>
 if r2 = true then
 (impl_FieldOf o 3).bind fun r3 =>
 if r3.2 = true then
 (impl_opRows).bind fun r4 =>
 (slices_IndexFunc_impl_opRow_impl_ReqOf_1 r4 o.Mti o.List r3.1).bind fun r5 =>
 (impl_opOf (i64 (1 + r5))).bind fun r6 =>
 if (capOk (2 + r6.fields.length)) = true then
 if (capOk ([2, 11] ++ r6.fields).length) = true then
 (impl_ReqOf_l0 o r5 r6 ([2, 11] ++ r6.fields) ByteArray.empty ByteArray.empty ByteArray.empty ByteArray.empty 0 0).bind fun r11 =>
 Lo.elim r11 (fun s1 =>
 (impl_ReqOk (Req.mk (i64 (1 + r5)) s1.1 s1.2.1 s1.2.2.1 s1.2.2.2.1 o.Mti s1.2.2.2.2.1 s1.2.2.2.2.2)).bind fun r12 =>
 if r12 = true then
 some ((Req.mk (i64 (1 + r5)) s1.1 s1.2.1 s1.2.2.1 s1.2.2.2.1 o.Mti s1.2.2.2.2.1 s1.2.2.2.2.2), 0)
 else
 some ((Req.mk 0 ByteArray.empty ByteArray.empty ByteArray.empty ByteArray.empty ByteArray.empty 0 0), 1)) (fun s2 =>
 some ((Req.mk 0 ByteArray.empty ByteArray.empty ByteArray.empty ByteArray.empty ByteArray.empty 0 0), 1))
 else none
 else none
 else
 some ((Req.mk 0 ByteArray.empty ByteArray.empty ByteArray.empty ByteArray.empty ByteArray.empty 0 0), 1)
 else
 some ((Req.mk 0 ByteArray.empty ByteArray.empty ByteArray.empty ByteArray.empty ByteArray.empty 0 0), 2)
 else
 some ((Req.mk 0 ByteArray.empty ByteArray.empty ByteArray.empty ByteArray.empty ByteArray.empty 0 0), 1)
theorem impl_ReqOf_ok (o : Msg) : Pn (fun y => Fn Tryz.prog 23 [(false, E46 o)] (V.tup [E36 y.1, E3 y.2]) []) (impl_ReqOf o) := by
  unfold impl_ReqOf
  exact
   Pn.bind (fun r1 h1 =>
   Pn.ite (fun h2 =>
   Pn.bind (fun r2 h3 =>
   Pn.ite (fun h4 =>
   Pn.bind (fun r3 h5 =>
   Pn.ite (fun h6 =>
   Pn.bind (fun r4 h7 =>
   Pn.bind (fun r5 h8 =>
   Pn.bind (fun r6 h9 =>
   Pn.ite (fun h10 =>
   Pn.ite (fun h24 =>
   Pn.bind (fun r11 h25 =>
   Pn.lo (fun s1 h26 =>
   Pn.bind (fun r12 h28 =>
   Pn.ite (fun h29 =>
   Pn.some (Fn.of [.call [] (E4 r1) [], bF, .call [] (E4 r2) [], bF, .call [] (V.tup [E9 r3.1, E4 r3.2]) [], bF, .call [] (E73 r4) [], .call [] (E3 r5) [], .call [] (E75 r6) [], .cp (List.map E3 r6.fields), .nb 7 (.row 3 (List.map E3 ([2, 11] ++ r6.fields)) []), .wait 1, .nm 42 (vI (([2, 11] ++ r6.fields).length : Int)), .wait 2, .mask [1, 2, 6, 41, 42, 43], .ren [0, 1, 3, 7], .loop (X.out 0) (st 96 [(2, V.ptr 0 0), (6, V.ptr 1 0)] [Blk.box 36 [vI 0, vE, vE, vE, vE, vE, vI 0, vI 0], Blk.box 36 [vI (i64 (1 + r5)), vS s1.1, vS s1.2.1, vS s1.2.2.1, vS s1.2.2.2.1, vS o.Mti, vI s1.2.2.2.2.1, vI s1.2.2.2.2.2]] []), .call [] (E4 r12) [], bF] (p := [Fn Tryz.prog 41 [(false, E46 o)] (E4 r1) [],(true || ((E4 r1).nv && nvL [])) = true,(!r1) = false,Fn Tryz.prog 42 [(false, E9 o.Mti)] (E4 r2) [],(true || ((E4 r2).nv && nvL [])) = true,(!r2) = false,Fn Tryz.prog 43 [(false, E46 o), (false, E3 3)] (V.tup [E9 r3.1, E4 r3.2]) [],(true || ((V.tup [E9 r3.1, E4 r3.2]).nv && nvL [])) = true,(!r3.2) = false,Fn Tryz.prog 45 [] (E73 r4) [],(true || ((E73 r4).nv && nvL [])) = true,Fn Tryz.prog 44 [(false, E73 r4), (false, V.fn 46 [V.cp [vS o.Mti, lT59 o.List], V.cp [vS r3.1]])] (E3 r5) [],(false || ((E3 r5).nv && nvL [])) = true,Fn Tryz.prog 47 [(false, E3 (i64 (1 + r5)))] (E75 r6) [],(true || ((E75 r6).nv && nvL [])) = true,(List.map E3 r6.fields) = (List.map E3 r6.fields),(List.map E3 r6.fields).all V.flatE = true,[vI 2, vI 11].length + (List.map E3 r6.fields).length ≤ 9223372036854775807,([vI 2, vI 11].length + (List.map E3 r6.fields).length) * 8 ≤ 140737488355328,Blk.row 3 ([vI 2, vI 11] ++ (List.map E3 r6.fields)) [] = Blk.row 3 (List.map E3 ([2, 11] ++ r6.fields)) [],vI ((List.map E3 ([2, 11] ++ r6.fields)).length : Int) = vI (([2, 11] ++ r6.fields).length : Int),Loop Tryz.prog (sub (codeOf Tryz.prog 23) [1, 1, 1, 1, 1, 1, 1, 0, 1, 0, 0]) (st 96 [(1, V.ptr 0 0), (2, V.ptr 1 0), (6, V.ptr 2 0), (41, V.ow 3), (42, vI (([2, 11] ++ r6.fields).length : Int)), (43, vI 0)] [Blk.box 46 [vS o.Mti, lF59 o.List], Blk.box 36 [vI 0, vE, vE, vE, vE, vE, vI 0, vI 0], Blk.box 36 [vI (i64 (1 + r5)), vE, vE, vE, vE, vS o.Mti, vI 0, vI 0], Blk.row 3 (List.map E3 ([2, 11] ++ r6.fields)) []] []) (X.out 0) (st 96 [(2, V.ptr 0 0), (6, V.ptr 1 0)] [Blk.box 36 [vI 0, vE, vE, vE, vE, vE, vI 0, vI 0], Blk.box 36 [vI (i64 (1 + r5)), vS s1.1, vS s1.2.1, vS s1.2.2.1, vS s1.2.2.2.1, vS o.Mti, vI s1.2.2.2.2.1, vI s1.2.2.2.2.2]] []),Fn Tryz.prog 50 [(false, E36 (Req.mk (i64 (1 + r5)) s1.1 s1.2.1 s1.2.2.1 s1.2.2.2.1 o.Mti s1.2.2.2.2.1 s1.2.2.2.2.2))] (E4 r12) [],(true || ((E4 r12).nv && nvL [])) = true,(!r12) = false]) (by kernel_rfl) (cj (impl_MsgOk_ok o r1 h1) (cj rfl (cj (nf h2) (cj (impl_MtiKnown_ok o.Mti r2 h3) (cj rfl (cj (nf h4) (cj (impl_FieldOf_ok o 3 r3 h5) (cj rfl (cj (nf h6) (cj (impl_opRows_ok  r4 h7) (cj rfl (cj (slices_IndexFunc_impl_opRow_impl_ReqOf_1_ok r4 o.Mti o.List r3.1 r5 h8) (cj (by simp [V.nv, nvL, nvL_all, nv_E3]) (cj (impl_opOf_ok (i64 (1 + r5)) r6 h9) (cj rfl (cj rfl (cj (flat_map (fun _ => rfl) _) (cj (cap1 (capN (by simp) h10)) (cj (cap2 (capN (by simp) h10) (by decide)) (cj (nb_app E3 [2, 11] r6.fields) (cj (len_nm _ _) (cj (by have q := ((impl_ReqOf_l0_ok o r5 r6 h24 ([2, 11] ++ r6.fields) [] rfl ByteArray.empty ByteArray.empty ByteArray.empty ByteArray.empty 0 0 r11 h25).at h26 :); have e0 : (([] : List Int).length : Int) = 0 := rfl; rw [e0] at q; exact q) (cj (impl_ReqOk_ok (Req.mk (i64 (1 + r5)) s1.1 s1.2.1 s1.2.2.1 s1.2.2.2.1 o.Mti s1.2.2.2.2.1 s1.2.2.2.2.2) r12 h28) (cj rfl (cj1 (nf h29)))))))))))))))))))))))))))) (fun h29 =>
   Pn.some (Fn.of [.call [] (E4 r1) [], bF, .call [] (E4 r2) [], bF, .call [] (V.tup [E9 r3.1, E4 r3.2]) [], bF, .call [] (E73 r4) [], .call [] (E3 r5) [], .call [] (E75 r6) [], .cp (List.map E3 r6.fields), .nb 7 (.row 3 (List.map E3 ([2, 11] ++ r6.fields)) []), .wait 1, .nm 42 (vI (([2, 11] ++ r6.fields).length : Int)), .wait 2, .mask [1, 2, 6, 41, 42, 43], .ren [0, 1, 3, 7], .loop (X.out 0) (st 96 [(2, V.ptr 0 0), (6, V.ptr 1 0)] [Blk.box 36 [vI 0, vE, vE, vE, vE, vE, vI 0, vI 0], Blk.box 36 [vI (i64 (1 + r5)), vS s1.1, vS s1.2.1, vS s1.2.2.1, vS s1.2.2.2.1, vS o.Mti, vI s1.2.2.2.2.1, vI s1.2.2.2.2.2]] []), .call [] (E4 r12) [], bT] (p := [Fn Tryz.prog 41 [(false, E46 o)] (E4 r1) [],(true || ((E4 r1).nv && nvL [])) = true,(!r1) = false,Fn Tryz.prog 42 [(false, E9 o.Mti)] (E4 r2) [],(true || ((E4 r2).nv && nvL [])) = true,(!r2) = false,Fn Tryz.prog 43 [(false, E46 o), (false, E3 3)] (V.tup [E9 r3.1, E4 r3.2]) [],(true || ((V.tup [E9 r3.1, E4 r3.2]).nv && nvL [])) = true,(!r3.2) = false,Fn Tryz.prog 45 [] (E73 r4) [],(true || ((E73 r4).nv && nvL [])) = true,Fn Tryz.prog 44 [(false, E73 r4), (false, V.fn 46 [V.cp [vS o.Mti, lT59 o.List], V.cp [vS r3.1]])] (E3 r5) [],(false || ((E3 r5).nv && nvL [])) = true,Fn Tryz.prog 47 [(false, E3 (i64 (1 + r5)))] (E75 r6) [],(true || ((E75 r6).nv && nvL [])) = true,(List.map E3 r6.fields) = (List.map E3 r6.fields),(List.map E3 r6.fields).all V.flatE = true,[vI 2, vI 11].length + (List.map E3 r6.fields).length ≤ 9223372036854775807,([vI 2, vI 11].length + (List.map E3 r6.fields).length) * 8 ≤ 140737488355328,Blk.row 3 ([vI 2, vI 11] ++ (List.map E3 r6.fields)) [] = Blk.row 3 (List.map E3 ([2, 11] ++ r6.fields)) [],vI ((List.map E3 ([2, 11] ++ r6.fields)).length : Int) = vI (([2, 11] ++ r6.fields).length : Int),Loop Tryz.prog (sub (codeOf Tryz.prog 23) [1, 1, 1, 1, 1, 1, 1, 0, 1, 0, 0]) (st 96 [(1, V.ptr 0 0), (2, V.ptr 1 0), (6, V.ptr 2 0), (41, V.ow 3), (42, vI (([2, 11] ++ r6.fields).length : Int)), (43, vI 0)] [Blk.box 46 [vS o.Mti, lF59 o.List], Blk.box 36 [vI 0, vE, vE, vE, vE, vE, vI 0, vI 0], Blk.box 36 [vI (i64 (1 + r5)), vE, vE, vE, vE, vS o.Mti, vI 0, vI 0], Blk.row 3 (List.map E3 ([2, 11] ++ r6.fields)) []] []) (X.out 0) (st 96 [(2, V.ptr 0 0), (6, V.ptr 1 0)] [Blk.box 36 [vI 0, vE, vE, vE, vE, vE, vI 0, vI 0], Blk.box 36 [vI (i64 (1 + r5)), vS s1.1, vS s1.2.1, vS s1.2.2.1, vS s1.2.2.2.1, vS o.Mti, vI s1.2.2.2.2.1, vI s1.2.2.2.2.2]] []),Fn Tryz.prog 50 [(false, E36 (Req.mk (i64 (1 + r5)) s1.1 s1.2.1 s1.2.2.1 s1.2.2.2.1 o.Mti s1.2.2.2.2.1 s1.2.2.2.2.2))] (E4 r12) [],(true || ((E4 r12).nv && nvL [])) = true,(!r12) = true]) (by kernel_rfl) (cj (impl_MsgOk_ok o r1 h1) (cj rfl (cj (nf h2) (cj (impl_MtiKnown_ok o.Mti r2 h3) (cj rfl (cj (nf h4) (cj (impl_FieldOf_ok o 3 r3 h5) (cj rfl (cj (nf h6) (cj (impl_opRows_ok  r4 h7) (cj rfl (cj (slices_IndexFunc_impl_opRow_impl_ReqOf_1_ok r4 o.Mti o.List r3.1 r5 h8) (cj (by simp [V.nv, nvL, nvL_all, nv_E3]) (cj (impl_opOf_ok (i64 (1 + r5)) r6 h9) (cj rfl (cj rfl (cj (flat_map (fun _ => rfl) _) (cj (cap1 (capN (by simp) h10)) (cj (cap2 (capN (by simp) h10) (by decide)) (cj (nb_app E3 [2, 11] r6.fields) (cj (len_nm _ _) (cj (by have q := ((impl_ReqOf_l0_ok o r5 r6 h24 ([2, 11] ++ r6.fields) [] rfl ByteArray.empty ByteArray.empty ByteArray.empty ByteArray.empty 0 0 r11 h25).at h26 :); have e0 : (([] : List Int).length : Int) = 0 := rfl; rw [e0] at q; exact q) (cj (impl_ReqOk_ok (Req.mk (i64 (1 + r5)) s1.1 s1.2.1 s1.2.2.1 s1.2.2.2.1 o.Mti s1.2.2.2.2.1 s1.2.2.2.2.2) r12 h28) (cj rfl (cj1 (nt h29)))))))))))))))))))))))))))))) (fun s2 h27 =>
   Pn.some (Fn.of [.call [] (E4 r1) [], bF, .call [] (E4 r2) [], bF, .call [] (V.tup [E9 r3.1, E4 r3.2]) [], bF, .call [] (E73 r4) [], .call [] (E3 r5) [], .call [] (E75 r6) [], .cp (List.map E3 r6.fields), .nb 7 (.row 3 (List.map E3 ([2, 11] ++ r6.fields)) []), .wait 1, .nm 42 (vI (([2, 11] ++ r6.fields).length : Int)), .wait 2, .mask [1, 2, 6, 41, 42, 43], .ren [0, 1, 3, 7], .loop (X.ret) (st 96 [(2, V.ptr 0 0), (3, vI 1)] [Blk.box 36 [vI 0, vE, vE, vE, vE, vE, vI 0, vI 0]] [])] (p := [Fn Tryz.prog 41 [(false, E46 o)] (E4 r1) [],(true || ((E4 r1).nv && nvL [])) = true,(!r1) = false,Fn Tryz.prog 42 [(false, E9 o.Mti)] (E4 r2) [],(true || ((E4 r2).nv && nvL [])) = true,(!r2) = false,Fn Tryz.prog 43 [(false, E46 o), (false, E3 3)] (V.tup [E9 r3.1, E4 r3.2]) [],(true || ((V.tup [E9 r3.1, E4 r3.2]).nv && nvL [])) = true,(!r3.2) = false,Fn Tryz.prog 45 [] (E73 r4) [],(true || ((E73 r4).nv && nvL [])) = true,Fn Tryz.prog 44 [(false, E73 r4), (false, V.fn 46 [V.cp [vS o.Mti, lT59 o.List], V.cp [vS r3.1]])] (E3 r5) [],(false || ((E3 r5).nv && nvL [])) = true,Fn Tryz.prog 47 [(false, E3 (i64 (1 + r5)))] (E75 r6) [],(true || ((E75 r6).nv && nvL [])) = true,(List.map E3 r6.fields) = (List.map E3 r6.fields),(List.map E3 r6.fields).all V.flatE = true,[vI 2, vI 11].length + (List.map E3 r6.fields).length ≤ 9223372036854775807,([vI 2, vI 11].length + (List.map E3 r6.fields).length) * 8 ≤ 140737488355328,Blk.row 3 ([vI 2, vI 11] ++ (List.map E3 r6.fields)) [] = Blk.row 3 (List.map E3 ([2, 11] ++ r6.fields)) [],vI ((List.map E3 ([2, 11] ++ r6.fields)).length : Int) = vI (([2, 11] ++ r6.fields).length : Int),Loop Tryz.prog (sub (codeOf Tryz.prog 23) [1, 1, 1, 1, 1, 1, 1, 0, 1, 0, 0]) (st 96 [(1, V.ptr 0 0), (2, V.ptr 1 0), (6, V.ptr 2 0), (41, V.ow 3), (42, vI (([2, 11] ++ r6.fields).length : Int)), (43, vI 0)] [Blk.box 46 [vS o.Mti, lF59 o.List], Blk.box 36 [vI 0, vE, vE, vE, vE, vE, vI 0, vI 0], Blk.box 36 [vI (i64 (1 + r5)), vE, vE, vE, vE, vS o.Mti, vI 0, vI 0], Blk.row 3 (List.map E3 ([2, 11] ++ r6.fields)) []] []) (X.ret) (st 96 [(2, V.ptr 0 0), (3, vI 1)] [Blk.box 36 [vI 0, vE, vE, vE, vE, vE, vI 0, vI 0]] [])]) (by kernel_rfl) (cj (impl_MsgOk_ok o r1 h1) (cj rfl (cj (nf h2) (cj (impl_MtiKnown_ok o.Mti r2 h3) (cj rfl (cj (nf h4) (cj (impl_FieldOf_ok o 3 r3 h5) (cj rfl (cj (nf h6) (cj (impl_opRows_ok  r4 h7) (cj rfl (cj (slices_IndexFunc_impl_opRow_impl_ReqOf_1_ok r4 o.Mti o.List r3.1 r5 h8) (cj (by simp [V.nv, nvL, nvL_all, nv_E3]) (cj (impl_opOf_ok (i64 (1 + r5)) r6 h9) (cj rfl (cj rfl (cj (flat_map (fun _ => rfl) _) (cj (cap1 (capN (by simp) h10)) (cj (cap2 (capN (by simp) h10) (by decide)) (cj (nb_app E3 [2, 11] r6.fields) (cj (len_nm _ _) (cj1 (by have q := ((impl_ReqOf_l0_ok o r5 r6 h24 ([2, 11] ++ r6.fields) [] rfl ByteArray.empty ByteArray.empty ByteArray.empty ByteArray.empty 0 0 r11 h25).at h27 :); have e0 : (([] : List Int).length : Int) = 0 := rfl; rw [e0] at q; exact q))))))))))))))))))))))))))) (fun h24 =>
   Pn.none)) (fun h10 =>
   Pn.none))))) (fun h6 =>
   Pn.some (Fn.of [.call [] (E4 r1) [], bF, .call [] (E4 r2) [], bF, .call [] (V.tup [E9 r3.1, E4 r3.2]) [], bT] (p := [Fn Tryz.prog 41 [(false, E46 o)] (E4 r1) [],(true || ((E4 r1).nv && nvL [])) = true,(!r1) = false,Fn Tryz.prog 42 [(false, E9 o.Mti)] (E4 r2) [],(true || ((E4 r2).nv && nvL [])) = true,(!r2) = false,Fn Tryz.prog 43 [(false, E46 o), (false, E3 3)] (V.tup [E9 r3.1, E4 r3.2]) [],(true || ((V.tup [E9 r3.1, E4 r3.2]).nv && nvL [])) = true,(!r3.2) = true]) (by kernel_rfl) (cj (impl_MsgOk_ok o r1 h1) (cj rfl (cj (nf h2) (cj (impl_MtiKnown_ok o.Mti r2 h3) (cj rfl (cj (nf h4) (cj (impl_FieldOf_ok o 3 r3 h5) (cj rfl (cj1 (nt h6)))))))))))))) (fun h4 =>
   Pn.some (Fn.of [.call [] (E4 r1) [], bF, .call [] (E4 r2) [], bT] (p := [Fn Tryz.prog 41 [(false, E46 o)] (E4 r1) [],(true || ((E4 r1).nv && nvL [])) = true,(!r1) = false,Fn Tryz.prog 42 [(false, E9 o.Mti)] (E4 r2) [],(true || ((E4 r2).nv && nvL [])) = true,(!r2) = true]) (by kernel_rfl) (cj (impl_MsgOk_ok o r1 h1) (cj rfl (cj (nf h2) (cj (impl_MtiKnown_ok o.Mti r2 h3) (cj rfl (cj1 (nt h4))))))))))) (fun h2 =>
   Pn.some (Fn.of [.call [] (E4 r1) [], bT] (p := [Fn Tryz.prog 41 [(false, E46 o)] (E4 r1) [],(true || ((E4 r1).nv && nvL [])) = true,(!r1) = true]) (by kernel_rfl) (cj (impl_MsgOk_ok o r1 h1) (cj rfl (cj1 (nt h2)))))))
def impl_requestOf (data : List Int) : Option (Req × Bool) :=
 (impl_Parse data).bind fun r1 =>
 (impl_ReqOf r1.1).bind fun r2 =>
 if (r1.2 == 0) = true then
 some (r2.1, (r2.2 == 0))
 else
 some (r2.1, false)
theorem impl_requestOf_ok (data : List Int) : Pn (fun y => Fn Tryz.prog 14 [(false, E31 data)] (V.tup [E36 y.1, E4 y.2]) []) (impl_requestOf data) := by
  unfold impl_requestOf
  exact
   Pn.bind (fun r1 h1 =>
   Pn.bind (fun r2 h2 =>
   Pn.ite (fun h3 =>
   Pn.some (Fn.of [.call [] (V.tup [E46 r1.1, E3 r1.2]) [], .call [] (V.tup [E36 r2.1, E3 r2.2]) [], bT, bT, bT] (p := [Fn Tryz.prog 22 [(false, E31 data)] (V.tup [E46 r1.1, E3 r1.2]) [],(true || ((V.tup [E46 r1.1, E3 r1.2]).nv && nvL [])) = true,Fn Tryz.prog 23 [(false, E46 r1.1)] (V.tup [E36 r2.1, E3 r2.2]) [],(false || ((V.tup [E36 r2.1, E3 r2.2]).nv && nvL [])) = true,(r1.2 == 0) = true,(r1.2 == 0) = true,(r1.2 == 0) = true]) (by kernel_rfl) (cj (impl_Parse_ok data r1 h1) (cj rfl (cj (impl_ReqOf_ok r1.1 r2 h2) (cj (by simp [V.nv, nvL, nvL_all, nv_E3, nv_E9, nv_E36]) (cj h3 (cj h3 (cj1 h3))))))))) (fun h3 =>
   Pn.some (Fn.of [.call [] (V.tup [E46 r1.1, E3 r1.2]) [], .call [] (V.tup [E36 r2.1, E3 r2.2]) [], bF, bF, bF] (p := [Fn Tryz.prog 22 [(false, E31 data)] (V.tup [E46 r1.1, E3 r1.2]) [],(true || ((V.tup [E46 r1.1, E3 r1.2]).nv && nvL [])) = true,Fn Tryz.prog 23 [(false, E46 r1.1)] (V.tup [E36 r2.1, E3 r2.2]) [],(false || ((V.tup [E36 r2.1, E3 r2.2]).nv && nvL [])) = true,(r1.2 == 0) = false,(r1.2 == 0) = false,(r1.2 == 0) = false]) (by kernel_rfl) (cj (impl_Parse_ok data r1 h1) (cj rfl (cj (impl_ReqOf_ok r1.1 r2 h2) (cj (by simp [V.nv, nvL, nvL_all, nv_E3, nv_E9, nv_E36]) (cj h3 (cj h3 (cj1 h3)))))))))))
def impl_Fresh_s3 (r1 : Req × Bool) (l : List Done) (p1 : List Done) (x1 : Done) (v2 : List (ByteArray × ByteArray × ByteArray)) (v1 : List Done) : St := st 56 [(3, V.ow 0), (4, V.mp 1), (6, V.ptr 2 0), (7, V.ptr 3 0), (8, vB r1.2), (9, V.ptr 4 0), (12, lF34 l), (13, vI (l.length : Int)), (14, vI (p1.length : Int)), (15, vB (decide ((p1.length : Int) < (l.length : Int)))), (16, V.cp [vI x1.At, lT5 x1.Data, lT5 x1.Reply]), (17, V.agg [vI x1.At, lF5 x1.Data, lF5 x1.Reply]), (18, V.tup [V.agg [vI r1.1.Op, vS r1.1.Acct, vS r1.1.Other, vS r1.1.Hold, vS r1.1.Trace, vS r1.1.Mti, vI r1.1.Amount, vI r1.1.Ttl], vB r1.2]), (19, V.ptr 2 1), (20, lF5 x1.Data), (21, V.tup [V.agg [vI r1.1.Op, vS r1.1.Acct, vS r1.1.Other, vS r1.1.Hold, vS r1.1.Trace, vS r1.1.Mti, vI r1.1.Amount, vI r1.1.Ttl], vB r1.2]), (22, V.agg [vI r1.1.Op, vS r1.1.Acct, vS r1.1.Other, vS r1.1.Hold, vS r1.1.Trace, vS r1.1.Mti, vI r1.1.Amount, vI r1.1.Ttl]), (23, vB r1.2), (24, V.ptr 3 1), (25, vS r1.1.Acct), (26, V.ptr 3 4), (27, vS r1.1.Trace), (28, V.ptr 3 5), (29, vS r1.1.Mti), (30, V.agg [vS r1.1.Acct, vS r1.1.Trace, vS r1.1.Mti]), (31, vB r1.2), (32, vB r1.2), (33, V.mp 1), (34, V.agg [vS r1.1.Acct, vS r1.1.Trace, vS r1.1.Mti]), (35, vB (v2.contains (r1.1.Acct, r1.1.Trace, r1.1.Mti))), (36, vB (!(v2.contains (r1.1.Acct, r1.1.Trace, r1.1.Mti)))), (37, vB (!(v2.contains (r1.1.Acct, r1.1.Trace, r1.1.Mti)))), (38, V.mp 1), (39, V.agg [vS r1.1.Acct, vS r1.1.Trace, vS r1.1.Mti]), (41, V.ptr 2 0), (42, vI x1.At), (43, V.nl 5), (44, V.ptr 2 1), (45, lF5 x1.Data), (47, V.nl 5), (48, V.ptr 2 2), (49, lF5 x1.Reply), (51, V.agg [vI x1.At, V.un, V.un]), (53, V.ow 0)] [Blk.row 34 (List.map E34 (v1 ++ [x1])) [], Blk.mset (addK v2 (r1.1.Acct, r1.1.Trace, r1.1.Mti)), Blk.box 34 [vI x1.At, lF5 x1.Data, lF5 x1.Reply], Blk.box 36 [vI r1.1.Op, vS r1.1.Acct, vS r1.1.Other, vS r1.1.Hold, vS r1.1.Trace, vS r1.1.Mti, vI r1.1.Amount, vI r1.1.Ttl], Blk.box 41 [vS r1.1.Acct, vS r1.1.Trace, vS r1.1.Mti]] []
def impl_Fresh_l0 (l : List Done) : List Done → (List Done) → (List (ByteArray × ByteArray × ByteArray)) → Option ((List Done))
  | [], v1, v2 =>
   some v1
  | x1 :: t1, v1, v2 =>
   (impl_requestOf x1.Data).bind fun r1 =>
   if r1.2 = true then
   if (v2.contains (r1.1.Acct, r1.1.Trace, r1.1.Mti)) = true then
   impl_Fresh_l0 l t1 v1 v2
   else
   if (capOk (0 + x1.Data.length)) = true then
   if (capOk (0 + x1.Reply.length)) = true then
   if (capOk (v1.length + 1)) = true then
   impl_Fresh_l0 l t1 (v1 ++ [x1]) (addK v2 (r1.1.Acct, r1.1.Trace, r1.1.Mti))
   else none
   else none
   else none
   else
   impl_Fresh_l0 l t1 v1 v2
theorem impl_Fresh_l0_ok (l : List Done) (h2 : capOk l.length = true) : ∀ (t1 p1 : List Done) (_ : l = p1 ++ t1) (v1 : List Done) (v2 : List (ByteArray × ByteArray × ByteArray)), Pn (LpO Tryz.prog (sub (codeOf Tryz.prog 7) [1, 1, 1, 0, 1, 0, 0]) (st 56 [(3, V.ow 0), (4, V.mp 1), (12, lF34 l), (13, vI (l.length : Int)), (14, vI (p1.length : Int))] [Blk.row 34 (List.map E34 v1) [], Blk.mset v2] []) (fun (y : (List Done)) => (X.out 0, st 56 [(3, V.ow 0)] [Blk.row 34 (List.map E34 y) []] []))) (impl_Fresh_l0 l t1 v1 v2)
  | [], p1, h1, v1, v2 => by
    unfold impl_Fresh_l0
    exact
     Pn.some (LpO.out [bF, .mask [3], .ren [0]] (p := [(decide ((p1.length : Int) < (l.length : Int))) = false]) (by kernel_rfl) (show X.out 0 ≠ X.go from nofun) (cj1 (rng_end h1)))
  | x1 :: t1, p1, h1, v1, v2 => by
    unfold impl_Fresh_l0
    exact
     Pn.bind (fun r1 h3 =>
     Pn.ite (fun h4 =>
     Pn.ite (fun h5 =>
     LpO.go [bT, .el (E34 x1), .call [] (V.tup [E36 r1.1, E4 r1.2]) [], bT, bT, bT, bT, bT, bF, .wait 2, .mask [3, 4, 12, 13, 14], .ren [0, 1], .nm 14 (vI ((p1 ++ [x1]).length : Int))] (p := [(decide ((p1.length : Int) < (l.length : Int))) = true,(0 : Int) ≤ (p1.length : Int),(List.map E34 l)[(p1.length : Int).toNat]? = some (E34 x1),Fn Tryz.prog 14 [(false, E31 x1.Data)] (V.tup [E36 r1.1, E4 r1.2]) [],(true || ((V.tup [E36 r1.1, E4 r1.2]).nv && nvL [])) = true,r1.2 = true,r1.2 = true,r1.2 = true,r1.2 = true,r1.2 = true,(!(v2.contains (r1.1.Acct, r1.1.Trace, r1.1.Mti))) = false,vI (i64 ((p1.length : Int) + 1)) = vI ((p1 ++ [x1]).length : Int)]) (by kernel_rfl) (cj (rng_lt h1) (cj (by omega) (cj (rng_get _ h1) (cj (impl_requestOf_ok x1.Data r1 h3) (cj rfl (cj h4 (cj h4 (cj h4 (cj h4 (cj h4 (cj (nf h5) (cj1 (rng_next h1 h2))))))))))))) (impl_Fresh_l0_ok l h2 t1 (p1 ++ [x1]) (rng_step h1) v1 v2)) (fun h5 =>
     Pn.ite (fun h6 =>
     Pn.ite (fun h7 =>
     Pn.ite (fun h8 =>
     LpO.go [bT, .el (E34 x1), .call [] (V.tup [E36 r1.1, E4 r1.2]) [], bT, bT, bT, bT, bT, bT, .draw [13], .loop .go ((impl_Fresh_s3 r1 l p1 x1 v2 v1)), .mv, .loop .go ((impl_Fresh_s3 r1 l p1 x1 v2 v1)), .cp (List.map E5 x1.Data), .nb 5 (.row 5 (List.map E5 x1.Data) []), .mv, .cp (List.map E5 x1.Reply), .nb 6 (.row 5 (List.map E5 x1.Reply) []), .wait 2, .shut 7, .mv, .nb 8 (.row 34 (List.map E34 (v1 ++ [x1])) []), .wait 1, .ren [8, 1, 2, 3, 4], .mv, .cp (List.map E5 x1.Data), .nb 5 (.row 5 (List.map E5 x1.Data) []), .cp (List.map E5 x1.Reply), .nb 6 (.row 5 (List.map E5 x1.Reply) []), .wait 2, .shut 7, .mv, .nb 8 (.row 34 (List.map E34 (v1 ++ [x1])) []), .wait 1, .ren [8, 1, 2, 3, 4], .ren [0, 1, 2, 3, 4], .mv, .mv, .cp (List.map E5 x1.Data), .nb 5 (.row 5 (List.map E5 x1.Data) []), .cp (List.map E5 x1.Reply), .nb 6 (.row 5 (List.map E5 x1.Reply) []), .wait 2, .shut 7, .mv, .nb 8 (.row 34 (List.map E34 (v1 ++ [x1])) []), .wait 1, .ren [8, 1, 2, 3, 4], .wait 3, .mask [3, 4, 12, 13, 14], .ren [0, 1], .nm 14 (vI ((p1 ++ [x1]).length : Int))] (p := [(decide ((p1.length : Int) < (l.length : Int))) = true,(0 : Int) ≤ (p1.length : Int),(List.map E34 l)[(p1.length : Int).toNat]? = some (E34 x1),Fn Tryz.prog 14 [(false, E31 x1.Data)] (V.tup [E36 r1.1, E4 r1.2]) [],(true || ((V.tup [E36 r1.1, E4 r1.2]).nv && nvL [])) = true,r1.2 = true,r1.2 = true,r1.2 = true,r1.2 = true,r1.2 = true,(!(v2.contains (r1.1.Acct, r1.1.Trace, r1.1.Mti))) = true,(List.map E5 x1.Data).map V.vw = (List.map E5 x1.Data),([] : List V).length + (List.map E5 x1.Data).length ≤ 9223372036854775807,(([] : List V).length + (List.map E5 x1.Data).length) * 1 ≤ 140737488355328,Blk.row 5 (([] : List V) ++ (List.map E5 x1.Data)) [] = Blk.row 5 (List.map E5 x1.Data) [],(List.map E5 x1.Reply).map V.vw = (List.map E5 x1.Reply),([] : List V).length + (List.map E5 x1.Reply).length ≤ 9223372036854775807,(([] : List V).length + (List.map E5 x1.Reply).length) * 1 ≤ 140737488355328,Blk.row 5 (([] : List V) ++ (List.map E5 x1.Reply)) [] = Blk.row 5 (List.map E5 x1.Reply) [],(List.map E34 v1).length + [V.agg [vI x1.At, lT5 x1.Data, lT5 x1.Reply]].length ≤ 9223372036854775807,((List.map E34 v1).length + [V.agg [vI x1.At, lT5 x1.Data, lT5 x1.Reply]].length) * 56 ≤ 140737488355328,Blk.row 34 ((List.map E34 v1) ++ [V.agg [vI x1.At, lT5 x1.Data, lT5 x1.Reply]]) [] = Blk.row 34 (List.map E34 (v1 ++ [x1])) [],(impl_Fresh_s3 r1 l p1 x1 v2 v1) = (impl_Fresh_s3 r1 l p1 x1 v2 v1),(List.map E5 x1.Data).map V.vw = (List.map E5 x1.Data),([] : List V).length + (List.map E5 x1.Data).length ≤ 9223372036854775807,(([] : List V).length + (List.map E5 x1.Data).length) * 1 ≤ 140737488355328,Blk.row 5 (([] : List V) ++ (List.map E5 x1.Data)) [] = Blk.row 5 (List.map E5 x1.Data) [],(List.map E5 x1.Reply).map V.vw = (List.map E5 x1.Reply),([] : List V).length + (List.map E5 x1.Reply).length ≤ 9223372036854775807,(([] : List V).length + (List.map E5 x1.Reply).length) * 1 ≤ 140737488355328,Blk.row 5 (([] : List V) ++ (List.map E5 x1.Reply)) [] = Blk.row 5 (List.map E5 x1.Reply) [],(List.map E34 v1).length + [V.agg [vI x1.At, lT5 x1.Data, lT5 x1.Reply]].length ≤ 9223372036854775807,((List.map E34 v1).length + [V.agg [vI x1.At, lT5 x1.Data, lT5 x1.Reply]].length) * 56 ≤ 140737488355328,Blk.row 34 ((List.map E34 v1) ++ [V.agg [vI x1.At, lT5 x1.Data, lT5 x1.Reply]]) [] = Blk.row 34 (List.map E34 (v1 ++ [x1])) [],(impl_Fresh_s3 r1 l p1 x1 v2 v1) = (impl_Fresh_s3 r1 l p1 x1 v2 v1),(impl_Fresh_s3 r1 l p1 x1 v2 v1) = (impl_Fresh_s3 r1 l p1 x1 v2 v1),(List.map E5 x1.Data).map V.vw = (List.map E5 x1.Data),([] : List V).length + (List.map E5 x1.Data).length ≤ 9223372036854775807,(([] : List V).length + (List.map E5 x1.Data).length) * 1 ≤ 140737488355328,Blk.row 5 (([] : List V) ++ (List.map E5 x1.Data)) [] = Blk.row 5 (List.map E5 x1.Data) [],(List.map E5 x1.Reply).map V.vw = (List.map E5 x1.Reply),([] : List V).length + (List.map E5 x1.Reply).length ≤ 9223372036854775807,(([] : List V).length + (List.map E5 x1.Reply).length) * 1 ≤ 140737488355328,Blk.row 5 (([] : List V) ++ (List.map E5 x1.Reply)) [] = Blk.row 5 (List.map E5 x1.Reply) [],(List.map E34 v1).length + [V.agg [vI x1.At, lT5 x1.Data, lT5 x1.Reply]].length ≤ 9223372036854775807,((List.map E34 v1).length + [V.agg [vI x1.At, lT5 x1.Data, lT5 x1.Reply]].length) * 56 ≤ 140737488355328,Blk.row 34 ((List.map E34 v1) ++ [V.agg [vI x1.At, lT5 x1.Data, lT5 x1.Reply]]) [] = Blk.row 34 (List.map E34 (v1 ++ [x1])) [],(impl_Fresh_s3 r1 l p1 x1 v2 v1) = (impl_Fresh_s3 r1 l p1 x1 v2 v1),vI (i64 ((p1.length : Int) + 1)) = vI ((p1 ++ [x1]).length : Int)]) (by kernel_rfl) (cj (rng_lt h1) (cj (by omega) (cj (rng_get _ h1) (cj (impl_requestOf_ok x1.Data r1 h3) (cj rfl (cj h4 (cj h4 (cj h4 (cj h4 (cj h4 (cj (nt h5) (cj (vw_id (fun _ => rfl) _) (cj (cap1 (capN (by simp) h6)) (cj (cap2 (capN (by simp) h6) (by decide)) (cj rfl (cj (vw_id (fun _ => rfl) _) (cj (cap1 (capN (by simp) h7)) (cj (cap2 (capN (by simp) h7) (by decide)) (cj rfl (cj (cap1 (capN (by simp) h8)) (cj (cap2 (capN (by simp) h8) (by decide)) (cj (nb_app E34 v1 [x1]) (cj rfl (cj (vw_id (fun _ => rfl) _) (cj (cap1 (capN (by simp) h6)) (cj (cap2 (capN (by simp) h6) (by decide)) (cj rfl (cj (vw_id (fun _ => rfl) _) (cj (cap1 (capN (by simp) h7)) (cj (cap2 (capN (by simp) h7) (by decide)) (cj rfl (cj (cap1 (capN (by simp) h8)) (cj (cap2 (capN (by simp) h8) (by decide)) (cj (nb_app E34 v1 [x1]) (cj rfl (cj rfl (cj (vw_id (fun _ => rfl) _) (cj (cap1 (capN (by simp) h6)) (cj (cap2 (capN (by simp) h6) (by decide)) (cj rfl (cj (vw_id (fun _ => rfl) _) (cj (cap1 (capN (by simp) h7)) (cj (cap2 (capN (by simp) h7) (by decide)) (cj rfl (cj (cap1 (capN (by simp) h8)) (cj (cap2 (capN (by simp) h8) (by decide)) (cj (nb_app E34 v1 [x1]) (cj rfl (cj1 (rng_next h1 h2)))))))))))))))))))))))))))))))))))))))))))))))))) (impl_Fresh_l0_ok l h2 t1 (p1 ++ [x1]) (rng_step h1) (v1 ++ [x1]) (addK v2 (r1.1.Acct, r1.1.Trace, r1.1.Mti)))) (fun h8 =>
     Pn.none)) (fun h7 =>
     Pn.none)) (fun h6 =>
     Pn.none))) (fun h4 =>
     LpO.go [bT, .el (E34 x1), .call [] (V.tup [E36 r1.1, E4 r1.2]) [], bF, bF, bF, bF, bF, bF, .wait 2, .mask [3, 4, 12, 13, 14], .ren [0, 1], .nm 14 (vI ((p1 ++ [x1]).length : Int))] (p := [(decide ((p1.length : Int) < (l.length : Int))) = true,(0 : Int) ≤ (p1.length : Int),(List.map E34 l)[(p1.length : Int).toNat]? = some (E34 x1),Fn Tryz.prog 14 [(false, E31 x1.Data)] (V.tup [E36 r1.1, E4 r1.2]) [],(true || ((V.tup [E36 r1.1, E4 r1.2]).nv && nvL [])) = true,r1.2 = false,r1.2 = false,r1.2 = false,r1.2 = false,r1.2 = false,false = false,vI (i64 ((p1.length : Int) + 1)) = vI ((p1 ++ [x1]).length : Int)]) (by kernel_rfl) (cj (rng_lt h1) (cj (by omega) (cj (rng_get _ h1) (cj (impl_requestOf_ok x1.Data r1 h3) (cj rfl (cj h4 (cj h4 (cj h4 (cj h4 (cj h4 (cj rfl (cj1 (rng_next h1 h2))))))))))))) (impl_Fresh_l0_ok l h2 t1 (p1 ++ [x1]) (rng_step h1) v1 v2)))
def impl_Fresh (l : List Done) : Option ((List Done)) :=
 if (capOk l.length) = true then
 (impl_Fresh_l0 l l [] []).bind fun r2 =>
 some r2
 else none
theorem impl_Fresh_ok (l : List Done) : Pn (fun y => Fn Tryz.prog 7 [(false, E24 l)] (E24 y) []) (impl_Fresh l) := by
  unfold impl_Fresh
  exact
   Pn.ite (fun h9 =>
   Pn.bind (fun r2 h10 =>
   Pn.some (Fn.of [.wait 7, .nm 13 (vI (l.length : Int)), .wait 2, .mask [3, 4, 12, 13, 14], .ren [0, 1], .loop (X.out 0) (st 56 [(3, V.ow 0)] [Blk.row 34 (List.map E34 r2) []] [])] (p := [vI ((List.map E34 l).length : Int) = vI (l.length : Int),Loop Tryz.prog (sub (codeOf Tryz.prog 7) [1, 1, 1, 0, 1, 0, 0]) (st 56 [(3, V.ow 0), (4, V.mp 1), (12, lF34 l), (13, vI (l.length : Int)), (14, vI 0)] [Blk.row 34 ([] : List V) [], Blk.mset []] []) (X.out 0) (st 56 [(3, V.ow 0)] [Blk.row 34 (List.map E34 r2) []] [])]) (by kernel_rfl) (cj (len_nm _ _) (cj1 (impl_Fresh_l0_ok l h9 l [] rfl [] [] r2 h10)))))) (fun h9 =>
   Pn.none)
def laws_eqByteS_l0 (a : List Int) (b : List Int) : List Int → List Int → Option (Lo Unit Unit)
  | [], p1 =>
   some (.out ())
  | x1 :: t1, p1 =>
   (b[(p1.length : Int).toNat]?).bind fun x2 =>
   if (x1 != x2) = true then
   some (.ret ())
   else
   laws_eqByteS_l0 a b t1 (p1 ++ [x1])
theorem laws_eqByteS_l0_ok (a : List Int) (b : List Int) (h3 : capOk a.length = true) : ∀ (t1 p1 : List Int) (_ : a = p1 ++ t1) , Pn (LpO Tryz.prog (sub (codeOf Tryz.prog 24) [1, 1, 0, 1, 0, 0]) (st 26 [(0, lF5 a), (1, lF5 b), (5, vI (p1.length : Int))] [] []) (fun (y : Lo Unit Unit) => Lo.elim y (fun s => (X.out 0, st 26 [] [] [])) (fun s => (X.ret, st 26 [(4, vB false)] [] [])))) (laws_eqByteS_l0 a b t1 p1)
  | [], p1, h2 => by
    unfold laws_eqByteS_l0
    exact
     Pn.some (LpO.out [.wait 3, .nm 13 (vI (a.length : Int)), bF, .mask [], .ren []] (p := [vI ((List.map E5 a).length : Int) = vI (a.length : Int),(decide ((p1.length : Int) < (a.length : Int))) = false]) (by kernel_rfl) (show X.out 0 ≠ X.go from nofun) (cj (len_nm _ _) (cj1 (rng_end h2))))
  | x1 :: t1, p1, h2 => by
    unfold laws_eqByteS_l0
    exact
     Pn.bind (fun x2 h4 =>
     Pn.ite (fun h5 =>
     Pn.some (LpO.out [.wait 3, .nm 13 (vI (a.length : Int)), bT, .draw [], .el (E5 x1), .el (E5 x2), bT, .wait 1, .mask [4], .ren []] (p := [vI ((List.map E5 a).length : Int) = vI (a.length : Int),(decide ((p1.length : Int) < (a.length : Int))) = true,(0 : Int) ≤ (p1.length : Int),(List.map E5 a)[(p1.length : Int).toNat]? = some (E5 x1),(0 : Int) ≤ (p1.length : Int),(List.map E5 b)[(p1.length : Int).toNat]? = some (E5 x2),(x1 != x2) = true]) (by kernel_rfl) (show X.ret ≠ X.go from nofun) (cj (len_nm _ _) (cj (rng_lt h2) (cj (by omega) (cj (rng_get _ h2) (cj (by omega) (cj (map_get h4) (cj1 h5))))))))) (fun h5 =>
     LpO.go [.wait 3, .nm 13 (vI (a.length : Int)), bT, .draw [], .el (E5 x1), .el (E5 x2), bF, .wait 3, .mask [0, 1, 5], .ren [], .nm 5 (vI ((p1 ++ [x1]).length : Int))] (p := [vI ((List.map E5 a).length : Int) = vI (a.length : Int),(decide ((p1.length : Int) < (a.length : Int))) = true,(0 : Int) ≤ (p1.length : Int),(List.map E5 a)[(p1.length : Int).toNat]? = some (E5 x1),(0 : Int) ≤ (p1.length : Int),(List.map E5 b)[(p1.length : Int).toNat]? = some (E5 x2),(x1 != x2) = false,vI (i64 ((p1.length : Int) + 1)) = vI ((p1 ++ [x1]).length : Int)]) (by kernel_rfl) (cj (len_nm _ _) (cj (rng_lt h2) (cj (by omega) (cj (rng_get _ h2) (cj (by omega) (cj (map_get h4) (cj h5 (cj1 (rng_next h2 h3))))))))) (laws_eqByteS_l0_ok a b h3 t1 (p1 ++ [x1]) (rng_step h2))))
def laws_eqByteS (a : List Int) (b : List Int) : Option (Bool) :=
 if ((a.length : Int) != (b.length : Int)) = true then
 some false
 else
 if (capOk a.length) = true then
 (laws_eqByteS_l0 a b a []).bind fun r1 =>
 Lo.elim r1 (fun s1 =>
 some true) (fun s2 =>
 some false)
 else none
theorem laws_eqByteS_ok (a : List Int) (b : List Int) : Pn (fun y => Fn Tryz.prog 24 [(false, E31 a), (false, E31 b)] (E4 y) []) (laws_eqByteS a b) := by
  unfold laws_eqByteS
  exact
   Pn.ite (fun h1 =>
   Pn.some (Fn.of [.wait 3, .nm 7 (vI (a.length : Int)), .wait 2, .nm 9 (vI (b.length : Int)), bT] (p := [vI ((List.map E5 a).length : Int) = vI (a.length : Int),vI ((List.map E5 b).length : Int) = vI (b.length : Int),((a.length : Int) != (b.length : Int)) = true]) (by kernel_rfl) (cj (len_nm _ _) (cj (len_nm _ _) (cj1 h1))))) (fun h1 =>
   Pn.ite (fun h6 =>
   Pn.bind (fun r1 h7 =>
   Pn.lo (fun s1 h8 =>
   Pn.some (Fn.of [.wait 3, .nm 7 (vI (a.length : Int)), .wait 2, .nm 9 (vI (b.length : Int)), bF, .wait 1, .mask [0, 1, 5], .ren [], .loop (X.out 0) (st 26 [] [] [])] (p := [vI ((List.map E5 a).length : Int) = vI (a.length : Int),vI ((List.map E5 b).length : Int) = vI (b.length : Int),((a.length : Int) != (b.length : Int)) = false,Loop Tryz.prog (sub (codeOf Tryz.prog 24) [1, 1, 0, 1, 0, 0]) (st 26 [(0, lF5 a), (1, lF5 b), (5, vI 0)] [] []) (X.out 0) (st 26 [] [] [])]) (by kernel_rfl) (cj (len_nm _ _) (cj (len_nm _ _) (cj h1 (cj1 ((laws_eqByteS_l0_ok a b h6 a [] rfl r1 h7).at h8 :))))))) (fun s2 h9 =>
   Pn.some (Fn.of [.wait 3, .nm 7 (vI (a.length : Int)), .wait 2, .nm 9 (vI (b.length : Int)), bF, .wait 1, .mask [0, 1, 5], .ren [], .loop (X.ret) (st 26 [(4, vB false)] [] [])] (p := [vI ((List.map E5 a).length : Int) = vI (a.length : Int),vI ((List.map E5 b).length : Int) = vI (b.length : Int),((a.length : Int) != (b.length : Int)) = false,Loop Tryz.prog (sub (codeOf Tryz.prog 24) [1, 1, 0, 1, 0, 0]) (st 26 [(0, lF5 a), (1, lF5 b), (5, vI 0)] [] []) (X.ret) (st 26 [(4, vB false)] [] [])]) (by kernel_rfl) (cj (len_nm _ _) (cj (len_nm _ _) (cj h1 (cj1 ((laws_eqByteS_l0_ok a b h6 a [] rfl r1 h7).at h9 :))))))))) (fun h6 =>
   Pn.none))
def laws_eqDone (a : Done) (b : Done) : Option (Bool) :=
 if (a.At != b.At) = true then
 some false
 else
 (laws_eqByteS a.Data b.Data).bind fun r1 =>
 if r1 = true then
 (laws_eqByteS a.Reply b.Reply).bind fun r2 =>
 if r2 = true then
 some true
 else
 some false
 else
 some false
theorem laws_eqDone_ok (a : Done) (b : Done) : Pn (fun y => Fn Tryz.prog 15 [(false, E34 a), (false, E34 b)] (E4 y) []) (laws_eqDone a b) := by
  unfold laws_eqDone
  exact
   Pn.ite (fun h1 =>
   Pn.some (Fn.of [bT] (p := [(a.At != b.At) = true]) (by kernel_rfl) (cj1 h1))) (fun h1 =>
   Pn.bind (fun r1 h2 =>
   Pn.ite (fun h3 =>
   Pn.bind (fun r2 h4 =>
   Pn.ite (fun h5 =>
   Pn.some (Fn.of [bF, .call [] (E4 r1) [], bF, .call [] (E4 r2) [], bF] (p := [(a.At != b.At) = false,Fn Tryz.prog 24 [(false, E31 a.Data), (false, E31 b.Data)] (E4 r1) [],(true || ((E4 r1).nv && nvL [])) = true,(!r1) = false,Fn Tryz.prog 24 [(false, E31 a.Reply), (false, E31 b.Reply)] (E4 r2) [],(true || ((E4 r2).nv && nvL [])) = true,(!r2) = false]) (by kernel_rfl) (cj h1 (cj (laws_eqByteS_ok a.Data b.Data r1 h2) (cj rfl (cj (nf h3) (cj (laws_eqByteS_ok a.Reply b.Reply r2 h4) (cj rfl (cj1 (nf h5)))))))))) (fun h5 =>
   Pn.some (Fn.of [bF, .call [] (E4 r1) [], bF, .call [] (E4 r2) [], bT] (p := [(a.At != b.At) = false,Fn Tryz.prog 24 [(false, E31 a.Data), (false, E31 b.Data)] (E4 r1) [],(true || ((E4 r1).nv && nvL [])) = true,(!r1) = false,Fn Tryz.prog 24 [(false, E31 a.Reply), (false, E31 b.Reply)] (E4 r2) [],(true || ((E4 r2).nv && nvL [])) = true,(!r2) = true]) (by kernel_rfl) (cj h1 (cj (laws_eqByteS_ok a.Data b.Data r1 h2) (cj rfl (cj (nf h3) (cj (laws_eqByteS_ok a.Reply b.Reply r2 h4) (cj rfl (cj1 (nt h5)))))))))))) (fun h3 =>
   Pn.some (Fn.of [bF, .call [] (E4 r1) [], bT] (p := [(a.At != b.At) = false,Fn Tryz.prog 24 [(false, E31 a.Data), (false, E31 b.Data)] (E4 r1) [],(true || ((E4 r1).nv && nvL [])) = true,(!r1) = true]) (by kernel_rfl) (cj h1 (cj (laws_eqByteS_ok a.Data b.Data r1 h2) (cj rfl (cj1 (nt h3)))))))))
def laws_eqDoneS_l0 (a : List Done) (b : List Done) : List Done → List Done → Option (Lo Unit Unit)
  | [], p1 =>
   some (.out ())
  | x1 :: t1, p1 =>
   (b[(p1.length : Int).toNat]?).bind fun x2 =>
   (laws_eqDone x1 x2).bind fun r1 =>
   if r1 = true then
   laws_eqDoneS_l0 a b t1 (p1 ++ [x1])
   else
   some (.ret ())
theorem laws_eqDoneS_l0_ok (a : List Done) (b : List Done) (h3 : capOk a.length = true) : ∀ (t1 p1 : List Done) (_ : a = p1 ++ t1) , Pn (LpO Tryz.prog (sub (codeOf Tryz.prog 8) [1, 1, 0, 1, 0, 0]) (st 27 [(0, lF34 a), (1, lF34 b), (5, vI (p1.length : Int))] [] []) (fun (y : Lo Unit Unit) => Lo.elim y (fun s => (X.out 0, st 27 [] [] [])) (fun s => (X.ret, st 27 [(4, vB false)] [] [])))) (laws_eqDoneS_l0 a b t1 p1)
  | [], p1, h2 => by
    unfold laws_eqDoneS_l0
    exact
     Pn.some (LpO.out [.wait 3, .nm 13 (vI (a.length : Int)), bF, .mask [], .ren []] (p := [vI ((List.map E34 a).length : Int) = vI (a.length : Int),(decide ((p1.length : Int) < (a.length : Int))) = false]) (by kernel_rfl) (show X.out 0 ≠ X.go from nofun) (cj (len_nm _ _) (cj1 (rng_end h2))))
  | x1 :: t1, p1, h2 => by
    unfold laws_eqDoneS_l0
    exact
     Pn.bind (fun x2 h4 =>
     Pn.bind (fun r1 h5 =>
     Pn.ite (fun h6 =>
     LpO.go [.wait 3, .nm 13 (vI (a.length : Int)), bT, .draw [], .el (E34 x1), .el (E34 x2), .call [] (E4 r1) [], bF, .wait 3, .mask [0, 1, 5], .ren [], .nm 5 (vI ((p1 ++ [x1]).length : Int))] (p := [vI ((List.map E34 a).length : Int) = vI (a.length : Int),(decide ((p1.length : Int) < (a.length : Int))) = true,(0 : Int) ≤ (p1.length : Int),(List.map E34 a)[(p1.length : Int).toNat]? = some (E34 x1),(0 : Int) ≤ (p1.length : Int),(List.map E34 b)[(p1.length : Int).toNat]? = some (E34 x2),Fn Tryz.prog 15 [(false, E34 x1), (false, E34 x2)] (E4 r1) [],(true || ((E4 r1).nv && nvL [])) = true,(!r1) = false,vI (i64 ((p1.length : Int) + 1)) = vI ((p1 ++ [x1]).length : Int)]) (by kernel_rfl) (cj (len_nm _ _) (cj (rng_lt h2) (cj (by omega) (cj (rng_get _ h2) (cj (by omega) (cj (map_get h4) (cj (laws_eqDone_ok x1 x2 r1 h5) (cj rfl (cj (nf h6) (cj1 (rng_next h2 h3))))))))))) (laws_eqDoneS_l0_ok a b h3 t1 (p1 ++ [x1]) (rng_step h2))) (fun h6 =>
     Pn.some (LpO.out [.wait 3, .nm 13 (vI (a.length : Int)), bT, .draw [], .el (E34 x1), .el (E34 x2), .call [] (E4 r1) [], bT, .wait 1, .mask [4], .ren []] (p := [vI ((List.map E34 a).length : Int) = vI (a.length : Int),(decide ((p1.length : Int) < (a.length : Int))) = true,(0 : Int) ≤ (p1.length : Int),(List.map E34 a)[(p1.length : Int).toNat]? = some (E34 x1),(0 : Int) ≤ (p1.length : Int),(List.map E34 b)[(p1.length : Int).toNat]? = some (E34 x2),Fn Tryz.prog 15 [(false, E34 x1), (false, E34 x2)] (E4 r1) [],(true || ((E4 r1).nv && nvL [])) = true,(!r1) = true]) (by kernel_rfl) (show X.ret ≠ X.go from nofun) (cj (len_nm _ _) (cj (rng_lt h2) (cj (by omega) (cj (rng_get _ h2) (cj (by omega) (cj (map_get h4) (cj (laws_eqDone_ok x1 x2 r1 h5) (cj rfl (cj1 (nt h6))))))))))))))
def laws_eqDoneS (a : List Done) (b : List Done) : Option (Bool) :=
 if ((a.length : Int) != (b.length : Int)) = true then
 some false
 else
 if (capOk a.length) = true then
 (laws_eqDoneS_l0 a b a []).bind fun r2 =>
 Lo.elim r2 (fun s1 =>
 some true) (fun s2 =>
 some false)
 else none
theorem laws_eqDoneS_ok (a : List Done) (b : List Done) : Pn (fun y => Fn Tryz.prog 8 [(false, E24 a), (false, E24 b)] (E4 y) []) (laws_eqDoneS a b) := by
  unfold laws_eqDoneS
  exact
   Pn.ite (fun h1 =>
   Pn.some (Fn.of [.wait 3, .nm 7 (vI (a.length : Int)), .wait 2, .nm 9 (vI (b.length : Int)), bT] (p := [vI ((List.map E34 a).length : Int) = vI (a.length : Int),vI ((List.map E34 b).length : Int) = vI (b.length : Int),((a.length : Int) != (b.length : Int)) = true]) (by kernel_rfl) (cj (len_nm _ _) (cj (len_nm _ _) (cj1 h1))))) (fun h1 =>
   Pn.ite (fun h7 =>
   Pn.bind (fun r2 h8 =>
   Pn.lo (fun s1 h9 =>
   Pn.some (Fn.of [.wait 3, .nm 7 (vI (a.length : Int)), .wait 2, .nm 9 (vI (b.length : Int)), bF, .wait 1, .mask [0, 1, 5], .ren [], .loop (X.out 0) (st 27 [] [] [])] (p := [vI ((List.map E34 a).length : Int) = vI (a.length : Int),vI ((List.map E34 b).length : Int) = vI (b.length : Int),((a.length : Int) != (b.length : Int)) = false,Loop Tryz.prog (sub (codeOf Tryz.prog 8) [1, 1, 0, 1, 0, 0]) (st 27 [(0, lF34 a), (1, lF34 b), (5, vI 0)] [] []) (X.out 0) (st 27 [] [] [])]) (by kernel_rfl) (cj (len_nm _ _) (cj (len_nm _ _) (cj h1 (cj1 ((laws_eqDoneS_l0_ok a b h7 a [] rfl r2 h8).at h9 :))))))) (fun s2 h10 =>
   Pn.some (Fn.of [.wait 3, .nm 7 (vI (a.length : Int)), .wait 2, .nm 9 (vI (b.length : Int)), bF, .wait 1, .mask [0, 1, 5], .ren [], .loop (X.ret) (st 27 [(4, vB false)] [] [])] (p := [vI ((List.map E34 a).length : Int) = vI (a.length : Int),vI ((List.map E34 b).length : Int) = vI (b.length : Int),((a.length : Int) != (b.length : Int)) = false,Loop Tryz.prog (sub (codeOf Tryz.prog 8) [1, 1, 0, 1, 0, 0]) (st 27 [(0, lF34 a), (1, lF34 b), (5, vI 0)] [] []) (X.ret) (st 27 [(4, vB false)] [] [])]) (by kernel_rfl) (cj (len_nm _ _) (cj (len_nm _ _) (cj h1 (cj1 ((laws_eqDoneS_l0_ok a b h7 a [] rfl r2 h8).at h10 :))))))))) (fun h7 =>
   Pn.none))
def laws_markByteS_l0  : Nat → Int → Int → (List Int) → Option (Int × (List Int))
  | 0, _, _, _ => none
  | fuel + 1, v1, v2, v3 =>
   if (decide (v2 < (v3.length : Int))) = true then
   if (decide (0 ≤ v2)) = true then
   (v3[v2.toNat]?).bind fun x1 =>
   laws_markByteS_l0 fuel (i64 (v1 + 1)) (i64 (v2 + 1)) (v3.set v2.toNat (u8 v1))
   else none
   else
   some (v1, v3)
theorem laws_markByteS_l0_ok  : ∀ (fuel : Nat) (v1 : Int) (v2 : Int) (v3 : List Int), Pn (LpO Tryz.prog (sub (codeOf Tryz.prog 16) [1, 0, 1, 0, 0]) (st 20 [(0, V.ow 0), (1, vI v1), (5, vI v2)] [Blk.row 5 (List.map E5 v3) []] [some 0]) (fun (y : Int × (List Int)) => (X.out 0, st 20 [(1, vI y.1)] [Blk.row 5 (List.map E5 y.2) []] [some 0]))) (laws_markByteS_l0 fuel v1 v2 v3)
  | 0, _, _, _ => Pn.none
  | fuel + 1, v1, v2, v3 => by
    unfold laws_markByteS_l0
    exact
     Pn.ite (fun h1 =>
     Pn.ite (fun h2 =>
     Pn.bind (fun x1 h3 =>
     LpO.go [.wait 3, .nm 8 (vI (v3.length : Int)), bT, .el (E5 x1), .nb 0 (.row 5 (List.map E5 (v3.set v2.toNat (u8 v1))) []), .wait 7, .mask [0, 1, 5], .ren [0]] (p := [vI ((List.map E5 v3).length : Int) = vI (v3.length : Int),(decide (v2 < (v3.length : Int))) = true,(0 : Int) ≤ v2,(v2 : Int) < ((List.map E5 v3).length : Int),look [] v2.toNat = none,(List.map E5 v3)[v2.toNat]? = some (E5 x1),Blk.row 5 ((List.map E5 v3).set v2.toNat (V.sc (.int .u8 (u8 v1)))) [] = Blk.row 5 (List.map E5 (v3.set v2.toNat (u8 v1))) []]) (by kernel_rfl) (cj (len_nm _ _) (cj h1 (cj (od h2) (cj (map_ltN (od h2) h3) (cj rfl (cj (map_get h3) (cj1 (nb_set E5 _ _ (u8 v1))))))))) (laws_markByteS_l0_ok fuel (i64 (v1 + 1)) (i64 (v2 + 1)) (v3.set v2.toNat (u8 v1))))) (fun h2 =>
     Pn.none)) (fun h1 =>
     Pn.some (LpO.out [.wait 3, .nm 8 (vI (v3.length : Int)), bF, .mask [1], .ren [0]] (p := [vI ((List.map E5 v3).length : Int) = vI (v3.length : Int),(decide (v2 < (v3.length : Int))) = false]) (by kernel_rfl) (show X.out 0 ≠ X.go from nofun) (cj (len_nm _ _) (cj1 h1))))
def laws_markByteS (a : List Int) (k : Int) : Option (Int × (List Int)) :=
 (laws_markByteS_l0 FUEL k 0 a).bind fun r1 =>
 some (r1.1, r1.2)
theorem laws_markByteS_ok (a : List Int) (k : Int) : Pn (fun y => Fn Tryz.prog 16 [(true, E31 a), (false, E3 k)] (E3 y.1) [lT5 y.2]) (laws_markByteS a k) := by
  unfold laws_markByteS
  exact
   Pn.bind (fun r1 h4 =>
   Pn.some (Fn.of [.wait 3, .mask [0, 1, 5], .ren [0], .loop (X.out 0) (st 20 [(1, vI r1.1)] [Blk.row 5 (List.map E5 r1.2) []] [some 0])] (p := [Loop Tryz.prog (sub (codeOf Tryz.prog 16) [1, 0, 1, 0, 0]) (st 20 [(0, V.ow 0), (1, vI k), (5, vI 0)] [Blk.row 5 (List.map E5 a) []] [some 0]) (X.out 0) (st 20 [(1, vI r1.1)] [Blk.row 5 (List.map E5 r1.2) []] [some 0])]) (by kernel_rfl) (cj1 (laws_markByteS_l0_ok FUEL k 0 a r1 h4))))
def laws_markDoneS_l0  : Nat → Int → Int → (List Done) → Option (Int × (List Done))
  | 0, _, _, _ => none
  | fuel + 1, v1, v2, v3 =>
   if (decide (v2 < (v3.length : Int))) = true then
   if (decide (0 ≤ v2)) = true then
   (v3[v2.toNat]?).bind fun x1 =>
   (laws_markByteS x1.Data (i64 (v1 + 1))).bind fun r1 =>
   (laws_markByteS x1.Reply r1.1).bind fun r2 =>
   laws_markDoneS_l0 fuel r2.1 (i64 (v2 + 1)) (v3.set v2.toNat (Done.mk v1 r1.2 r2.2))
   else none
   else
   some (v1, v3)
theorem laws_markDoneS_l0_ok  : ∀ (fuel : Nat) (v1 : Int) (v2 : Int) (v3 : List Done), Pn (LpO Tryz.prog (sub (codeOf Tryz.prog 9) [1, 0, 1, 0, 0]) (st 34 [(0, V.ow 0), (1, vI v1), (5, vI v2)] [Blk.row 34 (List.map E34 v3) []] [some 0]) (fun (y : Int × (List Done)) => (X.out 0, st 34 [(1, vI y.1)] [Blk.row 34 (List.map E34 y.2) []] [some 0]))) (laws_markDoneS_l0 fuel v1 v2 v3)
  | 0, _, _, _ => Pn.none
  | fuel + 1, v1, v2, v3 => by
    unfold laws_markDoneS_l0
    exact
     Pn.ite (fun h1 =>
     Pn.ite (fun h2 =>
     Pn.bind (fun x1 h3 =>
     Pn.bind (fun r1 h4 =>
     Pn.bind (fun r2 h5 =>
     LpO.go [.wait 3, .nm 8 (vI (v3.length : Int)), bT, .wait 3, .foc 0 v2.toNat (E34 x1), .fo 0, .fo 0, .call [true, false] (E3 r1.1) [lT5 r1.2], .fo 0, .call [true, false] (E3 r2.1) [lT5 r2.2], .wait 5, .shut 0, .nb 0 (.row 34 (List.map E34 (v3.set v2.toNat (Done.mk v1 r1.2 r2.2))) []), .mask [0, 1, 5], .ren [0]] (p := [vI ((List.map E34 v3).length : Int) = vI (v3.length : Int),(decide (v2 < (v3.length : Int))) = true,(0 : Int) ≤ v2,(v2 : Int) < ((List.map E34 v3).length : Int),look [] v2.toNat = none,(List.map E34 v3)[v2.toNat]? = some (E34 x1),look [(v2.toNat, V.agg [vI x1.At, V.ow 1, V.ow 2])] v2.toNat = some (V.agg [vI x1.At, V.ow 1, V.ow 2]),v2.toNat < (List.map E34 v3).length,v2.toNat = v2.toNat,(0 : Int) ≤ v2,(v2 : Int) < ((List.map E34 v3).length : Int),look [(v2.toNat, V.agg [vI v1, V.ow 1, V.ow 2])] v2.toNat = some (V.agg [vI v1, V.ow 1, V.ow 2]),v2.toNat < (List.map E34 v3).length,Fn Tryz.prog 16 [(true, E31 x1.Data), (false, E3 (i64 (v1 + 1)))] (E3 r1.1) [lT5 r1.2],(true || ((E3 r1.1).nv && nvL [lT5 r1.2])) = true,(0 : Int) ≤ v2,(v2 : Int) < ((List.map E34 v3).length : Int),look [(v2.toNat, V.agg [vI v1, V.ow 1, V.ow 2])] v2.toNat = some (V.agg [vI v1, V.ow 1, V.ow 2]),v2.toNat < (List.map E34 v3).length,Fn Tryz.prog 16 [(true, E31 x1.Reply), (false, E3 r1.1)] (E3 r2.1) [lT5 r2.2],(true || ((E3 r2.1).nv && nvL [lT5 r2.2])) = true,Blk.row 34 ((List.map E34 v3).set v2.toNat (V.agg [vI v1, lT5 r1.2, lT5 r2.2])) [] = Blk.row 34 (List.map E34 (v3.set v2.toNat (Done.mk v1 r1.2 r2.2))) []]) (by kernel_rfl) (cj (len_nm _ _) (cj h1 (cj (od h2) (cj (map_ltN (od h2) h3) (cj rfl (cj (map_get h3) (cj (look_cons_self _ _ _) (cj (map_lt h3) (cj rfl (cj (od h2) (cj (map_ltN (od h2) h3) (cj (look_cons_self _ _ _) (cj (map_lt h3) (cj (laws_markByteS_ok x1.Data (i64 (v1 + 1)) r1 h4) (cj rfl (cj (od h2) (cj (map_ltN (od h2) h3) (cj (look_cons_self _ _ _) (cj (map_lt h3) (cj (laws_markByteS_ok x1.Reply r1.1 r2 h5) (cj rfl (cj1 (nb_set E34 _ _ (Done.mk v1 r1.2 r2.2)))))))))))))))))))))))) (laws_markDoneS_l0_ok fuel r2.1 (i64 (v2 + 1)) (v3.set v2.toNat (Done.mk v1 r1.2 r2.2))))))) (fun h2 =>
     Pn.none)) (fun h1 =>
     Pn.some (LpO.out [.wait 3, .nm 8 (vI (v3.length : Int)), bF, .mask [1], .ren [0]] (p := [vI ((List.map E34 v3).length : Int) = vI (v3.length : Int),(decide (v2 < (v3.length : Int))) = false]) (by kernel_rfl) (show X.out 0 ≠ X.go from nofun) (cj (len_nm _ _) (cj1 h1))))
def laws_markDoneS (a : List Done) (k : Int) : Option (Int × (List Done)) :=
 (laws_markDoneS_l0 FUEL k 0 a).bind fun r3 =>
 some (r3.1, r3.2)
theorem laws_markDoneS_ok (a : List Done) (k : Int) : Pn (fun y => Fn Tryz.prog 9 [(true, E24 a), (false, E3 k)] (E3 y.1) [lT34 y.2]) (laws_markDoneS a k) := by
  unfold laws_markDoneS
  exact
   Pn.bind (fun r3 h6 =>
   Pn.some (Fn.of [.wait 3, .mask [0, 1, 5], .ren [0], .loop (X.out 0) (st 34 [(1, vI r3.1)] [Blk.row 34 (List.map E34 r3.2) []] [some 0])] (p := [Loop Tryz.prog (sub (codeOf Tryz.prog 9) [1, 0, 1, 0, 0]) (st 34 [(0, V.ow 0), (1, vI k), (5, vI 0)] [Blk.row 34 (List.map E34 a) []] [some 0]) (X.out 0) (st 34 [(1, vI r3.1)] [Blk.row 34 (List.map E34 r3.2) []] [some 0])]) (by kernel_rfl) (cj1 (laws_markDoneS_l0_ok FUEL k 0 a r3 h6))))
def laws_heldByteS_l0 (a : List Int) : List Int → Int → Option (Lo Int Unit)
  | [], v1 =>
   some (.out v1)
  | x1 :: t1, v1 =>
   if (x1 != (u8 v1)) = true then
   some (.ret ())
   else
   laws_heldByteS_l0 a t1 (i64 (v1 + 1))
theorem laws_heldByteS_l0_ok (a : List Int) (h2 : capOk a.length = true) : ∀ (t1 p1 : List Int) (_ : a = p1 ++ t1) (v1 : Int), Pn (LpO Tryz.prog (sub (codeOf Tryz.prog 17) [1, 0, 1, 0, 0]) (st 22 [(0, lF5 a), (1, vI v1), (5, vI (p1.length : Int))] [] []) (fun (y : Lo Int Unit) => Lo.elim y (fun s => (X.out 0, st 22 [(1, vI s)] [] [])) (fun s => (X.ret, st 22 [(4, vI (-1))] [] [])))) (laws_heldByteS_l0 a t1 v1)
  | [], p1, h1, v1 => by
    unfold laws_heldByteS_l0
    exact
     Pn.some (LpO.out [.wait 3, .nm 8 (vI (a.length : Int)), bF, .mask [1], .ren []] (p := [vI ((List.map E5 a).length : Int) = vI (a.length : Int),(decide ((p1.length : Int) < (a.length : Int))) = false]) (by kernel_rfl) (show X.out 0 ≠ X.go from nofun) (cj (len_nm _ _) (cj1 (rng_end h1))))
  | x1 :: t1, p1, h1, v1 => by
    unfold laws_heldByteS_l0
    exact
     Pn.ite (fun h3 =>
     Pn.some (LpO.out [.wait 3, .nm 8 (vI (a.length : Int)), bT, .el (E5 x1), bT, .wait 1, .mask [4], .ren []] (p := [vI ((List.map E5 a).length : Int) = vI (a.length : Int),(decide ((p1.length : Int) < (a.length : Int))) = true,(0 : Int) ≤ (p1.length : Int),(List.map E5 a)[(p1.length : Int).toNat]? = some (E5 x1),(x1 != (u8 v1)) = true]) (by kernel_rfl) (show X.ret ≠ X.go from nofun) (cj (len_nm _ _) (cj (rng_lt h1) (cj (by omega) (cj (rng_get _ h1) (cj1 h3))))))) (fun h3 =>
     LpO.go [.wait 3, .nm 8 (vI (a.length : Int)), bT, .el (E5 x1), bF, .wait 6, .mask [0, 1, 5], .ren [], .nm 5 (vI ((p1 ++ [x1]).length : Int))] (p := [vI ((List.map E5 a).length : Int) = vI (a.length : Int),(decide ((p1.length : Int) < (a.length : Int))) = true,(0 : Int) ≤ (p1.length : Int),(List.map E5 a)[(p1.length : Int).toNat]? = some (E5 x1),(x1 != (u8 v1)) = false,vI (i64 ((p1.length : Int) + 1)) = vI ((p1 ++ [x1]).length : Int)]) (by kernel_rfl) (cj (len_nm _ _) (cj (rng_lt h1) (cj (by omega) (cj (rng_get _ h1) (cj h3 (cj1 (rng_next h1 h2))))))) (laws_heldByteS_l0_ok a h2 t1 (p1 ++ [x1]) (rng_step h1) (i64 (v1 + 1))))
def laws_heldByteS (a : List Int) (k : Int) : Option (Int) :=
 if (capOk a.length) = true then
 (laws_heldByteS_l0 a a k).bind fun r1 =>
 Lo.elim r1 (fun s1 =>
 some s1) (fun s2 =>
 some (-1))
 else none
theorem laws_heldByteS_ok (a : List Int) (k : Int) : Pn (fun y => Fn Tryz.prog 17 [(false, E31 a), (false, E3 k)] (E3 y) []) (laws_heldByteS a k) := by
  unfold laws_heldByteS
  exact
   Pn.ite (fun h4 =>
   Pn.bind (fun r1 h5 =>
   Pn.lo (fun s1 h6 =>
   Pn.some (Fn.of [.wait 3, .mask [0, 1, 5], .ren [], .loop (X.out 0) (st 22 [(1, vI s1)] [] [])] (p := [Loop Tryz.prog (sub (codeOf Tryz.prog 17) [1, 0, 1, 0, 0]) (st 22 [(0, lF5 a), (1, vI k), (5, vI 0)] [] []) (X.out 0) (st 22 [(1, vI s1)] [] [])]) (by kernel_rfl) (cj1 ((laws_heldByteS_l0_ok a h4 a [] rfl k r1 h5).at h6 :)))) (fun s2 h7 =>
   Pn.some (Fn.of [.wait 3, .mask [0, 1, 5], .ren [], .loop (X.ret) (st 22 [(4, vI (-1))] [] [])] (p := [Loop Tryz.prog (sub (codeOf Tryz.prog 17) [1, 0, 1, 0, 0]) (st 22 [(0, lF5 a), (1, vI k), (5, vI 0)] [] []) (X.ret) (st 22 [(4, vI (-1))] [] [])]) (by kernel_rfl) (cj1 ((laws_heldByteS_l0_ok a h4 a [] rfl k r1 h5).at h7 :)))))) (fun h4 =>
   Pn.none)
def laws_heldDoneS_l0 (a : List Done) : List Done → Int → Option (Lo Int Unit)
  | [], v1 =>
   some (.out v1)
  | x1 :: t1, v1 =>
   if (x1.At != v1) = true then
   some (.ret ())
   else
   (laws_heldByteS x1.Data (i64 (v1 + 1))).bind fun r1 =>
   if (decide (r1 < 0)) = true then
   some (.ret ())
   else
   (laws_heldByteS x1.Reply r1).bind fun r2 =>
   if (decide (r2 < 0)) = true then
   some (.ret ())
   else
   laws_heldDoneS_l0 a t1 r2
theorem laws_heldDoneS_l0_ok (a : List Done) (h2 : capOk a.length = true) : ∀ (t1 p1 : List Done) (_ : a = p1 ++ t1) (v1 : Int), Pn (LpO Tryz.prog (sub (codeOf Tryz.prog 10) [1, 0, 1, 0, 0]) (st 40 [(0, lF34 a), (1, vI v1), (5, vI (p1.length : Int))] [] []) (fun (y : Lo Int Unit) => Lo.elim y (fun s => (X.out 0, st 40 [(1, vI s)] [] [])) (fun s => (X.ret, st 40 [(4, vI (-1))] [] [])))) (laws_heldDoneS_l0 a t1 v1)
  | [], p1, h1, v1 => by
    unfold laws_heldDoneS_l0
    exact
     Pn.some (LpO.out [.wait 3, .nm 8 (vI (a.length : Int)), bF, .mask [1], .ren []] (p := [vI ((List.map E34 a).length : Int) = vI (a.length : Int),(decide ((p1.length : Int) < (a.length : Int))) = false]) (by kernel_rfl) (show X.out 0 ≠ X.go from nofun) (cj (len_nm _ _) (cj1 (rng_end h1))))
  | x1 :: t1, p1, h1, v1 => by
    unfold laws_heldDoneS_l0
    exact
     Pn.ite (fun h3 =>
     Pn.some (LpO.out [.wait 3, .nm 8 (vI (a.length : Int)), bT, .el (E34 x1), bT, .wait 1, .mask [4], .ren []] (p := [vI ((List.map E34 a).length : Int) = vI (a.length : Int),(decide ((p1.length : Int) < (a.length : Int))) = true,(0 : Int) ≤ (p1.length : Int),(List.map E34 a)[(p1.length : Int).toNat]? = some (E34 x1),(x1.At != v1) = true]) (by kernel_rfl) (show X.ret ≠ X.go from nofun) (cj (len_nm _ _) (cj (rng_lt h1) (cj (by omega) (cj (rng_get _ h1) (cj1 h3))))))) (fun h3 =>
     Pn.bind (fun r1 h4 =>
     Pn.ite (fun h5 =>
     Pn.some (LpO.out [.wait 3, .nm 8 (vI (a.length : Int)), bT, .el (E34 x1), bF, .el (E34 x1), .call [] (E3 r1) [], bT, .wait 1, .mask [4], .ren []] (p := [vI ((List.map E34 a).length : Int) = vI (a.length : Int),(decide ((p1.length : Int) < (a.length : Int))) = true,(0 : Int) ≤ (p1.length : Int),(List.map E34 a)[(p1.length : Int).toNat]? = some (E34 x1),(x1.At != v1) = false,(0 : Int) ≤ (p1.length : Int),(List.map E34 a)[(p1.length : Int).toNat]? = some (E34 x1),Fn Tryz.prog 17 [(false, E31 x1.Data), (false, E3 (i64 (v1 + 1)))] (E3 r1) [],(true || ((E3 r1).nv && nvL [])) = true,(decide (r1 < 0)) = true]) (by kernel_rfl) (show X.ret ≠ X.go from nofun) (cj (len_nm _ _) (cj (rng_lt h1) (cj (by omega) (cj (rng_get _ h1) (cj h3 (cj (by omega) (cj (rng_get _ h1) (cj (laws_heldByteS_ok x1.Data (i64 (v1 + 1)) r1 h4) (cj rfl (cj1 h5)))))))))))) (fun h5 =>
     Pn.bind (fun r2 h6 =>
     Pn.ite (fun h7 =>
     Pn.some (LpO.out [.wait 3, .nm 8 (vI (a.length : Int)), bT, .el (E34 x1), bF, .el (E34 x1), .call [] (E3 r1) [], bF, .el (E34 x1), .call [] (E3 r2) [], bT, .wait 1, .mask [4], .ren []] (p := [vI ((List.map E34 a).length : Int) = vI (a.length : Int),(decide ((p1.length : Int) < (a.length : Int))) = true,(0 : Int) ≤ (p1.length : Int),(List.map E34 a)[(p1.length : Int).toNat]? = some (E34 x1),(x1.At != v1) = false,(0 : Int) ≤ (p1.length : Int),(List.map E34 a)[(p1.length : Int).toNat]? = some (E34 x1),Fn Tryz.prog 17 [(false, E31 x1.Data), (false, E3 (i64 (v1 + 1)))] (E3 r1) [],(true || ((E3 r1).nv && nvL [])) = true,(decide (r1 < 0)) = false,(0 : Int) ≤ (p1.length : Int),(List.map E34 a)[(p1.length : Int).toNat]? = some (E34 x1),Fn Tryz.prog 17 [(false, E31 x1.Reply), (false, E3 r1)] (E3 r2) [],(true || ((E3 r2).nv && nvL [])) = true,(decide (r2 < 0)) = true]) (by kernel_rfl) (show X.ret ≠ X.go from nofun) (cj (len_nm _ _) (cj (rng_lt h1) (cj (by omega) (cj (rng_get _ h1) (cj h3 (cj (by omega) (cj (rng_get _ h1) (cj (laws_heldByteS_ok x1.Data (i64 (v1 + 1)) r1 h4) (cj rfl (cj h5 (cj (by omega) (cj (rng_get _ h1) (cj (laws_heldByteS_ok x1.Reply r1 r2 h6) (cj rfl (cj1 h7))))))))))))))))) (fun h7 =>
     LpO.go [.wait 3, .nm 8 (vI (a.length : Int)), bT, .el (E34 x1), bF, .el (E34 x1), .call [] (E3 r1) [], bF, .el (E34 x1), .call [] (E3 r2) [], bF, .wait 3, .mask [0, 1, 5], .ren [], .nm 5 (vI ((p1 ++ [x1]).length : Int))] (p := [vI ((List.map E34 a).length : Int) = vI (a.length : Int),(decide ((p1.length : Int) < (a.length : Int))) = true,(0 : Int) ≤ (p1.length : Int),(List.map E34 a)[(p1.length : Int).toNat]? = some (E34 x1),(x1.At != v1) = false,(0 : Int) ≤ (p1.length : Int),(List.map E34 a)[(p1.length : Int).toNat]? = some (E34 x1),Fn Tryz.prog 17 [(false, E31 x1.Data), (false, E3 (i64 (v1 + 1)))] (E3 r1) [],(true || ((E3 r1).nv && nvL [])) = true,(decide (r1 < 0)) = false,(0 : Int) ≤ (p1.length : Int),(List.map E34 a)[(p1.length : Int).toNat]? = some (E34 x1),Fn Tryz.prog 17 [(false, E31 x1.Reply), (false, E3 r1)] (E3 r2) [],(true || ((E3 r2).nv && nvL [])) = true,(decide (r2 < 0)) = false,vI (i64 ((p1.length : Int) + 1)) = vI ((p1 ++ [x1]).length : Int)]) (by kernel_rfl) (cj (len_nm _ _) (cj (rng_lt h1) (cj (by omega) (cj (rng_get _ h1) (cj h3 (cj (by omega) (cj (rng_get _ h1) (cj (laws_heldByteS_ok x1.Data (i64 (v1 + 1)) r1 h4) (cj rfl (cj h5 (cj (by omega) (cj (rng_get _ h1) (cj (laws_heldByteS_ok x1.Reply r1 r2 h6) (cj rfl (cj h7 (cj1 (rng_next h1 h2))))))))))))))))) (laws_heldDoneS_l0_ok a h2 t1 (p1 ++ [x1]) (rng_step h1) r2))))))
def laws_heldDoneS (a : List Done) (k : Int) : Option (Int) :=
 if (capOk a.length) = true then
 (laws_heldDoneS_l0 a a k).bind fun r3 =>
 Lo.elim r3 (fun s1 =>
 some s1) (fun s2 =>
 some (-1))
 else none
theorem laws_heldDoneS_ok (a : List Done) (k : Int) : Pn (fun y => Fn Tryz.prog 10 [(false, E24 a), (false, E3 k)] (E3 y) []) (laws_heldDoneS a k) := by
  unfold laws_heldDoneS
  exact
   Pn.ite (fun h8 =>
   Pn.bind (fun r3 h9 =>
   Pn.lo (fun s1 h10 =>
   Pn.some (Fn.of [.wait 3, .mask [0, 1, 5], .ren [], .loop (X.out 0) (st 40 [(1, vI s1)] [] [])] (p := [Loop Tryz.prog (sub (codeOf Tryz.prog 10) [1, 0, 1, 0, 0]) (st 40 [(0, lF34 a), (1, vI k), (5, vI 0)] [] []) (X.out 0) (st 40 [(1, vI s1)] [] [])]) (by kernel_rfl) (cj1 ((laws_heldDoneS_l0_ok a h8 a [] rfl k r3 h9).at h10 :)))) (fun s2 h11 =>
   Pn.some (Fn.of [.wait 3, .mask [0, 1, 5], .ren [], .loop (X.ret) (st 40 [(4, vI (-1))] [] [])] (p := [Loop Tryz.prog (sub (codeOf Tryz.prog 10) [1, 0, 1, 0, 0]) (st 40 [(0, lF34 a), (1, vI k), (5, vI 0)] [] []) (X.ret) (st 40 [(4, vI (-1))] [] [])]) (by kernel_rfl) (cj1 ((laws_heldDoneS_l0_ok a h8 a [] rfl k r3 h9).at h11 :)))))) (fun h8 =>
   Pn.none)
end Go.Proofs.YtniadckjgaldnaaGreatDoorM
