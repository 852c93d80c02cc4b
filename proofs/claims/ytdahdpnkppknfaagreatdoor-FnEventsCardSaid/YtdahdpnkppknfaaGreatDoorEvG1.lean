/- Printed by gen.py: functions on plain data, and that the program computes them. No condition. -/
import Derived.Test.YtdahdpnkppknfaaGreatDoorEvG0
namespace Go.Proofs.YtdahdpnkppknfaaGreatDoorM
set_option linter.unusedVariables false
set_option linter.unusedSimpArgs false
open Go.RowKit
set_option maxRecDepth 100000

def spec_FieldKind (no : Int) : Option (Int) :=
 if (no == 3) = true then
 some 1
 else
 if (no == 4) = true then
 some 1
 else
 if (no == 7) = true then
 some 1
 else
 if (no == 11) = true then
 some 1
 else
 if (no == 14) = true then
 some 1
 else
 if (no == 49) = true then
 some 1
 else
 if (no == 37) = true then
 some 2
 else
 if (no == 38) = true then
 some 2
 else
 if (no == 39) = true then
 some 2
 else
 if (no == 41) = true then
 some 2
 else
 if (no == 95) = true then
 some 2
 else
 if (no == 2) = true then
 some 3
 else
 if (no == 102) = true then
 some 4
 else
 if (no == 103) = true then
 some 4
 else
 if (no == 48) = true then
 some 5
 else
 if (no == 54) = true then
 some 5
 else
 some 0
theorem spec_FieldKind_ok (no : Int) : Pn (fun y => Fn Tryz.prog 95 [(false, E3 no)] (E3 y) []) (spec_FieldKind no) := by
  unfold spec_FieldKind
  exact
   Pn.ite (fun h1 =>
   Pn.some (Fn.of [bT, bT] (by kernel_rfl) (cj h1 (cj1 h1)))) (fun h1 =>
   Pn.ite (fun h2 =>
   Pn.some (Fn.of [bF, bT, bT] (by kernel_rfl) (cj h1 (cj h2 (cj1 h2))))) (fun h2 =>
   Pn.ite (fun h3 =>
   Pn.some (Fn.of [bF, bF, bT, bT] (by kernel_rfl) (cj h1 (cj h2 (cj h3 (cj1 h3)))))) (fun h3 =>
   Pn.ite (fun h4 =>
   Pn.some (Fn.of [bF, bF, bF, bT, bT] (by kernel_rfl) (cj h1 (cj h2 (cj h3 (cj h4 (cj1 h4))))))) (fun h4 =>
   Pn.ite (fun h5 =>
   Pn.some (Fn.of [bF, bF, bF, bF, bT, bT] (by kernel_rfl) (cj h1 (cj h2 (cj h3 (cj h4 (cj h5 (cj1 h5)))))))) (fun h5 =>
   Pn.ite (fun h6 =>
   Pn.some (Fn.of [bF, bF, bF, bF, bF, bT] (by kernel_rfl) (cj h1 (cj h2 (cj h3 (cj h4 (cj h5 (cj1 h6)))))))) (fun h6 =>
   Pn.ite (fun h7 =>
   Pn.some (Fn.of [bF, bF, bF, bF, bF, bF, bT, bT] (by kernel_rfl) (cj h1 (cj h2 (cj h3 (cj h4 (cj h5 (cj h6 (cj h7 (cj1 h7)))))))))) (fun h7 =>
   Pn.ite (fun h8 =>
   Pn.some (Fn.of [bF, bF, bF, bF, bF, bF, bF, bT, bT] (by kernel_rfl) (cj h1 (cj h2 (cj h3 (cj h4 (cj h5 (cj h6 (cj h7 (cj h8 (cj1 h8))))))))))) (fun h8 =>
   Pn.ite (fun h9 =>
   Pn.some (Fn.of [bF, bF, bF, bF, bF, bF, bF, bF, bT, bT] (by kernel_rfl) (cj h1 (cj h2 (cj h3 (cj h4 (cj h5 (cj h6 (cj h7 (cj h8 (cj h9 (cj1 h9)))))))))))) (fun h9 =>
   Pn.ite (fun h10 =>
   Pn.some (Fn.of [bF, bF, bF, bF, bF, bF, bF, bF, bF, bT, bT] (by kernel_rfl) (cj h1 (cj h2 (cj h3 (cj h4 (cj h5 (cj h6 (cj h7 (cj h8 (cj h9 (cj h10 (cj1 h10))))))))))))) (fun h10 =>
   Pn.ite (fun h11 =>
   Pn.some (Fn.of [bF, bF, bF, bF, bF, bF, bF, bF, bF, bF, bT] (by kernel_rfl) (cj h1 (cj h2 (cj h3 (cj h4 (cj h5 (cj h6 (cj h7 (cj h8 (cj h9 (cj h10 (cj1 h11))))))))))))) (fun h11 =>
   Pn.ite (fun h12 =>
   Pn.some (Fn.of [bF, bF, bF, bF, bF, bF, bF, bF, bF, bF, bF, bT] (by kernel_rfl) (cj h1 (cj h2 (cj h3 (cj h4 (cj h5 (cj h6 (cj h7 (cj h8 (cj h9 (cj h10 (cj h11 (cj1 h12)))))))))))))) (fun h12 =>
   Pn.ite (fun h13 =>
   Pn.some (Fn.of [bF, bF, bF, bF, bF, bF, bF, bF, bF, bF, bF, bF, bT, bT] (by kernel_rfl) (cj h1 (cj h2 (cj h3 (cj h4 (cj h5 (cj h6 (cj h7 (cj h8 (cj h9 (cj h10 (cj h11 (cj h12 (cj h13 (cj1 h13)))))))))))))))) (fun h13 =>
   Pn.ite (fun h14 =>
   Pn.some (Fn.of [bF, bF, bF, bF, bF, bF, bF, bF, bF, bF, bF, bF, bF, bT] (by kernel_rfl) (cj h1 (cj h2 (cj h3 (cj h4 (cj h5 (cj h6 (cj h7 (cj h8 (cj h9 (cj h10 (cj h11 (cj h12 (cj h13 (cj1 h14)))))))))))))))) (fun h14 =>
   Pn.ite (fun h15 =>
   Pn.some (Fn.of [bF, bF, bF, bF, bF, bF, bF, bF, bF, bF, bF, bF, bF, bF, bT, bT] (by kernel_rfl) (cj h1 (cj h2 (cj h3 (cj h4 (cj h5 (cj h6 (cj h7 (cj h8 (cj h9 (cj h10 (cj h11 (cj h12 (cj h13 (cj h14 (cj h15 (cj1 h15)))))))))))))))))) (fun h15 =>
   Pn.ite (fun h16 =>
   Pn.some (Fn.of [bF, bF, bF, bF, bF, bF, bF, bF, bF, bF, bF, bF, bF, bF, bF, bT] (by kernel_rfl) (cj h1 (cj h2 (cj h3 (cj h4 (cj h5 (cj h6 (cj h7 (cj h8 (cj h9 (cj h10 (cj h11 (cj h12 (cj h13 (cj h14 (cj h15 (cj1 h16)))))))))))))))))) (fun h16 =>
   Pn.some (Fn.of [bF, bF, bF, bF, bF, bF, bF, bF, bF, bF, bF, bF, bF, bF, bF, bF] (by kernel_rfl) (cj h1 (cj h2 (cj h3 (cj h4 (cj h5 (cj h6 (cj h7 (cj h8 (cj h9 (cj h10 (cj h11 (cj h12 (cj h13 (cj h14 (cj h15 (cj1 h16)))))))))))))))))))))))))))))))))
def spec_FieldNos_l0  : Nat → Int → (List Int) → Option ((List Int))
  | 0, _, _ => none
  | fuel + 1, v1, v2 =>
   if (decide (v1 ≤ 128)) = true then
   (spec_FieldKind v1).bind fun r1 =>
   if (r1 != 0) = true then
   if (capOk (v2.length + 1)) = true then
   spec_FieldNos_l0 fuel (i64 (v1 + 1)) (v2 ++ [v1])
   else none
   else
   spec_FieldNos_l0 fuel (i64 (v1 + 1)) v2
   else
   some v2
theorem spec_FieldNos_l0_ok  : ∀ (fuel : Nat) (v1 : Int) (v2 : List Int), Pn (LpO Tryz.prog (sub (codeOf Tryz.prog 93) [1, 1, 0, 1, 0, 0]) (st 16 [(1, V.ow 0), (2, vI v1)] [Blk.row 3 (List.map E3 v2) []] []) (fun (y : (List Int)) => (X.out 0, st 16 [(1, V.ow 0)] [Blk.row 3 (List.map E3 y) []] []))) (spec_FieldNos_l0 fuel v1 v2)
  | 0, _, _ => Pn.none
  | fuel + 1, v1, v2 => by
    unfold spec_FieldNos_l0
    exact
     Pn.ite (fun h1 =>
     Pn.bind (fun r1 h2 =>
     Pn.ite (fun h3 =>
     Pn.ite (fun h4 =>
     LpO.go [bT, .call [] (E3 r1) [], bT, .cp [vI v1], .nb 2 (.row 3 (List.map E3 (v2 ++ [v1])) []), .wait 5, .mask [1, 2], .ren [2]] (by kernel_rfl) (cj h1 (cj (spec_FieldKind_ok v1 r1 h2) (cj tt (cj h3 (cj (rfl : [vI v1] = [vI v1]) (cj (rfl : [vI v1].all V.flatE = true) (cj (cap1 (capN (by simp) h4) : (List.map E3 v2).length + [vI v1].length ≤ 9223372036854775807) (cj (cap2 (capN (by simp) h4) (by decide) : ((List.map E3 v2).length + [vI v1].length) * 8 ≤ 140737488355328) (cj1 (nb_app E3 v2 [v1] : Blk.row 3 ((List.map E3 v2) ++ [vI v1]) [] = Blk.row 3 (List.map E3 (v2 ++ [v1])) [])))))))))) (spec_FieldNos_l0_ok fuel (i64 (v1 + 1)) (v2 ++ [v1]))) (fun h4 =>
     Pn.none)) (fun h3 =>
     LpO.go [bT, .call [] (E3 r1) [], bF, .wait 3, .mask [1, 2], .ren [0]] (by kernel_rfl) (cj h1 (cj (spec_FieldKind_ok v1 r1 h2) (cj tt (cj1 h3)))) (spec_FieldNos_l0_ok fuel (i64 (v1 + 1)) v2)))) (fun h1 =>
     Pn.some (LpO.out [bF, .mask [1], .ren [0]] (by kernel_rfl) (show X.out 0 ≠ X.go from nofun) (cj1 h1)))
def spec_FieldNos  : Option ((List Int)) :=
 (spec_FieldNos_l0 FUEL 1 []).bind fun r2 =>
 some r2
theorem spec_FieldNos_ok  : Pn (fun y => Fn Tryz.prog 93 [] (E50 y) []) (spec_FieldNos) := by
  unfold spec_FieldNos
  exact
   Pn.bind (fun r2 h5 =>
   Pn.some (Fn.of [.wait 5, .mask [1, 2], .ren [0], .loop (X.out 0) (st 16 [(1, V.ow 0)] [Blk.row 3 (List.map E3 r2) []] [])] (by kernel_rfl) (cj1 (spec_FieldNos_l0_ok FUEL 1 [] r2 h5))))
def spec_FieldSize (no : Int) : Option (Int) :=
 if (no == 2) = true then
 some 19
 else
 if (no == 3) = true then
 some 6
 else
 if (no == 11) = true then
 some 6
 else
 if (no == 38) = true then
 some 6
 else
 if (no == 4) = true then
 some 12
 else
 if (no == 37) = true then
 some 12
 else
 if (no == 95) = true then
 some 12
 else
 if (no == 7) = true then
 some 10
 else
 if (no == 14) = true then
 some 4
 else
 if (no == 39) = true then
 some 2
 else
 if (no == 41) = true then
 some 8
 else
 if (no == 49) = true then
 some 3
 else
 if (no == 102) = true then
 some 20
 else
 if (no == 103) = true then
 some 20
 else
 if (no == 48) = true then
 some 60
 else
 if (no == 54) = true then
 some 60
 else
 some 0
theorem spec_FieldSize_ok (no : Int) : Pn (fun y => Fn Tryz.prog 102 [(false, E3 no)] (E3 y) []) (spec_FieldSize no) := by
  unfold spec_FieldSize
  exact
   Pn.ite (fun h1 =>
   Pn.some (Fn.of [bT] (by kernel_rfl) (cj1 h1))) (fun h1 =>
   Pn.ite (fun h2 =>
   Pn.some (Fn.of [bF, bT, bT] (by kernel_rfl) (cj h1 (cj h2 (cj1 h2))))) (fun h2 =>
   Pn.ite (fun h3 =>
   Pn.some (Fn.of [bF, bF, bT, bT] (by kernel_rfl) (cj h1 (cj h2 (cj h3 (cj1 h3)))))) (fun h3 =>
   Pn.ite (fun h4 =>
   Pn.some (Fn.of [bF, bF, bF, bT] (by kernel_rfl) (cj h1 (cj h2 (cj h3 (cj1 h4)))))) (fun h4 =>
   Pn.ite (fun h5 =>
   Pn.some (Fn.of [bF, bF, bF, bF, bT, bT] (by kernel_rfl) (cj h1 (cj h2 (cj h3 (cj h4 (cj h5 (cj1 h5)))))))) (fun h5 =>
   Pn.ite (fun h6 =>
   Pn.some (Fn.of [bF, bF, bF, bF, bF, bT, bT] (by kernel_rfl) (cj h1 (cj h2 (cj h3 (cj h4 (cj h5 (cj h6 (cj1 h6))))))))) (fun h6 =>
   Pn.ite (fun h7 =>
   Pn.some (Fn.of [bF, bF, bF, bF, bF, bF, bT] (by kernel_rfl) (cj h1 (cj h2 (cj h3 (cj h4 (cj h5 (cj h6 (cj1 h7))))))))) (fun h7 =>
   Pn.ite (fun h8 =>
   Pn.some (Fn.of [bF, bF, bF, bF, bF, bF, bF, bT] (by kernel_rfl) (cj h1 (cj h2 (cj h3 (cj h4 (cj h5 (cj h6 (cj h7 (cj1 h8)))))))))) (fun h8 =>
   Pn.ite (fun h9 =>
   Pn.some (Fn.of [bF, bF, bF, bF, bF, bF, bF, bF, bT] (by kernel_rfl) (cj h1 (cj h2 (cj h3 (cj h4 (cj h5 (cj h6 (cj h7 (cj h8 (cj1 h9))))))))))) (fun h9 =>
   Pn.ite (fun h10 =>
   Pn.some (Fn.of [bF, bF, bF, bF, bF, bF, bF, bF, bF, bT] (by kernel_rfl) (cj h1 (cj h2 (cj h3 (cj h4 (cj h5 (cj h6 (cj h7 (cj h8 (cj h9 (cj1 h10)))))))))))) (fun h10 =>
   Pn.ite (fun h11 =>
   Pn.some (Fn.of [bF, bF, bF, bF, bF, bF, bF, bF, bF, bF, bT] (by kernel_rfl) (cj h1 (cj h2 (cj h3 (cj h4 (cj h5 (cj h6 (cj h7 (cj h8 (cj h9 (cj h10 (cj1 h11))))))))))))) (fun h11 =>
   Pn.ite (fun h12 =>
   Pn.some (Fn.of [bF, bF, bF, bF, bF, bF, bF, bF, bF, bF, bF, bT] (by kernel_rfl) (cj h1 (cj h2 (cj h3 (cj h4 (cj h5 (cj h6 (cj h7 (cj h8 (cj h9 (cj h10 (cj h11 (cj1 h12)))))))))))))) (fun h12 =>
   Pn.ite (fun h13 =>
   Pn.some (Fn.of [bF, bF, bF, bF, bF, bF, bF, bF, bF, bF, bF, bF, bT, bT] (by kernel_rfl) (cj h1 (cj h2 (cj h3 (cj h4 (cj h5 (cj h6 (cj h7 (cj h8 (cj h9 (cj h10 (cj h11 (cj h12 (cj h13 (cj1 h13)))))))))))))))) (fun h13 =>
   Pn.ite (fun h14 =>
   Pn.some (Fn.of [bF, bF, bF, bF, bF, bF, bF, bF, bF, bF, bF, bF, bF, bT] (by kernel_rfl) (cj h1 (cj h2 (cj h3 (cj h4 (cj h5 (cj h6 (cj h7 (cj h8 (cj h9 (cj h10 (cj h11 (cj h12 (cj h13 (cj1 h14)))))))))))))))) (fun h14 =>
   Pn.ite (fun h15 =>
   Pn.some (Fn.of [bF, bF, bF, bF, bF, bF, bF, bF, bF, bF, bF, bF, bF, bF, bT, bT] (by kernel_rfl) (cj h1 (cj h2 (cj h3 (cj h4 (cj h5 (cj h6 (cj h7 (cj h8 (cj h9 (cj h10 (cj h11 (cj h12 (cj h13 (cj h14 (cj h15 (cj1 h15)))))))))))))))))) (fun h15 =>
   Pn.ite (fun h16 =>
   Pn.some (Fn.of [bF, bF, bF, bF, bF, bF, bF, bF, bF, bF, bF, bF, bF, bF, bF, bT] (by kernel_rfl) (cj h1 (cj h2 (cj h3 (cj h4 (cj h5 (cj h6 (cj h7 (cj h8 (cj h9 (cj h10 (cj h11 (cj h12 (cj h13 (cj h14 (cj h15 (cj1 h16)))))))))))))))))) (fun h16 =>
   Pn.some (Fn.of [bF, bF, bF, bF, bF, bF, bF, bF, bF, bF, bF, bF, bF, bF, bF, bF] (by kernel_rfl) (cj h1 (cj h2 (cj h3 (cj h4 (cj h5 (cj h6 (cj h7 (cj h8 (cj h9 (cj h10 (cj h11 (cj h12 (cj h13 (cj h14 (cj h15 (cj1 h16)))))))))))))))))))))))))))))))))
def spec_l03Width (kind : Int) : Option (Int) :=
 if (kind == 3) = true then
 some 2
 else
 if (kind == 4) = true then
 some 2
 else
 if (kind == 5) = true then
 some 3
 else
 some 0
theorem spec_l03Width_ok (kind : Int) : Pn (fun y => Fn Tryz.prog 96 [(false, E3 kind)] (E3 y) []) (spec_l03Width kind) := by
  unfold spec_l03Width
  exact
   Pn.ite (fun h1 =>
   Pn.some (Fn.of [bT, bT] (by kernel_rfl) (cj h1 (cj1 h1)))) (fun h1 =>
   Pn.ite (fun h2 =>
   Pn.some (Fn.of [bF, bT] (by kernel_rfl) (cj h1 (cj1 h2)))) (fun h2 =>
   Pn.ite (fun h3 =>
   Pn.some (Fn.of [bF, bF, bT] (by kernel_rfl) (cj h1 (cj h2 (cj1 h3))))) (fun h3 =>
   Pn.some (Fn.of [bF, bF, bF] (by kernel_rfl) (cj h1 (cj h2 (cj1 h3)))))))
def spec_l03Text_l0 (r2 : Int) (r4 : Int × l01Cur) : Nat → (List Int) → Int → Int → ByteArray → Option (ByteArray × (List Int) × Int × Int)
  | 0, _, _, _, _ => none
  | fuel + 1, v1, v2, v3, v4 =>
   if (decide ((v4.size : Int) < (i64 (1 + r4.1)))) = true then
   if (r2 == 1) = true then
   (spec_l01Below (l01Cur.mk v1 v2 v3) 10).bind fun r5 =>
   if (decide (v4.size + (bstr [u8 (i64 (48 + r5.1))]).size ≤ 9223372036854775807)) = true then
   spec_l03Text_l0 r2 r4 fuel r5.2.b r5.2.i r5.2.h (v4 ++ (bstr [u8 (i64 (48 + r5.1))]))
   else none
   else
   if (r2 == 3) = true then
   (spec_l01Below (l01Cur.mk v1 v2 v3) 10).bind fun r6 =>
   if (decide (v4.size + (bstr [u8 (i64 (48 + r6.1))]).size ≤ 9223372036854775807)) = true then
   spec_l03Text_l0 r2 r4 fuel r6.2.b r6.2.i r6.2.h (v4 ++ (bstr [u8 (i64 (48 + r6.1))]))
   else none
   else
   (spec_l01Str (l01Cur.mk v1 v2 v3) [bs [97], bs [98], bs [55], bs [32], bs [126]]).bind fun r7 =>
   if (decide (v4.size + r7.1.size ≤ 9223372036854775807)) = true then
   spec_l03Text_l0 r2 r4 fuel r7.2.1.b r7.2.1.i r7.2.1.h (v4 ++ r7.1)
   else none
   else
   some (v4, v1, v2, v3)
theorem spec_l03Text_l0_ok (r2 : Int) (r4 : Int × l01Cur) : ∀ (fuel : Nat) (v1 : List Int) (v2 : Int) (v3 : Int) (v4 : ByteArray), Pn (LpO Tryz.prog (sub (codeOf Tryz.prog 64) [1, 1, 1, 1, 1, 0, 0, 0]) (st 43 [(0, V.ptr 0 0), (5, vI (i64 (1 + r4.1))), (6, vI r2), (7, vS v4)] [Blk.box 47 [lF5 v1, vI v2, vI v3]] [some 0]) (fun (y : ByteArray × (List Int) × Int × Int) => (X.out 0, st 43 [(7, vS y.1)] [Blk.box 47 [lF5 y.2.1, vI y.2.2.1, vI y.2.2.2]] [some 0]))) (spec_l03Text_l0 r2 r4 fuel v1 v2 v3 v4)
  | 0, _, _, _, _ => Pn.none
  | fuel + 1, v1, v2, v3, v4 => by
    unfold spec_l03Text_l0
    exact
     Pn.ite (fun h6 =>
     Pn.ite (fun h7 =>
     Pn.bind (fun r5 h8 =>
     Pn.ite (fun h9 =>
     LpO.go [bT, bT, bT, bT, bT, .call [true, false] (E3 r5.1) [V.bx 47 [lF5 r5.2.b, vI r5.2.i, vI r5.2.h]], .ints [u8 (i64 (48 + r5.1))], .wait 3, .mask [0, 5, 6, 7], .ren [0]] (by kernel_rfl) (cj h6 (cj h7 (cj h7 (cj h7 (cj (rfl : true = true) (cj (spec_l01Below_ok (l01Cur.mk v1 v2 v3) 10 r5 h8) (cj tt (cj (rfl : [V.sc (.int .u8 (u8 (i64 (48 + r5.1))))] = [u8 (i64 (48 + r5.1))].map fun n => V.sc (.int .u8 n)) (cj1 (od h9)))))))))) (spec_l03Text_l0_ok r2 r4 fuel r5.2.b r5.2.i r5.2.h (v4 ++ (bstr [u8 (i64 (48 + r5.1))])))) (fun h9 =>
     Pn.none))) (fun h7 =>
     Pn.ite (fun h10 =>
     Pn.bind (fun r6 h11 =>
     Pn.ite (fun h12 =>
     LpO.go [bT, bF, bF, bF, bT, .call [true, false] (E3 r6.1) [V.bx 47 [lF5 r6.2.b, vI r6.2.i, vI r6.2.h]], .ints [u8 (i64 (48 + r6.1))], .wait 3, .mask [0, 5, 6, 7], .ren [0]] (by kernel_rfl) (cj h6 (cj h7 (cj h7 (cj h7 (cj h10 (cj (spec_l01Below_ok (l01Cur.mk v1 v2 v3) 10 r6 h11) (cj tt (cj (rfl : [V.sc (.int .u8 (u8 (i64 (48 + r6.1))))] = [u8 (i64 (48 + r6.1))].map fun n => V.sc (.int .u8 n)) (cj1 (od h12)))))))))) (spec_l03Text_l0_ok r2 r4 fuel r6.2.b r6.2.i r6.2.h (v4 ++ (bstr [u8 (i64 (48 + r6.1))])))) (fun h12 =>
     Pn.none))) (fun h10 =>
     Pn.bind (fun r7 h13 =>
     Pn.ite (fun h14 =>
     LpO.go [bT, bF, bF, bF, bF, .call [true, true] (E9 r7.1) [V.bx 47 [lF5 r7.2.1.b, vI r7.2.1.i, vI r7.2.1.h], lT9 r7.2.2], .wait 3, .mask [0, 5, 6, 7], .ren [0]] (by kernel_rfl) (cj h6 (cj h7 (cj h7 (cj h7 (cj h10 (cj (spec_l01Str_ok (l01Cur.mk v1 v2 v3) [bs [97], bs [98], bs [55], bs [32], bs [126]] r7 h13) (cj tt (cj1 (od h14))))))))) (spec_l03Text_l0_ok r2 r4 fuel r7.2.1.b r7.2.1.i r7.2.1.h (v4 ++ r7.1))) (fun h14 =>
     Pn.none))))) (fun h6 =>
     Pn.some (LpO.out [bF, .mask [7], .ren [0]] (by kernel_rfl) (show X.out 0 ≠ X.go from nofun) (cj1 h6)))
def spec_l03Text_l1 (r1 : Int) (r2 : Int) : Nat → (List Int) → Int → Int → ByteArray → Option (ByteArray × (List Int) × Int × Int)
  | 0, _, _, _, _ => none
  | fuel + 1, v5, v6, v7, v8 =>
   if (decide ((v8.size : Int) < r1)) = true then
   if (r2 == 1) = true then
   (spec_l01Below (l01Cur.mk v5 v6 v7) 10).bind fun r9 =>
   if (decide (v8.size + (bstr [u8 (i64 (48 + r9.1))]).size ≤ 9223372036854775807)) = true then
   spec_l03Text_l1 r1 r2 fuel r9.2.b r9.2.i r9.2.h (v8 ++ (bstr [u8 (i64 (48 + r9.1))]))
   else none
   else
   if (r2 == 3) = true then
   (spec_l01Below (l01Cur.mk v5 v6 v7) 10).bind fun r10 =>
   if (decide (v8.size + (bstr [u8 (i64 (48 + r10.1))]).size ≤ 9223372036854775807)) = true then
   spec_l03Text_l1 r1 r2 fuel r10.2.b r10.2.i r10.2.h (v8 ++ (bstr [u8 (i64 (48 + r10.1))]))
   else none
   else
   (spec_l01Str (l01Cur.mk v5 v6 v7) [bs [97], bs [98], bs [55], bs [32], bs [126]]).bind fun r11 =>
   if (decide (v8.size + r11.1.size ≤ 9223372036854775807)) = true then
   spec_l03Text_l1 r1 r2 fuel r11.2.1.b r11.2.1.i r11.2.1.h (v8 ++ r11.1)
   else none
   else
   some (v8, v5, v6, v7)
theorem spec_l03Text_l1_ok (r1 : Int) (r2 : Int) : ∀ (fuel : Nat) (v5 : List Int) (v6 : Int) (v7 : Int) (v8 : ByteArray), Pn (LpO Tryz.prog (sub (codeOf Tryz.prog 64) [1, 1, 1, 1, 1, 0, 0, 0]) (st 43 [(0, V.ptr 0 0), (5, vI r1), (6, vI r2), (7, vS v8)] [Blk.box 47 [lF5 v5, vI v6, vI v7]] [some 0]) (fun (y : ByteArray × (List Int) × Int × Int) => (X.out 0, st 43 [(7, vS y.1)] [Blk.box 47 [lF5 y.2.1, vI y.2.2.1, vI y.2.2.2]] [some 0]))) (spec_l03Text_l1 r1 r2 fuel v5 v6 v7 v8)
  | 0, _, _, _, _ => Pn.none
  | fuel + 1, v5, v6, v7, v8 => by
    unfold spec_l03Text_l1
    exact
     Pn.ite (fun h16 =>
     Pn.ite (fun h17 =>
     Pn.bind (fun r9 h18 =>
     Pn.ite (fun h19 =>
     LpO.go [bT, bT, bT, bT, bT, .call [true, false] (E3 r9.1) [V.bx 47 [lF5 r9.2.b, vI r9.2.i, vI r9.2.h]], .ints [u8 (i64 (48 + r9.1))], .wait 3, .mask [0, 5, 6, 7], .ren [0]] (by kernel_rfl) (cj h16 (cj h17 (cj h17 (cj h17 (cj (rfl : true = true) (cj (spec_l01Below_ok (l01Cur.mk v5 v6 v7) 10 r9 h18) (cj tt (cj (rfl : [V.sc (.int .u8 (u8 (i64 (48 + r9.1))))] = [u8 (i64 (48 + r9.1))].map fun n => V.sc (.int .u8 n)) (cj1 (od h19)))))))))) (spec_l03Text_l1_ok r1 r2 fuel r9.2.b r9.2.i r9.2.h (v8 ++ (bstr [u8 (i64 (48 + r9.1))])))) (fun h19 =>
     Pn.none))) (fun h17 =>
     Pn.ite (fun h20 =>
     Pn.bind (fun r10 h21 =>
     Pn.ite (fun h22 =>
     LpO.go [bT, bF, bF, bF, bT, .call [true, false] (E3 r10.1) [V.bx 47 [lF5 r10.2.b, vI r10.2.i, vI r10.2.h]], .ints [u8 (i64 (48 + r10.1))], .wait 3, .mask [0, 5, 6, 7], .ren [0]] (by kernel_rfl) (cj h16 (cj h17 (cj h17 (cj h17 (cj h20 (cj (spec_l01Below_ok (l01Cur.mk v5 v6 v7) 10 r10 h21) (cj tt (cj (rfl : [V.sc (.int .u8 (u8 (i64 (48 + r10.1))))] = [u8 (i64 (48 + r10.1))].map fun n => V.sc (.int .u8 n)) (cj1 (od h22)))))))))) (spec_l03Text_l1_ok r1 r2 fuel r10.2.b r10.2.i r10.2.h (v8 ++ (bstr [u8 (i64 (48 + r10.1))])))) (fun h22 =>
     Pn.none))) (fun h20 =>
     Pn.bind (fun r11 h23 =>
     Pn.ite (fun h24 =>
     LpO.go [bT, bF, bF, bF, bF, .call [true, true] (E9 r11.1) [V.bx 47 [lF5 r11.2.1.b, vI r11.2.1.i, vI r11.2.1.h], lT9 r11.2.2], .wait 3, .mask [0, 5, 6, 7], .ren [0]] (by kernel_rfl) (cj h16 (cj h17 (cj h17 (cj h17 (cj h20 (cj (spec_l01Str_ok (l01Cur.mk v5 v6 v7) [bs [97], bs [98], bs [55], bs [32], bs [126]] r11 h23) (cj tt (cj1 (od h24))))))))) (spec_l03Text_l1_ok r1 r2 fuel r11.2.1.b r11.2.1.i r11.2.1.h (v8 ++ r11.1))) (fun h24 =>
     Pn.none))))) (fun h16 =>
     Pn.some (LpO.out [bF, .mask [7], .ren [0]] (by kernel_rfl) (show X.out 0 ≠ X.go from nofun) (cj1 h16)))
def spec_l03Text (c : l01Cur) (no : Int) : Option (ByteArray × l01Cur) :=
 (spec_FieldSize no).bind fun r1 =>
 (spec_FieldKind no).bind fun r2 =>
 (spec_l03Width r2).bind fun r3 =>
 if (decide (0 < r3)) = true then
 (spec_l01Below c r1).bind fun r4 =>
 (spec_l03Text_l0 r2 r4 FUEL r4.2.b r4.2.i r4.2.h (bs [])).bind fun r8 =>
 some (r8.1, (l01Cur.mk r8.2.1 r8.2.2.1 r8.2.2.2))
 else
 (spec_l03Text_l1 r1 r2 FUEL c.b c.i c.h (bs [])).bind fun r12 =>
 some (r12.1, (l01Cur.mk r12.2.1 r12.2.2.1 r12.2.2.2))
theorem spec_l03Text_ok (c : l01Cur) (no : Int) : Pn (fun y => Fn Tryz.prog 64 [(true, V.bx 47 [lF5 c.b, vI c.i, vI c.h]), (false, E3 no)] (E9 y.1) [V.bx 47 [lF5 y.2.b, vI y.2.i, vI y.2.h]]) (spec_l03Text c no) := by
  unfold spec_l03Text
  exact
   Pn.bind (fun r1 h1 =>
   Pn.bind (fun r2 h2 =>
   Pn.bind (fun r3 h3 =>
   Pn.ite (fun h4 =>
   Pn.bind (fun r4 h5 =>
   Pn.bind (fun r8 h15 =>
   Pn.some (Fn.of [.call [] (E3 r1) [], .call [] (E3 r2) [], .call [] (E3 r3) [], bT, .call [true, false] (E3 r4.1) [V.bx 47 [lF5 r4.2.b, vI r4.2.i, vI r4.2.h]], .wait 4, .mask [0, 5, 6, 7], .ren [0], .loop (X.out 0) (st 43 [(7, vS r8.1)] [Blk.box 47 [lF5 r8.2.1, vI r8.2.2.1, vI r8.2.2.2]] [some 0])] (by kernel_rfl) (cj (spec_FieldSize_ok no r1 h1) (cj tt (cj (spec_FieldKind_ok no r2 h2) (cj tt (cj (spec_l03Width_ok r2 r3 h3) (cj tt (cj h4 (cj (spec_l01Below_ok c r1 r4 h5) (cj tt (cj1 (spec_l03Text_l0_ok r2 r4 FUEL r4.2.b r4.2.i r4.2.h (bs []) r8 h15))))))))))))))) (fun h4 =>
   Pn.bind (fun r12 h25 =>
   Pn.some (Fn.of [.call [] (E3 r1) [], .call [] (E3 r2) [], .call [] (E3 r3) [], bF, .wait 1, .mask [0, 5, 6, 7], .ren [0], .loop (X.out 0) (st 43 [(7, vS r12.1)] [Blk.box 47 [lF5 r12.2.1, vI r12.2.2.1, vI r12.2.2.2]] [some 0])] (by kernel_rfl) (cj (spec_FieldSize_ok no r1 h1) (cj tt (cj (spec_FieldKind_ok no r2 h2) (cj tt (cj (spec_l03Width_ok r2 r3 h3) (cj tt (cj h4 (cj1 (spec_l03Text_l1_ok r1 r2 FUEL c.b c.i c.h (bs []) r12 h25)))))))))))))))
def spec_l04Draw_s4 (x1 : Int) (r2 : (List Int)) (p1 : List Int) (r3 : Bool × l01Cur) (r4 : ByteArray × l01Cur) (r1 : ByteArray × l01Cur × (List ByteArray)) (v4 : List Field) : St := st 30 [(0, V.ptr 0 0), (2, V.ptr 1 0), (3, V.ptr 2 0), (5, vI x1), (10, V.ow 4), (11, vI (r2.length : Int)), (12, vI (p1.length : Int)), (13, vB (decide ((p1.length : Int) < (r2.length : Int)))), (14, V.ep 4 1 ((p1.length : Int).toNat) 0), (15, vI x1), (16, V.ptr 0 0), (17, vB r3.1), (18, V.ptr 2 1), (20, vI x1), (21, V.ptr 0 0), (22, vI x1), (23, vS r4.1), (24, V.agg [vI x1, vS r4.1]), (25, V.ow 5), (26, V.ow 3), (27, V.ptr 2 1)] [Blk.box 47 [lF5 r4.2.b, vI r4.2.i, vI r4.2.h], Blk.box 83 [vE, V.nl 115], Blk.box 83 [vS r1.1, V.ow 3], Blk.row 115 (List.map E115 (v4 ++ [(Field.mk x1 r4.1)])) [], Blk.row 3 (List.map E3 r2) [], Blk.row 115 [V.agg [vI x1, vS r4.1]] []] [some 0]
def spec_l04Draw_l0 (r1 : ByteArray × l01Cur × (List ByteArray)) (r2 : (List Int)) : List Int → (List Int) → Int → Int → (List Field) → Option ((List Int) × Int × Int × (List Field))
  | [], v1, v2, v3, v4 =>
   some (v1, v2, v3, v4)
  | x1 :: t1, v1, v2, v3, v4 =>
   (spec_l01Once (l01Cur.mk v1 v2 v3) 3).bind fun r3 =>
   if r3.1 = true then
   (spec_l03Text r3.2 x1).bind fun r4 =>
   if (capOk (v4.length + 1)) = true then
   spec_l04Draw_l0 r1 r2 t1 r4.2.b r4.2.i r4.2.h (v4 ++ [(Field.mk x1 r4.1)])
   else none
   else
   spec_l04Draw_l0 r1 r2 t1 r3.2.b r3.2.i r3.2.h v4
theorem spec_l04Draw_l0_ok (r1 : ByteArray × l01Cur × (List ByteArray)) (r2 : (List Int)) (h4 : capOk r2.length = true) : ∀ (t1 p1 : List Int) (_ : r2 = p1 ++ t1) (v1 : List Int) (v2 : Int) (v3 : Int) (v4 : List Field), Pn (LpO Tryz.prog (sub (codeOf Tryz.prog 56) [1, 1, 0, 1, 0, 0]) (st 30 [(0, V.ptr 0 0), (2, V.ptr 1 0), (3, V.ptr 2 0), (10, V.ow 4), (11, vI (r2.length : Int)), (12, vI (p1.length : Int))] [Blk.box 47 [lF5 v1, vI v2, vI v3], Blk.box 83 [vE, V.nl 115], Blk.box 83 [vS r1.1, V.ow 3], Blk.row 115 (List.map E115 v4) [], Blk.row 3 (List.map E3 r2) []] [some 0]) (fun (y : (List Int) × Int × Int × (List Field)) => (X.out 0, st 30 [(2, V.ptr 1 0), (3, V.ptr 2 0)] [Blk.box 47 [lF5 y.1, vI y.2.1, vI y.2.2.1], Blk.box 83 [vE, V.nl 115], Blk.box 83 [vS r1.1, V.ow 3], Blk.row 115 (List.map E115 y.2.2.2) []] [some 0]))) (spec_l04Draw_l0 r1 r2 t1 v1 v2 v3 v4)
  | [], p1, h3, v1, v2, v3, v4 => by
    unfold spec_l04Draw_l0
    exact
     Pn.some (LpO.out [bF, .mask [2, 3], .ren [0, 1, 2, 3]] (by kernel_rfl) (show X.out 0 ≠ X.go from nofun) (cj1 (rng_end h3 : (decide ((p1.length : Int) < (r2.length : Int))) = false)))
  | x1 :: t1, p1, h3, v1, v2, v3, v4 => by
    unfold spec_l04Draw_l0
    exact
     Pn.bind (fun r3 h5 =>
     Pn.ite (fun h6 =>
     Pn.bind (fun r4 h7 =>
     Pn.ite (fun h8 =>
     LpO.go [bT, .el (E3 x1), .call [true, false] (E4 r3.1) [V.bx 47 [lF5 r3.2.b, vI r3.2.i, vI r3.2.h]], bT, .draw [5, 8, 10], .loop .go ((spec_l04Draw_s4 x1 r2 p1 r3 r4 r1 v4)), .loop .go ((spec_l04Draw_s4 x1 r2 p1 r3 r4 r1 v4)), .loop .go ((spec_l04Draw_s4 x1 r2 p1 r3 r4 r1 v4)), .call [true, false] (E9 r4.1) [V.bx 47 [lF5 r4.2.b, vI r4.2.i, vI r4.2.h]], .cp [V.agg [vI x1, vS r4.1]], .nb 6 (.row 115 (List.map E115 (v4 ++ [(Field.mk x1 r4.1)])) []), .wait 2, .ren [0, 1, 2, 6, 4, 5], .call [true, false] (E9 r4.1) [V.bx 47 [lF5 r4.2.b, vI r4.2.i, vI r4.2.h]], .cp [V.agg [vI x1, vS r4.1]], .nb 6 (.row 115 (List.map E115 (v4 ++ [(Field.mk x1 r4.1)])) []), .wait 2, .ren [0, 1, 2, 6, 4, 5], .ren [0, 1, 2, 3, 4, 5], .loop .go ((spec_l04Draw_s4 x1 r2 p1 r3 r4 r1 v4)), .call [true, false] (E9 r4.1) [V.bx 47 [lF5 r4.2.b, vI r4.2.i, vI r4.2.h]], .cp [V.agg [vI x1, vS r4.1]], .nb 6 (.row 115 (List.map E115 (v4 ++ [(Field.mk x1 r4.1)])) []), .wait 2, .ren [0, 1, 2, 6, 4, 5], .call [true, false] (E9 r4.1) [V.bx 47 [lF5 r4.2.b, vI r4.2.i, vI r4.2.h]], .cp [V.agg [vI x1, vS r4.1]], .nb 6 (.row 115 (List.map E115 (v4 ++ [(Field.mk x1 r4.1)])) []), .wait 2, .ren [0, 1, 2, 6, 4, 5], .ren [0, 1, 2, 3, 4, 5], .call [true, false] (E9 r4.1) [V.bx 47 [lF5 r4.2.b, vI r4.2.i, vI r4.2.h]], .cp [V.agg [vI x1, vS r4.1]], .nb 6 (.row 115 (List.map E115 (v4 ++ [(Field.mk x1 r4.1)])) []), .wait 2, .ren [0, 1, 2, 6, 4, 5], .ren [0, 1, 2, 3, 4, 5], .loop .go ((spec_l04Draw_s4 x1 r2 p1 r3 r4 r1 v4)), .loop .go ((spec_l04Draw_s4 x1 r2 p1 r3 r4 r1 v4)), .call [true, false] (E9 r4.1) [V.bx 47 [lF5 r4.2.b, vI r4.2.i, vI r4.2.h]], .cp [V.agg [vI x1, vS r4.1]], .nb 6 (.row 115 (List.map E115 (v4 ++ [(Field.mk x1 r4.1)])) []), .wait 2, .ren [0, 1, 2, 6, 4, 5], .call [true, false] (E9 r4.1) [V.bx 47 [lF5 r4.2.b, vI r4.2.i, vI r4.2.h]], .cp [V.agg [vI x1, vS r4.1]], .nb 6 (.row 115 (List.map E115 (v4 ++ [(Field.mk x1 r4.1)])) []), .wait 2, .ren [0, 1, 2, 6, 4, 5], .ren [0, 1, 2, 3, 4, 5], .call [true, false] (E9 r4.1) [V.bx 47 [lF5 r4.2.b, vI r4.2.i, vI r4.2.h]], .cp [V.agg [vI x1, vS r4.1]], .nb 6 (.row 115 (List.map E115 (v4 ++ [(Field.mk x1 r4.1)])) []), .wait 2, .ren [0, 1, 2, 6, 4, 5], .ren [0, 1, 2, 3, 4, 5], .call [true, false] (E9 r4.1) [V.bx 47 [lF5 r4.2.b, vI r4.2.i, vI r4.2.h]], .cp [V.agg [vI x1, vS r4.1]], .nb 6 (.row 115 (List.map E115 (v4 ++ [(Field.mk x1 r4.1)])) []), .wait 2, .ren [0, 1, 2, 6, 4, 5], .wait 3, .mask [0, 2, 3, 10, 11, 12], .ren [0, 1, 2, 3, 4], .nm 12 (vI ((p1 ++ [x1]).length : Int))] (by kernel_rfl) (cj (rng_lt h3 : (decide ((p1.length : Int) < (r2.length : Int))) = true) (cj (by omega : (0 : Int) ≤ (p1.length : Int)) (cj (rng_ltI _ h3 : ((p1.length : Int) : Int) < ((List.map E3 r2).length : Int)) (cj (rfl : look [] ((p1.length : Int).toNat) = none) (cj (rng_get _ h3 : (List.map E3 r2)[(p1.length : Int).toNat]? = some (E3 x1)) (cj (spec_l01Once_ok (l01Cur.mk v1 v2 v3) 3 r3 h5) (cj tt (cj h6 (cj (spec_l03Text_ok r3.2 x1 r4 h7) (cj tt (cj (rfl : [V.agg [vI x1, vS r4.1]] = [V.agg [vI x1, vS r4.1]]) (cj (rfl : [V.agg [vI x1, vS r4.1]].all V.flatE = true) (cj (cap1 (capN (by simp) h8) : (List.map E115 v4).length + [V.agg [vI x1, vS r4.1]].length ≤ 9223372036854775807) (cj (cap2 (capN (by simp) h8) (by decide) : ((List.map E115 v4).length + [V.agg [vI x1, vS r4.1]].length) * 24 ≤ 140737488355328) (cj (nb_app E115 v4 [(Field.mk x1 r4.1)] : Blk.row 115 ((List.map E115 v4) ++ [V.agg [vI x1, vS r4.1]]) [] = Blk.row 115 (List.map E115 (v4 ++ [(Field.mk x1 r4.1)])) []) (cj (rfl : (spec_l04Draw_s4 x1 r2 p1 r3 r4 r1 v4) = (spec_l04Draw_s4 x1 r2 p1 r3 r4 r1 v4)) (cj (spec_l03Text_ok r3.2 x1 r4 h7) (cj tt (cj (rfl : [V.agg [vI x1, vS r4.1]] = [V.agg [vI x1, vS r4.1]]) (cj (rfl : [V.agg [vI x1, vS r4.1]].all V.flatE = true) (cj (cap1 (capN (by simp) h8) : (List.map E115 v4).length + [V.agg [vI x1, vS r4.1]].length ≤ 9223372036854775807) (cj (cap2 (capN (by simp) h8) (by decide) : ((List.map E115 v4).length + [V.agg [vI x1, vS r4.1]].length) * 24 ≤ 140737488355328) (cj (nb_app E115 v4 [(Field.mk x1 r4.1)] : Blk.row 115 ((List.map E115 v4) ++ [V.agg [vI x1, vS r4.1]]) [] = Blk.row 115 (List.map E115 (v4 ++ [(Field.mk x1 r4.1)])) []) (cj (rfl : (spec_l04Draw_s4 x1 r2 p1 r3 r4 r1 v4) = (spec_l04Draw_s4 x1 r2 p1 r3 r4 r1 v4)) (cj (rfl : (spec_l04Draw_s4 x1 r2 p1 r3 r4 r1 v4) = (spec_l04Draw_s4 x1 r2 p1 r3 r4 r1 v4)) (cj (spec_l03Text_ok r3.2 x1 r4 h7) (cj tt (cj (rfl : [V.agg [vI x1, vS r4.1]] = [V.agg [vI x1, vS r4.1]]) (cj (rfl : [V.agg [vI x1, vS r4.1]].all V.flatE = true) (cj (cap1 (capN (by simp) h8) : (List.map E115 v4).length + [V.agg [vI x1, vS r4.1]].length ≤ 9223372036854775807) (cj (cap2 (capN (by simp) h8) (by decide) : ((List.map E115 v4).length + [V.agg [vI x1, vS r4.1]].length) * 24 ≤ 140737488355328) (cj (nb_app E115 v4 [(Field.mk x1 r4.1)] : Blk.row 115 ((List.map E115 v4) ++ [V.agg [vI x1, vS r4.1]]) [] = Blk.row 115 (List.map E115 (v4 ++ [(Field.mk x1 r4.1)])) []) (cj (rfl : (spec_l04Draw_s4 x1 r2 p1 r3 r4 r1 v4) = (spec_l04Draw_s4 x1 r2 p1 r3 r4 r1 v4)) (cj (spec_l03Text_ok r3.2 x1 r4 h7) (cj tt (cj (rfl : [V.agg [vI x1, vS r4.1]] = [V.agg [vI x1, vS r4.1]]) (cj (rfl : [V.agg [vI x1, vS r4.1]].all V.flatE = true) (cj (cap1 (capN (by simp) h8) : (List.map E115 v4).length + [V.agg [vI x1, vS r4.1]].length ≤ 9223372036854775807) (cj (cap2 (capN (by simp) h8) (by decide) : ((List.map E115 v4).length + [V.agg [vI x1, vS r4.1]].length) * 24 ≤ 140737488355328) (cj (nb_app E115 v4 [(Field.mk x1 r4.1)] : Blk.row 115 ((List.map E115 v4) ++ [V.agg [vI x1, vS r4.1]]) [] = Blk.row 115 (List.map E115 (v4 ++ [(Field.mk x1 r4.1)])) []) (cj (rfl : (spec_l04Draw_s4 x1 r2 p1 r3 r4 r1 v4) = (spec_l04Draw_s4 x1 r2 p1 r3 r4 r1 v4)) (cj (rfl : (spec_l04Draw_s4 x1 r2 p1 r3 r4 r1 v4) = (spec_l04Draw_s4 x1 r2 p1 r3 r4 r1 v4)) (cj (spec_l03Text_ok r3.2 x1 r4 h7) (cj tt (cj (rfl : [V.agg [vI x1, vS r4.1]] = [V.agg [vI x1, vS r4.1]]) (cj (rfl : [V.agg [vI x1, vS r4.1]].all V.flatE = true) (cj (cap1 (capN (by simp) h8) : (List.map E115 v4).length + [V.agg [vI x1, vS r4.1]].length ≤ 9223372036854775807) (cj (cap2 (capN (by simp) h8) (by decide) : ((List.map E115 v4).length + [V.agg [vI x1, vS r4.1]].length) * 24 ≤ 140737488355328) (cj (nb_app E115 v4 [(Field.mk x1 r4.1)] : Blk.row 115 ((List.map E115 v4) ++ [V.agg [vI x1, vS r4.1]]) [] = Blk.row 115 (List.map E115 (v4 ++ [(Field.mk x1 r4.1)])) []) (cj (rfl : (spec_l04Draw_s4 x1 r2 p1 r3 r4 r1 v4) = (spec_l04Draw_s4 x1 r2 p1 r3 r4 r1 v4)) (cj (rfl : (spec_l04Draw_s4 x1 r2 p1 r3 r4 r1 v4) = (spec_l04Draw_s4 x1 r2 p1 r3 r4 r1 v4)) (cj (spec_l03Text_ok r3.2 x1 r4 h7) (cj tt (cj (rfl : [V.agg [vI x1, vS r4.1]] = [V.agg [vI x1, vS r4.1]]) (cj (rfl : [V.agg [vI x1, vS r4.1]].all V.flatE = true) (cj (cap1 (capN (by simp) h8) : (List.map E115 v4).length + [V.agg [vI x1, vS r4.1]].length ≤ 9223372036854775807) (cj (cap2 (capN (by simp) h8) (by decide) : ((List.map E115 v4).length + [V.agg [vI x1, vS r4.1]].length) * 24 ≤ 140737488355328) (cj (nb_app E115 v4 [(Field.mk x1 r4.1)] : Blk.row 115 ((List.map E115 v4) ++ [V.agg [vI x1, vS r4.1]]) [] = Blk.row 115 (List.map E115 (v4 ++ [(Field.mk x1 r4.1)])) []) (cj (rfl : (spec_l04Draw_s4 x1 r2 p1 r3 r4 r1 v4) = (spec_l04Draw_s4 x1 r2 p1 r3 r4 r1 v4)) (cj (spec_l03Text_ok r3.2 x1 r4 h7) (cj tt (cj (rfl : [V.agg [vI x1, vS r4.1]] = [V.agg [vI x1, vS r4.1]]) (cj (rfl : [V.agg [vI x1, vS r4.1]].all V.flatE = true) (cj (cap1 (capN (by simp) h8) : (List.map E115 v4).length + [V.agg [vI x1, vS r4.1]].length ≤ 9223372036854775807) (cj (cap2 (capN (by simp) h8) (by decide) : ((List.map E115 v4).length + [V.agg [vI x1, vS r4.1]].length) * 24 ≤ 140737488355328) (cj (nb_app E115 v4 [(Field.mk x1 r4.1)] : Blk.row 115 ((List.map E115 v4) ++ [V.agg [vI x1, vS r4.1]]) [] = Blk.row 115 (List.map E115 (v4 ++ [(Field.mk x1 r4.1)])) []) (cj (rfl : (spec_l04Draw_s4 x1 r2 p1 r3 r4 r1 v4) = (spec_l04Draw_s4 x1 r2 p1 r3 r4 r1 v4)) (cj (rfl : (spec_l04Draw_s4 x1 r2 p1 r3 r4 r1 v4) = (spec_l04Draw_s4 x1 r2 p1 r3 r4 r1 v4)) (cj (spec_l03Text_ok r3.2 x1 r4 h7) (cj tt (cj (rfl : [V.agg [vI x1, vS r4.1]] = [V.agg [vI x1, vS r4.1]]) (cj (rfl : [V.agg [vI x1, vS r4.1]].all V.flatE = true) (cj (cap1 (capN (by simp) h8) : (List.map E115 v4).length + [V.agg [vI x1, vS r4.1]].length ≤ 9223372036854775807) (cj (cap2 (capN (by simp) h8) (by decide) : ((List.map E115 v4).length + [V.agg [vI x1, vS r4.1]].length) * 24 ≤ 140737488355328) (cj (nb_app E115 v4 [(Field.mk x1 r4.1)] : Blk.row 115 ((List.map E115 v4) ++ [V.agg [vI x1, vS r4.1]]) [] = Blk.row 115 (List.map E115 (v4 ++ [(Field.mk x1 r4.1)])) []) (cj (rfl : (spec_l04Draw_s4 x1 r2 p1 r3 r4 r1 v4) = (spec_l04Draw_s4 x1 r2 p1 r3 r4 r1 v4)) (cj (rfl : (spec_l04Draw_s4 x1 r2 p1 r3 r4 r1 v4) = (spec_l04Draw_s4 x1 r2 p1 r3 r4 r1 v4)) (cj (spec_l03Text_ok r3.2 x1 r4 h7) (cj tt (cj (rfl : [V.agg [vI x1, vS r4.1]] = [V.agg [vI x1, vS r4.1]]) (cj (rfl : [V.agg [vI x1, vS r4.1]].all V.flatE = true) (cj (cap1 (capN (by simp) h8) : (List.map E115 v4).length + [V.agg [vI x1, vS r4.1]].length ≤ 9223372036854775807) (cj (cap2 (capN (by simp) h8) (by decide) : ((List.map E115 v4).length + [V.agg [vI x1, vS r4.1]].length) * 24 ≤ 140737488355328) (cj (nb_app E115 v4 [(Field.mk x1 r4.1)] : Blk.row 115 ((List.map E115 v4) ++ [V.agg [vI x1, vS r4.1]]) [] = Blk.row 115 (List.map E115 (v4 ++ [(Field.mk x1 r4.1)])) []) (cj (rfl : (spec_l04Draw_s4 x1 r2 p1 r3 r4 r1 v4) = (spec_l04Draw_s4 x1 r2 p1 r3 r4 r1 v4)) (cj1 (rng_next h3 h4 : vI (i64 ((p1.length : Int) + 1)) = vI ((p1 ++ [x1]).length : Int)))))))))))))))))))))))))))))))))))))))))))))))))))))))))))))))))))))))))))))))))))))))) (spec_l04Draw_l0_ok r1 r2 h4 t1 (p1 ++ [x1]) (rng_step h3) r4.2.b r4.2.i r4.2.h (v4 ++ [(Field.mk x1 r4.1)]))) (fun h8 =>
     Pn.none))) (fun h6 =>
     LpO.go [bT, .el (E3 x1), .call [true, false] (E4 r3.1) [V.bx 47 [lF5 r3.2.b, vI r3.2.i, vI r3.2.h]], bF, .wait 2, .mask [0, 2, 3, 10, 11, 12], .ren [0, 1, 2, 3, 4], .nm 12 (vI ((p1 ++ [x1]).length : Int))] (by kernel_rfl) (cj (rng_lt h3 : (decide ((p1.length : Int) < (r2.length : Int))) = true) (cj (by omega : (0 : Int) ≤ (p1.length : Int)) (cj (rng_ltI _ h3 : ((p1.length : Int) : Int) < ((List.map E3 r2).length : Int)) (cj (rfl : look [] ((p1.length : Int).toNat) = none) (cj (rng_get _ h3 : (List.map E3 r2)[(p1.length : Int).toNat]? = some (E3 x1)) (cj (spec_l01Once_ok (l01Cur.mk v1 v2 v3) 3 r3 h5) (cj tt (cj h6 (cj1 (rng_next h3 h4 : vI (i64 ((p1.length : Int) + 1)) = vI ((p1 ++ [x1]).length : Int))))))))))) (spec_l04Draw_l0_ok r1 r2 h4 t1 (p1 ++ [x1]) (rng_step h3) r3.2.b r3.2.i r3.2.h v4)))
def spec_l04Draw (c : l01Cur) : Option (Msg × l01Cur) :=
 (spec_l01Str c [bs [48, 49, 48, 48], bs [48, 50, 48, 48], bs [48, 50, 50, 48], bs [48, 49, 49, 48], bs [48, 56, 48, 48], bs [49, 50, 51, 52], bs [48, 48, 48, 48]]).bind fun r1 =>
 (spec_FieldNos).bind fun r2 =>
 if (capOk r2.length) = true then
 (spec_l04Draw_l0 r1 r2 r2 r1.2.1.b r1.2.1.i r1.2.1.h []).bind fun r5 =>
 some ((Msg.mk r1.1 r5.2.2.2), (l01Cur.mk r5.1 r5.2.1 r5.2.2.1))
 else none
theorem spec_l04Draw_ok (c : l01Cur) : Pn (fun y => Fn Tryz.prog 56 [(true, V.bx 47 [lF5 c.b, vI c.i, vI c.h])] (E83 y.1) [V.bx 47 [lF5 y.2.b, vI y.2.i, vI y.2.h]]) (spec_l04Draw c) := by
  unfold spec_l04Draw
  exact
   Pn.bind (fun r1 h1 =>
   Pn.bind (fun r2 h2 =>
   Pn.ite (fun h9 =>
   Pn.bind (fun r5 h10 =>
   Pn.some (Fn.of [.call [true, true] (E9 r1.1) [V.bx 47 [lF5 r1.2.1.b, vI r1.2.1.i, vI r1.2.1.h], lT9 r1.2.2], .call [] (E50 r2) [], .wait 1, .nm 11 (vI (r2.length : Int)), .wait 2, .mask [0, 2, 3, 10, 11, 12], .ren [0, 1, 3, 4], .ownb 2 1, .mask [0, 2, 3, 10, 11, 12], .ren [0, 1, 2, 4, 3], .loop (X.out 0) (st 30 [(2, V.ptr 1 0), (3, V.ptr 2 0)] [Blk.box 47 [lF5 r5.1, vI r5.2.1, vI r5.2.2.1], Blk.box 83 [vE, V.nl 115], Blk.box 83 [vS r1.1, V.ow 3], Blk.row 115 (List.map E115 r5.2.2.2) []] [some 0])] (by kernel_rfl) (cj (spec_l01Str_ok c [bs [48, 49, 48, 48], bs [48, 50, 48, 48], bs [48, 50, 50, 48], bs [48, 49, 49, 48], bs [48, 56, 48, 48], bs [49, 50, 51, 52], bs [48, 48, 48, 48]] r1 h1) (cj tt (cj (spec_FieldNos_ok  r2 h2) (cj tt (cj (len_nm E3 r2) (cj1 (spec_l04Draw_l0_ok r1 r2 h9 r2 [] rfl r1.2.1.b r1.2.1.i r1.2.1.h [] r5 h10)))))))))) (fun h9 =>
   Pn.none)))
def spec_Printable_l0 (s_ : ByteArray) : Nat → Int → Option (Lo Unit Unit)
  | 0, _ => none
  | fuel + 1, v1 =>
   if (decide (v1 < (s_.size : Int))) = true then
   if (decide (0 ≤ v1)) = true then
   if (decide ((v1 : Int) < (s_.size : Int))) = true then
   if (decide ((sAt s_ v1) < 32)) = true then
   some (.ret ())
   else
   if (decide (126 < (sAt s_ v1))) = true then
   some (.ret ())
   else
   spec_Printable_l0 s_ fuel (i64 (v1 + 1))
   else none
   else none
   else
   some (.out ())
theorem spec_Printable_l0_ok (s_ : ByteArray) : ∀ (fuel : Nat) (v1 : Int), Pn (LpO Tryz.prog (sub (codeOf Tryz.prog 107) [1, 0, 1, 0, 0]) (st 20 [(0, vS s_), (3, vI v1)] [] []) (fun (y : Lo Unit Unit) => Lo.elim y (fun s => (X.out 0, st 20 [] [] [])) (fun s => (X.ret, st 20 [(2, vB false)] [] [])))) (spec_Printable_l0 s_ fuel v1)
  | 0, _ => Pn.none
  | fuel + 1, v1 => by
    unfold spec_Printable_l0
    exact
     Pn.ite (fun h1 =>
     Pn.ite (fun h2 =>
     Pn.ite (fun h3 =>
     Pn.ite (fun h4 =>
     Pn.some (LpO.out [bT, bT, bT, bT, bT, bT, bT, .wait 1, .mask [2], .ren []] (by kernel_rfl) (show X.ret ≠ X.go from nofun) (cj h1 (cj (od h2) (cj (od h3) (cj h4 (cj h4 (cj h4 (cj h4 (cj h4 (cj1 (rfl : true = true)))))))))))) (fun h4 =>
     Pn.ite (fun h5 =>
     Pn.some (LpO.out [bT, bF, bF, bF, bF, bF, bT, .wait 1, .mask [2], .ren []] (by kernel_rfl) (show X.ret ≠ X.go from nofun) (cj h1 (cj (od h2) (cj (od h3) (cj h4 (cj h4 (cj h4 (cj (od h2) (cj (od h3) (cj h4 (cj h4 (cj1 h5))))))))))))) (fun h5 =>
     LpO.go [bT, bF, bF, bF, bF, bF, bF, .wait 3, .mask [0, 3], .ren []] (by kernel_rfl) (cj h1 (cj (od h2) (cj (od h3) (cj h4 (cj h4 (cj h4 (cj (od h2) (cj (od h3) (cj h4 (cj h4 (cj1 h5))))))))))) (spec_Printable_l0_ok s_ fuel (i64 (v1 + 1)))))) (fun h3 =>
     Pn.none)) (fun h2 =>
     Pn.none)) (fun h1 =>
     Pn.some (LpO.out [bF, .mask [], .ren []] (by kernel_rfl) (show X.out 0 ≠ X.go from nofun) (cj1 h1)))
def spec_Printable (s_ : ByteArray) : Option (Bool) :=
 (spec_Printable_l0 s_ FUEL 0).bind fun r1 =>
 Lo.elim r1 (fun s1 =>
 some true) (fun s2 =>
 some false)
theorem spec_Printable_ok (s_ : ByteArray) : Pn (fun y => Fn Tryz.prog 107 [(false, E9 s_)] (E4 y) []) (spec_Printable s_) := by
  unfold spec_Printable
  exact
   Pn.bind (fun r1 h6 =>
   Pn.lo (fun s1 h7 =>
   Pn.some (Fn.of [.wait 3, .mask [0, 3], .ren [], .loop (X.out 0) (st 20 [] [] [])] (by kernel_rfl) (cj1 ((spec_Printable_l0_ok s_ FUEL 0 r1 h6).at h7 :)))) (fun s2 h8 =>
   Pn.some (Fn.of [.wait 3, .mask [0, 3], .ren [], .loop (X.ret) (st 20 [(2, vB false)] [] [])] (by kernel_rfl) (cj1 ((spec_Printable_l0_ok s_ FUEL 0 r1 h6).at h8 :)))))
def spec_FieldOk_c1 (s_ : ByteArray) (r1 : Int) (r2 : Int) : Option (Bool) :=
 if (r2 == 4) = true then
 some (r2 == 4)
 else
 some (r2 == 5)
theorem spec_FieldOk_c1_ok (s_ : ByteArray) (r1 : Int) (r2 : Int) : Pn (JnO Tryz.prog (sub (codeOf Tryz.prog 72) [1, 1, 0, 1, 0, 1, 1, 1, 1, 1, 1, 0]) (st 51 [(1, vS s_), (5, vI r1), (9, vI r2)] [] []) (fun (y : Bool) => (X.go, st 51 [(1, vS s_), (5, vI r1), (40, vB y)] [] []))) (spec_FieldOk_c1 s_ r1 r2) := by
  unfold spec_FieldOk_c1
  exact
   Pn.ite (fun h12 =>
   Pn.some (JnO.of [bT, .mask [1, 5, 40], .ren []] (by kernel_rfl) (cj1 h12))) (fun h12 =>
   Pn.some (JnO.of [bF, .wait 2, .mask [1, 5, 40], .ren []] (by kernel_rfl) (cj1 h12)))
def spec_FieldOk_c0 (no : Int) (s_ : ByteArray) (r1 : Int) : Option (Lo Unit Bool) :=
 (spec_FieldKind no).bind fun r2 =>
 if (r2 == 1) = true then
 (spec_Digits s_).bind fun r3 =>
 if r3 = true then
 some (.ret ((s_.size : Int) == r1))
 else
 some (.ret false)
 else
 if (r2 == 2) = true then
 (spec_Printable s_).bind fun r4 =>
 if r4 = true then
 some (.ret ((s_.size : Int) == r1))
 else
 some (.ret false)
 else
 if (r2 == 3) = true then
 (spec_Digits s_).bind fun r5 =>
 if r5 = true then
 some (.ret (decide ((s_.size : Int) ≤ r1)))
 else
 some (.ret false)
 else
 (spec_FieldOk_c1 s_ r1 r2).bind fun r6 =>
 if r6 = true then
 (spec_Printable s_).bind fun r7 =>
 if r7 = true then
 (spec_l01In (s_.size : Int) 1 r1).bind fun r8 =>
 some (.ret r8)
 else
 some (.ret false)
 else
 some (.out ())
theorem spec_FieldOk_c0_ok (no : Int) (s_ : ByteArray) (r1 : Int) : Pn (JnO Tryz.prog (sub (codeOf Tryz.prog 72) [1, 1, 0]) (st 51 [(0, vI no), (1, vS s_), (5, vI r1)] [] []) (fun (y : Lo Unit Bool) => Lo.elim y (fun s => (X.go, st 51 [] [] [])) (fun s => (X.ret, st 51 [(4, vB s)] [] [])))) (spec_FieldOk_c0 no s_ r1) := by
  unfold spec_FieldOk_c0
  exact
   Pn.bind (fun r2 h2 =>
   Pn.ite (fun h3 =>
   Pn.bind (fun r3 h4 =>
   Pn.ite (fun h5 =>
   Pn.some (JnO.of [.call [] (E3 r2) [], bT, .call [] (E4 r3) [], bT, bT, bT, bT, bT, .wait 2, .mask [4], .ren []] (by kernel_rfl) (cj (spec_FieldKind_ok no r2 h2) (cj tt (cj h3 (cj (spec_Digits_ok s_ r3 h4) (cj tt (cj h5 (cj h5 (cj h5 (cj h5 (cj1 h5)))))))))))) (fun h5 =>
   Pn.some (JnO.of [.call [] (E3 r2) [], bT, .call [] (E4 r3) [], bF, bF, bF, bF, bF, .wait 2, .mask [4], .ren []] (by kernel_rfl) (cj (spec_FieldKind_ok no r2 h2) (cj tt (cj h3 (cj (spec_Digits_ok s_ r3 h4) (cj tt (cj h5 (cj h5 (cj h5 (cj h5 (cj1 h5)))))))))))))) (fun h3 =>
   Pn.ite (fun h6 =>
   Pn.bind (fun r4 h7 =>
   Pn.ite (fun h8 =>
   Pn.some (JnO.of [.call [] (E3 r2) [], bF, bT, .call [] (E4 r4) [], bT, bT, bT, bT, bT, .wait 2, .mask [4], .ren []] (by kernel_rfl) (cj (spec_FieldKind_ok no r2 h2) (cj tt (cj h3 (cj h6 (cj (spec_Printable_ok s_ r4 h7) (cj tt (cj h8 (cj h8 (cj h8 (cj h8 (cj1 h8))))))))))))) (fun h8 =>
   Pn.some (JnO.of [.call [] (E3 r2) [], bF, bT, .call [] (E4 r4) [], bF, bF, bF, bF, bF, .wait 2, .mask [4], .ren []] (by kernel_rfl) (cj (spec_FieldKind_ok no r2 h2) (cj tt (cj h3 (cj h6 (cj (spec_Printable_ok s_ r4 h7) (cj tt (cj h8 (cj h8 (cj h8 (cj h8 (cj1 h8))))))))))))))) (fun h6 =>
   Pn.ite (fun h9 =>
   Pn.bind (fun r5 h10 =>
   Pn.ite (fun h11 =>
   Pn.some (JnO.of [.call [] (E3 r2) [], bF, bF, bT, .call [] (E4 r5) [], bT, bT, bT, bT, bT, .wait 2, .mask [4], .ren []] (by kernel_rfl) (cj (spec_FieldKind_ok no r2 h2) (cj tt (cj h3 (cj h6 (cj h9 (cj (spec_Digits_ok s_ r5 h10) (cj tt (cj h11 (cj h11 (cj h11 (cj h11 (cj1 h11)))))))))))))) (fun h11 =>
   Pn.some (JnO.of [.call [] (E3 r2) [], bF, bF, bT, .call [] (E4 r5) [], bF, bF, bF, bF, bF, .wait 2, .mask [4], .ren []] (by kernel_rfl) (cj (spec_FieldKind_ok no r2 h2) (cj tt (cj h3 (cj h6 (cj h9 (cj (spec_Digits_ok s_ r5 h10) (cj tt (cj h11 (cj h11 (cj h11 (cj h11 (cj1 h11)))))))))))))))) (fun h9 =>
   Pn.bind (fun r6 h13 =>
   Pn.ite (fun h14 =>
   Pn.bind (fun r7 h15 =>
   Pn.ite (fun h16 =>
   Pn.bind (fun r8 h17 =>
   Pn.some (JnO.of [.call [] (E3 r2) [], bF, bF, bF, .mask [1, 5, 9], .ren [], .join 5 (X.go) (st 51 [(1, vS s_), (5, vI r1), (40, vB r6)] [] []), bT, .call [] (E4 r7) [], bT, bT, bT, bT, .call [] (E4 r8) [], bT, .wait 2, .mask [4], .ren []] (by kernel_rfl) (cj (spec_FieldKind_ok no r2 h2) (cj tt (cj h3 (cj h6 (cj h9 (cj (spec_FieldOk_c1_ok s_ r1 r2 r6 h13) (cj h14 (cj (spec_Printable_ok s_ r7 h15) (cj tt (cj h16 (cj h16 (cj h16 (cj h16 (cj (spec_l01In_ok (s_.size : Int) 1 r1 r8 h17 : Fn Tryz.prog 81 [(false, E3 (s_.size : Int)), (false, E3 1), (false, E3 r1)] (E4 r8) []) (cj tt (cj1 h16))))))))))))))))))) (fun h16 =>
   Pn.some (JnO.of [.call [] (E3 r2) [], bF, bF, bF, .mask [1, 5, 9], .ren [], .join 5 (X.go) (st 51 [(1, vS s_), (5, vI r1), (40, vB r6)] [] []), bT, .call [] (E4 r7) [], bF, bF, bF, bF, bF, .wait 2, .mask [4], .ren []] (by kernel_rfl) (cj (spec_FieldKind_ok no r2 h2) (cj tt (cj h3 (cj h6 (cj h9 (cj (spec_FieldOk_c1_ok s_ r1 r2 r6 h13) (cj h14 (cj (spec_Printable_ok s_ r7 h15) (cj tt (cj h16 (cj h16 (cj h16 (cj h16 (cj1 h16)))))))))))))))))) (fun h14 =>
   Pn.some (JnO.of [.call [] (E3 r2) [], bF, bF, bF, .mask [1, 5, 9], .ren [], .join 5 (X.go) (st 51 [(1, vS s_), (5, vI r1), (40, vB r6)] [] []), bF, .mask [], .ren []] (by kernel_rfl) (cj (spec_FieldKind_ok no r2 h2) (cj tt (cj h3 (cj h6 (cj h9 (cj (spec_FieldOk_c1_ok s_ r1 r2 r6 h13) (cj1 h14))))))))))))))
def spec_FieldOk (no : Int) (s_ : ByteArray) : Option (Bool) :=
 (spec_FieldSize no).bind fun r1 =>
 (spec_FieldOk_c0 no s_ r1).bind fun r9 =>
 Lo.elim r9 (fun s1 =>
 some false) (fun s2 =>
 some s2)
theorem spec_FieldOk_ok (no : Int) (s_ : ByteArray) : Pn (fun y => Fn Tryz.prog 72 [(false, E3 no), (false, E9 s_)] (E4 y) []) (spec_FieldOk no s_) := by
  unfold spec_FieldOk
  exact
   Pn.bind (fun r1 h1 =>
   Pn.bind (fun r9 h18 =>
   Pn.lo (fun s1 h19 =>
   Pn.some (Fn.of [.call [] (E3 r1) [], .wait 2, .mask [0, 1, 5], .ren [], .join 32 (X.go) (st 51 [] [] [])] (by kernel_rfl) (cj (spec_FieldSize_ok no r1 h1) (cj tt (cj1 ((spec_FieldOk_c0_ok no s_ r1 r9 h18).at h19 :)))))) (fun s2 h20 =>
   Pn.some (Fn.of [.call [] (E3 r1) [], .wait 2, .mask [0, 1, 5], .ren [], .join 32 (X.ret) (st 51 [(4, vB s2)] [] [])] (by kernel_rfl) (cj (spec_FieldSize_ok no r1 h1) (cj tt (cj1 ((spec_FieldOk_c0_ok no s_ r1 r9 h18).at h20 :))))))))
def spec_MsgOk_c0 (m : Msg) : Option (Lo Unit Unit) :=
 (spec_Digits m.Mti).bind fun r1 =>
 if r1 = true then
 if ((m.Mti.size : Int) != 4) = true then
 some (.ret ())
 else
 some (.out ())
 else
 some (.ret ())
theorem spec_MsgOk_c0_ok (m : Msg) : Pn (JnO Tryz.prog (sub (codeOf Tryz.prog 57) [1, 0]) (st 46 [(1, V.ptr 0 0)] [Blk.box 83 [vS m.Mti, lF115 m.List]] []) (fun (y : Lo Unit Unit) => Lo.elim y (fun s => (X.go, st 46 [(1, V.ptr 0 0)] [Blk.box 83 [vS m.Mti, lF115 m.List]] [])) (fun s => (X.ret, st 46 [(2, vB false)] [] [])))) (spec_MsgOk_c0 m) := by
  unfold spec_MsgOk_c0
  exact
   Pn.bind (fun r1 h1 =>
   Pn.ite (fun h2 =>
   Pn.ite (fun h3 =>
   Pn.some (JnO.of [.call [] (E4 r1) [], bF, bF, bF, bF, bF, bT, .wait 1, .mask [2], .ren []] (by kernel_rfl) (cj (spec_Digits_ok m.Mti r1 h1) (cj tt (cj (nf h2) (cj (nf h2) (cj (nf h2) (cj (nf h2) (cj (nf h2) (cj1 h3)))))))))) (fun h3 =>
   Pn.some (JnO.of [.call [] (E4 r1) [], bF, bF, bF, bF, bF, bF, .mask [1], .ren [0]] (by kernel_rfl) (cj (spec_Digits_ok m.Mti r1 h1) (cj tt (cj (nf h2) (cj (nf h2) (cj (nf h2) (cj (nf h2) (cj (nf h2) (cj1 h3))))))))))) (fun h2 =>
   Pn.some (JnO.of [.call [] (E4 r1) [], bT, bT, bT, bT, bT, bT, .wait 1, .mask [2], .ren []] (by kernel_rfl) (cj (spec_Digits_ok m.Mti r1 h1) (cj tt (cj (nt h2) (cj (nt h2) (cj (nt h2) (cj (nt h2) (cj (nt h2) (cj1 (rfl : true = true))))))))))))
def spec_MsgOk_c3 (m : Msg) (v1 : Int) : Option (Lo Unit Unit) :=
 if (decide (v1 < (m.List.length : Int))) = true then
 some (.out ())
 else
 some (.ret ())
theorem spec_MsgOk_c3_ok (m : Msg) (v1 : Int) : Pn (JnO Tryz.prog (sub (codeOf Tryz.prog 57) [1, 1, 0, 1, 0, 0, 1, 0]) (st 46 [(1, V.ptr 0 0), (16, lF115 m.List), (17, vI (m.List.length : Int)), (18, vI v1), (19, vB (decide (v1 < (m.List.length : Int))))] [Blk.box 83 [vS m.Mti, lF115 m.List]] []) (fun (y : Lo Unit Unit) => Lo.elim y (fun s => (X.go, st 46 [(1, V.ptr 0 0), (16, lF115 m.List), (17, vI (m.List.length : Int)), (18, vI v1)] [Blk.box 83 [vS m.Mti, lF115 m.List]] [])) (fun s => (X.out 0, st 46 [] [] [])))) (spec_MsgOk_c3 m v1) := by
  unfold spec_MsgOk_c3
  exact
   Pn.ite (fun h7 =>
   Pn.some (JnO.of [bT, .mask [1, 16, 17, 18], .ren [0]] (by kernel_rfl) (cj1 h7))) (fun h7 =>
   Pn.some (JnO.of [bF, .mask [], .ren []] (by kernel_rfl) (cj1 h7)))
def spec_MsgOk_c4 (m : Msg) (v1 : Int) : Option (Lo Unit Unit) :=
 if (decide (0 ≤ v1)) = true then
 (m.List[v1.toNat]?).bind fun x1 =>
 (spec_FieldOk x1.No x1.Text).bind fun r4 =>
 if r4 = true then
 if (decide (0 < v1)) = true then
 if (decide (0 ≤ (i64 (v1 - 1)))) = true then
 (m.List[(i64 (v1 - 1)).toNat]?).bind fun x2 =>
 if (decide (x1.No ≤ x2.No)) = true then
 some (.ret ())
 else
 some (.out ())
 else none
 else
 some (.out ())
 else
 some (.ret ())
 else none
theorem spec_MsgOk_c4_ok (m : Msg) (v1 : Int) : Pn (JnO Tryz.prog (sub (codeOf Tryz.prog 57) [1, 1, 0, 1, 0, 0, 1, 1, 0]) (st 46 [(1, V.ptr 0 0), (16, lF115 m.List), (17, vI (m.List.length : Int)), (18, vI v1)] [Blk.box 83 [vS m.Mti, lF115 m.List]] []) (fun (y : Lo Unit Unit) => Lo.elim y (fun s => (X.go, st 46 [(1, V.ptr 0 0), (16, lF115 m.List), (17, vI (m.List.length : Int)), (18, vI v1)] [Blk.box 83 [vS m.Mti, lF115 m.List]] [])) (fun s => (X.ret, st 46 [(2, vB false)] [] [])))) (spec_MsgOk_c4 m v1) := by
  unfold spec_MsgOk_c4
  exact
   Pn.ite (fun h11 =>
   Pn.bind (fun x1 h12 =>
   Pn.bind (fun r4 h13 =>
   Pn.ite (fun h14 =>
   Pn.ite (fun h15 =>
   Pn.ite (fun h16 =>
   Pn.bind (fun x2 h17 =>
   Pn.ite (fun h18 =>
   Pn.some (JnO.of [.el (E115 x1), .draw [], .call [] (E4 r4) [], bF, bF, bF, bT, bT, bT, bT, bT, .el (E115 x2), bT, bT, bT, bT, bT, bF, bT, bF, bT, .wait 1, .mask [2], .ren []] (by kernel_rfl) (cj (od h11) (cj (map_get h12 : (List.map E115 m.List)[v1.toNat]? = some (E115 x1)) (cj (spec_FieldOk_ok x1.No x1.Text r4 h13) (cj tt (cj (nf h14) (cj (nf h14) (cj (nf h14) (cj h15 (cj h15 (cj h15 (cj h15 (cj h15 (cj (od h16) (cj (map_get h17 : (List.map E115 m.List)[(i64 (v1 - 1)).toNat]? = some (E115 x2)) (cj h15 (cj h15 (cj h15 (cj h15 (cj h15 (cj (nf h14) (cj h15 (cj (nf h14) (cj1 h18))))))))))))))))))))))))) (fun h18 =>
   Pn.some (JnO.of [.el (E115 x1), .draw [], .call [] (E4 r4) [], bF, bF, bF, bT, bT, bT, bT, bT, .el (E115 x2), bT, bT, bT, bT, bT, bF, bT, bF, bF, .mask [1, 16, 17, 18], .ren [0]] (by kernel_rfl) (cj (od h11) (cj (map_get h12 : (List.map E115 m.List)[v1.toNat]? = some (E115 x1)) (cj (spec_FieldOk_ok x1.No x1.Text r4 h13) (cj tt (cj (nf h14) (cj (nf h14) (cj (nf h14) (cj h15 (cj h15 (cj h15 (cj h15 (cj h15 (cj (od h16) (cj (map_get h17 : (List.map E115 m.List)[(i64 (v1 - 1)).toNat]? = some (E115 x2)) (cj h15 (cj h15 (cj h15 (cj h15 (cj h15 (cj (nf h14) (cj h15 (cj (nf h14) (cj1 h18))))))))))))))))))))))))))) (fun h16 =>
   Pn.none)) (fun h15 =>
   Pn.some (JnO.of [.el (E115 x1), .draw [], .call [] (E4 r4) [], bF, bF, bF, bF, bF, bF, bF, bF, bF, bF, bF, bF, bF, bF, bF, bF, bF, .mask [1, 16, 17, 18], .ren [0]] (by kernel_rfl) (cj (od h11) (cj (map_get h12 : (List.map E115 m.List)[v1.toNat]? = some (E115 x1)) (cj (spec_FieldOk_ok x1.No x1.Text r4 h13) (cj tt (cj (nf h14) (cj (nf h14) (cj (nf h14) (cj h15 (cj h15 (cj h15 (cj h15 (cj h15 (cj h15 (cj h15 (cj h15 (cj h15 (cj h15 (cj (nf h14) (cj h15 (cj (nf h14) (cj1 ff)))))))))))))))))))))))) (fun h14 =>
   Pn.some (JnO.of [.el (E115 x1), .draw [], .call [] (E4 r4) [], bT, bT, bT, bT, bT, bT, .wait 1, .mask [2], .ren []] (by kernel_rfl) (cj (od h11) (cj (map_get h12 : (List.map E115 m.List)[v1.toNat]? = some (E115 x1)) (cj (spec_FieldOk_ok x1.No x1.Text r4 h13) (cj tt (cj (nt h14) (cj (nt h14) (cj (nt h14) (cj (nt h14) (cj (nt h14) (cj1 (rfl : true = true)))))))))))))))) (fun h11 =>
   Pn.none)
def spec_MsgOk_l0 (m : Msg) : Nat → Int → Option (Lo Unit Unit)
  | 0, _ => none
  | fuel + 1, v1 =>
   (spec_MsgOk_c3 m v1).bind fun r3 =>
   Lo.elim r3 (fun s3 =>
   (spec_MsgOk_c4 m v1).bind fun r5 =>
   Lo.elim r5 (fun s5 =>
   spec_MsgOk_l0 m fuel (i64 (v1 + 1))) (fun s6 =>
   some (.ret ()))) (fun s4 =>
   some (.out ()))
theorem spec_MsgOk_l0_ok (m : Msg) : ∀ (fuel : Nat) (v1 : Int), Pn (LpO Tryz.prog (sub (codeOf Tryz.prog 57) [1, 1, 0, 1, 0, 0]) (st 46 [(1, V.ptr 0 0), (16, lF115 m.List), (17, vI (m.List.length : Int)), (18, vI v1)] [Blk.box 83 [vS m.Mti, lF115 m.List]] []) (fun (y : Lo Unit Unit) => Lo.elim y (fun s => (X.out 0, st 46 [] [] [])) (fun s => (X.ret, st 46 [(2, vB false)] [] [])))) (spec_MsgOk_l0 m fuel v1)
  | 0, _ => Pn.none
  | fuel + 1, v1 => by
    unfold spec_MsgOk_l0
    exact
     Pn.bind (fun r3 h8 =>
     Pn.lo (fun s3 h9 =>
     Pn.bind (fun r5 h19 =>
     Pn.lo (fun s5 h20 =>
     LpO.go [.wait 2, .mask [1, 16, 17, 18, 19], .ren [0], .join 3 (X.go) (st 46 [(1, V.ptr 0 0), (16, lF115 m.List), (17, vI (m.List.length : Int)), (18, vI v1)] [Blk.box 83 [vS m.Mti, lF115 m.List]] []), .wait 1, .mask [1, 16, 17, 18], .ren [0], .join 10 (X.go) (st 46 [(1, V.ptr 0 0), (16, lF115 m.List), (17, vI (m.List.length : Int)), (18, vI v1)] [Blk.box 83 [vS m.Mti, lF115 m.List]] []), .wait 3, .mask [1, 16, 17, 18], .ren [0]] (by kernel_rfl) (cj ((spec_MsgOk_c3_ok m v1 r3 h8).at h9 :) (cj1 ((spec_MsgOk_c4_ok m v1 r5 h19).at h20 :))) (spec_MsgOk_l0_ok m fuel (i64 (v1 + 1)))) (fun s6 h21 =>
     Pn.some (LpO.out [.wait 2, .mask [1, 16, 17, 18, 19], .ren [0], .join 3 (X.go) (st 46 [(1, V.ptr 0 0), (16, lF115 m.List), (17, vI (m.List.length : Int)), (18, vI v1)] [Blk.box 83 [vS m.Mti, lF115 m.List]] []), .wait 1, .mask [1, 16, 17, 18], .ren [0], .join 10 (X.ret) (st 46 [(2, vB false)] [] []), .wait 1, .mask [2], .ren []] (by kernel_rfl) (show X.ret ≠ X.go from nofun) (cj ((spec_MsgOk_c3_ok m v1 r3 h8).at h9 :) (cj1 ((spec_MsgOk_c4_ok m v1 r5 h19).at h21 :))))))) (fun s4 h10 =>
     Pn.some (LpO.out [.wait 2, .mask [1, 16, 17, 18, 19], .ren [0], .join 3 (X.out 0) (st 46 [] [] []), .wait 1, .mask [], .ren []] (by kernel_rfl) (show X.out 0 ≠ X.go from nofun) (cj1 ((spec_MsgOk_c3_ok m v1 r3 h8).at h10 :)))))
def spec_MsgOk (m : Msg) : Option (Bool) :=
 (spec_MsgOk_c0 m).bind fun r2 =>
 Lo.elim r2 (fun s1 =>
 (spec_MsgOk_l0 m FUEL 0).bind fun r6 =>
 Lo.elim r6 (fun s7 =>
 some true) (fun s8 =>
 some false)) (fun s2 =>
 some false)
theorem spec_MsgOk_ok (m : Msg) : Pn (fun y => Fn Tryz.prog 57 [(false, E83 m)] (E4 y) []) (spec_MsgOk m) := by
  unfold spec_MsgOk
  exact
   Pn.bind (fun r2 h4 =>
   Pn.lo (fun s1 h5 =>
   Pn.bind (fun r6 h22 =>
   Pn.lo (fun s7 h23 =>
   Pn.some (Fn.of [.wait 3, .mask [1], .ren [0], .join 7 (X.go) (st 46 [(1, V.ptr 0 0)] [Blk.box 83 [vS m.Mti, lF115 m.List]] []), .wait 3, .nm 17 (vI (m.List.length : Int)), .wait 2, .mask [1, 16, 17, 18], .ren [0], .loop (X.out 0) (st 46 [] [] [])] (by kernel_rfl) (cj ((spec_MsgOk_c0_ok m r2 h4).at h5 :) (cj (len_nm E115 m.List) (cj1 ((spec_MsgOk_l0_ok m FUEL 0 r6 h22).at h23 :)))))) (fun s8 h24 =>
   Pn.some (Fn.of [.wait 3, .mask [1], .ren [0], .join 7 (X.go) (st 46 [(1, V.ptr 0 0)] [Blk.box 83 [vS m.Mti, lF115 m.List]] []), .wait 3, .nm 17 (vI (m.List.length : Int)), .wait 2, .mask [1, 16, 17, 18], .ren [0], .loop (X.ret) (st 46 [(2, vB false)] [] [])] (by kernel_rfl) (cj ((spec_MsgOk_c0_ok m r2 h4).at h5 :) (cj (len_nm E115 m.List) (cj1 ((spec_MsgOk_l0_ok m FUEL 0 r6 h22).at h24 :)))))))) (fun s2 h6 =>
   Pn.some (Fn.of [.wait 3, .mask [1], .ren [0], .join 7 (X.ret) (st 46 [(2, vB false)] [] [])] (by kernel_rfl) (cj1 ((spec_MsgOk_c0_ok m r2 h4).at h6 :)))))
def spec_PutBcd_l0 (s_ : ByteArray) : Nat → Int → (List Int) → Option ((List Int))
  | 0, _, _ => none
  | fuel + 1, v1, v2 =>
   if (decide (v1 < (((bs [48]) ++ s_).size : Int))) = true then
   if (decide (0 ≤ v1)) = true then
   if (decide ((v1 : Int) < (((bs [48]) ++ s_).size : Int))) = true then
   if (decide (0 ≤ i64 (v1 + 1))) = true then
   if (decide ((i64 (v1 + 1) : Int) < (((bs [48]) ++ s_).size : Int))) = true then
   if (capOk (v2.length + 1)) = true then
   spec_PutBcd_l0 s_ fuel (i64 (v1 + 2)) (v2 ++ [u8 (i64 ((i64 ((i64 ((i64 ((i64 (sAt ((bs [48]) ++ s_) v1)) - 48)) * 16)) + (i64 (sAt ((bs [48]) ++ s_) (i64 (v1 + 1)))))) - 48))])
   else none
   else none
   else none
   else none
   else none
   else
   some v2
theorem spec_PutBcd_l0_ok (s_ : ByteArray) : ∀ (fuel : Nat) (v1 : Int) (v2 : List Int), Pn (LpO Tryz.prog (sub (codeOf Tryz.prog 58) [1, 1, 1, 1, 0, 1, 0, 0]) (st 45 [(0, vS ((bs [48]) ++ s_)), (4, V.ow 0), (5, vI v1)] [Blk.row 5 (List.map E5 v2) []] []) (fun (y : (List Int)) => (X.out 0, st 45 [(4, V.ow 0)] [Blk.row 5 (List.map E5 y) []] []))) (spec_PutBcd_l0 s_ fuel v1 v2)
  | 0, _, _ => Pn.none
  | fuel + 1, v1, v2 => by
    unfold spec_PutBcd_l0
    exact
     Pn.ite (fun h6 =>
     Pn.ite (fun h7 =>
     Pn.ite (fun h8 =>
     Pn.ite (fun h9 =>
     Pn.ite (fun h10 =>
     Pn.ite (fun h11 =>
     LpO.go [bT, .draw [16], .cp [V.sc (.int .u8 (u8 (i64 ((i64 ((i64 ((i64 ((i64 (sAt ((bs [48]) ++ s_) v1)) - 48)) * 16)) + (i64 (sAt ((bs [48]) ++ s_) (i64 (v1 + 1)))))) - 48))))], .nb 2 (.row 5 (List.map E5 (v2 ++ [u8 (i64 ((i64 ((i64 ((i64 ((i64 (sAt ((bs [48]) ++ s_) v1)) - 48)) * 16)) + (i64 (sAt ((bs [48]) ++ s_) (i64 (v1 + 1)))))) - 48))])) []), .wait 5, .mask [0, 4, 5], .ren [2]] (by kernel_rfl) (cj h6 (cj (od h7) (cj (od h8) (cj (od h9) (cj (od h10) (cj (rfl : [V.sc (.int .u8 (u8 (i64 ((i64 ((i64 ((i64 ((i64 (sAt ((bs [48]) ++ s_) v1)) - 48)) * 16)) + (i64 (sAt ((bs [48]) ++ s_) (i64 (v1 + 1)))))) - 48))))] = [V.sc (.int .u8 (u8 (i64 ((i64 ((i64 ((i64 ((i64 (sAt ((bs [48]) ++ s_) v1)) - 48)) * 16)) + (i64 (sAt ((bs [48]) ++ s_) (i64 (v1 + 1)))))) - 48))))]) (cj (rfl : [V.sc (.int .u8 (u8 (i64 ((i64 ((i64 ((i64 ((i64 (sAt ((bs [48]) ++ s_) v1)) - 48)) * 16)) + (i64 (sAt ((bs [48]) ++ s_) (i64 (v1 + 1)))))) - 48))))].all V.flatE = true) (cj (cap1 (capN (by simp) h11) : (List.map E5 v2).length + [V.sc (.int .u8 (u8 (i64 ((i64 ((i64 ((i64 ((i64 (sAt ((bs [48]) ++ s_) v1)) - 48)) * 16)) + (i64 (sAt ((bs [48]) ++ s_) (i64 (v1 + 1)))))) - 48))))].length ≤ 9223372036854775807) (cj (cap2 (capN (by simp) h11) (by decide) : ((List.map E5 v2).length + [V.sc (.int .u8 (u8 (i64 ((i64 ((i64 ((i64 ((i64 (sAt ((bs [48]) ++ s_) v1)) - 48)) * 16)) + (i64 (sAt ((bs [48]) ++ s_) (i64 (v1 + 1)))))) - 48))))].length) * 1 ≤ 140737488355328) (cj1 (nb_app E5 v2 [u8 (i64 ((i64 ((i64 ((i64 ((i64 (sAt ((bs [48]) ++ s_) v1)) - 48)) * 16)) + (i64 (sAt ((bs [48]) ++ s_) (i64 (v1 + 1)))))) - 48))] : Blk.row 5 ((List.map E5 v2) ++ [V.sc (.int .u8 (u8 (i64 ((i64 ((i64 ((i64 ((i64 (sAt ((bs [48]) ++ s_) v1)) - 48)) * 16)) + (i64 (sAt ((bs [48]) ++ s_) (i64 (v1 + 1)))))) - 48))))]) [] = Blk.row 5 (List.map E5 (v2 ++ [u8 (i64 ((i64 ((i64 ((i64 ((i64 (sAt ((bs [48]) ++ s_) v1)) - 48)) * 16)) + (i64 (sAt ((bs [48]) ++ s_) (i64 (v1 + 1)))))) - 48))])) []))))))))))) (spec_PutBcd_l0_ok s_ fuel (i64 (v1 + 2)) (v2 ++ [u8 (i64 ((i64 ((i64 ((i64 ((i64 (sAt ((bs [48]) ++ s_) v1)) - 48)) * 16)) + (i64 (sAt ((bs [48]) ++ s_) (i64 (v1 + 1)))))) - 48))]))) (fun h11 =>
     Pn.none)) (fun h10 =>
     Pn.none)) (fun h9 =>
     Pn.none)) (fun h8 =>
     Pn.none)) (fun h7 =>
     Pn.none)) (fun h6 =>
     Pn.some (LpO.out [bF, .mask [4], .ren [0]] (by kernel_rfl) (show X.out 0 ≠ X.go from nofun) (cj1 h6)))
def spec_PutBcd_l1 (s_ : ByteArray) : Nat → Int → (List Int) → Option ((List Int))
  | 0, _, _ => none
  | fuel + 1, v3, v4 =>
   if (decide (v3 < (s_.size : Int))) = true then
   if (decide (0 ≤ v3)) = true then
   if (decide ((v3 : Int) < (s_.size : Int))) = true then
   if (decide (0 ≤ i64 (v3 + 1))) = true then
   if (decide ((i64 (v3 + 1) : Int) < (s_.size : Int))) = true then
   if (capOk (v4.length + 1)) = true then
   spec_PutBcd_l1 s_ fuel (i64 (v3 + 2)) (v4 ++ [u8 (i64 ((i64 ((i64 ((i64 ((i64 (sAt s_ v3)) - 48)) * 16)) + (i64 (sAt s_ (i64 (v3 + 1)))))) - 48))])
   else none
   else none
   else none
   else none
   else none
   else
   some v4
theorem spec_PutBcd_l1_ok (s_ : ByteArray) : ∀ (fuel : Nat) (v3 : Int) (v4 : List Int), Pn (LpO Tryz.prog (sub (codeOf Tryz.prog 58) [1, 1, 1, 1, 0, 1, 0, 0]) (st 45 [(0, vS s_), (4, V.ow 0), (5, vI v3)] [Blk.row 5 (List.map E5 v4) []] []) (fun (y : (List Int)) => (X.out 0, st 45 [(4, V.ow 0)] [Blk.row 5 (List.map E5 y) []] []))) (spec_PutBcd_l1 s_ fuel v3 v4)
  | 0, _, _ => Pn.none
  | fuel + 1, v3, v4 => by
    unfold spec_PutBcd_l1
    exact
     Pn.ite (fun h13 =>
     Pn.ite (fun h14 =>
     Pn.ite (fun h15 =>
     Pn.ite (fun h16 =>
     Pn.ite (fun h17 =>
     Pn.ite (fun h18 =>
     LpO.go [bT, .draw [16], .cp [V.sc (.int .u8 (u8 (i64 ((i64 ((i64 ((i64 ((i64 (sAt s_ v3)) - 48)) * 16)) + (i64 (sAt s_ (i64 (v3 + 1)))))) - 48))))], .nb 2 (.row 5 (List.map E5 (v4 ++ [u8 (i64 ((i64 ((i64 ((i64 ((i64 (sAt s_ v3)) - 48)) * 16)) + (i64 (sAt s_ (i64 (v3 + 1)))))) - 48))])) []), .wait 5, .mask [0, 4, 5], .ren [2]] (by kernel_rfl) (cj h13 (cj (od h14) (cj (od h15) (cj (od h16) (cj (od h17) (cj (rfl : [V.sc (.int .u8 (u8 (i64 ((i64 ((i64 ((i64 ((i64 (sAt s_ v3)) - 48)) * 16)) + (i64 (sAt s_ (i64 (v3 + 1)))))) - 48))))] = [V.sc (.int .u8 (u8 (i64 ((i64 ((i64 ((i64 ((i64 (sAt s_ v3)) - 48)) * 16)) + (i64 (sAt s_ (i64 (v3 + 1)))))) - 48))))]) (cj (rfl : [V.sc (.int .u8 (u8 (i64 ((i64 ((i64 ((i64 ((i64 (sAt s_ v3)) - 48)) * 16)) + (i64 (sAt s_ (i64 (v3 + 1)))))) - 48))))].all V.flatE = true) (cj (cap1 (capN (by simp) h18) : (List.map E5 v4).length + [V.sc (.int .u8 (u8 (i64 ((i64 ((i64 ((i64 ((i64 (sAt s_ v3)) - 48)) * 16)) + (i64 (sAt s_ (i64 (v3 + 1)))))) - 48))))].length ≤ 9223372036854775807) (cj (cap2 (capN (by simp) h18) (by decide) : ((List.map E5 v4).length + [V.sc (.int .u8 (u8 (i64 ((i64 ((i64 ((i64 ((i64 (sAt s_ v3)) - 48)) * 16)) + (i64 (sAt s_ (i64 (v3 + 1)))))) - 48))))].length) * 1 ≤ 140737488355328) (cj1 (nb_app E5 v4 [u8 (i64 ((i64 ((i64 ((i64 ((i64 (sAt s_ v3)) - 48)) * 16)) + (i64 (sAt s_ (i64 (v3 + 1)))))) - 48))] : Blk.row 5 ((List.map E5 v4) ++ [V.sc (.int .u8 (u8 (i64 ((i64 ((i64 ((i64 ((i64 (sAt s_ v3)) - 48)) * 16)) + (i64 (sAt s_ (i64 (v3 + 1)))))) - 48))))]) [] = Blk.row 5 (List.map E5 (v4 ++ [u8 (i64 ((i64 ((i64 ((i64 ((i64 (sAt s_ v3)) - 48)) * 16)) + (i64 (sAt s_ (i64 (v3 + 1)))))) - 48))])) []))))))))))) (spec_PutBcd_l1_ok s_ fuel (i64 (v3 + 2)) (v4 ++ [u8 (i64 ((i64 ((i64 ((i64 ((i64 (sAt s_ v3)) - 48)) * 16)) + (i64 (sAt s_ (i64 (v3 + 1)))))) - 48))]))) (fun h18 =>
     Pn.none)) (fun h17 =>
     Pn.none)) (fun h16 =>
     Pn.none)) (fun h15 =>
     Pn.none)) (fun h14 =>
     Pn.none)) (fun h13 =>
     Pn.some (LpO.out [bF, .mask [4], .ren [0]] (by kernel_rfl) (show X.out 0 ≠ X.go from nofun) (cj1 h13)))
def spec_PutBcd (s_ : ByteArray) : Option ((List Int) × Bool) :=
 (spec_Digits s_).bind fun r1 =>
 if r1 = true then
 if (decide (38 < (s_.size : Int))) = true then
 some ([], false)
 else
 if ((Int.tmod (s_.size : Int) 2) == 1) = true then
 if (decide ((bs [48]).size + s_.size ≤ 9223372036854775807)) = true then
 (spec_PutBcd_l0 s_ FUEL 0 []).bind fun r2 =>
 some (r2, true)
 else none
 else
 (spec_PutBcd_l1 s_ FUEL 0 []).bind fun r3 =>
 some (r3, true)
 else
 some ([], false)
theorem spec_PutBcd_ok (s_ : ByteArray) : Pn (fun y => Fn Tryz.prog 58 [(false, E9 s_)] (V.tup [E22 y.1, E4 y.2]) []) (spec_PutBcd s_) := by
  unfold spec_PutBcd
  exact
   Pn.bind (fun r1 h1 =>
   Pn.ite (fun h2 =>
   Pn.ite (fun h3 =>
   Pn.some (Fn.of [.call [] (E4 r1) [], bF, bF, bF, bF, bT] (by kernel_rfl) (cj (spec_Digits_ok s_ r1 h1) (cj tt (cj (nf h2) (cj (nf h2) (cj (nf h2) (cj (nf h2) (cj1 h3))))))))) (fun h3 =>
   Pn.ite (fun h4 =>
   Pn.ite (fun h5 =>
   Pn.bind (fun r2 h12 =>
   Pn.some (Fn.of [.call [] (E4 r1) [], bF, bF, bF, bF, bF, bT, .wait 6, .mask [0, 4, 5], .ren [0], .loop (X.out 0) (st 45 [(4, V.ow 0)] [Blk.row 5 (List.map E5 r2) []] [])] (by kernel_rfl) (cj (spec_Digits_ok s_ r1 h1) (cj tt (cj (nf h2) (cj (nf h2) (cj (nf h2) (cj (nf h2) (cj h3 (cj (by decide : (2 : Int) ≠ 0) (cj h4 (cj (od h5) (cj1 (spec_PutBcd_l0_ok s_ FUEL 0 [] r2 h12))))))))))))))) (fun h5 =>
   Pn.none)) (fun h4 =>
   Pn.bind (fun r3 h19 =>
   Pn.some (Fn.of [.call [] (E4 r1) [], bF, bF, bF, bF, bF, bF, .wait 3, .mask [0, 4, 5], .ren [0], .loop (X.out 0) (st 45 [(4, V.ow 0)] [Blk.row 5 (List.map E5 r3) []] [])] (by kernel_rfl) (cj (spec_Digits_ok s_ r1 h1) (cj tt (cj (nf h2) (cj (nf h2) (cj (nf h2) (cj (nf h2) (cj h3 (cj (by decide : (2 : Int) ≠ 0) (cj h4 (cj1 (spec_PutBcd_l1_ok s_ FUEL 0 [] r3 h19)))))))))))))))) (fun h2 =>
   Pn.some (Fn.of [.call [] (E4 r1) [], bT, bT, bT, bT, bT] (by kernel_rfl) (cj (spec_Digits_ok s_ r1 h1) (cj tt (cj (nt h2) (cj (nt h2) (cj (nt h2) (cj (nt h2) (cj1 (rfl : true = true)))))))))))
def spec_PutBits_l0 (l : List Int) : List Int → (List Int) → Option ((List Int))
  | [], v1 =>
   some v1
  | x1 :: t1, v1 =>
   (spec_l01In x1 1 64).bind fun r1 =>
   if r1 = true then
   if (decide (0 ≤ (i64 (Int.tdiv (i64 (x1 - 1)) 8)))) = true then
   (v1[(i64 (Int.tdiv (i64 (x1 - 1)) 8)).toNat]?).bind fun x2 =>
   if (decide (¬ (Int.tmod (i64 (x1 - 1)) 8) < 0)) = true then
   spec_PutBits_l0 l t1 (v1.set ((i64 (Int.tdiv (i64 (x1 - 1)) 8)).toNat) (bor .u8 x2 (bshr .u8 128 (Int.tmod (i64 (x1 - 1)) 8))))
   else none
   else none
   else
   spec_PutBits_l0 l t1 v1
theorem spec_PutBits_l0_ok (l : List Int) (h4 : capOk l.length = true) : ∀ (t1 p1 : List Int) (_ : l = p1 ++ t1) (v1 : List Int), Pn (LpO Tryz.prog (sub (codeOf Tryz.prog 59) [1, 1, 0, 1, 0, 0]) (st 33 [(3, V.ow 0), (7, lF3 l), (8, vI (l.length : Int)), (9, vI (p1.length : Int))] [Blk.row 5 (List.map E5 v1) []] []) (fun (y : (List Int)) => (X.out 0, st 33 [(3, V.ow 0)] [Blk.row 5 (List.map E5 y) []] []))) (spec_PutBits_l0 l t1 v1)
  | [], p1, h3, v1 => by
    unfold spec_PutBits_l0
    exact
     Pn.some (LpO.out [bF, .mask [3], .ren [0]] (by kernel_rfl) (show X.out 0 ≠ X.go from nofun) (cj1 (rng_end h3 : (decide ((p1.length : Int) < (l.length : Int))) = false)))
  | x1 :: t1, p1, h3, v1 => by
    unfold spec_PutBits_l0
    exact
     Pn.bind (fun r1 h5 =>
     Pn.ite (fun h6 =>
     Pn.ite (fun h7 =>
     Pn.bind (fun x2 h8 =>
     Pn.ite (fun h9 =>
     LpO.go [bT, .el (E3 x1), .call [] (E4 r1) [], bT, .draw [16], .el (E5 x2), .el (E5 x2), .nb 0 (.row 5 (List.map E5 (v1.set ((i64 (Int.tdiv (i64 (x1 - 1)) 8)).toNat) (bor .u8 x2 (bshr .u8 128 (Int.tmod (i64 (x1 - 1)) 8))))) []), .wait 3, .mask [3, 7, 8, 9], .ren [0], .nm 9 (vI ((p1 ++ [x1]).length : Int))] (by kernel_rfl) (cj (rng_lt h3 : (decide ((p1.length : Int) < (l.length : Int))) = true) (cj (by omega : (0 : Int) ≤ (p1.length : Int)) (cj (rng_get _ h3 : (List.map E3 l)[(p1.length : Int).toNat]? = some (E3 x1)) (cj (spec_l01In_ok x1 1 64 r1 h5) (cj tt (cj h6 (cj (by decide : (8 : Int) ≠ 0) (cj (by decide : (8 : Int) ≠ 0) (cj (od h7) (cj (map_ltN (od h7) h8 : ((i64 (Int.tdiv (i64 (x1 - 1)) 8)) : Int) < ((List.map E5 v1).length : Int)) (cj (rfl : look [] ((i64 (Int.tdiv (i64 (x1 - 1)) 8)).toNat) = none) (cj (map_get h8 : (List.map E5 v1)[(i64 (Int.tdiv (i64 (x1 - 1)) 8)).toNat]? = some (E5 x2)) (cj (by decide : (8 : Int) ≠ 0) (cj (od h9) (cj (od h7) (cj (map_ltN (od h7) h8 : ((i64 (Int.tdiv (i64 (x1 - 1)) 8)) : Int) < ((List.map E5 v1).length : Int)) (cj (rfl : look [] ((i64 (Int.tdiv (i64 (x1 - 1)) 8)).toNat) = none) (cj (map_get h8 : (List.map E5 v1)[(i64 (Int.tdiv (i64 (x1 - 1)) 8)).toNat]? = some (E5 x2)) (cj (nb_set E5 _ _ (bor .u8 x2 (bshr .u8 128 (Int.tmod (i64 (x1 - 1)) 8))) : Blk.row 5 ((List.map E5 v1).set ((i64 (Int.tdiv (i64 (x1 - 1)) 8)).toNat) (V.sc (.int .u8 (bor .u8 x2 (bshr .u8 128 (Int.tmod (i64 (x1 - 1)) 8)))))) [] = Blk.row 5 (List.map E5 (v1.set ((i64 (Int.tdiv (i64 (x1 - 1)) 8)).toNat) (bor .u8 x2 (bshr .u8 128 (Int.tmod (i64 (x1 - 1)) 8))))) []) (cj1 (rng_next h3 h4 : vI (i64 ((p1.length : Int) + 1)) = vI ((p1 ++ [x1]).length : Int)))))))))))))))))))))) (spec_PutBits_l0_ok l h4 t1 (p1 ++ [x1]) (rng_step h3) (v1.set ((i64 (Int.tdiv (i64 (x1 - 1)) 8)).toNat) (bor .u8 x2 (bshr .u8 128 (Int.tmod (i64 (x1 - 1)) 8)))))) (fun h9 =>
     Pn.none))) (fun h7 =>
     Pn.none)) (fun h6 =>
     LpO.go [bT, .el (E3 x1), .call [] (E4 r1) [], bF, .wait 2, .mask [3, 7, 8, 9], .ren [0], .nm 9 (vI ((p1 ++ [x1]).length : Int))] (by kernel_rfl) (cj (rng_lt h3 : (decide ((p1.length : Int) < (l.length : Int))) = true) (cj (by omega : (0 : Int) ≤ (p1.length : Int)) (cj (rng_get _ h3 : (List.map E3 l)[(p1.length : Int).toNat]? = some (E3 x1)) (cj (spec_l01In_ok x1 1 64 r1 h5) (cj tt (cj h6 (cj1 (rng_next h3 h4 : vI (i64 ((p1.length : Int) + 1)) = vI ((p1 ++ [x1]).length : Int))))))))) (spec_PutBits_l0_ok l h4 t1 (p1 ++ [x1]) (rng_step h3) v1)))
def spec_PutBits (l : List Int) : Option ((List Int)) :=
 if (decide (0 ≤ 8)) = true then
 if (capOk 8) = true then
 if (capOk l.length) = true then
 (spec_PutBits_l0 l l (List.replicate 8 0)).bind fun r2 =>
 some r2
 else none
 else none
 else none
theorem spec_PutBits_ok (l : List Int) : Pn (fun y => Fn Tryz.prog 59 [(false, E50 l)] (E22 y) []) (spec_PutBits l) := by
  unfold spec_PutBits
  exact
   Pn.ite (fun h1 =>
   Pn.ite (fun h2 =>
   Pn.ite (fun h10 =>
   Pn.bind (fun r2 h11 =>
   Pn.some (Fn.of [.wait 2, .nb 0 (.row 5 (List.map E5 (List.replicate 8 0)) []), .wait 3, .nm 8 (vI (l.length : Int)), .wait 2, .mask [3, 7, 8, 9], .ren [0], .loop (X.out 0) (st 33 [(3, V.ow 0)] [Blk.row 5 (List.map E5 r2) []] [])] (by kernel_rfl) (cj (rfl : (8 : Int) = 8) (cj (od h1 : (0 : Int) ≤ 8) (cj (cap3 h1 h2 : (8 : Int) ≤ 9223372036854775807) (cj (cap4 h2 (by decide) : 1 * 8 ≤ 281474976710656) (cj (nb_rep E5 _ 0 : Blk.row 5 (List.replicate 8 (V.sc (.int .u8 0))) [] = Blk.row 5 (List.map E5 (List.replicate 8 0)) []) (cj (len_nm E3 l) (cj1 (spec_PutBits_l0_ok l h10 l [] rfl (List.replicate 8 0) r2 h11))))))))))) (fun h10 =>
   Pn.none)) (fun h2 =>
   Pn.none)) (fun h1 =>
   Pn.none)
def spec_NumText_l0 (n : Int) : Nat → Int → ByteArray → Option (Int × ByteArray)
  | 0, _, _ => none
  | fuel + 1, v1, v2 =>
   if (decide (9 < v1)) = true then
   if (decide ((bstr [u8 (i64 (48 + (Int.tmod v1 10)))]).size + v2.size ≤ 9223372036854775807)) = true then
   spec_NumText_l0 n fuel (i64 (Int.tdiv v1 10)) ((bstr [u8 (i64 (48 + (Int.tmod v1 10)))]) ++ v2)
   else none
   else
   some (v1, v2)
theorem spec_NumText_l0_ok (n : Int) : ∀ (fuel : Nat) (v1 : Int) (v2 : ByteArray), Pn (LpO Tryz.prog (sub (codeOf Tryz.prog 106) [1, 1, 1, 0, 0, 0]) (st 26 [(0, vI v1), (3, vS v2)] [] []) (fun (y : Int × ByteArray) => (X.out 0, st 26 [(0, vI y.1), (3, vS y.2)] [] []))) (spec_NumText_l0 n fuel v1 v2)
  | 0, _, _ => Pn.none
  | fuel + 1, v1, v2 => by
    unfold spec_NumText_l0
    exact
     Pn.ite (fun h3 =>
     Pn.ite (fun h4 =>
     LpO.go [bT, .ints [u8 (i64 (48 + (Int.tmod v1 10)))], .wait 7, .mask [0, 3], .ren []] (by kernel_rfl) (cj h3 (cj (by decide : (10 : Int) ≠ 0) (cj (rfl : [V.sc (.int .u8 (u8 (i64 (48 + (Int.tmod v1 10)))))] = [u8 (i64 (48 + (Int.tmod v1 10)))].map fun n => V.sc (.int .u8 n)) (cj (od h4) (cj1 (by decide : (10 : Int) ≠ 0)))))) (spec_NumText_l0_ok n fuel (i64 (Int.tdiv v1 10)) ((bstr [u8 (i64 (48 + (Int.tmod v1 10)))]) ++ v2))) (fun h4 =>
     Pn.none)) (fun h3 =>
     Pn.some (LpO.out [bF, .mask [0, 3], .ren []] (by kernel_rfl) (show X.out 0 ≠ X.go from nofun) (cj1 h3)))
def spec_NumText (n : Int) : Option (ByteArray) :=
 (spec_l01Money n).bind fun r1 =>
 if r1 = true then
 (spec_NumText_l0 n FUEL n (bs [])).bind fun r2 =>
 if (decide ((bstr [u8 (i64 (48 + r2.1))]).size + r2.2.size ≤ 9223372036854775807)) = true then
 some ((bstr [u8 (i64 (48 + r2.1))]) ++ r2.2)
 else none
 else
 some (bs [])
theorem spec_NumText_ok (n : Int) : Pn (fun y => Fn Tryz.prog 106 [(false, E3 n)] (E9 y) []) (spec_NumText n) := by
  unfold spec_NumText
  exact
   Pn.bind (fun r1 h1 =>
   Pn.ite (fun h2 =>
   Pn.bind (fun r2 h5 =>
   Pn.ite (fun h6 =>
   Pn.some (Fn.of [.call [] (E4 r1) [], bF, .wait 1, .mask [0, 3], .ren [], .loop (X.out 0) (st 26 [(0, vI r2.1), (3, vS r2.2)] [] []), .ints [u8 (i64 (48 + r2.1))]] (by kernel_rfl) (cj (spec_l01Money_ok n r1 h1) (cj tt (cj (nf h2) (cj (spec_NumText_l0_ok n FUEL n (bs []) r2 h5) (cj (rfl : [V.sc (.int .u8 (u8 (i64 (48 + r2.1))))] = [u8 (i64 (48 + r2.1))].map fun n => V.sc (.int .u8 n)) (cj1 (od h6))))))))) (fun h6 =>
   Pn.none))) (fun h2 =>
   Pn.some (Fn.of [.call [] (E4 r1) [], bT] (by kernel_rfl) (cj (spec_l01Money_ok n r1 h1) (cj tt (cj1 (nt h2)))))))
def spec_Wide_l0 (w : Int) : Nat → ByteArray → Option (ByteArray)
  | 0, _ => none
  | fuel + 1, v1 =>
   if (decide ((v1.size : Int) < w)) = true then
   if (decide ((bs [48]).size + v1.size ≤ 9223372036854775807)) = true then
   spec_Wide_l0 w fuel ((bs [48]) ++ v1)
   else none
   else
   some v1
theorem spec_Wide_l0_ok (w : Int) : ∀ (fuel : Nat) (v1 : ByteArray), Pn (LpO Tryz.prog (sub (codeOf Tryz.prog 71) [1, 1, 1, 0, 0, 0]) (st 31 [(1, vI w), (5, vS v1)] [] []) (fun (y : ByteArray) => (X.out 0, st 31 [(5, vS y)] [] []))) (spec_Wide_l0 w fuel v1)
  | 0, _ => Pn.none
  | fuel + 1, v1 => by
    unfold spec_Wide_l0
    exact
     Pn.ite (fun h6 =>
     Pn.ite (fun h7 =>
     LpO.go [bT, .wait 3, .mask [1, 5], .ren []] (by kernel_rfl) (cj h6 (cj1 (od h7))) (spec_Wide_l0_ok w fuel ((bs [48]) ++ v1))) (fun h7 =>
     Pn.none)) (fun h6 =>
     Pn.some (LpO.out [bF, .mask [5], .ren []] (by kernel_rfl) (show X.out 0 ≠ X.go from nofun) (cj1 h6)))
def spec_Wide (n : Int) (w : Int) : Option (ByteArray) :=
 (spec_NumText n).bind fun r1 =>
 if (r1 == (bs [])) = true then
 some (bs [])
 else
 if (decide (w < 1)) = true then
 some (bs [])
 else
 if (decide (18 < w)) = true then
 some (bs [])
 else
 if (decide (w < (r1.size : Int))) = true then
 some (bs [])
 else
 (spec_Wide_l0 w FUEL r1).bind fun r2 =>
 some r2
theorem spec_Wide_ok (n : Int) (w : Int) : Pn (fun y => Fn Tryz.prog 71 [(false, E3 n), (false, E3 w)] (E9 y) []) (spec_Wide n w) := by
  unfold spec_Wide
  exact
   Pn.bind (fun r1 h1 =>
   Pn.ite (fun h2 =>
   Pn.some (Fn.of [.call [] (E9 r1) [], bT, bT, bT, bT, bT, bT, bT, bT, bT, bT, bT, bT] (by kernel_rfl) (cj (spec_NumText_ok n r1 h1) (cj tt (cj h2 (cj h2 (cj h2 (cj (rfl : true = true) (cj (rfl : true = true) (cj (rfl : true = true) (cj (rfl : true = true) (cj (rfl : true = true) (cj (rfl : true = true) (cj (rfl : true = true) (cj (rfl : true = true) (cj1 (rfl : true = true))))))))))))))))) (fun h2 =>
   Pn.ite (fun h3 =>
   Pn.some (Fn.of [.call [] (E9 r1) [], bF, bF, bF, bT, bT, bT, bT, bT, bT, bT, bT, bT] (by kernel_rfl) (cj (spec_NumText_ok n r1 h1) (cj tt (cj h2 (cj h2 (cj h2 (cj h3 (cj h3 (cj h3 (cj (rfl : true = true) (cj (rfl : true = true) (cj (rfl : true = true) (cj (rfl : true = true) (cj (rfl : true = true) (cj1 (rfl : true = true))))))))))))))))) (fun h3 =>
   Pn.ite (fun h4 =>
   Pn.some (Fn.of [.call [] (E9 r1) [], bF, bF, bF, bF, bF, bF, bT, bT, bT, bT, bT, bT] (by kernel_rfl) (cj (spec_NumText_ok n r1 h1) (cj tt (cj h2 (cj h2 (cj h2 (cj h3 (cj h3 (cj h3 (cj h4 (cj h4 (cj h4 (cj h4 (cj h4 (cj1 (rfl : true = true))))))))))))))))) (fun h4 =>
   Pn.ite (fun h5 =>
   Pn.some (Fn.of [.call [] (E9 r1) [], bF, bF, bF, bF, bF, bF, bF, bF, bF, bF, bF, bT] (by kernel_rfl) (cj (spec_NumText_ok n r1 h1) (cj tt (cj h2 (cj h2 (cj h2 (cj h3 (cj h3 (cj h3 (cj h4 (cj h4 (cj h4 (cj h4 (cj h4 (cj1 h5)))))))))))))))) (fun h5 =>
   Pn.bind (fun r2 h8 =>
   Pn.some (Fn.of [.call [] (E9 r1) [], bF, bF, bF, bF, bF, bF, bF, bF, bF, bF, bF, bF, .mask [1, 5], .ren [], .loop (X.out 0) (st 31 [(5, vS r2)] [] [])] (by kernel_rfl) (cj (spec_NumText_ok n r1 h1) (cj tt (cj h2 (cj h2 (cj h2 (cj h3 (cj h3 (cj h3 (cj h4 (cj h4 (cj h4 (cj h4 (cj h4 (cj h5 (cj1 (spec_Wide_l0_ok w FUEL r1 r2 h8)))))))))))))))))))))))
def spec_PutLen (n : Int) (digits : Int) : Option ((List Int) × Bool) :=
 if (digits != 2) = true then
 if (digits != 3) = true then
 some ([], false)
 else
 (spec_Wide n digits).bind fun r1 =>
 (spec_PutBcd r1).bind fun r2 =>
 some (r2.1, r2.2)
 else
 (spec_Wide n digits).bind fun r3 =>
 (spec_PutBcd r3).bind fun r4 =>
 some (r4.1, r4.2)
theorem spec_PutLen_ok (n : Int) (digits : Int) : Pn (fun y => Fn Tryz.prog 97 [(false, E3 n), (false, E3 digits)] (V.tup [E22 y.1, E4 y.2]) []) (spec_PutLen n digits) := by
  unfold spec_PutLen
  exact
   Pn.ite (fun h1 =>
   Pn.ite (fun h2 =>
   Pn.some (Fn.of [bT, bT, bT, bT] (by kernel_rfl) (cj h1 (cj h1 (cj h1 (cj1 h2)))))) (fun h2 =>
   Pn.bind (fun r1 h3 =>
   Pn.bind (fun r2 h4 =>
   Pn.some (Fn.of [bT, bT, bT, bF, .call [] (E9 r1) [], .call [] (V.tup [E22 r2.1, E4 r2.2]) []] (by kernel_rfl) (cj h1 (cj h1 (cj h1 (cj h2 (cj (spec_Wide_ok n digits r1 h3) (cj tt (cj (spec_PutBcd_ok r1 r2 h4) (cj1 tt))))))))))))) (fun h1 =>
   Pn.bind (fun r3 h5 =>
   Pn.bind (fun r4 h6 =>
   Pn.some (Fn.of [bF, bF, bF, bF, .call [] (E9 r3) [], .call [] (V.tup [E22 r4.1, E4 r4.2]) []] (by kernel_rfl) (cj h1 (cj h1 (cj h1 (cj ff (cj (spec_Wide_ok n digits r3 h5) (cj tt (cj (spec_PutBcd_ok r3 r4 h6) (cj1 tt))))))))))))
def spec_PutField (no : Int) (s_ : ByteArray) : Option ((List Int) × Bool) :=
 (spec_FieldOk no s_).bind fun r1 =>
 if r1 = true then
 (spec_FieldKind no).bind fun r2 =>
 (spec_l03Width r2).bind fun r3 =>
 if (decide (0 < r3)) = true then
 (spec_l03Width r2).bind fun r4 =>
 (spec_PutLen (s_.size : Int) r4).bind fun r5 =>
 if (r2 == 1) = true then
 (spec_PutBcd s_).bind fun r6 =>
 if (capOk (r5.1.length + r6.1.length)) = true then
 some ((r5.1 ++ r6.1), true)
 else none
 else
 if (r2 == 3) = true then
 (spec_PutBcd s_).bind fun r7 =>
 if (capOk (r5.1.length + r7.1.length)) = true then
 some ((r5.1 ++ r7.1), true)
 else none
 else
 if (decide (s_.size ≤ 9223372036854775807)) = true then
 if (capOk (r5.1.length + (sbytes s_).length)) = true then
 some ((r5.1 ++ sbytes s_), true)
 else none
 else none
 else
 if (r2 == 1) = true then
 (spec_PutBcd s_).bind fun r8 =>
 if (capOk (0 + r8.1.length)) = true then
 some (r8.1, true)
 else none
 else
 if (r2 == 3) = true then
 (spec_PutBcd s_).bind fun r9 =>
 if (capOk (0 + r9.1.length)) = true then
 some (r9.1, true)
 else none
 else
 if (decide (s_.size ≤ 9223372036854775807)) = true then
 if (capOk (0 + (sbytes s_).length)) = true then
 some (sbytes s_, true)
 else none
 else none
 else
 some ([], false)
theorem spec_PutField_ok (no : Int) (s_ : ByteArray) : Pn (fun y => Fn Tryz.prog 60 [(false, E3 no), (false, E9 s_)] (V.tup [E22 y.1, E4 y.2]) []) (spec_PutField no s_) := by
  unfold spec_PutField
  exact
   Pn.bind (fun r1 h1 =>
   Pn.ite (fun h2 =>
   Pn.bind (fun r2 h3 =>
   Pn.bind (fun r3 h4 =>
   Pn.ite (fun h5 =>
   Pn.bind (fun r4 h6 =>
   Pn.bind (fun r5 h7 =>
   Pn.ite (fun h8 =>
   Pn.bind (fun r6 h9 =>
   Pn.ite (fun h10 =>
   Pn.some (Fn.of [.call [] (E4 r1) [], bF, .call [] (E3 r2) [], .call [] (E3 r3) [], bT, .call [] (E3 r4) [], .call [] (V.tup [E22 r5.1, E4 r5.2]) [], bT, bT, bT, bT, .call [] (V.tup [E22 r6.1, E4 r6.2]) [], .cp (List.map E5 r6.1), .nb 3 (.row 5 (List.map E5 (r5.1 ++ r6.1)) [])] (by kernel_rfl) (cj (spec_FieldOk_ok no s_ r1 h1) (cj tt (cj (nf h2) (cj (spec_FieldKind_ok no r2 h3) (cj tt (cj (spec_l03Width_ok r2 r3 h4) (cj tt (cj h5 (cj (spec_l03Width_ok r2 r4 h6) (cj tt (cj (spec_PutLen_ok (s_.size : Int) r4 r5 h7 : Fn Tryz.prog 97 [(false, E3 (s_.size : Int)), (false, E3 r4)] (V.tup [E22 r5.1, E4 r5.2]) []) (cj tt (cj h8 (cj h8 (cj h8 (cj (rfl : true = true) (cj (spec_PutBcd_ok s_ r6 h9) (cj tt (cj (rfl : (List.map E5 r6.1) = (List.map E5 r6.1)) (cj (flat_map (fun _ => rfl) _ : (List.map E5 r6.1).all V.flatE = true) (cj (cap1 (capN (by simp) h10) : (List.map E5 r5.1).length + (List.map E5 r6.1).length ≤ 9223372036854775807) (cj (cap2 (capN (by simp) h10) (by decide) : ((List.map E5 r5.1).length + (List.map E5 r6.1).length) * 1 ≤ 140737488355328) (cj1 (nb_app E5 r5.1 r6.1 : Blk.row 5 ((List.map E5 r5.1) ++ (List.map E5 r6.1)) [] = Blk.row 5 (List.map E5 (r5.1 ++ r6.1)) [])))))))))))))))))))))))))) (fun h10 =>
   Pn.none))) (fun h8 =>
   Pn.ite (fun h11 =>
   Pn.bind (fun r7 h12 =>
   Pn.ite (fun h13 =>
   Pn.some (Fn.of [.call [] (E4 r1) [], bF, .call [] (E3 r2) [], .call [] (E3 r3) [], bT, .call [] (E3 r4) [], .call [] (V.tup [E22 r5.1, E4 r5.2]) [], bF, bF, bF, bT, .call [] (V.tup [E22 r7.1, E4 r7.2]) [], .cp (List.map E5 r7.1), .nb 3 (.row 5 (List.map E5 (r5.1 ++ r7.1)) [])] (by kernel_rfl) (cj (spec_FieldOk_ok no s_ r1 h1) (cj tt (cj (nf h2) (cj (spec_FieldKind_ok no r2 h3) (cj tt (cj (spec_l03Width_ok r2 r3 h4) (cj tt (cj h5 (cj (spec_l03Width_ok r2 r4 h6) (cj tt (cj (spec_PutLen_ok (s_.size : Int) r4 r5 h7 : Fn Tryz.prog 97 [(false, E3 (s_.size : Int)), (false, E3 r4)] (V.tup [E22 r5.1, E4 r5.2]) []) (cj tt (cj h8 (cj h8 (cj h8 (cj h11 (cj (spec_PutBcd_ok s_ r7 h12) (cj tt (cj (rfl : (List.map E5 r7.1) = (List.map E5 r7.1)) (cj (flat_map (fun _ => rfl) _ : (List.map E5 r7.1).all V.flatE = true) (cj (cap1 (capN (by simp) h13) : (List.map E5 r5.1).length + (List.map E5 r7.1).length ≤ 9223372036854775807) (cj (cap2 (capN (by simp) h13) (by decide) : ((List.map E5 r5.1).length + (List.map E5 r7.1).length) * 1 ≤ 140737488355328) (cj1 (nb_app E5 r5.1 r7.1 : Blk.row 5 ((List.map E5 r5.1) ++ (List.map E5 r7.1)) [] = Blk.row 5 (List.map E5 (r5.1 ++ r7.1)) [])))))))))))))))))))))))))) (fun h13 =>
   Pn.none))) (fun h11 =>
   Pn.ite (fun h14 =>
   Pn.ite (fun h15 =>
   Pn.some (Fn.of [.call [] (E4 r1) [], bF, .call [] (E3 r2) [], .call [] (E3 r3) [], bT, .call [] (E3 r4) [], .call [] (V.tup [E22 r5.1, E4 r5.2]) [], bF, bF, bF, bF, .cp (List.map E5 (sbytes s_)), .nb 3 (.row 5 (List.map E5 (r5.1 ++ sbytes s_)) [])] (by kernel_rfl) (cj (spec_FieldOk_ok no s_ r1 h1) (cj tt (cj (nf h2) (cj (spec_FieldKind_ok no r2 h3) (cj tt (cj (spec_l03Width_ok r2 r3 h4) (cj tt (cj h5 (cj (spec_l03Width_ok r2 r4 h6) (cj tt (cj (spec_PutLen_ok (s_.size : Int) r4 r5 h7 : Fn Tryz.prog 97 [(false, E3 (s_.size : Int)), (false, E3 r4)] (V.tup [E22 r5.1, E4 r5.2]) []) (cj tt (cj h8 (cj h8 (cj h8 (cj h11 (cj (od h14) (cj (rfl : (List.map E5 (sbytes s_)) = (List.map E5 (sbytes s_))) (cj (flat_map (fun _ => rfl) _ : (List.map E5 (sbytes s_)).all V.flatE = true) (cj (cap1 (capN (by simp) h15) : (List.map E5 r5.1).length + (List.map E5 (sbytes s_)).length ≤ 9223372036854775807) (cj (cap2 (capN (by simp) h15) (by decide) : ((List.map E5 r5.1).length + (List.map E5 (sbytes s_)).length) * 1 ≤ 140737488355328) (cj1 (nb_app E5 r5.1 (sbytes s_) : Blk.row 5 ((List.map E5 r5.1) ++ (List.map E5 (sbytes s_))) [] = Blk.row 5 (List.map E5 (r5.1 ++ sbytes s_)) []))))))))))))))))))))))))) (fun h15 =>
   Pn.none)) (fun h14 =>
   Pn.none)))))) (fun h5 =>
   Pn.ite (fun h16 =>
   Pn.bind (fun r8 h17 =>
   Pn.ite (fun h18 =>
   Pn.some (Fn.of [.call [] (E4 r1) [], bF, .call [] (E3 r2) [], .call [] (E3 r3) [], bF, bT, bT, bT, bT, .call [] (V.tup [E22 r8.1, E4 r8.2]) [], .cp (List.map E5 r8.1), .nb 2 (.row 5 (List.map E5 r8.1) [])] (by kernel_rfl) (cj (spec_FieldOk_ok no s_ r1 h1) (cj tt (cj (nf h2) (cj (spec_FieldKind_ok no r2 h3) (cj tt (cj (spec_l03Width_ok r2 r3 h4) (cj tt (cj h5 (cj h16 (cj h16 (cj h16 (cj (rfl : true = true) (cj (spec_PutBcd_ok s_ r8 h17) (cj tt (cj (rfl : (List.map E5 r8.1) = (List.map E5 r8.1)) (cj (flat_map (fun _ => rfl) _ : (List.map E5 r8.1).all V.flatE = true) (cj (cap1 (capN (by simp) h18) : ([] : List V).length + (List.map E5 r8.1).length ≤ 9223372036854775807) (cj (cap2 (capN (by simp) h18) (by decide) : (([] : List V).length + (List.map E5 r8.1).length) * 1 ≤ 140737488355328) (cj1 (rfl : Blk.row 5 (([] : List V) ++ (List.map E5 r8.1)) [] = Blk.row 5 (List.map E5 r8.1) [])))))))))))))))))))))) (fun h18 =>
   Pn.none))) (fun h16 =>
   Pn.ite (fun h19 =>
   Pn.bind (fun r9 h20 =>
   Pn.ite (fun h21 =>
   Pn.some (Fn.of [.call [] (E4 r1) [], bF, .call [] (E3 r2) [], .call [] (E3 r3) [], bF, bF, bF, bF, bT, .call [] (V.tup [E22 r9.1, E4 r9.2]) [], .cp (List.map E5 r9.1), .nb 2 (.row 5 (List.map E5 r9.1) [])] (by kernel_rfl) (cj (spec_FieldOk_ok no s_ r1 h1) (cj tt (cj (nf h2) (cj (spec_FieldKind_ok no r2 h3) (cj tt (cj (spec_l03Width_ok r2 r3 h4) (cj tt (cj h5 (cj h16 (cj h16 (cj h16 (cj h19 (cj (spec_PutBcd_ok s_ r9 h20) (cj tt (cj (rfl : (List.map E5 r9.1) = (List.map E5 r9.1)) (cj (flat_map (fun _ => rfl) _ : (List.map E5 r9.1).all V.flatE = true) (cj (cap1 (capN (by simp) h21) : ([] : List V).length + (List.map E5 r9.1).length ≤ 9223372036854775807) (cj (cap2 (capN (by simp) h21) (by decide) : (([] : List V).length + (List.map E5 r9.1).length) * 1 ≤ 140737488355328) (cj1 (rfl : Blk.row 5 (([] : List V) ++ (List.map E5 r9.1)) [] = Blk.row 5 (List.map E5 r9.1) [])))))))))))))))))))))) (fun h21 =>
   Pn.none))) (fun h19 =>
   Pn.ite (fun h22 =>
   Pn.ite (fun h23 =>
   Pn.some (Fn.of [.call [] (E4 r1) [], bF, .call [] (E3 r2) [], .call [] (E3 r3) [], bF, bF, bF, bF, bF, .cp (List.map E5 (sbytes s_)), .nb 2 (.row 5 (List.map E5 (sbytes s_)) [])] (by kernel_rfl) (cj (spec_FieldOk_ok no s_ r1 h1) (cj tt (cj (nf h2) (cj (spec_FieldKind_ok no r2 h3) (cj tt (cj (spec_l03Width_ok r2 r3 h4) (cj tt (cj h5 (cj h16 (cj h16 (cj h16 (cj h19 (cj (od h22) (cj (rfl : (List.map E5 (sbytes s_)) = (List.map E5 (sbytes s_))) (cj (flat_map (fun _ => rfl) _ : (List.map E5 (sbytes s_)).all V.flatE = true) (cj (cap1 (capN (by simp) h23) : ([] : List V).length + (List.map E5 (sbytes s_)).length ≤ 9223372036854775807) (cj (cap2 (capN (by simp) h23) (by decide) : (([] : List V).length + (List.map E5 (sbytes s_)).length) * 1 ≤ 140737488355328) (cj1 (rfl : Blk.row 5 (([] : List V) ++ (List.map E5 (sbytes s_))) [] = Blk.row 5 (List.map E5 (sbytes s_)) []))))))))))))))))))))) (fun h23 =>
   Pn.none)) (fun h22 =>
   Pn.none))))))) (fun h2 =>
   Pn.some (Fn.of [.call [] (E4 r1) [], bT] (by kernel_rfl) (cj (spec_FieldOk_ok no s_ r1 h1) (cj tt (cj1 (nt h2)))))))
def spec_Encode_l0 (o : Msg) : List Field → (List Int) → (List Int) → Option ((List Int) × (List Int))
  | [], v1, v2 =>
   some (v1, v2)
  | x1 :: t1, v1, v2 =>
   if (decide (64 < x1.No)) = true then
   if (capOk (v2.length + 1)) = true then
   spec_Encode_l0 o t1 v1 (v2 ++ [i64 (x1.No - 64)])
   else none
   else
   if (capOk (v1.length + 1)) = true then
   spec_Encode_l0 o t1 (v1 ++ [x1.No]) v2
   else none
theorem spec_Encode_l0_ok (o : Msg) (h4 : capOk o.List.length = true) : ∀ (t1 p1 : List Field) (_ : o.List = p1 ++ t1) (v1 : List Int) (v2 : List Int), Pn (LpO Tryz.prog (sub (codeOf Tryz.prog 37) [1, 1, 1, 1, 0, 1, 0, 0]) (st 84 [(1, V.ptr 0 0), (4, V.ow 1), (5, V.ow 2), (20, lF115 o.List), (21, vI (o.List.length : Int)), (22, vI (p1.length : Int))] [Blk.box 83 [vS o.Mti, lF115 o.List], Blk.row 3 (List.map E3 v1) [], Blk.row 3 (List.map E3 v2) []] []) (fun (y : (List Int) × (List Int)) => (X.out 0, st 84 [(1, V.ptr 0 0), (4, V.ow 1), (5, V.ow 2)] [Blk.box 83 [vS o.Mti, lF115 o.List], Blk.row 3 (List.map E3 y.1) [], Blk.row 3 (List.map E3 y.2) []] []))) (spec_Encode_l0 o t1 v1 v2)
  | [], p1, h3, v1, v2 => by
    unfold spec_Encode_l0
    exact
     Pn.some (LpO.out [bF, .mask [1, 4, 5], .ren [0, 1, 2]] (by kernel_rfl) (show X.out 0 ≠ X.go from nofun) (cj1 (rng_end h3 : (decide ((p1.length : Int) < (o.List.length : Int))) = false)))
  | x1 :: t1, p1, h3, v1, v2 => by
    unfold spec_Encode_l0
    exact
     Pn.ite (fun h5 =>
     Pn.ite (fun h6 =>
     LpO.go [bT, .el (E115 x1), bT, .cp [vI (i64 (x1.No - 64))], .nb 5 (.row 3 (List.map E3 (v2 ++ [i64 (x1.No - 64)])) []), .wait 4, .mask [1, 4, 5, 20, 21, 22], .ren [0, 1, 5], .nm 22 (vI ((p1 ++ [x1]).length : Int))] (by kernel_rfl) (cj (rng_lt h3 : (decide ((p1.length : Int) < (o.List.length : Int))) = true) (cj (by omega : (0 : Int) ≤ (p1.length : Int)) (cj (rng_get _ h3 : (List.map E115 o.List)[(p1.length : Int).toNat]? = some (E115 x1)) (cj h5 (cj (rfl : [vI (i64 (x1.No - 64))] = [vI (i64 (x1.No - 64))]) (cj (rfl : [vI (i64 (x1.No - 64))].all V.flatE = true) (cj (cap1 (capN (by simp) h6) : (List.map E3 v2).length + [vI (i64 (x1.No - 64))].length ≤ 9223372036854775807) (cj (cap2 (capN (by simp) h6) (by decide) : ((List.map E3 v2).length + [vI (i64 (x1.No - 64))].length) * 8 ≤ 140737488355328) (cj (nb_app E3 v2 [i64 (x1.No - 64)] : Blk.row 3 ((List.map E3 v2) ++ [vI (i64 (x1.No - 64))]) [] = Blk.row 3 (List.map E3 (v2 ++ [i64 (x1.No - 64)])) []) (cj1 (rng_next h3 h4 : vI (i64 ((p1.length : Int) + 1)) = vI ((p1 ++ [x1]).length : Int)))))))))))) (spec_Encode_l0_ok o h4 t1 (p1 ++ [x1]) (rng_step h3) v1 (v2 ++ [i64 (x1.No - 64)]))) (fun h6 =>
     Pn.none)) (fun h5 =>
     Pn.ite (fun h7 =>
     LpO.go [bT, .el (E115 x1), bF, .cp [vI x1.No], .nb 5 (.row 3 (List.map E3 (v1 ++ [x1.No])) []), .wait 4, .mask [1, 4, 5, 20, 21, 22], .ren [0, 5, 2], .nm 22 (vI ((p1 ++ [x1]).length : Int))] (by kernel_rfl) (cj (rng_lt h3 : (decide ((p1.length : Int) < (o.List.length : Int))) = true) (cj (by omega : (0 : Int) ≤ (p1.length : Int)) (cj (rng_get _ h3 : (List.map E115 o.List)[(p1.length : Int).toNat]? = some (E115 x1)) (cj h5 (cj (rfl : [vI x1.No] = [vI x1.No]) (cj (rfl : [vI x1.No].all V.flatE = true) (cj (cap1 (capN (by simp) h7) : (List.map E3 v1).length + [vI x1.No].length ≤ 9223372036854775807) (cj (cap2 (capN (by simp) h7) (by decide) : ((List.map E3 v1).length + [vI x1.No].length) * 8 ≤ 140737488355328) (cj (nb_app E3 v1 [x1.No] : Blk.row 3 ((List.map E3 v1) ++ [vI x1.No]) [] = Blk.row 3 (List.map E3 (v1 ++ [x1.No])) []) (cj1 (rng_next h3 h4 : vI (i64 ((p1.length : Int) + 1)) = vI ((p1 ++ [x1]).length : Int)))))))))))) (spec_Encode_l0_ok o h4 t1 (p1 ++ [x1]) (rng_step h3) (v1 ++ [x1.No]) v2)) (fun h7 =>
     Pn.none))
def spec_Encode_l1 (o : Msg) : List Field → (List Int) → Option ((List Int))
  | [], v3 =>
   some v3
  | x2 :: t2, v3 =>
   (spec_PutField x2.No x2.Text).bind fun r6 =>
   if (capOk (v3.length + r6.1.length)) = true then
   spec_Encode_l1 o t2 (v3 ++ r6.1)
   else none
theorem spec_Encode_l1_ok (o : Msg) (h18 : capOk o.List.length = true) : ∀ (t2 p2 : List Field) (_ : o.List = p2 ++ t2) (v3 : List Int), Pn (LpO Tryz.prog (sub (codeOf Tryz.prog 37) [1, 1, 1, 1, 1, 1, 1, 1, 1, 0, 1, 0, 0]) (st 84 [(8, V.ow 0), (65, lF115 o.List), (66, vI (o.List.length : Int)), (67, vI (p2.length : Int))] [Blk.row 5 (List.map E5 v3) []] []) (fun (y : (List Int)) => (X.out 2, st 84 [(8, V.ow 0)] [Blk.row 5 (List.map E5 y) []] []))) (spec_Encode_l1 o t2 v3)
  | [], p2, h17, v3 => by
    unfold spec_Encode_l1
    exact
     Pn.some (LpO.out [bF, .mask [8], .ren [0]] (by kernel_rfl) (show X.out 2 ≠ X.go from nofun) (cj1 (rng_end h17 : (decide ((p2.length : Int) < (o.List.length : Int))) = false)))
  | x2 :: t2, p2, h17, v3 => by
    unfold spec_Encode_l1
    exact
     Pn.bind (fun r6 h19 =>
     Pn.ite (fun h20 =>
     LpO.go [bT, .el (E115 x2), .call [] (V.tup [E22 r6.1, E4 r6.2]) [], .cp (List.map E5 r6.1), .nb 3 (.row 5 (List.map E5 (v3 ++ r6.1)) []), .wait 4, .mask [8, 65, 66, 67], .ren [3], .nm 67 (vI ((p2 ++ [x2]).length : Int))] (by kernel_rfl) (cj (rng_lt h17 : (decide ((p2.length : Int) < (o.List.length : Int))) = true) (cj (by omega : (0 : Int) ≤ (p2.length : Int)) (cj (rng_get _ h17 : (List.map E115 o.List)[(p2.length : Int).toNat]? = some (E115 x2)) (cj (spec_PutField_ok x2.No x2.Text r6 h19) (cj tt (cj (rfl : (List.map E5 r6.1) = (List.map E5 r6.1)) (cj (flat_map (fun _ => rfl) _ : (List.map E5 r6.1).all V.flatE = true) (cj (cap1 (capN (by simp) h20) : (List.map E5 v3).length + (List.map E5 r6.1).length ≤ 9223372036854775807) (cj (cap2 (capN (by simp) h20) (by decide) : ((List.map E5 v3).length + (List.map E5 r6.1).length) * 1 ≤ 140737488355328) (cj (nb_app E5 v3 r6.1 : Blk.row 5 ((List.map E5 v3) ++ (List.map E5 r6.1)) [] = Blk.row 5 (List.map E5 (v3 ++ r6.1)) []) (cj1 (rng_next h17 h18 : vI (i64 ((p2.length : Int) + 1)) = vI ((p2 ++ [x2]).length : Int))))))))))))) (spec_Encode_l1_ok o h18 t2 (p2 ++ [x2]) (rng_step h17) (v3 ++ r6.1))) (fun h20 =>
     Pn.none))
def spec_Encode_l2 (o : Msg) : List Field → (List Int) → Option ((List Int))
  | [], v4 =>
   some v4
  | x3 :: t3, v4 =>
   (spec_PutField x3.No x3.Text).bind fun r9 =>
   if (capOk (v4.length + r9.1.length)) = true then
   spec_Encode_l2 o t3 (v4 ++ r9.1)
   else none
theorem spec_Encode_l2_ok (o : Msg) (h25 : capOk o.List.length = true) : ∀ (t3 p3 : List Field) (_ : o.List = p3 ++ t3) (v4 : List Int), Pn (LpO Tryz.prog (sub (codeOf Tryz.prog 37) [1, 1, 1, 1, 1, 1, 1, 1, 1, 0, 1, 0, 0]) (st 84 [(8, V.ow 0), (65, lF115 o.List), (66, vI (o.List.length : Int)), (67, vI (p3.length : Int))] [Blk.row 5 (List.map E5 v4) []] []) (fun (y : (List Int)) => (X.out 2, st 84 [(8, V.ow 0)] [Blk.row 5 (List.map E5 y) []] []))) (spec_Encode_l2 o t3 v4)
  | [], p3, h24, v4 => by
    unfold spec_Encode_l2
    exact
     Pn.some (LpO.out [bF, .mask [8], .ren [0]] (by kernel_rfl) (show X.out 2 ≠ X.go from nofun) (cj1 (rng_end h24 : (decide ((p3.length : Int) < (o.List.length : Int))) = false)))
  | x3 :: t3, p3, h24, v4 => by
    unfold spec_Encode_l2
    exact
     Pn.bind (fun r9 h26 =>
     Pn.ite (fun h27 =>
     LpO.go [bT, .el (E115 x3), .call [] (V.tup [E22 r9.1, E4 r9.2]) [], .cp (List.map E5 r9.1), .nb 3 (.row 5 (List.map E5 (v4 ++ r9.1)) []), .wait 4, .mask [8, 65, 66, 67], .ren [3], .nm 67 (vI ((p3 ++ [x3]).length : Int))] (by kernel_rfl) (cj (rng_lt h24 : (decide ((p3.length : Int) < (o.List.length : Int))) = true) (cj (by omega : (0 : Int) ≤ (p3.length : Int)) (cj (rng_get _ h24 : (List.map E115 o.List)[(p3.length : Int).toNat]? = some (E115 x3)) (cj (spec_PutField_ok x3.No x3.Text r9 h26) (cj tt (cj (rfl : (List.map E5 r9.1) = (List.map E5 r9.1)) (cj (flat_map (fun _ => rfl) _ : (List.map E5 r9.1).all V.flatE = true) (cj (cap1 (capN (by simp) h27) : (List.map E5 v4).length + (List.map E5 r9.1).length ≤ 9223372036854775807) (cj (cap2 (capN (by simp) h27) (by decide) : ((List.map E5 v4).length + (List.map E5 r9.1).length) * 1 ≤ 140737488355328) (cj (nb_app E5 v4 r9.1 : Blk.row 5 ((List.map E5 v4) ++ (List.map E5 r9.1)) [] = Blk.row 5 (List.map E5 (v4 ++ r9.1)) []) (cj1 (rng_next h24 h25 : vI (i64 ((p3.length : Int) + 1)) = vI ((p3 ++ [x3]).length : Int))))))))))))) (spec_Encode_l2_ok o h25 t3 (p3 ++ [x3]) (rng_step h24) (v4 ++ r9.1))) (fun h27 =>
     Pn.none))
def spec_Encode (o : Msg) : Option ((List Int) × Bool) :=
 (spec_MsgOk o).bind fun r1 =>
 if r1 = true then
 if (capOk o.List.length) = true then
 (spec_Encode_l0 o o.List [] []).bind fun r2 =>
 (spec_PutBcd o.Mti).bind fun r3 =>
 if (decide (0 < (r2.2.length : Int))) = true then
 if (capOk (r2.1.length + 1)) = true then
 (spec_PutBits (r2.1 ++ [1])).bind fun r4 =>
 if (capOk (r3.1.length + r4.length)) = true then
 (spec_PutBits r2.2).bind fun r5 =>
 if (capOk ((r3.1 ++ r4).length + r5.length)) = true then
 (spec_Encode_l1 o o.List ((r3.1 ++ r4) ++ r5)).bind fun r7 =>
 some (r7, true)
 else none
 else none
 else none
 else
 (spec_PutBits r2.1).bind fun r8 =>
 if (capOk (r3.1.length + r8.length)) = true then
 (spec_Encode_l2 o o.List (r3.1 ++ r8)).bind fun r10 =>
 some (r10, true)
 else none
 else none
 else
 some ([], false)
theorem spec_Encode_ok (o : Msg) : Pn (fun y => Fn Tryz.prog 37 [(false, E83 o)] (V.tup [E22 y.1, E4 y.2]) []) (spec_Encode o) := by
  unfold spec_Encode
  exact
   Pn.bind (fun r1 h1 =>
   Pn.ite (fun h2 =>
   Pn.ite (fun h8 =>
   Pn.bind (fun r2 h9 =>
   Pn.bind (fun r3 h10 =>
   Pn.ite (fun h11 =>
   Pn.ite (fun h12 =>
   Pn.bind (fun r4 h13 =>
   Pn.ite (fun h14 =>
   Pn.bind (fun r5 h15 =>
   Pn.ite (fun h16 =>
   Pn.bind (fun r7 h21 =>
   Pn.some (Fn.of [.call [] (E4 r1) [], bF, .wait 6, .nm 21 (vI (o.List.length : Int)), .wait 2, .mask [1, 4, 5, 20, 21, 22], .ren [0, 1, 2], .loop (X.out 0) (st 84 [(1, V.ptr 0 0), (4, V.ow 1), (5, V.ow 2)] [Blk.box 83 [vS o.Mti, lF115 o.List], Blk.row 3 (List.map E3 r2.1) [], Blk.row 3 (List.map E3 r2.2) []] []), .call [] (V.tup [E22 r3.1, E4 r3.2]) [], .wait 7, .nm 48 (vI (r2.2.length : Int)), bT, .cp [vI 1], .nb 5 (.row 3 (List.map E3 (r2.1 ++ [1])) []), .call [] (E22 r4) [], .cp (List.map E5 r4), .nb 7 (.row 5 (List.map E5 (r3.1 ++ r4)) []), .wait 3, .nm 58 (vI (r2.2.length : Int)), bT, .call [] (E22 r5) [], .cp (List.map E5 r5), .nb 9 (.row 5 (List.map E5 ((r3.1 ++ r4) ++ r5)) []), .wait 4, .nm 66 (vI (o.List.length : Int)), .wait 2, .mask [8, 65, 66, 67], .ren [9], .loop (X.out 2) (st 84 [(8, V.ow 0)] [Blk.row 5 (List.map E5 r7) []] [])] (by kernel_rfl) (cj (spec_MsgOk_ok o r1 h1) (cj tt (cj (nf h2) (cj (len_nm E115 o.List) (cj (spec_Encode_l0_ok o h8 o.List [] rfl [] [] r2 h9) (cj (spec_PutBcd_ok o.Mti r3 h10) (cj tt (cj (len_nm E3 r2.2) (cj h11 (cj (rfl : [vI 1] = [vI 1]) (cj (rfl : [vI 1].all V.flatE = true) (cj (cap1 (capN (by simp) h12) : (List.map E3 r2.1).length + [vI 1].length ≤ 9223372036854775807) (cj (cap2 (capN (by simp) h12) (by decide) : ((List.map E3 r2.1).length + [vI 1].length) * 8 ≤ 140737488355328) (cj (nb_app E3 r2.1 [1] : Blk.row 3 ((List.map E3 r2.1) ++ [vI 1]) [] = Blk.row 3 (List.map E3 (r2.1 ++ [1])) []) (cj (spec_PutBits_ok (r2.1 ++ [1]) r4 h13) (cj (by simp [V.nv, nvL, nvL_all, nv_E5, nv_E22] : (false || ((E22 r4).nv && nvL [])) = true) (cj (rfl : (List.map E5 r4) = (List.map E5 r4)) (cj (flat_map (fun _ => rfl) _ : (List.map E5 r4).all V.flatE = true) (cj (cap1 (capN (by simp) h14) : (List.map E5 r3.1).length + (List.map E5 r4).length ≤ 9223372036854775807) (cj (cap2 (capN (by simp) h14) (by decide) : ((List.map E5 r3.1).length + (List.map E5 r4).length) * 1 ≤ 140737488355328) (cj (nb_app E5 r3.1 r4 : Blk.row 5 ((List.map E5 r3.1) ++ (List.map E5 r4)) [] = Blk.row 5 (List.map E5 (r3.1 ++ r4)) []) (cj (len_nm E3 r2.2) (cj h11 (cj (spec_PutBits_ok r2.2 r5 h15) (cj (by simp [V.nv, nvL, nvL_all, nv_E5, nv_E22] : (false || ((E22 r5).nv && nvL [])) = true) (cj (rfl : (List.map E5 r5) = (List.map E5 r5)) (cj (flat_map (fun _ => rfl) _ : (List.map E5 r5).all V.flatE = true) (cj (cap1 (capN (by simp) h16) : (List.map E5 (r3.1 ++ r4)).length + (List.map E5 r5).length ≤ 9223372036854775807) (cj (cap2 (capN (by simp) h16) (by decide) : ((List.map E5 (r3.1 ++ r4)).length + (List.map E5 r5).length) * 1 ≤ 140737488355328) (cj (nb_app E5 (r3.1 ++ r4) r5 : Blk.row 5 ((List.map E5 (r3.1 ++ r4)) ++ (List.map E5 r5)) [] = Blk.row 5 (List.map E5 ((r3.1 ++ r4) ++ r5)) []) (cj (len_nm E115 o.List) (cj1 (spec_Encode_l1_ok o h8 o.List [] rfl ((r3.1 ++ r4) ++ r5) r7 h21)))))))))))))))))))))))))))))))))))) (fun h16 =>
   Pn.none))) (fun h14 =>
   Pn.none))) (fun h12 =>
   Pn.none)) (fun h11 =>
   Pn.bind (fun r8 h22 =>
   Pn.ite (fun h23 =>
   Pn.bind (fun r10 h28 =>
   Pn.some (Fn.of [.call [] (E4 r1) [], bF, .wait 6, .nm 21 (vI (o.List.length : Int)), .wait 2, .mask [1, 4, 5, 20, 21, 22], .ren [0, 1, 2], .loop (X.out 0) (st 84 [(1, V.ptr 0 0), (4, V.ow 1), (5, V.ow 2)] [Blk.box 83 [vS o.Mti, lF115 o.List], Blk.row 3 (List.map E3 r2.1) [], Blk.row 3 (List.map E3 r2.2) []] []), .call [] (V.tup [E22 r3.1, E4 r3.2]) [], .wait 7, .nm 48 (vI (r2.2.length : Int)), bF, .call [] (E22 r8) [], .cp (List.map E5 r8), .nb 5 (.row 5 (List.map E5 (r3.1 ++ r8)) []), .wait 3, .nm 58 (vI (r2.2.length : Int)), bF, .wait 2, .nm 66 (vI (o.List.length : Int)), .wait 2, .mask [8, 65, 66, 67], .ren [5], .loop (X.out 2) (st 84 [(8, V.ow 0)] [Blk.row 5 (List.map E5 r10) []] [])] (by kernel_rfl) (cj (spec_MsgOk_ok o r1 h1) (cj tt (cj (nf h2) (cj (len_nm E115 o.List) (cj (spec_Encode_l0_ok o h8 o.List [] rfl [] [] r2 h9) (cj (spec_PutBcd_ok o.Mti r3 h10) (cj tt (cj (len_nm E3 r2.2) (cj h11 (cj (spec_PutBits_ok r2.1 r8 h22) (cj (by simp [V.nv, nvL, nvL_all, nv_E5, nv_E22] : (false || ((E22 r8).nv && nvL [])) = true) (cj (rfl : (List.map E5 r8) = (List.map E5 r8)) (cj (flat_map (fun _ => rfl) _ : (List.map E5 r8).all V.flatE = true) (cj (cap1 (capN (by simp) h23) : (List.map E5 r3.1).length + (List.map E5 r8).length ≤ 9223372036854775807) (cj (cap2 (capN (by simp) h23) (by decide) : ((List.map E5 r3.1).length + (List.map E5 r8).length) * 1 ≤ 140737488355328) (cj (nb_app E5 r3.1 r8 : Blk.row 5 ((List.map E5 r3.1) ++ (List.map E5 r8)) [] = Blk.row 5 (List.map E5 (r3.1 ++ r8)) []) (cj (len_nm E3 r2.2) (cj h11 (cj (len_nm E115 o.List) (cj1 (spec_Encode_l2_ok o h8 o.List [] rfl (r3.1 ++ r8) r10 h28)))))))))))))))))))))))) (fun h23 =>
   Pn.none)))))) (fun h8 =>
   Pn.none)) (fun h2 =>
   Pn.some (Fn.of [.call [] (E4 r1) [], bT] (by kernel_rfl) (cj (spec_MsgOk_ok o r1 h1) (cj tt (cj1 (nt h2)))))))
def spec_l04Bytes (c : l01Cur) : Option ((List Int) × l01Cur) :=
 (spec_l04Draw c).bind fun r1 =>
 (spec_Encode r1.1).bind fun r2 =>
 (spec_l01Below r1.2 8).bind fun r3 =>
 if (r3.1 == 0) = true then
 (spec_l01Below r3.2 (i64 ((r2.1.length : Int) + 1))).bind fun r4 =>
 if (decide (0 ≤ r4.1)) = true then
 if (decide (r4.1 ≤ (r2.1.length : Int))) = true then
 some ((r2.1.take r4.1.toNat), r4.2)
 else none
 else none
 else
 if (r3.1 == 1) = true then
 (spec_l01Below r3.2 (r2.1.length : Int)).bind fun r5 =>
 (spec_l01Byte r5.2).bind fun r6 =>
 if (decide (0 ≤ r5.1)) = true then
 (r2.1[r5.1.toNat]?).bind fun x1 =>
 some ((r2.1.set r5.1.toNat (u8 r6.1)), r6.2)
 else none
 else
 if (r3.1 == 2) = true then
 (spec_l01Below r3.2 8).bind fun r7 =>
 (spec_l01Byte r7.2).bind fun r8 =>
 if (decide (0 ≤ (i64 (2 + r7.1)))) = true then
 (r2.1[(i64 (2 + r7.1)).toNat]?).bind fun x2 =>
 some ((r2.1.set ((i64 (2 + r7.1)).toNat) (u8 r8.1)), r8.2)
 else none
 else
 if (r3.1 == 3) = true then
 (spec_l01Byte r3.2).bind fun r9 =>
 if (capOk (r2.1.length + 1)) = true then
 some ((r2.1 ++ [u8 r9.1]), r9.2)
 else none
 else
 some (r2.1, r3.2)
theorem spec_l04Bytes_ok (c : l01Cur) : Pn (fun y => Fn Tryz.prog 36 [(true, V.bx 47 [lF5 c.b, vI c.i, vI c.h])] (E22 y.1) [V.bx 47 [lF5 y.2.b, vI y.2.i, vI y.2.h]]) (spec_l04Bytes c) := by
  unfold spec_l04Bytes
  exact
   Pn.bind (fun r1 h1 =>
   Pn.bind (fun r2 h2 =>
   Pn.bind (fun r3 h3 =>
   Pn.ite (fun h4 =>
   Pn.bind (fun r4 h5 =>
   Pn.ite (fun h6 =>
   Pn.ite (fun h7 =>
   Pn.some (Fn.as (res := V.sl true 5 ((List.map E5 r2.1).take r4.1.toNat)) (sb_take _ _ _) rfl (Fn.of [.call [true] (E83 r1.1) [V.bx 47 [lF5 r1.2.b, vI r1.2.i, vI r1.2.h]], .call [] (V.tup [E22 r2.1, E4 r2.2]) [], .call [true, false] (E3 r3.1) [V.bx 47 [lF5 r3.2.b, vI r3.2.i, vI r3.2.h]], bT, .wait 3, .nm 18 (vI (r2.1.length : Int)), .call [true, false] (E3 r4.1) [V.bx 47 [lF5 r4.2.b, vI r4.2.i, vI r4.2.h]]] (by kernel_rfl) (cj (spec_l04Draw_ok c r1 h1) (cj tt (cj (spec_Encode_ok r1.1 r2 h2) (cj (by simp [V.nv, nvL, nvL_all, nv_E4, nv_E5, nv_E22] : (false || ((V.tup [E22 r2.1, E4 r2.2]).nv && nvL [])) = true) (cj (spec_l01Below_ok r1.2 8 r3 h3) (cj tt (cj h4 (cj (len_nm E5 r2.1) (cj (spec_l01Below_ok r3.2 (i64 ((r2.1.length : Int) + 1)) r4 h5 : Fn Tryz.prog 18 [(true, V.bx 47 [lF5 r3.2.b, vI r3.2.i, vI r3.2.h]), (false, E3 (i64 ((r2.1.length : Int) + 1)))] (E3 r4.1) [V.bx 47 [lF5 r4.2.b, vI r4.2.i, vI r4.2.h]]) (cj tt (cj (by decide : (0 : Int) ≤ 0) (cj (od h6) (cj1 (by rw [List.length_map]; exact (od h7) : (r4.1 : Int) ≤ ((List.map E5 r2.1).length : Int)))))))))))))))))) (fun h7 =>
   Pn.none)) (fun h6 =>
   Pn.none))) (fun h4 =>
   Pn.ite (fun h8 =>
   Pn.bind (fun r5 h9 =>
   Pn.bind (fun r6 h10 =>
   Pn.ite (fun h11 =>
   Pn.bind (fun x1 h12 =>
   Pn.some (Fn.of [.call [true] (E83 r1.1) [V.bx 47 [lF5 r1.2.b, vI r1.2.i, vI r1.2.h]], .call [] (V.tup [E22 r2.1, E4 r2.2]) [], .call [true, false] (E3 r3.1) [V.bx 47 [lF5 r3.2.b, vI r3.2.i, vI r3.2.h]], bF, bT, .wait 3, .nm 27 (vI (r2.1.length : Int)), .call [true, false] (E3 r5.1) [V.bx 47 [lF5 r5.2.b, vI r5.2.i, vI r5.2.h]], .call [true] (E3 r6.1) [V.bx 47 [lF5 r6.2.b, vI r6.2.i, vI r6.2.h]], .el (E5 x1), .nb 2 (.row 5 (List.map E5 (r2.1.set r5.1.toNat (u8 r6.1))) [])] (by kernel_rfl) (cj (spec_l04Draw_ok c r1 h1) (cj tt (cj (spec_Encode_ok r1.1 r2 h2) (cj (by simp [V.nv, nvL, nvL_all, nv_E4, nv_E5, nv_E22] : (false || ((V.tup [E22 r2.1, E4 r2.2]).nv && nvL [])) = true) (cj (spec_l01Below_ok r1.2 8 r3 h3) (cj tt (cj h4 (cj h8 (cj (len_nm E5 r2.1) (cj (spec_l01Below_ok r3.2 (r2.1.length : Int) r5 h9 : Fn Tryz.prog 18 [(true, V.bx 47 [lF5 r3.2.b, vI r3.2.i, vI r3.2.h]), (false, E3 (r2.1.length : Int))] (E3 r5.1) [V.bx 47 [lF5 r5.2.b, vI r5.2.i, vI r5.2.h]]) (cj tt (cj (spec_l01Byte_ok r5.2 r6 h10) (cj tt (cj (od h11) (cj (map_ltN (od h11) h12 : (r5.1 : Int) < ((List.map E5 r2.1).length : Int)) (cj (rfl : look [] r5.1.toNat = none) (cj (map_get h12 : (List.map E5 r2.1)[r5.1.toNat]? = some (E5 x1)) (cj1 (nb_set E5 _ _ (u8 r6.1) : Blk.row 5 ((List.map E5 r2.1).set r5.1.toNat (V.sc (.int .u8 (u8 r6.1)))) [] = Blk.row 5 (List.map E5 (r2.1.set r5.1.toNat (u8 r6.1))) [])))))))))))))))))))))) (fun h11 =>
   Pn.none)))) (fun h8 =>
   Pn.ite (fun h13 =>
   Pn.bind (fun r7 h14 =>
   Pn.bind (fun r8 h15 =>
   Pn.ite (fun h16 =>
   Pn.bind (fun x2 h17 =>
   Pn.some (Fn.of [.call [true] (E83 r1.1) [V.bx 47 [lF5 r1.2.b, vI r1.2.i, vI r1.2.h]], .call [] (V.tup [E22 r2.1, E4 r2.2]) [], .call [true, false] (E3 r3.1) [V.bx 47 [lF5 r3.2.b, vI r3.2.i, vI r3.2.h]], bF, bF, bT, .call [true, false] (E3 r7.1) [V.bx 47 [lF5 r7.2.b, vI r7.2.i, vI r7.2.h]], .call [true] (E3 r8.1) [V.bx 47 [lF5 r8.2.b, vI r8.2.i, vI r8.2.h]], .el (E5 x2), .nb 2 (.row 5 (List.map E5 (r2.1.set ((i64 (2 + r7.1)).toNat) (u8 r8.1))) [])] (by kernel_rfl) (cj (spec_l04Draw_ok c r1 h1) (cj tt (cj (spec_Encode_ok r1.1 r2 h2) (cj (by simp [V.nv, nvL, nvL_all, nv_E4, nv_E5, nv_E22] : (false || ((V.tup [E22 r2.1, E4 r2.2]).nv && nvL [])) = true) (cj (spec_l01Below_ok r1.2 8 r3 h3) (cj tt (cj h4 (cj h8 (cj h13 (cj (spec_l01Below_ok r3.2 8 r7 h14) (cj tt (cj (spec_l01Byte_ok r7.2 r8 h15) (cj tt (cj (od h16) (cj (map_ltN (od h16) h17 : ((i64 (2 + r7.1)) : Int) < ((List.map E5 r2.1).length : Int)) (cj (rfl : look [] ((i64 (2 + r7.1)).toNat) = none) (cj (map_get h17 : (List.map E5 r2.1)[(i64 (2 + r7.1)).toNat]? = some (E5 x2)) (cj1 (nb_set E5 _ _ (u8 r8.1) : Blk.row 5 ((List.map E5 r2.1).set ((i64 (2 + r7.1)).toNat) (V.sc (.int .u8 (u8 r8.1)))) [] = Blk.row 5 (List.map E5 (r2.1.set ((i64 (2 + r7.1)).toNat) (u8 r8.1))) [])))))))))))))))))))))) (fun h16 =>
   Pn.none)))) (fun h13 =>
   Pn.ite (fun h18 =>
   Pn.bind (fun r9 h19 =>
   Pn.ite (fun h20 =>
   Pn.some (Fn.of [.call [true] (E83 r1.1) [V.bx 47 [lF5 r1.2.b, vI r1.2.i, vI r1.2.h]], .call [] (V.tup [E22 r2.1, E4 r2.2]) [], .call [true, false] (E3 r3.1) [V.bx 47 [lF5 r3.2.b, vI r3.2.i, vI r3.2.h]], bF, bF, bF, bT, .call [true] (E3 r9.1) [V.bx 47 [lF5 r9.2.b, vI r9.2.i, vI r9.2.h]], .cp [V.sc (.int .u8 (u8 r9.1))], .nb 4 (.row 5 (List.map E5 (r2.1 ++ [u8 r9.1])) [])] (by kernel_rfl) (cj (spec_l04Draw_ok c r1 h1) (cj tt (cj (spec_Encode_ok r1.1 r2 h2) (cj (by simp [V.nv, nvL, nvL_all, nv_E4, nv_E5, nv_E22] : (false || ((V.tup [E22 r2.1, E4 r2.2]).nv && nvL [])) = true) (cj (spec_l01Below_ok r1.2 8 r3 h3) (cj tt (cj h4 (cj h8 (cj h13 (cj h18 (cj (spec_l01Byte_ok r3.2 r9 h19) (cj tt (cj (rfl : [V.sc (.int .u8 (u8 r9.1))] = [V.sc (.int .u8 (u8 r9.1))]) (cj (rfl : [V.sc (.int .u8 (u8 r9.1))].all V.flatE = true) (cj (cap1 (capN (by simp) h20) : (List.map E5 r2.1).length + [V.sc (.int .u8 (u8 r9.1))].length ≤ 9223372036854775807) (cj (cap2 (capN (by simp) h20) (by decide) : ((List.map E5 r2.1).length + [V.sc (.int .u8 (u8 r9.1))].length) * 1 ≤ 140737488355328) (cj1 (nb_app E5 r2.1 [u8 r9.1] : Blk.row 5 ((List.map E5 r2.1) ++ [V.sc (.int .u8 (u8 r9.1))]) [] = Blk.row 5 (List.map E5 (r2.1 ++ [u8 r9.1])) [])))))))))))))))))))) (fun h20 =>
   Pn.none))) (fun h18 =>
   Pn.some (Fn.of [.call [true] (E83 r1.1) [V.bx 47 [lF5 r1.2.b, vI r1.2.i, vI r1.2.h]], .call [] (V.tup [E22 r2.1, E4 r2.2]) [], .call [true, false] (E3 r3.1) [V.bx 47 [lF5 r3.2.b, vI r3.2.i, vI r3.2.h]], bF, bF, bF, bF] (by kernel_rfl) (cj (spec_l04Draw_ok c r1 h1) (cj tt (cj (spec_Encode_ok r1.1 r2 h2) (cj (by simp [V.nv, nvL, nvL_all, nv_E4, nv_E5, nv_E22] : (false || ((V.tup [E22 r2.1, E4 r2.2]).nv && nvL [])) = true) (cj (spec_l01Below_ok r1.2 8 r3 h3) (cj tt (cj h4 (cj h8 (cj h13 (cj1 h18))))))))))))))))))
def spec_l11Op (op : Int) : Option (Bool) :=
 (spec_l01In op 1 8).bind fun r1 =>
 some r1
theorem spec_l11Op_ok (op : Int) : Pn (fun y => Fn Tryz.prog 103 [(false, E3 op)] (E4 y) []) (spec_l11Op op) := by
  unfold spec_l11Op
  exact
   Pn.bind (fun r1 h1 =>
   Pn.some (Fn.of [.call [] (E4 r1) []] (by kernel_rfl) (cj (spec_l01In_ok op 1 8 r1 h1) (cj1 tt))))
def spec_l11Mtis  : Option ((List ByteArray)) :=
 some [bs [], bs [48, 49, 48, 48], bs [48, 49, 48, 48], bs [48, 50, 50, 48], bs [48, 50, 50, 48], bs [48, 50, 50, 48], bs [48, 50, 48, 48], bs [48, 49, 48, 48], bs [48, 50, 48, 48]]
theorem spec_l11Mtis_ok  : Pn (fun y => Fn Tryz.prog 127 [] (E39 y) []) (spec_l11Mtis) := by
  unfold spec_l11Mtis
  exact
   Pn.some (Fn.of [] (p := []) (by kernel_rfl) trivial)
def spec_OpMti (op : Int) : Option (ByteArray) :=
 (spec_l11Op op).bind fun r1 =>
 if r1 = true then
 (spec_l11Mtis).bind fun r2 =>
 if (decide (0 ≤ op)) = true then
 (r2[op.toNat]?).bind fun x1 =>
 some x1
 else none
 else
 some (bs [])
theorem spec_OpMti_ok (op : Int) : Pn (fun y => Fn Tryz.prog 98 [(false, E3 op)] (E9 y) []) (spec_OpMti op) := by
  unfold spec_OpMti
  exact
   Pn.bind (fun r1 h1 =>
   Pn.ite (fun h2 =>
   Pn.bind (fun r2 h3 =>
   Pn.ite (fun h4 =>
   Pn.bind (fun x1 h5 =>
   Pn.some (Fn.of [.call [] (E4 r1) [], bF, .call [] (E39 r2) [], .el (E9 x1)] (by kernel_rfl) (cj (spec_l11Op_ok op r1 h1) (cj tt (cj (nf h2) (cj (spec_l11Mtis_ok  r2 h3) (cj tt (cj (od h4) (cj (map_ltN (od h4) h5 : (op : Int) < ((List.map E9 r2).length : Int)) (cj (rfl : look [] op.toNat = none) (cj1 (map_get h5 : (List.map E9 r2)[op.toNat]? = some (E9 x1)))))))))))))) (fun h4 =>
   Pn.none))) (fun h2 =>
   Pn.some (Fn.of [.call [] (E4 r1) [], bT] (by kernel_rfl) (cj (spec_l11Op_ok op r1 h1) (cj tt (cj1 (nt h2)))))))
def spec_l09Id (c : l01Cur) : Option (ByteArray × l01Cur) :=
 (spec_l01Str c [bs [49, 56], bs [50, 54], bs [51, 52], bs [52, 50], bs [53, 57], bs [54, 55]]).bind fun r1 =>
 some (r1.1, r1.2.1)
theorem spec_l09Id_ok (c : l01Cur) : Pn (fun y => Fn Tryz.prog 99 [(true, V.bx 47 [lF5 c.b, vI c.i, vI c.h])] (E9 y.1) [V.bx 47 [lF5 y.2.b, vI y.2.i, vI y.2.h]]) (spec_l09Id c) := by
  unfold spec_l09Id
  exact
   Pn.bind (fun r1 h1 =>
   Pn.some (Fn.of [.call [true, true] (E9 r1.1) [V.bx 47 [lF5 r1.2.1.b, vI r1.2.1.i, vI r1.2.1.h], lT9 r1.2.2]] (by kernel_rfl) (cj (spec_l01Str_ok c [bs [49, 56], bs [50, 54], bs [51, 52], bs [52, 50], bs [53, 57], bs [54, 55]] r1 h1) (cj1 tt))))
def spec_l11Trace (c : l01Cur) : Option (ByteArray × l01Cur) :=
 (spec_l01Str c [bs [48, 48, 48, 48, 48, 49], bs [48, 48, 48, 48, 48, 50], bs [48, 48, 48, 48, 48, 51], bs [48, 48, 48, 48, 48, 52], bs [48, 48, 48, 48, 48, 53], bs [48, 48, 48, 48, 48, 54], bs [48, 48, 48, 48, 48, 55], bs [48, 48, 48, 48, 48, 56]]).bind fun r1 =>
 some (r1.1, r1.2.1)
theorem spec_l11Trace_ok (c : l01Cur) : Pn (fun y => Fn Tryz.prog 100 [(true, V.bx 47 [lF5 c.b, vI c.i, vI c.h])] (E9 y.1) [V.bx 47 [lF5 y.2.b, vI y.2.i, vI y.2.h]]) (spec_l11Trace c) := by
  unfold spec_l11Trace
  exact
   Pn.bind (fun r1 h1 =>
   Pn.some (Fn.of [.call [true, true] (E9 r1.1) [V.bx 47 [lF5 r1.2.1.b, vI r1.2.1.i, vI r1.2.1.h], lT9 r1.2.2]] (by kernel_rfl) (cj (spec_l01Str_ok c [bs [48, 48, 48, 48, 48, 49], bs [48, 48, 48, 48, 48, 50], bs [48, 48, 48, 48, 48, 51], bs [48, 48, 48, 48, 48, 52], bs [48, 48, 48, 48, 48, 53], bs [48, 48, 48, 48, 48, 54], bs [48, 48, 48, 48, 48, 55], bs [48, 48, 48, 48, 48, 56]] r1 h1) (cj1 tt))))
def spec_l11Hold (op : Int) : Option (Bool) :=
 (spec_l11Op op).bind fun r1 =>
 if r1 = true then
 some (decide (op < 7))
 else
 some false
theorem spec_l11Hold_ok (op : Int) : Pn (fun y => Fn Tryz.prog 68 [(false, E3 op)] (E4 y) []) (spec_l11Hold op) := by
  unfold spec_l11Hold
  exact
   Pn.bind (fun r1 h1 =>
   Pn.ite (fun h2 =>
   Pn.some (Fn.of [.call [] (E4 r1) [], bT, bT, bT] (by kernel_rfl) (cj (spec_l11Op_ok op r1 h1) (cj tt (cj h2 (cj h2 (cj1 h2))))))) (fun h2 =>
   Pn.some (Fn.of [.call [] (E4 r1) [], bF, bF, bF] (by kernel_rfl) (cj (spec_l11Op_ok op r1 h1) (cj tt (cj h2 (cj h2 (cj1 h2))))))))
def spec_l11Amount (op : Int) : Option (Bool) :=
 (spec_l01In op 1 4).bind fun r1 =>
 some r1
theorem spec_l11Amount_ok (op : Int) : Pn (fun y => Fn Tryz.prog 70 [(false, E3 op)] (E4 y) []) (spec_l11Amount op) := by
  unfold spec_l11Amount
  exact
   Pn.bind (fun r1 h1 =>
   Pn.some (Fn.of [.call [] (E4 r1) []] (by kernel_rfl) (cj (spec_l01In_ok op 1 4 r1 h1) (cj1 tt))))
def spec_l11Draw_c0 (r1 : Int × l01Cur) : Option (Int × (List Int) × Int × Int) :=
 (spec_l01Once r1.2 3).bind fun r2 =>
 if r2.1 = true then
 some (1, r2.2.b, r2.2.i, r2.2.h)
 else
 some (i64 (1 + r1.1), r2.2.b, r2.2.i, r2.2.h)
theorem spec_l11Draw_c0_ok (r1 : Int × l01Cur) : Pn (JnO Tryz.prog (sub (codeOf Tryz.prog 61) [1, 1, 0]) (st 39 [(0, V.ptr 0 0), (2, V.ptr 1 0), (3, vI (i64 (1 + r1.1)))] [Blk.box 47 [lF5 r1.2.b, vI r1.2.i, vI r1.2.h], Blk.box 88 [vI 0, vE, vE, vE, vE, vE, vI 0, vI 0]] [some 0]) (fun (y : Int × (List Int) × Int × Int) => (X.go, st 39 [(0, V.ptr 0 0), (2, V.ptr 1 0), (3, vI y.1)] [Blk.box 47 [lF5 y.2.1, vI y.2.2.1, vI y.2.2.2], Blk.box 88 [vI 0, vE, vE, vE, vE, vE, vI 0, vI 0]] [some 0]))) (spec_l11Draw_c0 r1) := by
  unfold spec_l11Draw_c0
  exact
   Pn.bind (fun r2 h2 =>
   Pn.ite (fun h3 =>
   Pn.some (JnO.of [.call [true, false] (E4 r2.1) [V.bx 47 [lF5 r2.2.b, vI r2.2.i, vI r2.2.h]], bT, .wait 1, .mask [0, 2, 3], .ren [0, 1]] (by kernel_rfl) (cj (spec_l01Once_ok r1.2 3 r2 h2) (cj tt (cj1 h3))))) (fun h3 =>
   Pn.some (JnO.of [.call [true, false] (E4 r2.1) [V.bx 47 [lF5 r2.2.b, vI r2.2.i, vI r2.2.h]], bF, .mask [0, 2, 3], .ren [0, 1]] (by kernel_rfl) (cj (spec_l01Once_ok r1.2 3 r2 h2) (cj tt (cj1 h3))))))
def spec_l11Draw_c1 (r3 : Int × (List Int) × Int × Int) (r4 : ByteArray) (r5 : ByteArray × l01Cur) (r6 : ByteArray × l01Cur) : Option ((List Int) × Int × Int × ByteArray) :=
 (spec_l11Hold r3.1).bind fun r7 =>
 if r7 = true then
 (spec_l07Id r6.2).bind fun r8 =>
 some (r8.2.b, r8.2.i, r8.2.h, r8.1)
 else
 some (r6.2.b, r6.2.i, r6.2.h, ByteArray.empty)
theorem spec_l11Draw_c1_ok (r3 : Int × (List Int) × Int × Int) (r4 : ByteArray) (r5 : ByteArray × l01Cur) (r6 : ByteArray × l01Cur) : Pn (JnO Tryz.prog (sub (codeOf Tryz.prog 61) [1, 1, 1, 1, 0]) (st 39 [(0, V.ptr 0 0), (2, V.ptr 1 0), (3, vI r3.1), (4, V.ptr 2 0)] [Blk.box 47 [lF5 r6.2.b, vI r6.2.i, vI r6.2.h], Blk.box 88 [vI 0, vE, vE, vE, vE, vE, vI 0, vI 0], Blk.box 88 [vI r3.1, vS r5.1, vE, vE, vS r6.1, vS r4, vI 0, vI 0]] [some 0]) (fun (y : (List Int) × Int × Int × ByteArray) => (X.go, st 39 [(0, V.ptr 0 0), (2, V.ptr 1 0), (3, vI r3.1), (4, V.ptr 2 0)] [Blk.box 47 [lF5 y.1, vI y.2.1, vI y.2.2.1], Blk.box 88 [vI 0, vE, vE, vE, vE, vE, vI 0, vI 0], Blk.box 88 [vI r3.1, vS r5.1, vE, vS y.2.2.2, vS r6.1, vS r4, vI 0, vI 0]] [some 0]))) (spec_l11Draw_c1 r3 r4 r5 r6) := by
  unfold spec_l11Draw_c1
  exact
   Pn.bind (fun r7 h8 =>
   Pn.ite (fun h9 =>
   Pn.bind (fun r8 h10 =>
   Pn.some (JnO.of [.call [] (E4 r7) [], bT, .call [true] (E9 r8.1) [V.bx 47 [lF5 r8.2.b, vI r8.2.i, vI r8.2.h]], .wait 3, .mask [0, 2, 3, 4], .ren [0, 1, 2]] (by kernel_rfl) (cj (spec_l11Hold_ok r3.1 r7 h8) (cj tt (cj h9 (cj (spec_l07Id_ok r6.2 r8 h10) (cj1 tt)))))))) (fun h9 =>
   Pn.some (JnO.of [.call [] (E4 r7) [], bF, .mask [0, 2, 3, 4], .ren [0, 1, 2]] (by kernel_rfl) (cj (spec_l11Hold_ok r3.1 r7 h8) (cj tt (cj1 h9))))))
def spec_l11Draw_c2 (r3 : Int × (List Int) × Int × Int) (r4 : ByteArray) (r5 : ByteArray × l01Cur) (r6 : ByteArray × l01Cur) (r9 : (List Int) × Int × Int × ByteArray) : Option ((List Int) × Int × Int × Int) :=
 (spec_l11Amount r3.1).bind fun r10 =>
 if r10 = true then
 (spec_l01Below (l01Cur.mk r9.1 r9.2.1 r9.2.2.1) 50).bind fun r11 =>
 some (r11.2.b, r11.2.i, r11.2.h, r11.1)
 else
 some (r9.1, r9.2.1, r9.2.2.1, 0)
theorem spec_l11Draw_c2_ok (r3 : Int × (List Int) × Int × Int) (r4 : ByteArray) (r5 : ByteArray × l01Cur) (r6 : ByteArray × l01Cur) (r9 : (List Int) × Int × Int × ByteArray) : Pn (JnO Tryz.prog (sub (codeOf Tryz.prog 61) [1, 1, 1, 1, 1, 0]) (st 39 [(0, V.ptr 0 0), (2, V.ptr 1 0), (3, vI r3.1), (4, V.ptr 2 0)] [Blk.box 47 [lF5 r9.1, vI r9.2.1, vI r9.2.2.1], Blk.box 88 [vI 0, vE, vE, vE, vE, vE, vI 0, vI 0], Blk.box 88 [vI r3.1, vS r5.1, vE, vS r9.2.2.2, vS r6.1, vS r4, vI 0, vI 0]] [some 0]) (fun (y : (List Int) × Int × Int × Int) => (X.go, st 39 [(0, V.ptr 0 0), (2, V.ptr 1 0), (3, vI r3.1), (4, V.ptr 2 0)] [Blk.box 47 [lF5 y.1, vI y.2.1, vI y.2.2.1], Blk.box 88 [vI 0, vE, vE, vE, vE, vE, vI 0, vI 0], Blk.box 88 [vI r3.1, vS r5.1, vE, vS r9.2.2.2, vS r6.1, vS r4, vI y.2.2.2, vI 0]] [some 0]))) (spec_l11Draw_c2 r3 r4 r5 r6 r9) := by
  unfold spec_l11Draw_c2
  exact
   Pn.bind (fun r10 h12 =>
   Pn.ite (fun h13 =>
   Pn.bind (fun r11 h14 =>
   Pn.some (JnO.of [.call [] (E4 r10) [], bT, .call [true, false] (E3 r11.1) [V.bx 47 [lF5 r11.2.b, vI r11.2.i, vI r11.2.h]], .wait 3, .mask [0, 2, 3, 4], .ren [0, 1, 2]] (by kernel_rfl) (cj (spec_l11Amount_ok r3.1 r10 h12) (cj tt (cj h13 (cj (spec_l01Below_ok (l01Cur.mk r9.1 r9.2.1 r9.2.2.1) 50 r11 h14) (cj1 tt)))))))) (fun h13 =>
   Pn.some (JnO.of [.call [] (E4 r10) [], bF, .mask [0, 2, 3, 4], .ren [0, 1, 2]] (by kernel_rfl) (cj (spec_l11Amount_ok r3.1 r10 h12) (cj tt (cj1 h13))))))
def spec_l11Draw_c3 (r3 : Int × (List Int) × Int × Int) (r4 : ByteArray) (r5 : ByteArray × l01Cur) (r6 : ByteArray × l01Cur) (r9 : (List Int) × Int × Int × ByteArray) (r12 : (List Int) × Int × Int × Int) : Option ((List Int) × Int × Int × Int) :=
 if (r3.1 == 1) = true then
 (spec_l01Below (l01Cur.mk r12.1 r12.2.1 r12.2.2.1) 25).bind fun r13 =>
 some (r13.2.b, r13.2.i, r13.2.h, r13.1)
 else
 some (r12.1, r12.2.1, r12.2.2.1, 0)
theorem spec_l11Draw_c3_ok (r3 : Int × (List Int) × Int × Int) (r4 : ByteArray) (r5 : ByteArray × l01Cur) (r6 : ByteArray × l01Cur) (r9 : (List Int) × Int × Int × ByteArray) (r12 : (List Int) × Int × Int × Int) : Pn (JnO Tryz.prog (sub (codeOf Tryz.prog 61) [1, 1, 1, 1, 1, 1, 0]) (st 39 [(0, V.ptr 0 0), (2, V.ptr 1 0), (3, vI r3.1), (4, V.ptr 2 0)] [Blk.box 47 [lF5 r12.1, vI r12.2.1, vI r12.2.2.1], Blk.box 88 [vI 0, vE, vE, vE, vE, vE, vI 0, vI 0], Blk.box 88 [vI r3.1, vS r5.1, vE, vS r9.2.2.2, vS r6.1, vS r4, vI r12.2.2.2, vI 0]] [some 0]) (fun (y : (List Int) × Int × Int × Int) => (X.go, st 39 [(0, V.ptr 0 0), (2, V.ptr 1 0), (3, vI r3.1), (4, V.ptr 2 0)] [Blk.box 47 [lF5 y.1, vI y.2.1, vI y.2.2.1], Blk.box 88 [vI 0, vE, vE, vE, vE, vE, vI 0, vI 0], Blk.box 88 [vI r3.1, vS r5.1, vE, vS r9.2.2.2, vS r6.1, vS r4, vI r12.2.2.2, vI y.2.2.2]] [some 0]))) (spec_l11Draw_c3 r3 r4 r5 r6 r9 r12) := by
  unfold spec_l11Draw_c3
  exact
   Pn.ite (fun h16 =>
   Pn.bind (fun r13 h17 =>
   Pn.some (JnO.of [bT, .call [true, false] (E3 r13.1) [V.bx 47 [lF5 r13.2.b, vI r13.2.i, vI r13.2.h]], .wait 3, .mask [0, 2, 3, 4], .ren [0, 1, 2]] (by kernel_rfl) (cj h16 (cj (spec_l01Below_ok (l01Cur.mk r12.1 r12.2.1 r12.2.2.1) 25 r13 h17) (cj1 tt)))))) (fun h16 =>
   Pn.some (JnO.of [bF, .mask [0, 2, 3, 4], .ren [0, 1, 2]] (by kernel_rfl) (cj1 h16)))
def spec_l11Draw_c4 (r3 : Int × (List Int) × Int × Int) (r4 : ByteArray) (r5 : ByteArray × l01Cur) (r6 : ByteArray × l01Cur) (r9 : (List Int) × Int × Int × ByteArray) (r12 : (List Int) × Int × Int × Int) (r14 : (List Int) × Int × Int × Int) : Option ((List Int) × Int × Int × ByteArray) :=
 if (r3.1 == 6) = true then
 (spec_l09Id (l01Cur.mk r14.1 r14.2.1 r14.2.2.1)).bind fun r15 =>
 some (r15.2.b, r15.2.i, r15.2.h, r15.1)
 else
 some (r14.1, r14.2.1, r14.2.2.1, ByteArray.empty)
theorem spec_l11Draw_c4_ok (r3 : Int × (List Int) × Int × Int) (r4 : ByteArray) (r5 : ByteArray × l01Cur) (r6 : ByteArray × l01Cur) (r9 : (List Int) × Int × Int × ByteArray) (r12 : (List Int) × Int × Int × Int) (r14 : (List Int) × Int × Int × Int) : Pn (JnO Tryz.prog (sub (codeOf Tryz.prog 61) [1, 1, 1, 1, 1, 1, 1, 0]) (st 39 [(0, V.ptr 0 0), (2, V.ptr 1 0), (3, vI r3.1), (4, V.ptr 2 0)] [Blk.box 47 [lF5 r14.1, vI r14.2.1, vI r14.2.2.1], Blk.box 88 [vI 0, vE, vE, vE, vE, vE, vI 0, vI 0], Blk.box 88 [vI r3.1, vS r5.1, vE, vS r9.2.2.2, vS r6.1, vS r4, vI r12.2.2.2, vI r14.2.2.2]] [some 0]) (fun (y : (List Int) × Int × Int × ByteArray) => (X.go, st 39 [(2, V.ptr 1 0), (4, V.ptr 2 0)] [Blk.box 47 [lF5 y.1, vI y.2.1, vI y.2.2.1], Blk.box 88 [vI 0, vE, vE, vE, vE, vE, vI 0, vI 0], Blk.box 88 [vI r3.1, vS r5.1, vS y.2.2.2, vS r9.2.2.2, vS r6.1, vS r4, vI r12.2.2.2, vI r14.2.2.2]] [some 0]))) (spec_l11Draw_c4 r3 r4 r5 r6 r9 r12 r14) := by
  unfold spec_l11Draw_c4
  exact
   Pn.ite (fun h19 =>
   Pn.bind (fun r15 h20 =>
   Pn.some (JnO.of [bT, .call [true] (E9 r15.1) [V.bx 47 [lF5 r15.2.b, vI r15.2.i, vI r15.2.h]], .wait 3, .mask [2, 4], .ren [0, 1, 2]] (by kernel_rfl) (cj h19 (cj (spec_l09Id_ok (l01Cur.mk r14.1 r14.2.1 r14.2.2.1) r15 h20) (cj1 tt)))))) (fun h19 =>
   Pn.some (JnO.of [bF, .mask [2, 4], .ren [0, 1, 2]] (by kernel_rfl) (cj1 h19)))
def spec_l11Draw (c : l01Cur) : Option (Req × l01Cur) :=
 (spec_l01Below c 8).bind fun r1 =>
 (spec_l11Draw_c0 r1).bind fun r3 =>
 (spec_OpMti r3.1).bind fun r4 =>
 (spec_l09Id (l01Cur.mk r3.2.1 r3.2.2.1 r3.2.2.2)).bind fun r5 =>
 (spec_l11Trace r5.2).bind fun r6 =>
 (spec_l11Draw_c1 r3 r4 r5 r6).bind fun r9 =>
 (spec_l11Draw_c2 r3 r4 r5 r6 r9).bind fun r12 =>
 (spec_l11Draw_c3 r3 r4 r5 r6 r9 r12).bind fun r14 =>
 (spec_l11Draw_c4 r3 r4 r5 r6 r9 r12 r14).bind fun r16 =>
 some ((Req.mk r3.1 r5.1 r16.2.2.2 r9.2.2.2 r6.1 r4 r12.2.2.2 r14.2.2.2), (l01Cur.mk r16.1 r16.2.1 r16.2.2.1))
theorem spec_l11Draw_ok (c : l01Cur) : Pn (fun y => Fn Tryz.prog 61 [(true, V.bx 47 [lF5 c.b, vI c.i, vI c.h])] (E88 y.1) [V.bx 47 [lF5 y.2.b, vI y.2.i, vI y.2.h]]) (spec_l11Draw c) := by
  unfold spec_l11Draw
  exact
   Pn.bind (fun r1 h1 =>
   Pn.bind (fun r3 h4 =>
   Pn.bind (fun r4 h5 =>
   Pn.bind (fun r5 h6 =>
   Pn.bind (fun r6 h7 =>
   Pn.bind (fun r9 h11 =>
   Pn.bind (fun r12 h15 =>
   Pn.bind (fun r14 h18 =>
   Pn.bind (fun r16 h21 =>
   Pn.some (Fn.of [.call [true, false] (E3 r1.1) [V.bx 47 [lF5 r1.2.b, vI r1.2.i, vI r1.2.h]], .wait 3, .mask [0, 2, 3], .ren [0, 1], .join 5 (X.go) (st 39 [(0, V.ptr 0 0), (2, V.ptr 1 0), (3, vI r3.1)] [Blk.box 47 [lF5 r3.2.1, vI r3.2.2.1, vI r3.2.2.2], Blk.box 88 [vI 0, vE, vE, vE, vE, vE, vI 0, vI 0]] [some 0]), .call [] (E9 r4) [], .call [true] (E9 r5.1) [V.bx 47 [lF5 r5.2.b, vI r5.2.i, vI r5.2.h]], .call [true] (E9 r6.1) [V.bx 47 [lF5 r6.2.b, vI r6.2.i, vI r6.2.h]], .wait 4, .mask [0, 2, 3, 4], .ren [0, 1, 2], .join 5 (X.go) (st 39 [(0, V.ptr 0 0), (2, V.ptr 1 0), (3, vI r3.1), (4, V.ptr 2 0)] [Blk.box 47 [lF5 r9.1, vI r9.2.1, vI r9.2.2.1], Blk.box 88 [vI 0, vE, vE, vE, vE, vE, vI 0, vI 0], Blk.box 88 [vI r3.1, vS r5.1, vE, vS r9.2.2.2, vS r6.1, vS r4, vI 0, vI 0]] [some 0]), .wait 1, .mask [0, 2, 3, 4], .ren [0, 1, 2], .join 5 (X.go) (st 39 [(0, V.ptr 0 0), (2, V.ptr 1 0), (3, vI r3.1), (4, V.ptr 2 0)] [Blk.box 47 [lF5 r12.1, vI r12.2.1, vI r12.2.2.1], Blk.box 88 [vI 0, vE, vE, vE, vE, vE, vI 0, vI 0], Blk.box 88 [vI r3.1, vS r5.1, vE, vS r9.2.2.2, vS r6.1, vS r4, vI r12.2.2.2, vI 0]] [some 0]), .wait 1, .mask [0, 2, 3, 4], .ren [0, 1, 2], .join 5 (X.go) (st 39 [(0, V.ptr 0 0), (2, V.ptr 1 0), (3, vI r3.1), (4, V.ptr 2 0)] [Blk.box 47 [lF5 r14.1, vI r14.2.1, vI r14.2.2.1], Blk.box 88 [vI 0, vE, vE, vE, vE, vE, vI 0, vI 0], Blk.box 88 [vI r3.1, vS r5.1, vE, vS r9.2.2.2, vS r6.1, vS r4, vI r12.2.2.2, vI r14.2.2.2]] [some 0]), .wait 1, .mask [0, 2, 3, 4], .ren [0, 1, 2], .join 5 (X.go) (st 39 [(2, V.ptr 1 0), (4, V.ptr 2 0)] [Blk.box 47 [lF5 r16.1, vI r16.2.1, vI r16.2.2.1], Blk.box 88 [vI 0, vE, vE, vE, vE, vE, vI 0, vI 0], Blk.box 88 [vI r3.1, vS r5.1, vS r16.2.2.2, vS r9.2.2.2, vS r6.1, vS r4, vI r12.2.2.2, vI r14.2.2.2]] [some 0])] (by kernel_rfl) (cj (spec_l01Below_ok c 8 r1 h1) (cj tt (cj (spec_l11Draw_c0_ok r1 r3 h4) (cj (spec_OpMti_ok r3.1 r4 h5) (cj tt (cj (spec_l09Id_ok (l01Cur.mk r3.2.1 r3.2.2.1 r3.2.2.2) r5 h6) (cj tt (cj (spec_l11Trace_ok r5.2 r6 h7) (cj tt (cj (spec_l11Draw_c1_ok r3 r4 r5 r6 r9 h11) (cj (spec_l11Draw_c2_ok r3 r4 r5 r6 r9 r12 h15) (cj (spec_l11Draw_c3_ok r3 r4 r5 r6 r9 r12 r14 h18) (cj1 (spec_l11Draw_c4_ok r3 r4 r5 r6 r9 r12 r14 r16 h21))))))))))))))))))))))))
def spec_ReqOk_c0 (o : Req) : Option (Lo Unit Unit) :=
 (spec_l11Op o.Op).bind fun r1 =>
 if r1 = true then
 (spec_OpMti o.Op).bind fun r2 =>
 if (o.Mti == r2) = true then
 (spec_AcctIdOk o.Acct).bind fun r3 =>
 if r3 = true then
 (spec_Digits o.Trace).bind fun r4 =>
 if r4 = true then
 if ((o.Trace.size : Int) != 6) = true then
 some (.ret ())
 else
 some (.out ())
 else
 some (.ret ())
 else
 some (.ret ())
 else
 some (.ret ())
 else
 some (.ret ())
theorem spec_ReqOk_c0_ok (o : Req) : Pn (JnO Tryz.prog (sub (codeOf Tryz.prog 66) [1, 0]) (st 110 [(1, V.ptr 0 0)] [Blk.box 88 [vI o.Op, vS o.Acct, vS o.Other, vS o.Hold, vS o.Trace, vS o.Mti, vI o.Amount, vI o.Ttl]] []) (fun (y : Lo Unit Unit) => Lo.elim y (fun s => (X.go, st 110 [(1, V.ptr 0 0)] [Blk.box 88 [vI o.Op, vS o.Acct, vS o.Other, vS o.Hold, vS o.Trace, vS o.Mti, vI o.Amount, vI o.Ttl]] [])) (fun s => (X.ret, st 110 [(2, vB false)] [] [])))) (spec_ReqOk_c0 o) := by
  unfold spec_ReqOk_c0
  exact
   Pn.bind (fun r1 h1 =>
   Pn.ite (fun h2 =>
   Pn.bind (fun r2 h3 =>
   Pn.ite (fun h4 =>
   Pn.bind (fun r3 h5 =>
   Pn.ite (fun h6 =>
   Pn.bind (fun r4 h7 =>
   Pn.ite (fun h8 =>
   Pn.ite (fun h9 =>
   Pn.some (JnO.of [.draw [], .call [] (E4 r1) [], bF, bF, bF, bF, bF, .call [] (E9 r2) [], bF, bF, bF, bF, bF, .call [] (E4 r3) [], bF, bF, bF, bF, bF, .call [] (E4 r4) [], bF, bF, bF, bF, bF, bF, bF, bT, .wait 1, .mask [2], .ren []] (by kernel_rfl) (cj (spec_l11Op_ok o.Op r1 h1) (cj tt (cj (nf h2) (cj (nf h2) (cj (nf h2) (cj (nf h2) (cj (nf h2) (cj (spec_OpMti_ok o.Op r2 h3) (cj tt (cj (nf h2) (cj (nf h2) (cj (nf h4) (cj (nf h4) (cj (nf h4) (cj (spec_AcctIdOk_ok o.Acct r3 h5) (cj tt (cj (nf h4) (cj (nf h4) (cj (nf h6) (cj (nf h6) (cj (nf h6) (cj (spec_Digits_ok o.Trace r4 h7) (cj tt (cj (nf h6) (cj (nf h6) (cj (nf h8) (cj (nf h8) (cj (nf h8) (cj (nf h8) (cj (nf h8) (cj1 h9))))))))))))))))))))))))))))))))) (fun h9 =>
   Pn.some (JnO.of [.draw [], .call [] (E4 r1) [], bF, bF, bF, bF, bF, .call [] (E9 r2) [], bF, bF, bF, bF, bF, .call [] (E4 r3) [], bF, bF, bF, bF, bF, .call [] (E4 r4) [], bF, bF, bF, bF, bF, bF, bF, bF, .mask [1], .ren [0]] (by kernel_rfl) (cj (spec_l11Op_ok o.Op r1 h1) (cj tt (cj (nf h2) (cj (nf h2) (cj (nf h2) (cj (nf h2) (cj (nf h2) (cj (spec_OpMti_ok o.Op r2 h3) (cj tt (cj (nf h2) (cj (nf h2) (cj (nf h4) (cj (nf h4) (cj (nf h4) (cj (spec_AcctIdOk_ok o.Acct r3 h5) (cj tt (cj (nf h4) (cj (nf h4) (cj (nf h6) (cj (nf h6) (cj (nf h6) (cj (spec_Digits_ok o.Trace r4 h7) (cj tt (cj (nf h6) (cj (nf h6) (cj (nf h8) (cj (nf h8) (cj (nf h8) (cj (nf h8) (cj (nf h8) (cj1 h9)))))))))))))))))))))))))))))))))) (fun h8 =>
   Pn.some (JnO.of [.draw [], .call [] (E4 r1) [], bF, bF, bF, bF, bF, .call [] (E9 r2) [], bF, bF, bF, bF, bF, .call [] (E4 r3) [], bF, bF, bF, bF, bF, .call [] (E4 r4) [], bF, bF, bT, bT, bT, bT, bT, bT, .wait 1, .mask [2], .ren []] (by kernel_rfl) (cj (spec_l11Op_ok o.Op r1 h1) (cj tt (cj (nf h2) (cj (nf h2) (cj (nf h2) (cj (nf h2) (cj (nf h2) (cj (spec_OpMti_ok o.Op r2 h3) (cj tt (cj (nf h2) (cj (nf h2) (cj (nf h4) (cj (nf h4) (cj (nf h4) (cj (spec_AcctIdOk_ok o.Acct r3 h5) (cj tt (cj (nf h4) (cj (nf h4) (cj (nf h6) (cj (nf h6) (cj (nf h6) (cj (spec_Digits_ok o.Trace r4 h7) (cj tt (cj (nf h6) (cj (nf h6) (cj (nt h8) (cj (nt h8) (cj (nt h8) (cj (nt h8) (cj (nt h8) (cj1 (rfl : true = true)))))))))))))))))))))))))))))))))))) (fun h6 =>
   Pn.some (JnO.of [.draw [], .call [] (E4 r1) [], bF, bF, bF, bF, bF, .call [] (E9 r2) [], bF, bF, bF, bF, bF, .call [] (E4 r3) [], bF, bF, bT, bT, bT, bT, bT, bT, bT, bT, bT, bT, bT, .wait 1, .mask [2], .ren []] (by kernel_rfl) (cj (spec_l11Op_ok o.Op r1 h1) (cj tt (cj (nf h2) (cj (nf h2) (cj (nf h2) (cj (nf h2) (cj (nf h2) (cj (spec_OpMti_ok o.Op r2 h3) (cj tt (cj (nf h2) (cj (nf h2) (cj (nf h4) (cj (nf h4) (cj (nf h4) (cj (spec_AcctIdOk_ok o.Acct r3 h5) (cj tt (cj (nf h4) (cj (nf h4) (cj (nt h6) (cj (nt h6) (cj (nt h6) (cj (nt h6) (cj (nt h6) (cj (rfl : true = true) (cj (rfl : true = true) (cj (rfl : true = true) (cj (rfl : true = true) (cj (rfl : true = true) (cj1 (rfl : true = true)))))))))))))))))))))))))))))))))) (fun h4 =>
   Pn.some (JnO.of [.draw [], .call [] (E4 r1) [], bF, bF, bF, bF, bF, .call [] (E9 r2) [], bF, bF, bT, bT, bT, bT, bT, bT, bT, bT, bT, bT, bT, bT, bT, bT, bT, bT, .wait 1, .mask [2], .ren []] (by kernel_rfl) (cj (spec_l11Op_ok o.Op r1 h1) (cj tt (cj (nf h2) (cj (nf h2) (cj (nf h2) (cj (nf h2) (cj (nf h2) (cj (spec_OpMti_ok o.Op r2 h3) (cj tt (cj (nf h2) (cj (nf h2) (cj (nt h4) (cj (nt h4) (cj (nt h4) (cj (nt h4) (cj (nt h4) (cj (rfl : true = true) (cj (rfl : true = true) (cj (rfl : true = true) (cj (rfl : true = true) (cj (rfl : true = true) (cj (rfl : true = true) (cj (rfl : true = true) (cj (rfl : true = true) (cj (rfl : true = true) (cj (rfl : true = true) (cj1 (rfl : true = true)))))))))))))))))))))))))))))))) (fun h2 =>
   Pn.some (JnO.of [.draw [], .call [] (E4 r1) [], bT, bT, bT, bT, bT, bT, bT, bT, bT, bT, bT, bT, bT, bT, bT, bT, bT, bT, bT, bT, bT, bT, bT, .wait 1, .mask [2], .ren []] (by kernel_rfl) (cj (spec_l11Op_ok o.Op r1 h1) (cj tt (cj (nt h2) (cj (nt h2) (cj (nt h2) (cj (nt h2) (cj (nt h2) (cj (nt h2) (cj (nt h2) (cj (rfl : true = true) (cj (rfl : true = true) (cj (rfl : true = true) (cj (rfl : true = true) (cj (rfl : true = true) (cj (rfl : true = true) (cj (rfl : true = true) (cj (rfl : true = true) (cj (rfl : true = true) (cj (rfl : true = true) (cj (rfl : true = true) (cj (rfl : true = true) (cj (rfl : true = true) (cj (rfl : true = true) (cj (rfl : true = true) (cj1 (rfl : true = true)))))))))))))))))))))))))))))
def spec_ReqOk_c1 (o : Req) : Option (Lo Unit Unit) :=
 (spec_l11Hold o.Op).bind fun r6 =>
 if r6 = true then
 (spec_HoldIdOk o.Hold).bind fun r7 =>
 if r7 = true then
 (spec_l11Hold o.Op).bind fun r8 =>
 if r8 = true then
 some (.out ())
 else
 if (o.Hold == (bs [])) = true then
 some (.out ())
 else
 some (.ret ())
 else
 some (.ret ())
 else
 (spec_l11Hold o.Op).bind fun r9 =>
 if r9 = true then
 some (.out ())
 else
 if (o.Hold == (bs [])) = true then
 some (.out ())
 else
 some (.ret ())
theorem spec_ReqOk_c1_ok (o : Req) : Pn (JnO Tryz.prog (sub (codeOf Tryz.prog 66) [1, 1, 0]) (st 110 [(1, V.ptr 0 0)] [Blk.box 88 [vI o.Op, vS o.Acct, vS o.Other, vS o.Hold, vS o.Trace, vS o.Mti, vI o.Amount, vI o.Ttl]] []) (fun (y : Lo Unit Unit) => Lo.elim y (fun s => (X.go, st 110 [(1, V.ptr 0 0)] [Blk.box 88 [vI o.Op, vS o.Acct, vS o.Other, vS o.Hold, vS o.Trace, vS o.Mti, vI o.Amount, vI o.Ttl]] [])) (fun s => (X.ret, st 110 [(2, vB false)] [] [])))) (spec_ReqOk_c1 o) := by
  unfold spec_ReqOk_c1
  exact
   Pn.bind (fun r6 h13 =>
   Pn.ite (fun h14 =>
   Pn.bind (fun r7 h15 =>
   Pn.ite (fun h16 =>
   Pn.bind (fun r8 h17 =>
   Pn.ite (fun h18 =>
   Pn.some (JnO.of [.call [] (E4 r6) [], bT, bT, bT, .call [] (E4 r7) [], bT, bT, bF, bF, bF, .call [] (E4 r8) [], bF, bF, bF, bF, bF, bF, bF, bF, bF, .mask [1], .ren [0]] (by kernel_rfl) (cj (spec_l11Hold_ok o.Op r6 h13) (cj tt (cj h14 (cj h14 (cj h14 (cj (spec_HoldIdOk_ok o.Hold r7 h15) (cj tt (cj h14 (cj h14 (cj (nf h16) (cj (nf h16) (cj (nf h16) (cj (spec_l11Hold_ok o.Op r8 h17) (cj tt (cj (nf h16) (cj (nf h16) (cj (nf h18) (cj (nf h18) (cj (nf h18) (cj (nf h16) (cj (nf h18) (cj (nf h16) (cj1 ff))))))))))))))))))))))))) (fun h18 =>
   Pn.ite (fun h19 =>
   Pn.some (JnO.of [.call [] (E4 r6) [], bT, bT, bT, .call [] (E4 r7) [], bT, bT, bF, bF, bF, .call [] (E4 r8) [], bF, bF, bT, bT, bT, bF, bT, bF, bF, .mask [1], .ren [0]] (by kernel_rfl) (cj (spec_l11Hold_ok o.Op r6 h13) (cj tt (cj h14 (cj h14 (cj h14 (cj (spec_HoldIdOk_ok o.Hold r7 h15) (cj tt (cj h14 (cj h14 (cj (nf h16) (cj (nf h16) (cj (nf h16) (cj (spec_l11Hold_ok o.Op r8 h17) (cj tt (cj (nf h16) (cj (nf h16) (cj (nt h18) (cj (nt h18) (cj (nt h18) (cj (nf h16) (cj (nt h18) (cj (nf h16) (cj1 (nf h19)))))))))))))))))))))))))) (fun h19 =>
   Pn.some (JnO.of [.call [] (E4 r6) [], bT, bT, bT, .call [] (E4 r7) [], bT, bT, bF, bF, bF, .call [] (E4 r8) [], bF, bF, bT, bT, bT, bF, bT, bF, bT, .wait 1, .mask [2], .ren []] (by kernel_rfl) (cj (spec_l11Hold_ok o.Op r6 h13) (cj tt (cj h14 (cj h14 (cj h14 (cj (spec_HoldIdOk_ok o.Hold r7 h15) (cj tt (cj h14 (cj h14 (cj (nf h16) (cj (nf h16) (cj (nf h16) (cj (spec_l11Hold_ok o.Op r8 h17) (cj tt (cj (nf h16) (cj (nf h16) (cj (nt h18) (cj (nt h18) (cj (nt h18) (cj (nf h16) (cj (nt h18) (cj (nf h16) (cj1 (nt h19))))))))))))))))))))))))))))) (fun h16 =>
   Pn.some (JnO.of [.call [] (E4 r6) [], bT, bT, bT, .call [] (E4 r7) [], bT, bT, bT, bT, bT, bT, bT, bT, bT, bT, .wait 1, .mask [2], .ren []] (by kernel_rfl) (cj (spec_l11Hold_ok o.Op r6 h13) (cj tt (cj h14 (cj h14 (cj h14 (cj (spec_HoldIdOk_ok o.Hold r7 h15) (cj tt (cj h14 (cj h14 (cj (nt h16) (cj (nt h16) (cj (nt h16) (cj (nt h16) (cj (nt h16) (cj (nt h16) (cj (nt h16) (cj1 (rfl : true = true)))))))))))))))))))))) (fun h14 =>
   Pn.bind (fun r9 h20 =>
   Pn.ite (fun h21 =>
   Pn.some (JnO.of [.call [] (E4 r6) [], bF, bF, bF, bF, bF, bF, bF, bF, .call [] (E4 r9) [], bF, bF, bF, bF, bF, bF, bF, bF, bF, .mask [1], .ren [0]] (by kernel_rfl) (cj (spec_l11Hold_ok o.Op r6 h13) (cj tt (cj h14 (cj h14 (cj h14 (cj h14 (cj h14 (cj ff (cj ff (cj ff (cj (spec_l11Hold_ok o.Op r9 h20) (cj tt (cj ff (cj ff (cj (nf h21) (cj (nf h21) (cj (nf h21) (cj ff (cj (nf h21) (cj ff (cj1 ff))))))))))))))))))))))) (fun h21 =>
   Pn.ite (fun h22 =>
   Pn.some (JnO.of [.call [] (E4 r6) [], bF, bF, bF, bF, bF, bF, bF, bF, .call [] (E4 r9) [], bF, bF, bT, bT, bT, bF, bT, bF, bF, .mask [1], .ren [0]] (by kernel_rfl) (cj (spec_l11Hold_ok o.Op r6 h13) (cj tt (cj h14 (cj h14 (cj h14 (cj h14 (cj h14 (cj ff (cj ff (cj ff (cj (spec_l11Hold_ok o.Op r9 h20) (cj tt (cj ff (cj ff (cj (nt h21) (cj (nt h21) (cj (nt h21) (cj ff (cj (nt h21) (cj ff (cj1 (nf h22)))))))))))))))))))))))) (fun h22 =>
   Pn.some (JnO.of [.call [] (E4 r6) [], bF, bF, bF, bF, bF, bF, bF, bF, .call [] (E4 r9) [], bF, bF, bT, bT, bT, bF, bT, bF, bT, .wait 1, .mask [2], .ren []] (by kernel_rfl) (cj (spec_l11Hold_ok o.Op r6 h13) (cj tt (cj h14 (cj h14 (cj h14 (cj h14 (cj h14 (cj ff (cj ff (cj ff (cj (spec_l11Hold_ok o.Op r9 h20) (cj tt (cj ff (cj ff (cj (nt h21) (cj (nt h21) (cj (nt h21) (cj ff (cj (nt h21) (cj ff (cj1 (nt h22))))))))))))))))))))))))))))
def spec_ReqOk_c2 (o : Req) : Option (Lo Unit Unit) :=
 (spec_l11Amount o.Op).bind fun r11 =>
 if r11 = true then
 (spec_l01In o.Amount 0 999999999999).bind fun r12 =>
 if r12 = true then
 (spec_l11Amount o.Op).bind fun r13 =>
 if r13 = true then
 some (.out ())
 else
 if (o.Amount != 0) = true then
 some (.ret ())
 else
 some (.out ())
 else
 some (.ret ())
 else
 (spec_l11Amount o.Op).bind fun r14 =>
 if r14 = true then
 some (.out ())
 else
 if (o.Amount != 0) = true then
 some (.ret ())
 else
 some (.out ())
theorem spec_ReqOk_c2_ok (o : Req) : Pn (JnO Tryz.prog (sub (codeOf Tryz.prog 66) [1, 1, 1, 0]) (st 110 [(1, V.ptr 0 0)] [Blk.box 88 [vI o.Op, vS o.Acct, vS o.Other, vS o.Hold, vS o.Trace, vS o.Mti, vI o.Amount, vI o.Ttl]] []) (fun (y : Lo Unit Unit) => Lo.elim y (fun s => (X.go, st 110 [(1, V.ptr 0 0)] [Blk.box 88 [vI o.Op, vS o.Acct, vS o.Other, vS o.Hold, vS o.Trace, vS o.Mti, vI o.Amount, vI o.Ttl]] [])) (fun s => (X.ret, st 110 [(2, vB false)] [] [])))) (spec_ReqOk_c2 o) := by
  unfold spec_ReqOk_c2
  exact
   Pn.bind (fun r11 h26 =>
   Pn.ite (fun h27 =>
   Pn.bind (fun r12 h28 =>
   Pn.ite (fun h29 =>
   Pn.bind (fun r13 h30 =>
   Pn.ite (fun h31 =>
   Pn.some (JnO.of [.call [] (E4 r11) [], bT, bT, bT, .call [] (E4 r12) [], bT, bT, bF, bF, bF, .call [] (E4 r13) [], bF, bF, bF, bF, bF, bF, bF, bF, bF, .mask [1], .ren [0]] (by kernel_rfl) (cj (spec_l11Amount_ok o.Op r11 h26) (cj tt (cj h27 (cj h27 (cj h27 (cj (spec_l01In_ok o.Amount 0 999999999999 r12 h28) (cj tt (cj h27 (cj h27 (cj (nf h29) (cj (nf h29) (cj (nf h29) (cj (spec_l11Amount_ok o.Op r13 h30) (cj tt (cj (nf h29) (cj (nf h29) (cj (nf h31) (cj (nf h31) (cj (nf h31) (cj (nf h29) (cj (nf h31) (cj (nf h29) (cj1 ff))))))))))))))))))))))))) (fun h31 =>
   Pn.ite (fun h32 =>
   Pn.some (JnO.of [.call [] (E4 r11) [], bT, bT, bT, .call [] (E4 r12) [], bT, bT, bF, bF, bF, .call [] (E4 r13) [], bF, bF, bT, bT, bT, bF, bT, bF, bT, .wait 1, .mask [2], .ren []] (by kernel_rfl) (cj (spec_l11Amount_ok o.Op r11 h26) (cj tt (cj h27 (cj h27 (cj h27 (cj (spec_l01In_ok o.Amount 0 999999999999 r12 h28) (cj tt (cj h27 (cj h27 (cj (nf h29) (cj (nf h29) (cj (nf h29) (cj (spec_l11Amount_ok o.Op r13 h30) (cj tt (cj (nf h29) (cj (nf h29) (cj (nt h31) (cj (nt h31) (cj (nt h31) (cj (nf h29) (cj (nt h31) (cj (nf h29) (cj1 h32))))))))))))))))))))))))) (fun h32 =>
   Pn.some (JnO.of [.call [] (E4 r11) [], bT, bT, bT, .call [] (E4 r12) [], bT, bT, bF, bF, bF, .call [] (E4 r13) [], bF, bF, bT, bT, bT, bF, bT, bF, bF, .mask [1], .ren [0]] (by kernel_rfl) (cj (spec_l11Amount_ok o.Op r11 h26) (cj tt (cj h27 (cj h27 (cj h27 (cj (spec_l01In_ok o.Amount 0 999999999999 r12 h28) (cj tt (cj h27 (cj h27 (cj (nf h29) (cj (nf h29) (cj (nf h29) (cj (spec_l11Amount_ok o.Op r13 h30) (cj tt (cj (nf h29) (cj (nf h29) (cj (nt h31) (cj (nt h31) (cj (nt h31) (cj (nf h29) (cj (nt h31) (cj (nf h29) (cj1 h32)))))))))))))))))))))))))))) (fun h29 =>
   Pn.some (JnO.of [.call [] (E4 r11) [], bT, bT, bT, .call [] (E4 r12) [], bT, bT, bT, bT, bT, bT, bT, bT, bT, bT, .wait 1, .mask [2], .ren []] (by kernel_rfl) (cj (spec_l11Amount_ok o.Op r11 h26) (cj tt (cj h27 (cj h27 (cj h27 (cj (spec_l01In_ok o.Amount 0 999999999999 r12 h28) (cj tt (cj h27 (cj h27 (cj (nt h29) (cj (nt h29) (cj (nt h29) (cj (nt h29) (cj (nt h29) (cj (nt h29) (cj (nt h29) (cj1 (rfl : true = true)))))))))))))))))))))) (fun h27 =>
   Pn.bind (fun r14 h33 =>
   Pn.ite (fun h34 =>
   Pn.some (JnO.of [.call [] (E4 r11) [], bF, bF, bF, bF, bF, bF, bF, bF, .call [] (E4 r14) [], bF, bF, bF, bF, bF, bF, bF, bF, bF, .mask [1], .ren [0]] (by kernel_rfl) (cj (spec_l11Amount_ok o.Op r11 h26) (cj tt (cj h27 (cj h27 (cj h27 (cj h27 (cj h27 (cj ff (cj ff (cj ff (cj (spec_l11Amount_ok o.Op r14 h33) (cj tt (cj ff (cj ff (cj (nf h34) (cj (nf h34) (cj (nf h34) (cj ff (cj (nf h34) (cj ff (cj1 ff))))))))))))))))))))))) (fun h34 =>
   Pn.ite (fun h35 =>
   Pn.some (JnO.of [.call [] (E4 r11) [], bF, bF, bF, bF, bF, bF, bF, bF, .call [] (E4 r14) [], bF, bF, bT, bT, bT, bF, bT, bF, bT, .wait 1, .mask [2], .ren []] (by kernel_rfl) (cj (spec_l11Amount_ok o.Op r11 h26) (cj tt (cj h27 (cj h27 (cj h27 (cj h27 (cj h27 (cj ff (cj ff (cj ff (cj (spec_l11Amount_ok o.Op r14 h33) (cj tt (cj ff (cj ff (cj (nt h34) (cj (nt h34) (cj (nt h34) (cj ff (cj (nt h34) (cj ff (cj1 h35))))))))))))))))))))))) (fun h35 =>
   Pn.some (JnO.of [.call [] (E4 r11) [], bF, bF, bF, bF, bF, bF, bF, bF, .call [] (E4 r14) [], bF, bF, bT, bT, bT, bF, bT, bF, bF, .mask [1], .ren [0]] (by kernel_rfl) (cj (spec_l11Amount_ok o.Op r11 h26) (cj tt (cj h27 (cj h27 (cj h27 (cj h27 (cj h27 (cj ff (cj ff (cj ff (cj (spec_l11Amount_ok o.Op r14 h33) (cj tt (cj ff (cj ff (cj (nt h34) (cj (nt h34) (cj (nt h34) (cj ff (cj (nt h34) (cj ff (cj1 h35)))))))))))))))))))))))))))
def spec_ReqOk_c3 (o : Req) : Option (Lo Unit Unit) :=
 if (o.Op == 1) = true then
 (spec_l01In o.Ttl 0 9999).bind fun r16 =>
 if r16 = true then
 if (o.Op != 1) = true then
 if (o.Ttl != 0) = true then
 some (.ret ())
 else
 some (.out ())
 else
 some (.out ())
 else
 some (.ret ())
 else
 if (o.Op != 1) = true then
 if (o.Ttl != 0) = true then
 some (.ret ())
 else
 some (.out ())
 else
 some (.out ())
theorem spec_ReqOk_c3_ok (o : Req) : Pn (JnO Tryz.prog (sub (codeOf Tryz.prog 66) [1, 1, 1, 1, 0]) (st 110 [(1, V.ptr 0 0)] [Blk.box 88 [vI o.Op, vS o.Acct, vS o.Other, vS o.Hold, vS o.Trace, vS o.Mti, vI o.Amount, vI o.Ttl]] []) (fun (y : Lo Unit Unit) => Lo.elim y (fun s => (X.go, st 110 [(1, V.ptr 0 0)] [Blk.box 88 [vI o.Op, vS o.Acct, vS o.Other, vS o.Hold, vS o.Trace, vS o.Mti, vI o.Amount, vI o.Ttl]] [])) (fun s => (X.ret, st 110 [(2, vB false)] [] [])))) (spec_ReqOk_c3 o) := by
  unfold spec_ReqOk_c3
  exact
   Pn.ite (fun h39 =>
   Pn.bind (fun r16 h40 =>
   Pn.ite (fun h41 =>
   Pn.ite (fun h42 =>
   Pn.ite (fun h43 =>
   Pn.some (JnO.of [bT, bT, bT, .call [] (E4 r16) [], bT, bT, bF, bF, bF, bF, bT, bT, bT, bF, bT, bF, bT, .wait 1, .mask [2], .ren []] (by kernel_rfl) (cj h39 (cj h39 (cj h39 (cj (spec_l01In_ok o.Ttl 0 9999 r16 h40) (cj tt (cj h39 (cj h39 (cj (nf h41) (cj (nf h41) (cj (nf h41) (cj (nf h41) (cj h42 (cj h42 (cj h42 (cj (nf h41) (cj h42 (cj (nf h41) (cj1 h43)))))))))))))))))))) (fun h43 =>
   Pn.some (JnO.of [bT, bT, bT, .call [] (E4 r16) [], bT, bT, bF, bF, bF, bF, bT, bT, bT, bF, bT, bF, bF, .mask [1], .ren [0]] (by kernel_rfl) (cj h39 (cj h39 (cj h39 (cj (spec_l01In_ok o.Ttl 0 9999 r16 h40) (cj tt (cj h39 (cj h39 (cj (nf h41) (cj (nf h41) (cj (nf h41) (cj (nf h41) (cj h42 (cj h42 (cj h42 (cj (nf h41) (cj h42 (cj (nf h41) (cj1 h43))))))))))))))))))))) (fun h42 =>
   Pn.some (JnO.of [bT, bT, bT, .call [] (E4 r16) [], bT, bT, bF, bF, bF, bF, bF, bF, bF, bF, bF, bF, bF, .mask [1], .ren [0]] (by kernel_rfl) (cj h39 (cj h39 (cj h39 (cj (spec_l01In_ok o.Ttl 0 9999 r16 h40) (cj tt (cj h39 (cj h39 (cj (nf h41) (cj (nf h41) (cj (nf h41) (cj (nf h41) (cj h42 (cj h42 (cj h42 (cj (nf h41) (cj h42 (cj (nf h41) (cj1 ff))))))))))))))))))))) (fun h41 =>
   Pn.some (JnO.of [bT, bT, bT, .call [] (E4 r16) [], bT, bT, bT, bT, bT, bT, bT, bT, bT, .wait 1, .mask [2], .ren []] (by kernel_rfl) (cj h39 (cj h39 (cj h39 (cj (spec_l01In_ok o.Ttl 0 9999 r16 h40) (cj tt (cj h39 (cj h39 (cj (nt h41) (cj (nt h41) (cj (nt h41) (cj (nt h41) (cj (nt h41) (cj (nt h41) (cj1 (rfl : true = true))))))))))))))))))) (fun h39 =>
   Pn.ite (fun h44 =>
   Pn.ite (fun h45 =>
   Pn.some (JnO.of [bF, bF, bF, bF, bF, bF, bF, bF, bF, bT, bT, bT, bF, bT, bF, bT, .wait 1, .mask [2], .ren []] (by kernel_rfl) (cj h39 (cj h39 (cj h39 (cj h39 (cj h39 (cj ff (cj ff (cj ff (cj ff (cj h44 (cj h44 (cj h44 (cj ff (cj h44 (cj ff (cj1 h45)))))))))))))))))) (fun h45 =>
   Pn.some (JnO.of [bF, bF, bF, bF, bF, bF, bF, bF, bF, bT, bT, bT, bF, bT, bF, bF, .mask [1], .ren [0]] (by kernel_rfl) (cj h39 (cj h39 (cj h39 (cj h39 (cj h39 (cj ff (cj ff (cj ff (cj ff (cj h44 (cj h44 (cj h44 (cj ff (cj h44 (cj ff (cj1 h45))))))))))))))))))) (fun h44 =>
   Pn.some (JnO.of [bF, bF, bF, bF, bF, bF, bF, bF, bF, bF, bF, bF, bF, bF, bF, bF, .mask [1], .ren [0]] (by kernel_rfl) (cj h39 (cj h39 (cj h39 (cj h39 (cj h39 (cj ff (cj ff (cj ff (cj ff (cj h44 (cj h44 (cj h44 (cj ff (cj h44 (cj ff (cj1 ff)))))))))))))))))))
def spec_ReqOk (o : Req) : Option (Bool) :=
 (spec_ReqOk_c0 o).bind fun r5 =>
 Lo.elim r5 (fun s1 =>
 (spec_ReqOk_c1 o).bind fun r10 =>
 Lo.elim r10 (fun s3 =>
 (spec_ReqOk_c2 o).bind fun r15 =>
 Lo.elim r15 (fun s5 =>
 (spec_ReqOk_c3 o).bind fun r17 =>
 Lo.elim r17 (fun s7 =>
 if (o.Op == 6) = true then
 (spec_AcctIdOk o.Other).bind fun r18 =>
 if r18 = true then
 some true
 else
 if (o.Op != 6) = true then
 some (o.Other == (bs []))
 else
 some false
 else
 if (o.Op != 6) = true then
 some (o.Other == (bs []))
 else
 some false) (fun s8 =>
 some false)) (fun s6 =>
 some false)) (fun s4 =>
 some false)) (fun s2 =>
 some false)
theorem spec_ReqOk_ok (o : Req) : Pn (fun y => Fn Tryz.prog 66 [(false, E88 o)] (E4 y) []) (spec_ReqOk o) := by
  unfold spec_ReqOk
  exact
   Pn.bind (fun r5 h10 =>
   Pn.lo (fun s1 h11 =>
   Pn.bind (fun r10 h23 =>
   Pn.lo (fun s3 h24 =>
   Pn.bind (fun r15 h36 =>
   Pn.lo (fun s5 h37 =>
   Pn.bind (fun r17 h46 =>
   Pn.lo (fun s7 h47 =>
   Pn.ite (fun h49 =>
   Pn.bind (fun r18 h50 =>
   Pn.ite (fun h51 =>
   Pn.some (Fn.of [.wait 3, .mask [1], .ren [0], .join 7 (X.go) (st 110 [(1, V.ptr 0 0)] [Blk.box 88 [vI o.Op, vS o.Acct, vS o.Other, vS o.Hold, vS o.Trace, vS o.Mti, vI o.Amount, vI o.Ttl]] []), .wait 1, .mask [1], .ren [0], .join 7 (X.go) (st 110 [(1, V.ptr 0 0)] [Blk.box 88 [vI o.Op, vS o.Acct, vS o.Other, vS o.Hold, vS o.Trace, vS o.Mti, vI o.Amount, vI o.Ttl]] []), .wait 1, .mask [1], .ren [0], .join 7 (X.go) (st 110 [(1, V.ptr 0 0)] [Blk.box 88 [vI o.Op, vS o.Acct, vS o.Other, vS o.Hold, vS o.Trace, vS o.Mti, vI o.Amount, vI o.Ttl]] []), .wait 1, .mask [1], .ren [0], .join 7 (X.go) (st 110 [(1, V.ptr 0 0)] [Blk.box 88 [vI o.Op, vS o.Acct, vS o.Other, vS o.Hold, vS o.Trace, vS o.Mti, vI o.Amount, vI o.Ttl]] []), bT, bT, bT, .call [] (E4 r18) [], bT, bT, bT, bT, bT, bT, bT] (by kernel_rfl) (cj ((spec_ReqOk_c0_ok o r5 h10).at h11 :) (cj ((spec_ReqOk_c1_ok o r10 h23).at h24 :) (cj ((spec_ReqOk_c2_ok o r15 h36).at h37 :) (cj ((spec_ReqOk_c3_ok o r17 h46).at h47 :) (cj h49 (cj h49 (cj h49 (cj (spec_AcctIdOk_ok o.Other r18 h50) (cj tt (cj h49 (cj h51 (cj h51 (cj h51 (cj h51 (cj h51 (cj1 h51)))))))))))))))))) (fun h51 =>
   Pn.ite (fun h52 =>
   Pn.some (Fn.of [.wait 3, .mask [1], .ren [0], .join 7 (X.go) (st 110 [(1, V.ptr 0 0)] [Blk.box 88 [vI o.Op, vS o.Acct, vS o.Other, vS o.Hold, vS o.Trace, vS o.Mti, vI o.Amount, vI o.Ttl]] []), .wait 1, .mask [1], .ren [0], .join 7 (X.go) (st 110 [(1, V.ptr 0 0)] [Blk.box 88 [vI o.Op, vS o.Acct, vS o.Other, vS o.Hold, vS o.Trace, vS o.Mti, vI o.Amount, vI o.Ttl]] []), .wait 1, .mask [1], .ren [0], .join 7 (X.go) (st 110 [(1, V.ptr 0 0)] [Blk.box 88 [vI o.Op, vS o.Acct, vS o.Other, vS o.Hold, vS o.Trace, vS o.Mti, vI o.Amount, vI o.Ttl]] []), .wait 1, .mask [1], .ren [0], .join 7 (X.go) (st 110 [(1, V.ptr 0 0)] [Blk.box 88 [vI o.Op, vS o.Acct, vS o.Other, vS o.Hold, vS o.Trace, vS o.Mti, vI o.Amount, vI o.Ttl]] []), bT, bT, bT, .call [] (E4 r18) [], bT, bF, bF, bF, bF, bT, bT, bT, bF, bT, bF] (by kernel_rfl) (cj ((spec_ReqOk_c0_ok o r5 h10).at h11 :) (cj ((spec_ReqOk_c1_ok o r10 h23).at h24 :) (cj ((spec_ReqOk_c2_ok o r15 h36).at h37 :) (cj ((spec_ReqOk_c3_ok o r17 h46).at h47 :) (cj h49 (cj h49 (cj h49 (cj (spec_AcctIdOk_ok o.Other r18 h50) (cj tt (cj h49 (cj h51 (cj h51 (cj h51 (cj h51 (cj h52 (cj h52 (cj h52 (cj h51 (cj h52 (cj1 h51)))))))))))))))))))))) (fun h52 =>
   Pn.some (Fn.of [.wait 3, .mask [1], .ren [0], .join 7 (X.go) (st 110 [(1, V.ptr 0 0)] [Blk.box 88 [vI o.Op, vS o.Acct, vS o.Other, vS o.Hold, vS o.Trace, vS o.Mti, vI o.Amount, vI o.Ttl]] []), .wait 1, .mask [1], .ren [0], .join 7 (X.go) (st 110 [(1, V.ptr 0 0)] [Blk.box 88 [vI o.Op, vS o.Acct, vS o.Other, vS o.Hold, vS o.Trace, vS o.Mti, vI o.Amount, vI o.Ttl]] []), .wait 1, .mask [1], .ren [0], .join 7 (X.go) (st 110 [(1, V.ptr 0 0)] [Blk.box 88 [vI o.Op, vS o.Acct, vS o.Other, vS o.Hold, vS o.Trace, vS o.Mti, vI o.Amount, vI o.Ttl]] []), .wait 1, .mask [1], .ren [0], .join 7 (X.go) (st 110 [(1, V.ptr 0 0)] [Blk.box 88 [vI o.Op, vS o.Acct, vS o.Other, vS o.Hold, vS o.Trace, vS o.Mti, vI o.Amount, vI o.Ttl]] []), bT, bT, bT, .call [] (E4 r18) [], bT, bF, bF, bF, bF, bF, bF, bF, bF, bF, bF] (by kernel_rfl) (cj ((spec_ReqOk_c0_ok o r5 h10).at h11 :) (cj ((spec_ReqOk_c1_ok o r10 h23).at h24 :) (cj ((spec_ReqOk_c2_ok o r15 h36).at h37 :) (cj ((spec_ReqOk_c3_ok o r17 h46).at h47 :) (cj h49 (cj h49 (cj h49 (cj (spec_AcctIdOk_ok o.Other r18 h50) (cj tt (cj h49 (cj h51 (cj h51 (cj h51 (cj h51 (cj h52 (cj h52 (cj h52 (cj h51 (cj h52 (cj1 h51))))))))))))))))))))))))) (fun h49 =>
   Pn.ite (fun h53 =>
   Pn.some (Fn.of [.wait 3, .mask [1], .ren [0], .join 7 (X.go) (st 110 [(1, V.ptr 0 0)] [Blk.box 88 [vI o.Op, vS o.Acct, vS o.Other, vS o.Hold, vS o.Trace, vS o.Mti, vI o.Amount, vI o.Ttl]] []), .wait 1, .mask [1], .ren [0], .join 7 (X.go) (st 110 [(1, V.ptr 0 0)] [Blk.box 88 [vI o.Op, vS o.Acct, vS o.Other, vS o.Hold, vS o.Trace, vS o.Mti, vI o.Amount, vI o.Ttl]] []), .wait 1, .mask [1], .ren [0], .join 7 (X.go) (st 110 [(1, V.ptr 0 0)] [Blk.box 88 [vI o.Op, vS o.Acct, vS o.Other, vS o.Hold, vS o.Trace, vS o.Mti, vI o.Amount, vI o.Ttl]] []), .wait 1, .mask [1], .ren [0], .join 7 (X.go) (st 110 [(1, V.ptr 0 0)] [Blk.box 88 [vI o.Op, vS o.Acct, vS o.Other, vS o.Hold, vS o.Trace, vS o.Mti, vI o.Amount, vI o.Ttl]] []), bF, bF, bF, bF, bF, bF, bF, bF, bT, bT, bT, bF, bT, bF] (by kernel_rfl) (cj ((spec_ReqOk_c0_ok o r5 h10).at h11 :) (cj ((spec_ReqOk_c1_ok o r10 h23).at h24 :) (cj ((spec_ReqOk_c2_ok o r15 h36).at h37 :) (cj ((spec_ReqOk_c3_ok o r17 h46).at h47 :) (cj h49 (cj h49 (cj h49 (cj h49 (cj ff (cj ff (cj ff (cj ff (cj h53 (cj h53 (cj h53 (cj ff (cj h53 (cj1 ff)))))))))))))))))))) (fun h53 =>
   Pn.some (Fn.of [.wait 3, .mask [1], .ren [0], .join 7 (X.go) (st 110 [(1, V.ptr 0 0)] [Blk.box 88 [vI o.Op, vS o.Acct, vS o.Other, vS o.Hold, vS o.Trace, vS o.Mti, vI o.Amount, vI o.Ttl]] []), .wait 1, .mask [1], .ren [0], .join 7 (X.go) (st 110 [(1, V.ptr 0 0)] [Blk.box 88 [vI o.Op, vS o.Acct, vS o.Other, vS o.Hold, vS o.Trace, vS o.Mti, vI o.Amount, vI o.Ttl]] []), .wait 1, .mask [1], .ren [0], .join 7 (X.go) (st 110 [(1, V.ptr 0 0)] [Blk.box 88 [vI o.Op, vS o.Acct, vS o.Other, vS o.Hold, vS o.Trace, vS o.Mti, vI o.Amount, vI o.Ttl]] []), .wait 1, .mask [1], .ren [0], .join 7 (X.go) (st 110 [(1, V.ptr 0 0)] [Blk.box 88 [vI o.Op, vS o.Acct, vS o.Other, vS o.Hold, vS o.Trace, vS o.Mti, vI o.Amount, vI o.Ttl]] []), bF, bF, bF, bF, bF, bF, bF, bF, bF, bF, bF, bF, bF, bF] (by kernel_rfl) (cj ((spec_ReqOk_c0_ok o r5 h10).at h11 :) (cj ((spec_ReqOk_c1_ok o r10 h23).at h24 :) (cj ((spec_ReqOk_c2_ok o r15 h36).at h37 :) (cj ((spec_ReqOk_c3_ok o r17 h46).at h47 :) (cj h49 (cj h49 (cj h49 (cj h49 (cj ff (cj ff (cj ff (cj ff (cj h53 (cj h53 (cj h53 (cj ff (cj h53 (cj1 ff)))))))))))))))))))))) (fun s8 h48 =>
   Pn.some (Fn.of [.wait 3, .mask [1], .ren [0], .join 7 (X.go) (st 110 [(1, V.ptr 0 0)] [Blk.box 88 [vI o.Op, vS o.Acct, vS o.Other, vS o.Hold, vS o.Trace, vS o.Mti, vI o.Amount, vI o.Ttl]] []), .wait 1, .mask [1], .ren [0], .join 7 (X.go) (st 110 [(1, V.ptr 0 0)] [Blk.box 88 [vI o.Op, vS o.Acct, vS o.Other, vS o.Hold, vS o.Trace, vS o.Mti, vI o.Amount, vI o.Ttl]] []), .wait 1, .mask [1], .ren [0], .join 7 (X.go) (st 110 [(1, V.ptr 0 0)] [Blk.box 88 [vI o.Op, vS o.Acct, vS o.Other, vS o.Hold, vS o.Trace, vS o.Mti, vI o.Amount, vI o.Ttl]] []), .wait 1, .mask [1], .ren [0], .join 7 (X.ret) (st 110 [(2, vB false)] [] [])] (by kernel_rfl) (cj ((spec_ReqOk_c0_ok o r5 h10).at h11 :) (cj ((spec_ReqOk_c1_ok o r10 h23).at h24 :) (cj ((spec_ReqOk_c2_ok o r15 h36).at h37 :) (cj1 ((spec_ReqOk_c3_ok o r17 h46).at h48 :))))))))) (fun s6 h38 =>
   Pn.some (Fn.of [.wait 3, .mask [1], .ren [0], .join 7 (X.go) (st 110 [(1, V.ptr 0 0)] [Blk.box 88 [vI o.Op, vS o.Acct, vS o.Other, vS o.Hold, vS o.Trace, vS o.Mti, vI o.Amount, vI o.Ttl]] []), .wait 1, .mask [1], .ren [0], .join 7 (X.go) (st 110 [(1, V.ptr 0 0)] [Blk.box 88 [vI o.Op, vS o.Acct, vS o.Other, vS o.Hold, vS o.Trace, vS o.Mti, vI o.Amount, vI o.Ttl]] []), .wait 1, .mask [1], .ren [0], .join 7 (X.ret) (st 110 [(2, vB false)] [] [])] (by kernel_rfl) (cj ((spec_ReqOk_c0_ok o r5 h10).at h11 :) (cj ((spec_ReqOk_c1_ok o r10 h23).at h24 :) (cj1 ((spec_ReqOk_c2_ok o r15 h36).at h38 :)))))))) (fun s4 h25 =>
   Pn.some (Fn.of [.wait 3, .mask [1], .ren [0], .join 7 (X.go) (st 110 [(1, V.ptr 0 0)] [Blk.box 88 [vI o.Op, vS o.Acct, vS o.Other, vS o.Hold, vS o.Trace, vS o.Mti, vI o.Amount, vI o.Ttl]] []), .wait 1, .mask [1], .ren [0], .join 7 (X.ret) (st 110 [(2, vB false)] [] [])] (by kernel_rfl) (cj ((spec_ReqOk_c0_ok o r5 h10).at h11 :) (cj1 ((spec_ReqOk_c1_ok o r10 h23).at h25 :))))))) (fun s2 h12 =>
   Pn.some (Fn.of [.wait 3, .mask [1], .ren [0], .join 7 (X.ret) (st 110 [(2, vB false)] [] [])] (by kernel_rfl) (cj1 ((spec_ReqOk_c0_ok o r5 h10).at h12 :)))))
end Go.Proofs.YtdahdpnkppknfaaGreatDoorM
