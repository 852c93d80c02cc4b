/- Printed by gen.py: functions on plain data, and that the program computes them. No condition. -/
import Derived.Test.YtjnnbcdakaabbaaDoorX2
import Derived.Test.YtjnnbcdakaabbaaDoorProg
namespace Go.Proofs.YtjnnbcdakaabbaaDoorM
set_option linter.unusedVariables false
set_option linter.unusedSimpArgs false
open Go.RowKit
set_option maxRecDepth 100000

structure Event where
  Kind : Int
  K : Int
  Data : List Int
def E9 (x : ByteArray) : V := V.sc (.string x)
def E4 (x : Bool) : V := V.sc (.bool x)
def E3 (x : Int) : V := V.sc (.int .i64 x)
def E5 (x : Int) : V := V.sc (.int .u8 x)
def E40 (x : List Int) : V := V.sl true 5 (List.map E5 x)
def E42 (x : Event) : V := V.agg [V.sc (.int .i64 x.Kind), V.sc (.int .i64 x.K), V.sl true 5 (List.map E5 x.Data)]
def E48 (x : List Event) : V := V.sl true 42 (List.map E42 x)
def E65 (x : List ByteArray) : V := V.sl true 9 (List.map E9 x)
theorem nv_E9 (x : ByteArray) : (E9 x).nv = true := by
  simp [E9, V.nv, nvL, nvL_all]
theorem nv_E4 (x : Bool) : (E4 x).nv = true := by
  simp [E4, V.nv, nvL, nvL_all]
theorem nv_E3 (x : Int) : (E3 x).nv = true := by
  simp [E3, V.nv, nvL, nvL_all]
theorem nv_E5 (x : Int) : (E5 x).nv = true := by
  simp [E5, V.nv, nvL, nvL_all]
theorem nv_E40 (x : List Int) : (E40 x).nv = true := by
  simp [E40, V.nv, nvL, nvL_all, nv_E5]
theorem nv_E42 (x : Event) : (E42 x).nv = true := by
  simp [E42, V.nv, nvL, nvL_all, nv_E5]
theorem nv_E48 (x : List Event) : (E48 x).nv = true := by
  simp [E48, V.nv, nvL, nvL_all, nv_E42]
theorem nv_E65 (x : List ByteArray) : (E65 x).nv = true := by
  simp [E65, V.nv, nvL, nvL_all, nv_E9]
def spec_l01Split_l0 (s_ : ByteArray) (by_ : Int) : Nat → Int → Int → (List ByteArray) → Option ((List ByteArray))
  | 0, _, _, _ => none
  | fuel + 1, v1, v2, v3 =>
   if (decide (v2 ≤ (s_.size : Int))) = true then
   if (v2 == (s_.size : Int)) = true then
   if (decide (0 ≤ v1)) = true then
   if (decide (v1 ≤ v2)) = true then
   if (capOk (v3.length + 1)) = true then
   spec_l01Split_l0 s_ by_ fuel (i64 (v2 + 1)) (i64 (v2 + 1)) (v3 ++ [s_.extract v1.toNat v2.toNat])
   else none
   else none
   else none
   else
   if (decide (0 ≤ v2)) = true then
   if (decide ((v2 : Int) < (s_.size : Int))) = true then
   if ((sAt s_ v2) == by_) = true then
   if (decide (0 ≤ v1)) = true then
   if (decide (v1 ≤ v2)) = true then
   if (capOk (v3.length + 1)) = true then
   spec_l01Split_l0 s_ by_ fuel (i64 (v2 + 1)) (i64 (v2 + 1)) (v3 ++ [s_.extract v1.toNat v2.toNat])
   else none
   else none
   else none
   else
   spec_l01Split_l0 s_ by_ fuel v1 (i64 (v2 + 1)) v3
   else none
   else none
   else
   some v3
theorem spec_l01Split_l0_ok (s_ : ByteArray) (by_ : Int) : ∀ (fuel : Nat) (v1 : Int) (v2 : Int) (v3 : List ByteArray), Pn (LpO Tryd.prog (sub (codeOf Tryd.prog 96) [1, 1, 1, 0, 1, 0, 0]) (st 36 [(0, V.sc (.string s_)), (1, V.sc (.int .u8 by_)), (5, V.ow 0), (6, V.sc (.int .i64 v1)), (7, V.sc (.int .i64 v2))] [Blk.row 9 (List.map E9 v3) []] []) (fun (y : (List ByteArray)) => (X.out 0, st 36 [(5, V.ow 0)] [Blk.row 9 (List.map E9 y) []] []))) (spec_l01Split_l0 s_ by_ fuel v1 v2 v3)
  | 0, _, _, _ => Pn.none
  | fuel + 1, v1, v2, v3 => by
    unfold spec_l01Split_l0
    exact
     Pn.ite (fun h1 =>
     Pn.ite (fun h2 =>
     Pn.ite (fun h3 =>
     Pn.ite (fun h4 =>
     Pn.ite (fun h5 =>
     LpO.go [.bit true, .bit true, .bit true, .bit true, .bit true, .bit true, .bit true, .bit true, .cp [V.sc (.string (s_.extract v1.toNat v2.toNat))], .nb 2 (.row 9 (List.map E9 (v3 ++ [s_.extract v1.toNat v2.toNat])) []), .wait 8, .mask [0, 1, 5, 6, 7], .ren [2]] (p := [(decide (v2 ≤ (s_.size : Int))) = true,
      (v2 == (s_.size : Int)) = true,
      (v2 == (s_.size : Int)) = true,
      (v2 == (s_.size : Int)) = true,
      (v2 == (s_.size : Int)) = true,
      (v2 == (s_.size : Int)) = true,
      (v2 == (s_.size : Int)) = true,
      true = true,
      (0 : Int) ≤ v1,
      (v1 : Int) ≤ v2,
      (v2 : Int) ≤ (s_.size : Int),
      [V.sc (.string (s_.extract v1.toNat v2.toNat))] = [V.sc (.string (s_.extract v1.toNat v2.toNat))],
      [V.sc (.string (s_.extract v1.toNat v2.toNat))].all V.flatE = true,
      (List.map E9 v3).length + [V.sc (.string (s_.extract v1.toNat v2.toNat))].length ≤ 9223372036854775807,
      ((List.map E9 v3).length + [V.sc (.string (s_.extract v1.toNat v2.toNat))].length) * 16 ≤ 140737488355328,
      Blk.row 9 ((List.map E9 v3) ++ [V.sc (.string (s_.extract v1.toNat v2.toNat))]) [] = Blk.row 9 (List.map E9 (v3 ++ [s_.extract v1.toNat v2.toNat])) []]) (by kernel_rfl) (cj h1 (cj h2 (cj h2 (cj h2 (cj h2 (cj h2 (cj h2 (cj rfl (cj (od h3) (cj (od h4) (cj (od h1) (cj rfl (cj rfl (cj (cap1 (capN (by simp) h5)) (cj (cap2 (capN (by simp) h5) (by decide)) (cj1 (nb_app E9 v3 [s_.extract v1.toNat v2.toNat]))))))))))))))))) (spec_l01Split_l0_ok s_ by_ fuel (i64 (v2 + 1)) (i64 (v2 + 1)) (v3 ++ [s_.extract v1.toNat v2.toNat]))) (fun h5 =>
     Pn.none)) (fun h4 =>
     Pn.none)) (fun h3 =>
     Pn.none)) (fun h2 =>
     Pn.ite (fun h6 =>
     Pn.ite (fun h7 =>
     Pn.ite (fun h8 =>
     Pn.ite (fun h9 =>
     Pn.ite (fun h10 =>
     Pn.ite (fun h11 =>
     LpO.go [.bit true, .bit false, .bit false, .bit false, .bit false, .bit false, .bit false, .bit true, .cp [V.sc (.string (s_.extract v1.toNat v2.toNat))], .nb 2 (.row 9 (List.map E9 (v3 ++ [s_.extract v1.toNat v2.toNat])) []), .wait 8, .mask [0, 1, 5, 6, 7], .ren [2]] (p := [(decide (v2 ≤ (s_.size : Int))) = true,
      (v2 == (s_.size : Int)) = false,
      (v2 == (s_.size : Int)) = false,
      (v2 == (s_.size : Int)) = false,
      (0 : Int) ≤ v2,
      (v2 : Int) < s_.size,
      (v2 == (s_.size : Int)) = false,
      (v2 == (s_.size : Int)) = false,
      (v2 == (s_.size : Int)) = false,
      ((sAt s_ v2) == by_) = true,
      (0 : Int) ≤ v1,
      (v1 : Int) ≤ v2,
      (v2 : Int) ≤ (s_.size : Int),
      [V.sc (.string (s_.extract v1.toNat v2.toNat))] = [V.sc (.string (s_.extract v1.toNat v2.toNat))],
      [V.sc (.string (s_.extract v1.toNat v2.toNat))].all V.flatE = true,
      (List.map E9 v3).length + [V.sc (.string (s_.extract v1.toNat v2.toNat))].length ≤ 9223372036854775807,
      ((List.map E9 v3).length + [V.sc (.string (s_.extract v1.toNat v2.toNat))].length) * 16 ≤ 140737488355328,
      Blk.row 9 ((List.map E9 v3) ++ [V.sc (.string (s_.extract v1.toNat v2.toNat))]) [] = Blk.row 9 (List.map E9 (v3 ++ [s_.extract v1.toNat v2.toNat])) []]) (by kernel_rfl) (cj h1 (cj h2 (cj h2 (cj h2 (cj (od h6) (cj (od h7) (cj h2 (cj h2 (cj h2 (cj h8 (cj (od h9) (cj (od h10) (cj (od h1) (cj rfl (cj rfl (cj (cap1 (capN (by simp) h11)) (cj (cap2 (capN (by simp) h11) (by decide)) (cj1 (nb_app E9 v3 [s_.extract v1.toNat v2.toNat]))))))))))))))))))) (spec_l01Split_l0_ok s_ by_ fuel (i64 (v2 + 1)) (i64 (v2 + 1)) (v3 ++ [s_.extract v1.toNat v2.toNat]))) (fun h11 =>
     Pn.none)) (fun h10 =>
     Pn.none)) (fun h9 =>
     Pn.none)) (fun h8 =>
     LpO.go [.bit true, .bit false, .bit false, .bit false, .bit false, .bit false, .bit false, .bit false, .wait 3, .mask [0, 1, 5, 6, 7], .ren [0]] (p := [(decide (v2 ≤ (s_.size : Int))) = true,
      (v2 == (s_.size : Int)) = false,
      (v2 == (s_.size : Int)) = false,
      (v2 == (s_.size : Int)) = false,
      (0 : Int) ≤ v2,
      (v2 : Int) < s_.size,
      (v2 == (s_.size : Int)) = false,
      (v2 == (s_.size : Int)) = false,
      (v2 == (s_.size : Int)) = false,
      ((sAt s_ v2) == by_) = false]) (by kernel_rfl) (cj h1 (cj h2 (cj h2 (cj h2 (cj (od h6) (cj (od h7) (cj h2 (cj h2 (cj h2 (cj1 h8)))))))))) (spec_l01Split_l0_ok s_ by_ fuel v1 (i64 (v2 + 1)) v3))) (fun h7 =>
     Pn.none)) (fun h6 =>
     Pn.none))) (fun h1 =>
     Pn.some (LpO.out [.bit false, .mask [5], .ren [0]] (p := [(decide (v2 ≤ (s_.size : Int))) = false]) (by kernel_rfl) (show X.out 0 ≠ X.go from nofun) (cj1 h1)))
def spec_l01Split (s_ : ByteArray) (by_ : Int) : Option ((List ByteArray)) :=
 (spec_l01Split_l0 s_ by_ FUEL 0 0 []).bind fun r1 =>
 some r1
theorem spec_l01Split_ok (s_ : ByteArray) (by_ : Int) : Pn (fun y => Fn Tryd.prog 96 [(false, E9 s_), (false, E5 by_)] (E65 y) []) (spec_l01Split s_ by_) := by
  unfold spec_l01Split
  exact
   Pn.bind (fun r1 h12 =>
   Pn.some (Fn.of [.wait 6, .mask [0, 1, 5, 6, 7], .ren [0], .loop (X.out 0) (st 36 [(5, V.ow 0)] [Blk.row 9 (List.map E9 r1) []] [])] (p := [Loop Tryd.prog (sub (codeOf Tryd.prog 96) [1, 1, 1, 0, 1, 0, 0]) (st 36 [(0, V.sc (.string s_)), (1, V.sc (.int .u8 by_)), (5, V.ow 0), (6, V.sc (.int .i64 0)), (7, V.sc (.int .i64 0))] [Blk.row 9 ([] : List V) []] []) (X.out 0) (st 36 [(5, V.ow 0)] [Blk.row 9 (List.map E9 r1) []] [])]) (by kernel_rfl) (cj1 (spec_l01Split_l0_ok s_ by_ FUEL 0 0 [] r1 h12))))
def spec_Lines (s_ : ByteArray) : Option ((List ByteArray)) :=
 (spec_l01Split s_ 10).bind fun r1 =>
 if (decide (0 ≤ (i64 ((r1.length : Int) - 1)))) = true then
 (r1[(i64 ((r1.length : Int) - 1)).toNat]?).bind fun x1 =>
 if (x1 == (bs [])) = true then
 if (decide ((i64 ((r1.length : Int) - 1)) ≤ (r1.length : Int))) = true then
 some (r1.take ((i64 ((r1.length : Int) - 1)).toNat))
 else none
 else
 some r1
 else none
theorem spec_Lines_ok (s_ : ByteArray) : Pn (fun y => Fn Tryd.prog 59 [(false, E9 s_)] (E65 y) []) (spec_Lines s_) := by
  unfold spec_Lines
  exact
   Pn.bind (fun r1 h1 =>
   Pn.ite (fun h2 =>
   Pn.bind (fun x1 h3 =>
   Pn.ite (fun h4 =>
   Pn.ite (fun h5 =>
   Pn.some (Fn.as (res := V.sl true 9 ((List.map E9 r1).take ((i64 ((r1.length : Int) - 1)).toNat))) (sb_take _ _ _) rfl (Fn.of [.call [] (E65 r1) [], .wait 4, .nm 8 (V.sc (.int .i64 (r1.length : Int))), .el (E9 x1), .bit true, .wait 2, .nm 15 (V.sc (.int .i64 (r1.length : Int)))] (p := [Fn Tryd.prog 96 [(false, E9 s_), (false, E5 10)] (E65 r1) [],
    (true || ((E65 r1).nv && nvL [])) = true,
    V.sc (.int .i64 ((List.map E9 r1).length : Int)) = V.sc (.int .i64 (r1.length : Int)),
    (0 : Int) ≤ (i64 ((r1.length : Int) - 1)),
    ((i64 ((r1.length : Int) - 1)) : Int) < ((List.map E9 r1).length : Int),
    look [] ((i64 ((r1.length : Int) - 1)).toNat) = none,
    (List.map E9 r1)[(i64 ((r1.length : Int) - 1)).toNat]? = some (E9 x1),
    (x1 == (bs [])) = true,
    V.sc (.int .i64 ((List.map E9 r1).length : Int)) = V.sc (.int .i64 (r1.length : Int)),
    (0 : Int) ≤ 0,
    (0 : Int) ≤ (i64 ((r1.length : Int) - 1)),
    ((i64 ((r1.length : Int) - 1)) : Int) ≤ ((List.map E9 r1).length : Int)]) (by kernel_rfl) (cj (spec_l01Split_ok s_ 10 r1 h1) (cj rfl (cj (len_nm _ _) (cj (od h2) (cj (map_ltN (od h2) h3) (cj rfl (cj (map_get h3) (cj h4 (cj (len_nm _ _) (cj (by decide) (cj (od h2) (cj1 (by rw [List.length_map]; exact (od h5))))))))))))))))) (fun h5 =>
   Pn.none)) (fun h4 =>
   Pn.some (Fn.of [.call [] (E65 r1) [], .wait 4, .nm 8 (V.sc (.int .i64 (r1.length : Int))), .el (E9 x1), .bit false] (p := [Fn Tryd.prog 96 [(false, E9 s_), (false, E5 10)] (E65 r1) [],
    (true || ((E65 r1).nv && nvL [])) = true,
    V.sc (.int .i64 ((List.map E9 r1).length : Int)) = V.sc (.int .i64 (r1.length : Int)),
    (0 : Int) ≤ (i64 ((r1.length : Int) - 1)),
    ((i64 ((r1.length : Int) - 1)) : Int) < ((List.map E9 r1).length : Int),
    look [] ((i64 ((r1.length : Int) - 1)).toNat) = none,
    (List.map E9 r1)[(i64 ((r1.length : Int) - 1)).toNat]? = some (E9 x1),
    (x1 == (bs [])) = false]) (by kernel_rfl) (cj (spec_l01Split_ok s_ 10 r1 h1) (cj rfl (cj (len_nm _ _) (cj (od h2) (cj (map_ltN (od h2) h3) (cj rfl (cj (map_get h3) (cj1 h4)))))))))))) (fun h2 =>
   Pn.none))
def spec_Cut (s_ : ByteArray) : Option ((List ByteArray)) :=
 (spec_l01Split s_ 32).bind fun r1 =>
 some r1
theorem spec_Cut_ok (s_ : ByteArray) : Pn (fun y => Fn Tryd.prog 48 [(false, E9 s_)] (E65 y) []) (spec_Cut s_) := by
  unfold spec_Cut
  exact
   Pn.bind (fun r1 h1 =>
   Pn.some (Fn.of [.call [] (E65 r1) []] (p := [Fn Tryd.prog 96 [(false, E9 s_), (false, E5 32)] (E65 r1) [],
    (true || ((E65 r1).nv && nvL [])) = true]) (by kernel_rfl) (cj (spec_l01Split_ok s_ 32 r1 h1) (cj1 rfl))))
def spec_l02Hex (x_ : Int) : Option (Int) :=
 if (decide (48 ≤ x_)) = true then
 if (decide (x_ ≤ 57)) = true then
 some (i64 ((i64 x_) - 48))
 else
 if (decide (97 ≤ x_)) = true then
 if (decide (x_ ≤ 102)) = true then
 some (i64 ((i64 x_) - 87))
 else
 some (-1)
 else
 some (-1)
 else
 if (decide (97 ≤ x_)) = true then
 if (decide (x_ ≤ 102)) = true then
 some (i64 ((i64 x_) - 87))
 else
 some (-1)
 else
 some (-1)
theorem spec_l02Hex_ok (x_ : Int) : Pn (fun y => Fn Tryd.prog 97 [(false, E5 x_)] (E3 y) []) (spec_l02Hex x_) := by
  unfold spec_l02Hex
  exact
   Pn.ite (fun h1 =>
   Pn.ite (fun h2 =>
   Pn.some (Fn.of [.bit true, .bit true, .bit true, .bit true] (p := [(decide (48 ≤ x_)) = true,
    (decide (48 ≤ x_)) = true,
    (decide (48 ≤ x_)) = true,
    (decide (x_ ≤ 57)) = true]) (by kernel_rfl) (cj h1 (cj h1 (cj h1 (cj1 h2)))))) (fun h2 =>
   Pn.ite (fun h3 =>
   Pn.ite (fun h4 =>
   Pn.some (Fn.of [.bit true, .bit true, .bit true, .bit false, .bit true, .bit true, .bit true, .bit true] (p := [(decide (48 ≤ x_)) = true,
    (decide (48 ≤ x_)) = true,
    (decide (48 ≤ x_)) = true,
    (decide (x_ ≤ 57)) = false,
    (decide (97 ≤ x_)) = true,
    (decide (97 ≤ x_)) = true,
    (decide (97 ≤ x_)) = true,
    (decide (x_ ≤ 102)) = true]) (by kernel_rfl) (cj h1 (cj h1 (cj h1 (cj h2 (cj h3 (cj h3 (cj h3 (cj1 h4)))))))))) (fun h4 =>
   Pn.some (Fn.of [.bit true, .bit true, .bit true, .bit false, .bit true, .bit true, .bit true, .bit false] (p := [(decide (48 ≤ x_)) = true,
    (decide (48 ≤ x_)) = true,
    (decide (48 ≤ x_)) = true,
    (decide (x_ ≤ 57)) = false,
    (decide (97 ≤ x_)) = true,
    (decide (97 ≤ x_)) = true,
    (decide (97 ≤ x_)) = true,
    (decide (x_ ≤ 102)) = false]) (by kernel_rfl) (cj h1 (cj h1 (cj h1 (cj h2 (cj h3 (cj h3 (cj h3 (cj1 h4))))))))))) (fun h3 =>
   Pn.some (Fn.of [.bit true, .bit true, .bit true, .bit false, .bit false, .bit false, .bit false, .bit false] (p := [(decide (48 ≤ x_)) = true,
    (decide (48 ≤ x_)) = true,
    (decide (48 ≤ x_)) = true,
    (decide (x_ ≤ 57)) = false,
    (decide (97 ≤ x_)) = false,
    (decide (97 ≤ x_)) = false,
    (decide (97 ≤ x_)) = false,
    false = false]) (by kernel_rfl) (cj h1 (cj h1 (cj h1 (cj h2 (cj h3 (cj h3 (cj h3 (cj1 rfl)))))))))))) (fun h1 =>
   Pn.ite (fun h5 =>
   Pn.ite (fun h6 =>
   Pn.some (Fn.of [.bit false, .bit false, .bit false, .bit false, .bit true, .bit true, .bit true, .bit true] (p := [(decide (48 ≤ x_)) = false,
    (decide (48 ≤ x_)) = false,
    (decide (48 ≤ x_)) = false,
    false = false,
    (decide (97 ≤ x_)) = true,
    (decide (97 ≤ x_)) = true,
    (decide (97 ≤ x_)) = true,
    (decide (x_ ≤ 102)) = true]) (by kernel_rfl) (cj h1 (cj h1 (cj h1 (cj rfl (cj h5 (cj h5 (cj h5 (cj1 h6)))))))))) (fun h6 =>
   Pn.some (Fn.of [.bit false, .bit false, .bit false, .bit false, .bit true, .bit true, .bit true, .bit false] (p := [(decide (48 ≤ x_)) = false,
    (decide (48 ≤ x_)) = false,
    (decide (48 ≤ x_)) = false,
    false = false,
    (decide (97 ≤ x_)) = true,
    (decide (97 ≤ x_)) = true,
    (decide (97 ≤ x_)) = true,
    (decide (x_ ≤ 102)) = false]) (by kernel_rfl) (cj h1 (cj h1 (cj h1 (cj rfl (cj h5 (cj h5 (cj h5 (cj1 h6))))))))))) (fun h5 =>
   Pn.some (Fn.of [.bit false, .bit false, .bit false, .bit false, .bit false, .bit false, .bit false, .bit false] (p := [(decide (48 ≤ x_)) = false,
    (decide (48 ≤ x_)) = false,
    (decide (48 ≤ x_)) = false,
    false = false,
    (decide (97 ≤ x_)) = false,
    (decide (97 ≤ x_)) = false,
    (decide (97 ≤ x_)) = false,
    false = false]) (by kernel_rfl) (cj h1 (cj h1 (cj h1 (cj rfl (cj h5 (cj h5 (cj h5 (cj1 rfl)))))))))))
def spec_TextHex_l0 (s_ : ByteArray) : Nat → Int → (List Int) → Option (Lo ((List Int)) Unit)
  | 0, _, _ => none
  | fuel + 1, v1, v2 =>
   if (decide (v1 < (s_.size : Int))) = true then
   if (decide (0 ≤ v1)) = true then
   if (decide ((v1 : Int) < (s_.size : Int))) = true then
   (spec_l02Hex (sAt s_ v1)).bind fun r1 =>
   if (decide (0 ≤ i64 (v1 + 1))) = true then
   if (decide ((i64 (v1 + 1) : Int) < (s_.size : Int))) = true then
   (spec_l02Hex (sAt s_ (i64 (v1 + 1)))).bind fun r2 =>
   if (decide (r1 < 0)) = true then
   some (.ret ())
   else
   if (decide (r2 < 0)) = true then
   some (.ret ())
   else
   if (capOk (v2.length + 1)) = true then
   spec_TextHex_l0 s_ fuel (i64 (v1 + 2)) (v2 ++ [u8 (i64 ((i64 (16 * r1)) + r2))])
   else none
   else none
   else none
   else none
   else none
   else
   some (.out v2)
theorem spec_TextHex_l0_ok (s_ : ByteArray) : ∀ (fuel : Nat) (v1 : Int) (v2 : List Int), Pn (LpO Tryd.prog (sub (codeOf Tryd.prog 49) [1, 1, 1, 0, 1, 0, 0]) (st 43 [(0, V.sc (.string s_)), (4, V.ow 0), (5, V.sc (.int .i64 v1))] [Blk.row 5 (List.map E5 v2) []] []) (fun (y : Lo ((List Int)) Unit) => Lo.elim y (fun s => (X.out 0, st 43 [(4, V.ow 0)] [Blk.row 5 (List.map E5 s) []] [])) (fun s => (X.ret, st 43 [(2, V.nl 5), (3, V.sc (.bool false))] [] [])))) (spec_TextHex_l0 s_ fuel v1 v2)
  | 0, _, _ => Pn.none
  | fuel + 1, v1, v2 => by
    unfold spec_TextHex_l0
    exact
     Pn.ite (fun h2 =>
     Pn.ite (fun h3 =>
     Pn.ite (fun h4 =>
     Pn.bind (fun r1 h5 =>
     Pn.ite (fun h6 =>
     Pn.ite (fun h7 =>
     Pn.bind (fun r2 h8 =>
     Pn.ite (fun h9 =>
     Pn.some (LpO.out [.bit true, .call [] (E3 r1) [], .call [] (E3 r2) [], .bit true, .bit true, .bit true, .bit true, .wait 2, .mask [2, 3], .ren []] (p := [(decide (v1 < (s_.size : Int))) = true,
      (0 : Int) ≤ v1,
      (v1 : Int) < s_.size,
      Fn Tryd.prog 97 [(false, E5 (sAt s_ v1))] (E3 r1) [],
      (true || ((E3 r1).nv && nvL [])) = true,
      (0 : Int) ≤ i64 (v1 + 1),
      (i64 (v1 + 1) : Int) < s_.size,
      Fn Tryd.prog 97 [(false, E5 (sAt s_ (i64 (v1 + 1))))] (E3 r2) [],
      (true || ((E3 r2).nv && nvL [])) = true,
      (decide (r1 < 0)) = true,
      (decide (r1 < 0)) = true,
      (decide (r1 < 0)) = true,
      true = true]) (by kernel_rfl) (show X.ret ≠ X.go from nofun) (cj h2 (cj (od h3) (cj (od h4) (cj (spec_l02Hex_ok (sAt s_ v1) r1 h5) (cj rfl (cj (od h6) (cj (od h7) (cj (spec_l02Hex_ok (sAt s_ (i64 (v1 + 1))) r2 h8) (cj rfl (cj h9 (cj h9 (cj h9 (cj1 rfl))))))))))))))) (fun h9 =>
     Pn.ite (fun h10 =>
     Pn.some (LpO.out [.bit true, .call [] (E3 r1) [], .call [] (E3 r2) [], .bit false, .bit false, .bit false, .bit true, .wait 2, .mask [2, 3], .ren []] (p := [(decide (v1 < (s_.size : Int))) = true,
      (0 : Int) ≤ v1,
      (v1 : Int) < s_.size,
      Fn Tryd.prog 97 [(false, E5 (sAt s_ v1))] (E3 r1) [],
      (true || ((E3 r1).nv && nvL [])) = true,
      (0 : Int) ≤ i64 (v1 + 1),
      (i64 (v1 + 1) : Int) < s_.size,
      Fn Tryd.prog 97 [(false, E5 (sAt s_ (i64 (v1 + 1))))] (E3 r2) [],
      (true || ((E3 r2).nv && nvL [])) = true,
      (decide (r1 < 0)) = false,
      (decide (r1 < 0)) = false,
      (decide (r1 < 0)) = false,
      (decide (r2 < 0)) = true]) (by kernel_rfl) (show X.ret ≠ X.go from nofun) (cj h2 (cj (od h3) (cj (od h4) (cj (spec_l02Hex_ok (sAt s_ v1) r1 h5) (cj rfl (cj (od h6) (cj (od h7) (cj (spec_l02Hex_ok (sAt s_ (i64 (v1 + 1))) r2 h8) (cj rfl (cj h9 (cj h9 (cj h9 (cj1 h10))))))))))))))) (fun h10 =>
     Pn.ite (fun h11 =>
     LpO.go [.bit true, .call [] (E3 r1) [], .call [] (E3 r2) [], .bit false, .bit false, .bit false, .bit false, .cp [V.sc (.int .u8 (u8 (i64 ((i64 (16 * r1)) + r2))))], .nb 2 (.row 5 (List.map E5 (v2 ++ [u8 (i64 ((i64 (16 * r1)) + r2))])) []), .wait 5, .mask [0, 4, 5], .ren [2]] (p := [(decide (v1 < (s_.size : Int))) = true,
      (0 : Int) ≤ v1,
      (v1 : Int) < s_.size,
      Fn Tryd.prog 97 [(false, E5 (sAt s_ v1))] (E3 r1) [],
      (true || ((E3 r1).nv && nvL [])) = true,
      (0 : Int) ≤ i64 (v1 + 1),
      (i64 (v1 + 1) : Int) < s_.size,
      Fn Tryd.prog 97 [(false, E5 (sAt s_ (i64 (v1 + 1))))] (E3 r2) [],
      (true || ((E3 r2).nv && nvL [])) = true,
      (decide (r1 < 0)) = false,
      (decide (r1 < 0)) = false,
      (decide (r1 < 0)) = false,
      (decide (r2 < 0)) = false,
      [V.sc (.int .u8 (u8 (i64 ((i64 (16 * r1)) + r2))))] = [V.sc (.int .u8 (u8 (i64 ((i64 (16 * r1)) + r2))))],
      [V.sc (.int .u8 (u8 (i64 ((i64 (16 * r1)) + r2))))].all V.flatE = true,
      (List.map E5 v2).length + [V.sc (.int .u8 (u8 (i64 ((i64 (16 * r1)) + r2))))].length ≤ 9223372036854775807,
      ((List.map E5 v2).length + [V.sc (.int .u8 (u8 (i64 ((i64 (16 * r1)) + r2))))].length) * 1 ≤ 140737488355328,
      Blk.row 5 ((List.map E5 v2) ++ [V.sc (.int .u8 (u8 (i64 ((i64 (16 * r1)) + r2))))]) [] = Blk.row 5 (List.map E5 (v2 ++ [u8 (i64 ((i64 (16 * r1)) + r2))])) []]) (by kernel_rfl) (cj h2 (cj (od h3) (cj (od h4) (cj (spec_l02Hex_ok (sAt s_ v1) r1 h5) (cj rfl (cj (od h6) (cj (od h7) (cj (spec_l02Hex_ok (sAt s_ (i64 (v1 + 1))) r2 h8) (cj rfl (cj h9 (cj h9 (cj h9 (cj h10 (cj rfl (cj rfl (cj (cap1 (capN (by simp) h11)) (cj (cap2 (capN (by simp) h11) (by decide)) (cj1 (nb_app E5 v2 [u8 (i64 ((i64 (16 * r1)) + r2))]))))))))))))))))))) (spec_TextHex_l0_ok s_ fuel (i64 (v1 + 2)) (v2 ++ [u8 (i64 ((i64 (16 * r1)) + r2))]))) (fun h11 =>
     Pn.none))))) (fun h7 =>
     Pn.none)) (fun h6 =>
     Pn.none))) (fun h4 =>
     Pn.none)) (fun h3 =>
     Pn.none)) (fun h2 =>
     Pn.some (LpO.out [.bit false, .mask [4], .ren [0]] (p := [(decide (v1 < (s_.size : Int))) = false]) (by kernel_rfl) (show X.out 0 ≠ X.go from nofun) (cj1 h2)))
def spec_TextHex (s_ : ByteArray) : Option ((List Int) × Bool) :=
 if ((Int.tmod (s_.size : Int) 2) == 1) = true then
 some ([], false)
 else
 (spec_TextHex_l0 s_ FUEL 0 []).bind fun r3 =>
 Lo.elim r3 (fun s1 =>
 some (s1, true)) (fun s2 =>
 some ([], false))
theorem spec_TextHex_ok (s_ : ByteArray) : Pn (fun y => Fn Tryd.prog 49 [(false, E9 s_)] (V.tup [E40 y.1, E4 y.2]) []) (spec_TextHex s_) := by
  unfold spec_TextHex
  exact
   Pn.ite (fun h1 =>
   Pn.some (Fn.of [.bit true] (p := [(2 : Int) ≠ 0,
    ((Int.tmod (s_.size : Int) 2) == 1) = true]) (by kernel_rfl) (cj (by decide) (cj1 h1)))) (fun h1 =>
   Pn.bind (fun r3 h12 =>
   Pn.lo (fun s1 h13 =>
   Pn.some (Fn.of [.bit false, .wait 1, .mask [0, 4, 5], .ren [0], .loop (X.out 0) (st 43 [(4, V.ow 0)] [Blk.row 5 (List.map E5 s1) []] [])] (p := [(2 : Int) ≠ 0,
    ((Int.tmod (s_.size : Int) 2) == 1) = false,
    Loop Tryd.prog (sub (codeOf Tryd.prog 49) [1, 1, 1, 0, 1, 0, 0]) (st 43 [(0, V.sc (.string s_)), (4, V.ow 0), (5, V.sc (.int .i64 0))] [Blk.row 5 ([] : List V) []] []) (X.out 0) (st 43 [(4, V.ow 0)] [Blk.row 5 (List.map E5 s1) []] [])]) (by kernel_rfl) (cj (by decide) (cj h1 (cj1 ((spec_TextHex_l0_ok s_ FUEL 0 [] r3 h12).at h13)))))) (fun s2 h14 =>
   Pn.some (Fn.of [.bit false, .wait 1, .mask [0, 4, 5], .ren [0], .loop (X.ret) (st 43 [(2, V.nl 5), (3, V.sc (.bool false))] [] [])] (p := [(2 : Int) ≠ 0,
    ((Int.tmod (s_.size : Int) 2) == 1) = false,
    Loop Tryd.prog (sub (codeOf Tryd.prog 49) [1, 1, 1, 0, 1, 0, 0]) (st 43 [(0, V.sc (.string s_)), (4, V.ow 0), (5, V.sc (.int .i64 0))] [Blk.row 5 ([] : List V) []] []) (X.ret) (st 43 [(2, V.nl 5), (3, V.sc (.bool false))] [] [])]) (by kernel_rfl) (cj (by decide) (cj h1 (cj1 ((spec_TextHex_l0_ok s_ FUEL 0 [] r3 h12).at h14))))))))
def spec_Digits_l0 (s_ : ByteArray) : Nat → Int → Option (Lo Unit Unit)
  | 0, _ => none
  | fuel + 1, v1 =>
   if (decide (v1 < (s_.size : Int))) = true then
   if (decide (0 ≤ v1)) = true then
   if (decide ((v1 : Int) < (s_.size : Int))) = true then
   if (decide ((sAt s_ v1) < 48)) = true then
   some (.ret ())
   else
   if (decide (57 < (sAt s_ v1))) = true then
   some (.ret ())
   else
   spec_Digits_l0 s_ fuel (i64 (v1 + 1))
   else none
   else none
   else
   some (.out ())
theorem spec_Digits_l0_ok (s_ : ByteArray) : ∀ (fuel : Nat) (v1 : Int), Pn (LpO Tryd.prog (sub (codeOf Tryd.prog 75) [1, 0, 1, 0, 0]) (st 23 [(0, V.sc (.string s_)), (3, V.sc (.int .i64 v1))] [] []) (fun (y : Lo Unit Unit) => Lo.elim y (fun s => (X.out 0, st 23 [(0, V.sc (.string s_))] [] [])) (fun s => (X.ret, st 23 [(2, V.sc (.bool false))] [] [])))) (spec_Digits_l0 s_ fuel v1)
  | 0, _ => Pn.none
  | fuel + 1, v1 => by
    unfold spec_Digits_l0
    exact
     Pn.ite (fun h1 =>
     Pn.ite (fun h2 =>
     Pn.ite (fun h3 =>
     Pn.ite (fun h4 =>
     Pn.some (LpO.out [.bit true, .bit true, .bit true, .bit true, .bit true, .bit true, .bit true, .wait 1, .mask [2], .ren []] (p := [(decide (v1 < (s_.size : Int))) = true,
      (0 : Int) ≤ v1,
      (v1 : Int) < s_.size,
      (decide ((sAt s_ v1) < 48)) = true,
      (decide ((sAt s_ v1) < 48)) = true,
      (decide ((sAt s_ v1) < 48)) = true,
      (decide ((sAt s_ v1) < 48)) = true,
      (decide ((sAt s_ v1) < 48)) = true,
      true = true]) (by kernel_rfl) (show X.ret ≠ X.go from nofun) (cj h1 (cj (od h2) (cj (od h3) (cj h4 (cj h4 (cj h4 (cj h4 (cj h4 (cj1 rfl))))))))))) (fun h4 =>
     Pn.ite (fun h5 =>
     Pn.some (LpO.out [.bit true, .bit false, .bit false, .bit false, .bit false, .bit false, .bit true, .wait 1, .mask [2], .ren []] (p := [(decide (v1 < (s_.size : Int))) = true,
      (0 : Int) ≤ v1,
      (v1 : Int) < s_.size,
      (decide ((sAt s_ v1) < 48)) = false,
      (decide ((sAt s_ v1) < 48)) = false,
      (decide ((sAt s_ v1) < 48)) = false,
      (0 : Int) ≤ v1,
      (v1 : Int) < s_.size,
      (decide ((sAt s_ v1) < 48)) = false,
      (decide ((sAt s_ v1) < 48)) = false,
      (decide (57 < (sAt s_ v1))) = true]) (by kernel_rfl) (show X.ret ≠ X.go from nofun) (cj h1 (cj (od h2) (cj (od h3) (cj h4 (cj h4 (cj h4 (cj (od h2) (cj (od h3) (cj h4 (cj h4 (cj1 h5))))))))))))) (fun h5 =>
     LpO.go [.bit true, .bit false, .bit false, .bit false, .bit false, .bit false, .bit false, .wait 3, .mask [0, 3], .ren []] (p := [(decide (v1 < (s_.size : Int))) = true,
      (0 : Int) ≤ v1,
      (v1 : Int) < s_.size,
      (decide ((sAt s_ v1) < 48)) = false,
      (decide ((sAt s_ v1) < 48)) = false,
      (decide ((sAt s_ v1) < 48)) = false,
      (0 : Int) ≤ v1,
      (v1 : Int) < s_.size,
      (decide ((sAt s_ v1) < 48)) = false,
      (decide ((sAt s_ v1) < 48)) = false,
      (decide (57 < (sAt s_ v1))) = false]) (by kernel_rfl) (cj h1 (cj (od h2) (cj (od h3) (cj h4 (cj h4 (cj h4 (cj (od h2) (cj (od h3) (cj h4 (cj h4 (cj1 h5))))))))))) (spec_Digits_l0_ok s_ fuel (i64 (v1 + 1)))))) (fun h3 =>
     Pn.none)) (fun h2 =>
     Pn.none)) (fun h1 =>
     Pn.some (LpO.out [.bit false, .mask [0], .ren []] (p := [(decide (v1 < (s_.size : Int))) = false]) (by kernel_rfl) (show X.out 0 ≠ X.go from nofun) (cj1 h1)))
def spec_Digits (s_ : ByteArray) : Option (Bool) :=
 (spec_Digits_l0 s_ FUEL 0).bind fun r1 =>
 Lo.elim r1 (fun s1 =>
 some (decide (0 < (s_.size : Int)))) (fun s2 =>
 some false)
theorem spec_Digits_ok (s_ : ByteArray) : Pn (fun y => Fn Tryd.prog 75 [(false, E9 s_)] (E4 y) []) (spec_Digits s_) := by
  unfold spec_Digits
  exact
   Pn.bind (fun r1 h6 =>
   Pn.lo (fun s1 h7 =>
   Pn.some (Fn.of [.wait 3, .mask [0, 3], .ren [], .loop (X.out 0) (st 23 [(0, V.sc (.string s_))] [] [])] (p := [Loop Tryd.prog (sub (codeOf Tryd.prog 75) [1, 0, 1, 0, 0]) (st 23 [(0, V.sc (.string s_)), (3, V.sc (.int .i64 0))] [] []) (X.out 0) (st 23 [(0, V.sc (.string s_))] [] [])]) (by kernel_rfl) (cj1 ((spec_Digits_l0_ok s_ FUEL 0 r1 h6).at h7)))) (fun s2 h8 =>
   Pn.some (Fn.of [.wait 3, .mask [0, 3], .ren [], .loop (X.ret) (st 23 [(2, V.sc (.bool false))] [] [])] (p := [Loop Tryd.prog (sub (codeOf Tryd.prog 75) [1, 0, 1, 0, 0]) (st 23 [(0, V.sc (.string s_)), (3, V.sc (.int .i64 0))] [] []) (X.ret) (st 23 [(2, V.sc (.bool false))] [] [])]) (by kernel_rfl) (cj1 ((spec_Digits_l0_ok s_ FUEL 0 r1 h6).at h8)))))
def spec_l01Money (n : Int) : Option (Bool) :=
 if (decide (0 ≤ n)) = true then
 some (decide (n ≤ 4611686018427387904))
 else
 some false
theorem spec_l01Money_ok (n : Int) : Pn (fun y => Fn Tryd.prog 78 [(false, E3 n)] (E4 y) []) (spec_l01Money n) := by
  unfold spec_l01Money
  exact
   Pn.ite (fun h1 =>
   Pn.some (Fn.of [.bit true, .bit true, .bit true] (p := [(decide (0 ≤ n)) = true,
    (decide (0 ≤ n)) = true,
    (decide (0 ≤ n)) = true]) (by kernel_rfl) (cj h1 (cj h1 (cj1 h1))))) (fun h1 =>
   Pn.some (Fn.of [.bit false, .bit false, .bit false] (p := [(decide (0 ≤ n)) = false,
    (decide (0 ≤ n)) = false,
    (decide (0 ≤ n)) = false]) (by kernel_rfl) (cj h1 (cj h1 (cj1 h1)))))
def spec_NumText_l0 (n : Int) : Nat → Int → ByteArray → Option (Int × ByteArray)
  | 0, _, _ => none
  | fuel + 1, v1, v2 =>
   if (decide (9 < v1)) = true then
   if (decide ((bstr [u8 (i64 (48 + (Int.tmod v1 10)))]).size + v2.size ≤ 9223372036854775807)) = true then
   spec_NumText_l0 n fuel (i64 (Int.tdiv v1 10)) ((bstr [u8 (i64 (48 + (Int.tmod v1 10)))]) ++ v2)
   else none
   else
   some (v1, v2)
theorem spec_NumText_l0_ok (n : Int) : ∀ (fuel : Nat) (v1 : Int) (v2 : ByteArray), Pn (LpO Tryd.prog (sub (codeOf Tryd.prog 36) [1, 1, 1, 0, 0, 0]) (st 26 [(0, V.sc (.int .i64 v1)), (3, V.sc (.string v2))] [] []) (fun (y : Int × ByteArray) => (X.out 0, st 26 [(0, V.sc (.int .i64 y.1)), (3, V.sc (.string y.2))] [] []))) (spec_NumText_l0 n fuel v1 v2)
  | 0, _, _ => Pn.none
  | fuel + 1, v1, v2 => by
    unfold spec_NumText_l0
    exact
     Pn.ite (fun h3 =>
     Pn.ite (fun h4 =>
     LpO.go [.bit true, .ints [u8 (i64 (48 + (Int.tmod v1 10)))], .wait 7, .mask [0, 3], .ren []] (p := [(decide (9 < v1)) = true,
      (10 : Int) ≠ 0,
      [V.sc (.int .u8 (u8 (i64 (48 + (Int.tmod v1 10)))))] = [u8 (i64 (48 + (Int.tmod v1 10)))].map fun n => V.sc (.int .u8 n),
      (bstr [u8 (i64 (48 + (Int.tmod v1 10)))]).size + v2.size ≤ 9223372036854775807,
      (10 : Int) ≠ 0]) (by kernel_rfl) (cj h3 (cj (by decide) (cj rfl (cj (od h4) (cj1 (by decide)))))) (spec_NumText_l0_ok n fuel (i64 (Int.tdiv v1 10)) ((bstr [u8 (i64 (48 + (Int.tmod v1 10)))]) ++ v2))) (fun h4 =>
     Pn.none)) (fun h3 =>
     Pn.some (LpO.out [.bit false, .mask [0, 3], .ren []] (p := [(decide (9 < v1)) = false]) (by kernel_rfl) (show X.out 0 ≠ X.go from nofun) (cj1 h3)))
def spec_NumText (n : Int) : Option (ByteArray) :=
 (spec_l01Money n).bind fun r1 =>
 if r1 = true then
 (spec_NumText_l0 n FUEL n (bs [])).bind fun r2 =>
 if (decide ((bstr [u8 (i64 (48 + r2.1))]).size + r2.2.size ≤ 9223372036854775807)) = true then
 some ((bstr [u8 (i64 (48 + r2.1))]) ++ r2.2)
 else none
 else
 some (bs [])
theorem spec_NumText_ok (n : Int) : Pn (fun y => Fn Tryd.prog 36 [(false, E3 n)] (E9 y) []) (spec_NumText n) := by
  unfold spec_NumText
  exact
   Pn.bind (fun r1 h1 =>
   Pn.ite (fun h2 =>
   Pn.bind (fun r2 h5 =>
   Pn.ite (fun h6 =>
   Pn.some (Fn.of [.call [] (E4 r1) [], .bit false, .wait 1, .mask [0, 3], .ren [], .loop (X.out 0) (st 26 [(0, V.sc (.int .i64 r2.1)), (3, V.sc (.string r2.2))] [] []), .ints [u8 (i64 (48 + r2.1))]] (p := [Fn Tryd.prog 78 [(false, E3 n)] (E4 r1) [],
    (true || ((E4 r1).nv && nvL [])) = true,
    (!r1) = false,
    Loop Tryd.prog (sub (codeOf Tryd.prog 36) [1, 1, 1, 0, 0, 0]) (st 26 [(0, V.sc (.int .i64 n)), (3, V.sc (.string (bs [])))] [] []) (X.out 0) (st 26 [(0, V.sc (.int .i64 r2.1)), (3, V.sc (.string r2.2))] [] []),
    [V.sc (.int .u8 (u8 (i64 (48 + r2.1))))] = [u8 (i64 (48 + r2.1))].map fun n => V.sc (.int .u8 n),
    (bstr [u8 (i64 (48 + r2.1))]).size + r2.2.size ≤ 9223372036854775807]) (by kernel_rfl) (cj (spec_l01Money_ok n r1 h1) (cj rfl (cj (nf h2) (cj (spec_NumText_l0_ok n FUEL n (bs []) r2 h5) (cj rfl (cj1 (od h6))))))))) (fun h6 =>
   Pn.none))) (fun h2 =>
   Pn.some (Fn.of [.call [] (E4 r1) [], .bit true] (p := [Fn Tryd.prog 78 [(false, E3 n)] (E4 r1) [],
    (true || ((E4 r1).nv && nvL [])) = true,
    (!r1) = true]) (by kernel_rfl) (cj (spec_l01Money_ok n r1 h1) (cj rfl (cj1 (nt h2)))))))
def spec_TextNum_l0 (s_ : ByteArray) : Nat → Int → Int → Option (Lo Int Unit)
  | 0, _, _ => none
  | fuel + 1, v1, v2 =>
   if (decide (v2 < (s_.size : Int))) = true then
   if (decide (0 ≤ v2)) = true then
   if (decide ((v2 : Int) < (s_.size : Int))) = true then
   if (decide ((i64 (Int.tdiv (i64 (4611686018427387904 - (i64 ((i64 (sAt s_ v2)) - 48)))) 10)) < v1)) = true then
   some (.ret ())
   else
   spec_TextNum_l0 s_ fuel (i64 ((i64 (v1 * 10)) + (i64 ((i64 (sAt s_ v2)) - 48)))) (i64 (v2 + 1))
   else none
   else none
   else
   some (.out v1)
theorem spec_TextNum_l0_ok (s_ : ByteArray) : ∀ (fuel : Nat) (v1 : Int) (v2 : Int), Pn (LpO Tryd.prog (sub (codeOf Tryd.prog 50) [1, 1, 1, 0, 1, 0, 0]) (st 40 [(0, V.sc (.string s_)), (4, V.sc (.int .i64 v1)), (5, V.sc (.int .i64 v2))] [] []) (fun (y : Lo Int Unit) => Lo.elim y (fun s => (X.out 0, st 40 [(0, V.sc (.string s_)), (4, V.sc (.int .i64 s))] [] [])) (fun s => (X.ret, st 40 [(2, V.sc (.int .i64 0)), (3, V.sc (.bool false))] [] [])))) (spec_TextNum_l0 s_ fuel v1 v2)
  | 0, _, _ => Pn.none
  | fuel + 1, v1, v2 => by
    unfold spec_TextNum_l0
    exact
     Pn.ite (fun h4 =>
     Pn.ite (fun h5 =>
     Pn.ite (fun h6 =>
     Pn.ite (fun h7 =>
     Pn.some (LpO.out [.bit true, .bit true, .wait 2, .mask [2, 3], .ren []] (p := [(decide (v2 < (s_.size : Int))) = true,
      (0 : Int) ≤ v2,
      (v2 : Int) < s_.size,
      (10 : Int) ≠ 0,
      (decide ((i64 (Int.tdiv (i64 (4611686018427387904 - (i64 ((i64 (sAt s_ v2)) - 48)))) 10)) < v1)) = true]) (by kernel_rfl) (show X.ret ≠ X.go from nofun) (cj h4 (cj (od h5) (cj (od h6) (cj (by decide) (cj1 h7))))))) (fun h7 =>
     LpO.go [.bit true, .bit false, .wait 8, .mask [0, 4, 5], .ren []] (p := [(decide (v2 < (s_.size : Int))) = true,
      (0 : Int) ≤ v2,
      (v2 : Int) < s_.size,
      (10 : Int) ≠ 0,
      (decide ((i64 (Int.tdiv (i64 (4611686018427387904 - (i64 ((i64 (sAt s_ v2)) - 48)))) 10)) < v1)) = false]) (by kernel_rfl) (cj h4 (cj (od h5) (cj (od h6) (cj (by decide) (cj1 h7))))) (spec_TextNum_l0_ok s_ fuel (i64 ((i64 (v1 * 10)) + (i64 ((i64 (sAt s_ v2)) - 48)))) (i64 (v2 + 1))))) (fun h6 =>
     Pn.none)) (fun h5 =>
     Pn.none)) (fun h4 =>
     Pn.some (LpO.out [.bit false, .mask [0, 4], .ren []] (p := [(decide (v2 < (s_.size : Int))) = false]) (by kernel_rfl) (show X.out 0 ≠ X.go from nofun) (cj1 h4)))
def spec_TextNum (s_ : ByteArray) : Option (Int × Bool) :=
 (spec_Digits s_).bind fun r1 =>
 if r1 = true then
 if (decide (19 < (s_.size : Int))) = true then
 some (0, false)
 else
 (spec_TextNum_l0 s_ FUEL 0 0).bind fun r2 =>
 Lo.elim r2 (fun s1 =>
 (spec_NumText s1).bind fun r3 =>
 if (r3 == s_) = true then
 some (s1, true)
 else
 some (0, false)) (fun s2 =>
 some (0, false))
 else
 some (0, false)
theorem spec_TextNum_ok (s_ : ByteArray) : Pn (fun y => Fn Tryd.prog 50 [(false, E9 s_)] (V.tup [E3 y.1, E4 y.2]) []) (spec_TextNum s_) := by
  unfold spec_TextNum
  exact
   Pn.bind (fun r1 h1 =>
   Pn.ite (fun h2 =>
   Pn.ite (fun h3 =>
   Pn.some (Fn.of [.call [] (E4 r1) [], .bit false, .bit false, .bit false, .bit false, .bit true] (p := [Fn Tryd.prog 75 [(false, E9 s_)] (E4 r1) [],
    (true || ((E4 r1).nv && nvL [])) = true,
    (!r1) = false,
    (!r1) = false,
    (!r1) = false,
    (!r1) = false,
    (decide (19 < (s_.size : Int))) = true]) (by kernel_rfl) (cj (spec_Digits_ok s_ r1 h1) (cj rfl (cj (nf h2) (cj (nf h2) (cj (nf h2) (cj (nf h2) (cj1 h3))))))))) (fun h3 =>
   Pn.bind (fun r2 h8 =>
   Pn.lo (fun s1 h9 =>
   Pn.bind (fun r3 h11 =>
   Pn.ite (fun h12 =>
   Pn.some (Fn.of [.call [] (E4 r1) [], .bit false, .bit false, .bit false, .bit false, .bit false, .wait 2, .mask [0, 4, 5], .ren [], .loop (X.out 0) (st 40 [(0, V.sc (.string s_)), (4, V.sc (.int .i64 s1))] [] []), .call [] (E9 r3) [], .bit false] (p := [Fn Tryd.prog 75 [(false, E9 s_)] (E4 r1) [],
    (true || ((E4 r1).nv && nvL [])) = true,
    (!r1) = false,
    (!r1) = false,
    (!r1) = false,
    (!r1) = false,
    (decide (19 < (s_.size : Int))) = false,
    Loop Tryd.prog (sub (codeOf Tryd.prog 50) [1, 1, 1, 0, 1, 0, 0]) (st 40 [(0, V.sc (.string s_)), (4, V.sc (.int .i64 0)), (5, V.sc (.int .i64 0))] [] []) (X.out 0) (st 40 [(0, V.sc (.string s_)), (4, V.sc (.int .i64 s1))] [] []),
    Fn Tryd.prog 36 [(false, E3 s1)] (E9 r3) [],
    (true || ((E9 r3).nv && nvL [])) = true,
    (!(r3 == s_)) = false]) (by kernel_rfl) (cj (spec_Digits_ok s_ r1 h1) (cj rfl (cj (nf h2) (cj (nf h2) (cj (nf h2) (cj (nf h2) (cj h3 (cj ((spec_TextNum_l0_ok s_ FUEL 0 0 r2 h8).at h9) (cj (spec_NumText_ok s1 r3 h11) (cj rfl (cj1 (nf h12)))))))))))))) (fun h12 =>
   Pn.some (Fn.of [.call [] (E4 r1) [], .bit false, .bit false, .bit false, .bit false, .bit false, .wait 2, .mask [0, 4, 5], .ren [], .loop (X.out 0) (st 40 [(0, V.sc (.string s_)), (4, V.sc (.int .i64 s1))] [] []), .call [] (E9 r3) [], .bit true] (p := [Fn Tryd.prog 75 [(false, E9 s_)] (E4 r1) [],
    (true || ((E4 r1).nv && nvL [])) = true,
    (!r1) = false,
    (!r1) = false,
    (!r1) = false,
    (!r1) = false,
    (decide (19 < (s_.size : Int))) = false,
    Loop Tryd.prog (sub (codeOf Tryd.prog 50) [1, 1, 1, 0, 1, 0, 0]) (st 40 [(0, V.sc (.string s_)), (4, V.sc (.int .i64 0)), (5, V.sc (.int .i64 0))] [] []) (X.out 0) (st 40 [(0, V.sc (.string s_)), (4, V.sc (.int .i64 s1))] [] []),
    Fn Tryd.prog 36 [(false, E3 s1)] (E9 r3) [],
    (true || ((E9 r3).nv && nvL [])) = true,
    (!(r3 == s_)) = true]) (by kernel_rfl) (cj (spec_Digits_ok s_ r1 h1) (cj rfl (cj (nf h2) (cj (nf h2) (cj (nf h2) (cj (nf h2) (cj h3 (cj ((spec_TextNum_l0_ok s_ FUEL 0 0 r2 h8).at h9) (cj (spec_NumText_ok s1 r3 h11) (cj rfl (cj1 (nt h12)))))))))))))))) (fun s2 h10 =>
   Pn.some (Fn.of [.call [] (E4 r1) [], .bit false, .bit false, .bit false, .bit false, .bit false, .wait 2, .mask [0, 4, 5], .ren [], .loop (X.ret) (st 40 [(2, V.sc (.int .i64 0)), (3, V.sc (.bool false))] [] [])] (p := [Fn Tryd.prog 75 [(false, E9 s_)] (E4 r1) [],
    (true || ((E4 r1).nv && nvL [])) = true,
    (!r1) = false,
    (!r1) = false,
    (!r1) = false,
    (!r1) = false,
    (decide (19 < (s_.size : Int))) = false,
    Loop Tryd.prog (sub (codeOf Tryd.prog 50) [1, 1, 1, 0, 1, 0, 0]) (st 40 [(0, V.sc (.string s_)), (4, V.sc (.int .i64 0)), (5, V.sc (.int .i64 0))] [] []) (X.ret) (st 40 [(2, V.sc (.int .i64 0)), (3, V.sc (.bool false))] [] [])]) (by kernel_rfl) (cj (spec_Digits_ok s_ r1 h1) (cj rfl (cj (nf h2) (cj (nf h2) (cj (nf h2) (cj (nf h2) (cj h3 (cj1 ((spec_TextNum_l0_ok s_ FUEL 0 0 r2 h8).at h10)))))))))))))) (fun h2 =>
   Pn.some (Fn.of [.call [] (E4 r1) [], .bit true, .bit true, .bit true, .bit true, .bit true] (p := [Fn Tryd.prog 75 [(false, E9 s_)] (E4 r1) [],
    (true || ((E4 r1).nv && nvL [])) = true,
    (!r1) = true,
    (!r1) = true,
    (!r1) = true,
    (!r1) = true,
    true = true]) (by kernel_rfl) (cj (spec_Digits_ok s_ r1 h1) (cj rfl (cj (nt h2) (cj (nt h2) (cj (nt h2) (cj (nt h2) (cj1 rfl))))))))))
def spec_l01In (n : Int) (lo : Int) (hi : Int) : Option (Bool) :=
 if (decide (lo ≤ n)) = true then
 some (decide (n ≤ hi))
 else
 some false
theorem spec_l01In_ok (n : Int) (lo : Int) (hi : Int) : Pn (fun y => Fn Tryd.prog 77 [(false, E3 n), (false, E3 lo), (false, E3 hi)] (E4 y) []) (spec_l01In n lo hi) := by
  unfold spec_l01In
  exact
   Pn.ite (fun h1 =>
   Pn.some (Fn.of [.bit true, .bit true, .bit true, .bit true] (p := [(decide (lo ≤ n)) = true,
    (decide (lo ≤ n)) = true,
    (decide (lo ≤ n)) = true,
    (decide (lo ≤ n)) = true]) (by kernel_rfl) (cj h1 (cj h1 (cj h1 (cj1 h1)))))) (fun h1 =>
   Pn.some (Fn.of [.bit false, .bit false, .bit false, .bit false] (p := [(decide (lo ≤ n)) = false,
    (decide (lo ≤ n)) = false,
    (decide (lo ≤ n)) = false,
    (decide (lo ≤ n)) = false]) (by kernel_rfl) (cj h1 (cj h1 (cj h1 (cj1 h1))))))
def spec_EventOk (e : Event) : Option (Bool) :=
 if (e.Kind == 1) = true then
 if (e.K == 0) = true then
 some (decide ((e.Data.length : Int) ≤ 300))
 else
 some false
 else
 if (e.Kind == 2) = true then
 (spec_l01In e.K 0 11).bind fun r1 =>
 if r1 = true then
 some ((e.Data.length : Int) == 0)
 else
 some false
 else
 if (e.Kind == 3) = true then
 (spec_l01In e.K 1 1000).bind fun r2 =>
 if r2 = true then
 some ((e.Data.length : Int) == 0)
 else
 some false
 else
 some false
theorem spec_EventOk_ok (e : Event) : Pn (fun y => Fn Tryd.prog 98 [(false, E42 e)] (E4 y) []) (spec_EventOk e) := by
  unfold spec_EventOk
  exact
   Pn.ite (fun h1 =>
   Pn.ite (fun h2 =>
   Pn.some (Fn.of [.bit true, .bit true, .bit true, .bit true, .nm 13 (V.sc (.int .i64 (e.Data.length : Int))), .bit true, .bit true] (p := [(e.Kind == 1) = true,
    (e.K == 0) = true,
    (e.K == 0) = true,
    (e.K == 0) = true,
    V.sc (.int .i64 ((List.map E5 e.Data).length : Int)) = V.sc (.int .i64 (e.Data.length : Int)),
    (e.K == 0) = true,
    (e.K == 0) = true]) (by kernel_rfl) (cj h1 (cj h2 (cj h2 (cj h2 (cj (len_nm _ _) (cj h2 (cj1 h2))))))))) (fun h2 =>
   Pn.some (Fn.of [.bit true, .bit false, .bit false, .bit false, .bit false, .bit false] (p := [(e.Kind == 1) = true,
    (e.K == 0) = false,
    (e.K == 0) = false,
    (e.K == 0) = false,
    (e.K == 0) = false,
    (e.K == 0) = false]) (by kernel_rfl) (cj h1 (cj h2 (cj h2 (cj h2 (cj h2 (cj1 h2))))))))) (fun h1 =>
   Pn.ite (fun h3 =>
   Pn.bind (fun r1 h4 =>
   Pn.ite (fun h5 =>
   Pn.some (Fn.of [.bit false, .bit true, .call [] (E4 r1) [], .bit true, .bit true, .bit true, .nm 24 (V.sc (.int .i64 (e.Data.length : Int))), .bit true, .bit true] (p := [(e.Kind == 1) = false,
    (e.Kind == 2) = true,
    Fn Tryd.prog 77 [(false, E3 e.K), (false, E3 0), (false, E3 11)] (E4 r1) [],
    (true || ((E4 r1).nv && nvL [])) = true,
    r1 = true,
    r1 = true,
    r1 = true,
    V.sc (.int .i64 ((List.map E5 e.Data).length : Int)) = V.sc (.int .i64 (e.Data.length : Int)),
    r1 = true,
    r1 = true]) (by kernel_rfl) (cj h1 (cj h3 (cj (spec_l01In_ok e.K 0 11 r1 h4) (cj rfl (cj h5 (cj h5 (cj h5 (cj (len_nm _ _) (cj h5 (cj1 h5)))))))))))) (fun h5 =>
   Pn.some (Fn.of [.bit false, .bit true, .call [] (E4 r1) [], .bit false, .bit false, .bit false, .bit false, .bit false] (p := [(e.Kind == 1) = false,
    (e.Kind == 2) = true,
    Fn Tryd.prog 77 [(false, E3 e.K), (false, E3 0), (false, E3 11)] (E4 r1) [],
    (true || ((E4 r1).nv && nvL [])) = true,
    r1 = false,
    r1 = false,
    r1 = false,
    r1 = false,
    r1 = false]) (by kernel_rfl) (cj h1 (cj h3 (cj (spec_l01In_ok e.K 0 11 r1 h4) (cj rfl (cj h5 (cj h5 (cj h5 (cj h5 (cj1 h5))))))))))))) (fun h3 =>
   Pn.ite (fun h6 =>
   Pn.bind (fun r2 h7 =>
   Pn.ite (fun h8 =>
   Pn.some (Fn.of [.bit false, .bit false, .bit true, .bit true, .bit true, .call [] (E4 r2) [], .bit true, .bit true, .bit true, .bit true, .nm 38 (V.sc (.int .i64 (e.Data.length : Int))), .bit true, .bit true] (p := [(e.Kind == 1) = false,
    (e.Kind == 2) = false,
    (e.Kind == 3) = true,
    (e.Kind == 3) = true,
    (e.Kind == 3) = true,
    Fn Tryd.prog 77 [(false, E3 e.K), (false, E3 1), (false, E3 1000)] (E4 r2) [],
    (true || ((E4 r2).nv && nvL [])) = true,
    (e.Kind == 3) = true,
    r2 = true,
    r2 = true,
    r2 = true,
    V.sc (.int .i64 ((List.map E5 e.Data).length : Int)) = V.sc (.int .i64 (e.Data.length : Int)),
    r2 = true,
    r2 = true]) (by kernel_rfl) (cj h1 (cj h3 (cj h6 (cj h6 (cj h6 (cj (spec_l01In_ok e.K 1 1000 r2 h7) (cj rfl (cj h6 (cj h8 (cj h8 (cj h8 (cj (len_nm _ _) (cj h8 (cj1 h8)))))))))))))))) (fun h8 =>
   Pn.some (Fn.of [.bit false, .bit false, .bit true, .bit true, .bit true, .call [] (E4 r2) [], .bit true, .bit false, .bit false, .bit false, .bit false, .bit false] (p := [(e.Kind == 1) = false,
    (e.Kind == 2) = false,
    (e.Kind == 3) = true,
    (e.Kind == 3) = true,
    (e.Kind == 3) = true,
    Fn Tryd.prog 77 [(false, E3 e.K), (false, E3 1), (false, E3 1000)] (E4 r2) [],
    (true || ((E4 r2).nv && nvL [])) = true,
    (e.Kind == 3) = true,
    r2 = false,
    r2 = false,
    r2 = false,
    r2 = false,
    r2 = false]) (by kernel_rfl) (cj h1 (cj h3 (cj h6 (cj h6 (cj h6 (cj (spec_l01In_ok e.K 1 1000 r2 h7) (cj rfl (cj h6 (cj h8 (cj h8 (cj h8 (cj h8 (cj1 h8))))))))))))))))) (fun h6 =>
   Pn.some (Fn.of [.bit false, .bit false, .bit false, .bit false, .bit false, .bit false, .bit false, .bit false, .bit false, .bit false, .bit false] (p := [(e.Kind == 1) = false,
    (e.Kind == 2) = false,
    (e.Kind == 3) = false,
    (e.Kind == 3) = false,
    (e.Kind == 3) = false,
    (e.Kind == 3) = false,
    false = false,
    false = false,
    false = false,
    false = false,
    false = false]) (by kernel_rfl) (cj h1 (cj h3 (cj h6 (cj h6 (cj h6 (cj h6 (cj rfl (cj rfl (cj rfl (cj rfl (cj1 rfl)))))))))))))))
def spec_HexText_l0 (b : List Int) : List Int → ByteArray → Option (ByteArray)
  | [], v1 =>
   some v1
  | x1 :: t1, v1 =>
   if (decide (0 ≤ i64 (Int.tdiv (i64 x1) 16))) = true then
   if (decide ((i64 (Int.tdiv (i64 x1) 16) : Int) < ((bs [48, 49, 50, 51, 52, 53, 54, 55, 56, 57, 97, 98, 99, 100, 101, 102]).size : Int))) = true then
   if (decide (0 ≤ Int.tmod (i64 x1) 16)) = true then
   if (decide ((Int.tmod (i64 x1) 16 : Int) < ((bs [48, 49, 50, 51, 52, 53, 54, 55, 56, 57, 97, 98, 99, 100, 101, 102]).size : Int))) = true then
   if (decide (v1.size + (bstr [sAt (bs [48, 49, 50, 51, 52, 53, 54, 55, 56, 57, 97, 98, 99, 100, 101, 102]) (i64 (Int.tdiv (i64 x1) 16)), sAt (bs [48, 49, 50, 51, 52, 53, 54, 55, 56, 57, 97, 98, 99, 100, 101, 102]) (Int.tmod (i64 x1) 16)]).size ≤ 9223372036854775807)) = true then
   spec_HexText_l0 b t1 (v1 ++ (bstr [sAt (bs [48, 49, 50, 51, 52, 53, 54, 55, 56, 57, 97, 98, 99, 100, 101, 102]) (i64 (Int.tdiv (i64 x1) 16)), sAt (bs [48, 49, 50, 51, 52, 53, 54, 55, 56, 57, 97, 98, 99, 100, 101, 102]) (Int.tmod (i64 x1) 16)]))
   else none
   else none
   else none
   else none
   else none
theorem spec_HexText_l0_ok (b : List Int) (h2 : capOk b.length = true) : ∀ (t1 p1 : List Int) (_ : b = p1 ++ t1) (v1 : ByteArray), Pn (LpO Tryd.prog (sub (codeOf Tryd.prog 99) [1, 1, 0, 1, 0, 0]) (st 26 [(3, V.sc (.string v1)), (6, V.sl false 5 (List.map E5 b)), (7, V.sc (.int .i64 (b.length : Int))), (8, V.sc (.int .i64 (p1.length : Int)))] [] []) (fun (y : ByteArray) => (X.out 0, st 26 [(3, V.sc (.string y))] [] []))) (spec_HexText_l0 b t1 v1)
  | [], p1, h1, v1 => by
    unfold spec_HexText_l0
    exact
     Pn.some (LpO.out [.bit false, .mask [3], .ren []] (p := [(decide ((p1.length : Int) < (b.length : Int))) = false]) (by kernel_rfl) (show X.out 0 ≠ X.go from nofun) (cj1 (rng_end h1)))
  | x1 :: t1, p1, h1, v1 => by
    unfold spec_HexText_l0
    exact
     Pn.ite (fun h3 =>
     Pn.ite (fun h4 =>
     Pn.ite (fun h5 =>
     Pn.ite (fun h6 =>
     Pn.ite (fun h7 =>
     LpO.go [.bit true, .el (E5 x1), .draw [], .ints [sAt (bs [48, 49, 50, 51, 52, 53, 54, 55, 56, 57, 97, 98, 99, 100, 101, 102]) (i64 (Int.tdiv (i64 x1) 16)), sAt (bs [48, 49, 50, 51, 52, 53, 54, 55, 56, 57, 97, 98, 99, 100, 101, 102]) (Int.tmod (i64 x1) 16)], .wait 5, .mask [3, 6, 7, 8], .ren [], .nm 8 (V.sc (.int .i64 ((p1 ++ [x1]).length : Int)))] (p := [(decide ((p1.length : Int) < (b.length : Int))) = true,
      (0 : Int) ≤ (p1.length : Int),
      (List.map E5 b)[(p1.length : Int).toNat]? = some (E5 x1),
      (16 : Int) ≠ 0,
      (0 : Int) ≤ i64 (Int.tdiv (i64 x1) 16),
      (i64 (Int.tdiv (i64 x1) 16) : Int) < (bs [48, 49, 50, 51, 52, 53, 54, 55, 56, 57, 97, 98, 99, 100, 101, 102]).size,
      (16 : Int) ≠ 0,
      (0 : Int) ≤ Int.tmod (i64 x1) 16,
      (Int.tmod (i64 x1) 16 : Int) < (bs [48, 49, 50, 51, 52, 53, 54, 55, 56, 57, 97, 98, 99, 100, 101, 102]).size,
      [V.sc (.int .u8 (sAt (bs [48, 49, 50, 51, 52, 53, 54, 55, 56, 57, 97, 98, 99, 100, 101, 102]) (i64 (Int.tdiv (i64 x1) 16)))), V.sc (.int .u8 (sAt (bs [48, 49, 50, 51, 52, 53, 54, 55, 56, 57, 97, 98, 99, 100, 101, 102]) (Int.tmod (i64 x1) 16)))] = [sAt (bs [48, 49, 50, 51, 52, 53, 54, 55, 56, 57, 97, 98, 99, 100, 101, 102]) (i64 (Int.tdiv (i64 x1) 16)), sAt (bs [48, 49, 50, 51, 52, 53, 54, 55, 56, 57, 97, 98, 99, 100, 101, 102]) (Int.tmod (i64 x1) 16)].map fun n => V.sc (.int .u8 n),
      v1.size + (bstr [sAt (bs [48, 49, 50, 51, 52, 53, 54, 55, 56, 57, 97, 98, 99, 100, 101, 102]) (i64 (Int.tdiv (i64 x1) 16)), sAt (bs [48, 49, 50, 51, 52, 53, 54, 55, 56, 57, 97, 98, 99, 100, 101, 102]) (Int.tmod (i64 x1) 16)]).size ≤ 9223372036854775807,
      V.sc (.int .i64 (i64 ((p1.length : Int) + 1))) = V.sc (.int .i64 ((p1 ++ [x1]).length : Int))]) (by kernel_rfl) (cj (rng_lt h1) (cj (by omega) (cj (rng_get _ h1) (cj (by decide) (cj (od h3) (cj (od h4) (cj (by decide) (cj (od h5) (cj (od h6) (cj rfl (cj (od h7) (cj1 (rng_next h1 h2))))))))))))) (spec_HexText_l0_ok b h2 t1 (p1 ++ [x1]) (rng_step h1) (v1 ++ (bstr [sAt (bs [48, 49, 50, 51, 52, 53, 54, 55, 56, 57, 97, 98, 99, 100, 101, 102]) (i64 (Int.tdiv (i64 x1) 16)), sAt (bs [48, 49, 50, 51, 52, 53, 54, 55, 56, 57, 97, 98, 99, 100, 101, 102]) (Int.tmod (i64 x1) 16)])))) (fun h7 =>
     Pn.none)) (fun h6 =>
     Pn.none)) (fun h5 =>
     Pn.none)) (fun h4 =>
     Pn.none)) (fun h3 =>
     Pn.none)
def spec_HexText (b : List Int) : Option (ByteArray) :=
 if (capOk b.length) = true then
 (spec_HexText_l0 b b (bs [])).bind fun r1 =>
 some r1
 else none
theorem spec_HexText_ok (b : List Int) : Pn (fun y => Fn Tryd.prog 99 [(false, E40 b)] (E9 y) []) (spec_HexText b) := by
  unfold spec_HexText
  exact
   Pn.ite (fun h8 =>
   Pn.bind (fun r1 h9 =>
   Pn.some (Fn.of [.wait 4, .nm 7 (V.sc (.int .i64 (b.length : Int))), .wait 2, .mask [3, 6, 7, 8], .ren [], .loop (X.out 0) (st 26 [(3, V.sc (.string r1))] [] [])] (p := [V.sc (.int .i64 ((List.map E5 b).length : Int)) = V.sc (.int .i64 (b.length : Int)),
    Loop Tryd.prog (sub (codeOf Tryd.prog 99) [1, 1, 0, 1, 0, 0]) (st 26 [(3, V.sc (.string (bs []))), (6, V.sl false 5 (List.map E5 b)), (7, V.sc (.int .i64 (b.length : Int))), (8, V.sc (.int .i64 0))] [] []) (X.out 0) (st 26 [(3, V.sc (.string r1))] [] [])]) (by kernel_rfl) (cj (len_nm _ _) (cj1 (spec_HexText_l0_ok b h8 b [] rfl (bs []) r1 h9)))))) (fun h8 =>
   Pn.none)
def spec_EventText (e : Event) : Option (ByteArray) :=
 (spec_EventOk e).bind fun r1 =>
 if r1 = true then
 if (e.Kind == 1) = true then
 (spec_HexText e.Data).bind fun r2 =>
 if (decide ((bs [97, 114, 114, 105, 118, 101, 32]).size + r2.size ≤ 9223372036854775807)) = true then
 some ((bs [97, 114, 114, 105, 118, 101, 32]) ++ r2)
 else none
 else
 if (e.Kind == 2) = true then
 (spec_NumText e.K).bind fun r3 =>
 if (decide ((bs [112, 105, 99, 107, 32]).size + r3.size ≤ 9223372036854775807)) = true then
 some ((bs [112, 105, 99, 107, 32]) ++ r3)
 else none
 else
 (spec_NumText e.K).bind fun r4 =>
 if (decide ((bs [112, 97, 115, 115, 32]).size + r4.size ≤ 9223372036854775807)) = true then
 some ((bs [112, 97, 115, 115, 32]) ++ r4)
 else none
 else
 some (bs [])
theorem spec_EventText_ok (e : Event) : Pn (fun y => Fn Tryd.prog 51 [(false, E42 e)] (E9 y) []) (spec_EventText e) := by
  unfold spec_EventText
  exact
   Pn.bind (fun r1 h1 =>
   Pn.ite (fun h2 =>
   Pn.ite (fun h3 =>
   Pn.bind (fun r2 h4 =>
   Pn.ite (fun h5 =>
   Pn.some (Fn.of [.call [] (E4 r1) [], .bit false, .bit true, .call [] (E9 r2) []] (p := [Fn Tryd.prog 98 [(false, E42 e)] (E4 r1) [],
    (true || ((E4 r1).nv && nvL [])) = true,
    (!r1) = false,
    (e.Kind == 1) = true,
    Fn Tryd.prog 99 [(false, E40 e.Data)] (E9 r2) [],
    (true || ((E9 r2).nv && nvL [])) = true,
    (bs [97, 114, 114, 105, 118, 101, 32]).size + r2.size ≤ 9223372036854775807]) (by kernel_rfl) (cj (spec_EventOk_ok e r1 h1) (cj rfl (cj (nf h2) (cj h3 (cj (spec_HexText_ok e.Data r2 h4) (cj rfl (cj1 (od h5)))))))))) (fun h5 =>
   Pn.none))) (fun h3 =>
   Pn.ite (fun h6 =>
   Pn.bind (fun r3 h7 =>
   Pn.ite (fun h8 =>
   Pn.some (Fn.of [.call [] (E4 r1) [], .bit false, .bit false, .bit true, .call [] (E9 r3) []] (p := [Fn Tryd.prog 98 [(false, E42 e)] (E4 r1) [],
    (true || ((E4 r1).nv && nvL [])) = true,
    (!r1) = false,
    (e.Kind == 1) = false,
    (e.Kind == 2) = true,
    Fn Tryd.prog 36 [(false, E3 e.K)] (E9 r3) [],
    (true || ((E9 r3).nv && nvL [])) = true,
    (bs [112, 105, 99, 107, 32]).size + r3.size ≤ 9223372036854775807]) (by kernel_rfl) (cj (spec_EventOk_ok e r1 h1) (cj rfl (cj (nf h2) (cj h3 (cj h6 (cj (spec_NumText_ok e.K r3 h7) (cj rfl (cj1 (od h8))))))))))) (fun h8 =>
   Pn.none))) (fun h6 =>
   Pn.bind (fun r4 h9 =>
   Pn.ite (fun h10 =>
   Pn.some (Fn.of [.call [] (E4 r1) [], .bit false, .bit false, .bit false, .call [] (E9 r4) []] (p := [Fn Tryd.prog 98 [(false, E42 e)] (E4 r1) [],
    (true || ((E4 r1).nv && nvL [])) = true,
    (!r1) = false,
    (e.Kind == 1) = false,
    (e.Kind == 2) = false,
    Fn Tryd.prog 36 [(false, E3 e.K)] (E9 r4) [],
    (true || ((E9 r4).nv && nvL [])) = true,
    (bs [112, 97, 115, 115, 32]).size + r4.size ≤ 9223372036854775807]) (by kernel_rfl) (cj (spec_EventOk_ok e r1 h1) (cj rfl (cj (nf h2) (cj h3 (cj h6 (cj (spec_NumText_ok e.K r4 h9) (cj rfl (cj1 (od h10))))))))))) (fun h10 =>
   Pn.none))))) (fun h2 =>
   Pn.some (Fn.of [.call [] (E4 r1) [], .bit true] (p := [Fn Tryd.prog 98 [(false, E42 e)] (E4 r1) [],
    (true || ((E4 r1).nv && nvL [])) = true,
    (!r1) = true]) (by kernel_rfl) (cj (spec_EventOk_ok e r1 h1) (cj rfl (cj1 (nt h2)))))))
def spec_TextEvent_c0 (s_ : ByteArray) (r1 : (List ByteArray)) : Option (Lo Unit Unit) :=
 if ((r1.length : Int) != 2) = true then
 some (.ret ())
 else
 some (.out ())
theorem spec_TextEvent_c0_ok (s_ : ByteArray) (r1 : (List ByteArray)) : Pn (JnO Tryd.prog (sub (codeOf Tryd.prog 17) [1, 1, 0]) (st 60 [(0, V.sc (.string s_)), (2, V.ptr 0 0), (4, V.ow 1)] [Blk.box 42 [V.sc (.int .i64 0), V.sc (.int .i64 0), V.nl 5], Blk.row 9 (List.map E9 r1) []] []) (fun (y : Lo Unit Unit) => Lo.elim y (fun s => (X.go, st 60 [(0, V.sc (.string s_)), (2, V.ptr 0 0), (4, V.ow 1)] [Blk.box 42 [V.sc (.int .i64 0), V.sc (.int .i64 0), V.nl 5], Blk.row 9 (List.map E9 r1) []] [])) (fun s => (X.ret, st 60 [(2, V.ptr 0 0), (3, V.sc (.bool false))] [Blk.box 42 [V.sc (.int .i64 0), V.sc (.int .i64 0), V.nl 5]] [])))) (spec_TextEvent_c0 s_ r1) := by
  unfold spec_TextEvent_c0
  exact
   Pn.ite (fun h2 =>
   Pn.some (JnO.of [.wait 2, .nm 9 (V.sc (.int .i64 (r1.length : Int))), .bit true, .wait 3, .mask [2, 3], .ren [0]] (p := [V.sc (.int .i64 ((List.map E9 r1).length : Int)) = V.sc (.int .i64 (r1.length : Int)),
    ((r1.length : Int) != 2) = true]) (by kernel_rfl) (cj (len_nm _ _) (cj1 h2)))) (fun h2 =>
   Pn.some (JnO.of [.wait 2, .nm 9 (V.sc (.int .i64 (r1.length : Int))), .bit false, .mask [0, 2, 4], .ren [0, 1]] (p := [V.sc (.int .i64 ((List.map E9 r1).length : Int)) = V.sc (.int .i64 (r1.length : Int)),
    ((r1.length : Int) != 2) = false]) (by kernel_rfl) (cj (len_nm _ _) (cj1 h2))))
def spec_TextEvent_c1 (s_ : ByteArray) (r1 : (List ByteArray)) : Option (Int × Int × (List Int)) :=
 (r1[0]?).bind fun x1 =>
 if (x1 == (bs [97, 114, 114, 105, 118, 101])) = true then
 (r1[1]?).bind fun x2 =>
 (spec_TextHex x2).bind fun r3 =>
 some (1, 0, r3.1)
 else
 if (x1 == (bs [112, 105, 99, 107])) = true then
 (r1[1]?).bind fun x3 =>
 (spec_TextNum x3).bind fun r4 =>
 some (2, r4.1, [])
 else
 if (x1 == (bs [112, 97, 115, 115])) = true then
 (r1[1]?).bind fun x4 =>
 (spec_TextNum x4).bind fun r5 =>
 some (3, r5.1, [])
 else
 some (0, 0, [])
theorem spec_TextEvent_c1_ok (s_ : ByteArray) (r1 : (List ByteArray)) : Pn (JnO Tryd.prog (sub (codeOf Tryd.prog 17) [1, 1, 1, 1, 0]) (st 60 [(0, V.sc (.string s_)), (2, V.ptr 0 0), (4, V.ow 1), (5, V.ptr 2 0)] [Blk.box 42 [V.sc (.int .i64 0), V.sc (.int .i64 0), V.nl 5], Blk.row 9 (List.map E9 r1) [], Blk.box 42 [V.sc (.int .i64 0), V.sc (.int .i64 0), V.ow 3], Blk.row 5 ([] : List V) []] []) (fun (y : Int × Int × (List Int)) => (X.go, st 60 [(0, V.sc (.string s_)), (2, V.ptr 0 0), (5, V.ptr 1 0)] [Blk.box 42 [V.sc (.int .i64 0), V.sc (.int .i64 0), V.nl 5], Blk.box 42 [V.sc (.int .i64 y.1), V.sc (.int .i64 y.2.1), V.ow 2], Blk.row 5 (List.map E5 y.2.2) []] []))) (spec_TextEvent_c1 s_ r1) := by
  unfold spec_TextEvent_c1
  exact
   Pn.bind (fun x1 h6 =>
   Pn.ite (fun h7 =>
   Pn.bind (fun x2 h8 =>
   Pn.bind (fun r3 h9 =>
   Pn.some (JnO.of [.el (E9 x1), .bit true, .el (E9 x2), .call [] (V.tup [E40 r3.1, E4 r3.2]) [], .wait 6, .mask [0, 2, 5], .ren [0, 2, 4]] (p := [(0 : Int) ≤ 0,
    (0 : Int) < ((List.map E9 r1).length : Int),
    look [] 0 = none,
    (List.map E9 r1)[0]? = some (E9 x1),
    (x1 == (bs [97, 114, 114, 105, 118, 101])) = true,
    (0 : Int) ≤ 1,
    (1 : Int) < ((List.map E9 r1).length : Int),
    look [] 1 = none,
    (List.map E9 r1)[1]? = some (E9 x2),
    Fn Tryd.prog 49 [(false, E9 x2)] (V.tup [E40 r3.1, E4 r3.2]) [],
    (true || ((V.tup [E40 r3.1, E4 r3.2]).nv && nvL [])) = true]) (by kernel_rfl) (cj (by decide) (cj (map_ltN (by decide) h6) (cj rfl (cj (map_get h6) (cj h7 (cj (by decide) (cj (map_ltN (by decide) h8) (cj rfl (cj (map_get h8) (cj (spec_TextHex_ok x2 r3 h9) (cj1 rfl))))))))))))))) (fun h7 =>
   Pn.ite (fun h10 =>
   Pn.bind (fun x3 h11 =>
   Pn.bind (fun r4 h12 =>
   Pn.some (JnO.of [.el (E9 x1), .bit false, .bit true, .el (E9 x3), .call [] (V.tup [E3 r4.1, E4 r4.2]) [], .wait 6, .mask [0, 2, 5], .ren [0, 2, 3]] (p := [(0 : Int) ≤ 0,
    (0 : Int) < ((List.map E9 r1).length : Int),
    look [] 0 = none,
    (List.map E9 r1)[0]? = some (E9 x1),
    (x1 == (bs [97, 114, 114, 105, 118, 101])) = false,
    (x1 == (bs [112, 105, 99, 107])) = true,
    (0 : Int) ≤ 1,
    (1 : Int) < ((List.map E9 r1).length : Int),
    look [] 1 = none,
    (List.map E9 r1)[1]? = some (E9 x3),
    Fn Tryd.prog 50 [(false, E9 x3)] (V.tup [E3 r4.1, E4 r4.2]) [],
    (true || ((V.tup [E3 r4.1, E4 r4.2]).nv && nvL [])) = true]) (by kernel_rfl) (cj (by decide) (cj (map_ltN (by decide) h6) (cj rfl (cj (map_get h6) (cj h7 (cj h10 (cj (by decide) (cj (map_ltN (by decide) h11) (cj rfl (cj (map_get h11) (cj (spec_TextNum_ok x3 r4 h12) (cj1 rfl)))))))))))))))) (fun h10 =>
   Pn.ite (fun h13 =>
   Pn.bind (fun x4 h14 =>
   Pn.bind (fun r5 h15 =>
   Pn.some (JnO.of [.el (E9 x1), .bit false, .bit false, .bit true, .el (E9 x4), .call [] (V.tup [E3 r5.1, E4 r5.2]) [], .wait 6, .mask [0, 2, 5], .ren [0, 2, 3]] (p := [(0 : Int) ≤ 0,
    (0 : Int) < ((List.map E9 r1).length : Int),
    look [] 0 = none,
    (List.map E9 r1)[0]? = some (E9 x1),
    (x1 == (bs [97, 114, 114, 105, 118, 101])) = false,
    (x1 == (bs [112, 105, 99, 107])) = false,
    (x1 == (bs [112, 97, 115, 115])) = true,
    (0 : Int) ≤ 1,
    (1 : Int) < ((List.map E9 r1).length : Int),
    look [] 1 = none,
    (List.map E9 r1)[1]? = some (E9 x4),
    Fn Tryd.prog 50 [(false, E9 x4)] (V.tup [E3 r5.1, E4 r5.2]) [],
    (true || ((V.tup [E3 r5.1, E4 r5.2]).nv && nvL [])) = true]) (by kernel_rfl) (cj (by decide) (cj (map_ltN (by decide) h6) (cj rfl (cj (map_get h6) (cj h7 (cj h10 (cj h13 (cj (by decide) (cj (map_ltN (by decide) h14) (cj rfl (cj (map_get h14) (cj (spec_TextNum_ok x4 r5 h15) (cj1 rfl))))))))))))))))) (fun h13 =>
   Pn.some (JnO.of [.el (E9 x1), .bit false, .bit false, .bit false, .mask [0, 2, 5], .ren [0, 2, 3]] (p := [(0 : Int) ≤ 0,
    (0 : Int) < ((List.map E9 r1).length : Int),
    look [] 0 = none,
    (List.map E9 r1)[0]? = some (E9 x1),
    (x1 == (bs [97, 114, 114, 105, 118, 101])) = false,
    (x1 == (bs [112, 105, 99, 107])) = false,
    (x1 == (bs [112, 97, 115, 115])) = false]) (by kernel_rfl) (cj (by decide) (cj (map_ltN (by decide) h6) (cj rfl (cj (map_get h6) (cj h7 (cj h10 (cj1 h13))))))))))))
def spec_TextEvent_c2 (s_ : ByteArray) (r6 : Int × Int × (List Int)) : Option (Lo Unit Unit) :=
 (spec_EventText (Event.mk r6.1 r6.2.1 r6.2.2)).bind fun r7 =>
 if (r7 == (bs [])) = true then
 some (.ret ())
 else
 (spec_EventText (Event.mk r6.1 r6.2.1 r6.2.2)).bind fun r8 =>
 if (r8 == s_) = true then
 some (.out ())
 else
 some (.ret ())
theorem spec_TextEvent_c2_ok (s_ : ByteArray) (r6 : Int × Int × (List Int)) : Pn (JnO Tryd.prog (sub (codeOf Tryd.prog 17) [1, 1, 1, 1, 1, 0]) (st 60 [(0, V.sc (.string s_)), (2, V.ptr 0 0), (5, V.ptr 1 0)] [Blk.box 42 [V.sc (.int .i64 0), V.sc (.int .i64 0), V.nl 5], Blk.box 42 [V.sc (.int .i64 r6.1), V.sc (.int .i64 r6.2.1), V.ow 2], Blk.row 5 (List.map E5 r6.2.2) []] []) (fun (y : Lo Unit Unit) => Lo.elim y (fun s => (X.go, st 60 [(2, V.ptr 0 0), (5, V.ptr 1 0)] [Blk.box 42 [V.sc (.int .i64 0), V.sc (.int .i64 0), V.nl 5], Blk.box 42 [V.sc (.int .i64 r6.1), V.sc (.int .i64 r6.2.1), V.ow 2], Blk.row 5 (List.map E5 r6.2.2) []] [])) (fun s => (X.ret, st 60 [(2, V.ptr 0 0), (3, V.sc (.bool false))] [Blk.box 42 [V.sc (.int .i64 0), V.sc (.int .i64 0), V.nl 5]] [])))) (spec_TextEvent_c2 s_ r6) := by
  unfold spec_TextEvent_c2
  exact
   Pn.bind (fun r7 h17 =>
   Pn.ite (fun h18 =>
   Pn.some (JnO.of [.call [] (E9 r7) [], .bit true, .bit true, .bit true, .bit true, .bit true, .bit true, .wait 3, .mask [2, 3], .ren [0]] (p := [Fn Tryd.prog 51 [(false, E42 (Event.mk r6.1 r6.2.1 r6.2.2))] (E9 r7) [],
    (false || ((E9 r7).nv && nvL [])) = true,
    (r7 == (bs [])) = true,
    (r7 == (bs [])) = true,
    (r7 == (bs [])) = true,
    (r7 == (bs [])) = true,
    (r7 == (bs [])) = true,
    true = true]) (by kernel_rfl) (cj (spec_EventText_ok (Event.mk r6.1 r6.2.1 r6.2.2) r7 h17) (cj (by simp [V.nv, nvL, nvL_all, nv_E9]) (cj h18 (cj h18 (cj h18 (cj h18 (cj h18 (cj1 rfl)))))))))) (fun h18 =>
   Pn.bind (fun r8 h19 =>
   Pn.ite (fun h20 =>
   Pn.some (JnO.of [.call [] (E9 r7) [], .bit false, .bit false, .call [] (E9 r8) [], .bit false, .bit false, .bit false, .bit false, .mask [2, 5], .ren [0, 1, 2]] (p := [Fn Tryd.prog 51 [(false, E42 (Event.mk r6.1 r6.2.1 r6.2.2))] (E9 r7) [],
    (false || ((E9 r7).nv && nvL [])) = true,
    (r7 == (bs [])) = false,
    (r7 == (bs [])) = false,
    Fn Tryd.prog 51 [(false, E42 (Event.mk r6.1 r6.2.1 r6.2.2))] (E9 r8) [],
    (false || ((E9 r8).nv && nvL [])) = true,
    (r7 == (bs [])) = false,
    (r7 == (bs [])) = false,
    (r7 == (bs [])) = false,
    (!(r8 == s_)) = false]) (by kernel_rfl) (cj (spec_EventText_ok (Event.mk r6.1 r6.2.1 r6.2.2) r7 h17) (cj (by simp [V.nv, nvL, nvL_all, nv_E9]) (cj h18 (cj h18 (cj (spec_EventText_ok (Event.mk r6.1 r6.2.1 r6.2.2) r8 h19) (cj (by simp [V.nv, nvL, nvL_all, nv_E9]) (cj h18 (cj h18 (cj h18 (cj1 (nf h20))))))))))))) (fun h20 =>
   Pn.some (JnO.of [.call [] (E9 r7) [], .bit false, .bit false, .call [] (E9 r8) [], .bit false, .bit false, .bit false, .bit true, .wait 3, .mask [2, 3], .ren [0]] (p := [Fn Tryd.prog 51 [(false, E42 (Event.mk r6.1 r6.2.1 r6.2.2))] (E9 r7) [],
    (false || ((E9 r7).nv && nvL [])) = true,
    (r7 == (bs [])) = false,
    (r7 == (bs [])) = false,
    Fn Tryd.prog 51 [(false, E42 (Event.mk r6.1 r6.2.1 r6.2.2))] (E9 r8) [],
    (false || ((E9 r8).nv && nvL [])) = true,
    (r7 == (bs [])) = false,
    (r7 == (bs [])) = false,
    (r7 == (bs [])) = false,
    (!(r8 == s_)) = true]) (by kernel_rfl) (cj (spec_EventText_ok (Event.mk r6.1 r6.2.1 r6.2.2) r7 h17) (cj (by simp [V.nv, nvL, nvL_all, nv_E9]) (cj h18 (cj h18 (cj (spec_EventText_ok (Event.mk r6.1 r6.2.1 r6.2.2) r8 h19) (cj (by simp [V.nv, nvL, nvL_all, nv_E9]) (cj h18 (cj h18 (cj h18 (cj1 (nt h20))))))))))))))))
def spec_TextEvent (s_ : ByteArray) : Option (Event × Bool) :=
 (spec_Cut s_).bind fun r1 =>
 (spec_TextEvent_c0 s_ r1).bind fun r2 =>
 Lo.elim r2 (fun s1 =>
 (spec_TextEvent_c1 s_ r1).bind fun r6 =>
 (spec_TextEvent_c2 s_ r6).bind fun r9 =>
 Lo.elim r9 (fun s3 =>
 some ((Event.mk r6.1 r6.2.1 r6.2.2), true)) (fun s4 =>
 some ((Event.mk 0 0 []), false))) (fun s2 =>
 some ((Event.mk 0 0 []), false))
theorem spec_TextEvent_ok (s_ : ByteArray) : Pn (fun y => Fn Tryd.prog 17 [(false, E9 s_)] (V.tup [E42 y.1, E4 y.2]) []) (spec_TextEvent s_) := by
  unfold spec_TextEvent
  exact
   Pn.bind (fun r1 h1 =>
   Pn.bind (fun r2 h3 =>
   Pn.lo (fun s1 h4 =>
   Pn.bind (fun r6 h16 =>
   Pn.bind (fun r9 h21 =>
   Pn.lo (fun s3 h22 =>
   Pn.some (Fn.of [.call [] (E65 r1) [], .wait 2, .mask [0, 2, 4], .ren [0, 1], .join 7 (X.go) (st 60 [(0, V.sc (.string s_)), (2, V.ptr 0 0), (4, V.ow 1)] [Blk.box 42 [V.sc (.int .i64 0), V.sc (.int .i64 0), V.nl 5], Blk.row 9 (List.map E9 r1) []] []), .wait 4, .mask [0, 2, 4, 5], .ren [0, 1, 2], .ownb 2 2, .mask [0, 2, 4, 5], .ren [0, 1, 2, 3], .join 22 (X.go) (st 60 [(0, V.sc (.string s_)), (2, V.ptr 0 0), (5, V.ptr 1 0)] [Blk.box 42 [V.sc (.int .i64 0), V.sc (.int .i64 0), V.nl 5], Blk.box 42 [V.sc (.int .i64 r6.1), V.sc (.int .i64 r6.2.1), V.ow 2], Blk.row 5 (List.map E5 r6.2.2) []] []), .wait 1, .mask [0, 2, 5], .ren [0, 1, 2], .join 7 (X.go) (st 60 [(2, V.ptr 0 0), (5, V.ptr 1 0)] [Blk.box 42 [V.sc (.int .i64 0), V.sc (.int .i64 0), V.nl 5], Blk.box 42 [V.sc (.int .i64 r6.1), V.sc (.int .i64 r6.2.1), V.ow 2], Blk.row 5 (List.map E5 r6.2.2) []] [])] (p := [Fn Tryd.prog 48 [(false, E9 s_)] (E65 r1) [],
    (true || ((E65 r1).nv && nvL [])) = true,
    HT Tryd.prog (sub (codeOf Tryd.prog 17) [1, 1, 0]) (st 60 [(0, V.sc (.string s_)), (2, V.ptr 0 0), (4, V.ow 1)] [Blk.box 42 [V.sc (.int .i64 0), V.sc (.int .i64 0), V.nl 5], Blk.row 9 (List.map E9 r1) []] []) (X.go) (st 60 [(0, V.sc (.string s_)), (2, V.ptr 0 0), (4, V.ow 1)] [Blk.box 42 [V.sc (.int .i64 0), V.sc (.int .i64 0), V.nl 5], Blk.row 9 (List.map E9 r1) []] []),
    HT Tryd.prog (sub (codeOf Tryd.prog 17) [1, 1, 1, 1, 0]) (st 60 [(0, V.sc (.string s_)), (2, V.ptr 0 0), (4, V.ow 1), (5, V.ptr 2 0)] [Blk.box 42 [V.sc (.int .i64 0), V.sc (.int .i64 0), V.nl 5], Blk.row 9 (List.map E9 r1) [], Blk.box 42 [V.sc (.int .i64 0), V.sc (.int .i64 0), V.ow 3], Blk.row 5 ([] : List V) []] []) (X.go) (st 60 [(0, V.sc (.string s_)), (2, V.ptr 0 0), (5, V.ptr 1 0)] [Blk.box 42 [V.sc (.int .i64 0), V.sc (.int .i64 0), V.nl 5], Blk.box 42 [V.sc (.int .i64 r6.1), V.sc (.int .i64 r6.2.1), V.ow 2], Blk.row 5 (List.map E5 r6.2.2) []] []),
    HT Tryd.prog (sub (codeOf Tryd.prog 17) [1, 1, 1, 1, 1, 0]) (st 60 [(0, V.sc (.string s_)), (2, V.ptr 0 0), (5, V.ptr 1 0)] [Blk.box 42 [V.sc (.int .i64 0), V.sc (.int .i64 0), V.nl 5], Blk.box 42 [V.sc (.int .i64 r6.1), V.sc (.int .i64 r6.2.1), V.ow 2], Blk.row 5 (List.map E5 r6.2.2) []] []) (X.go) (st 60 [(2, V.ptr 0 0), (5, V.ptr 1 0)] [Blk.box 42 [V.sc (.int .i64 0), V.sc (.int .i64 0), V.nl 5], Blk.box 42 [V.sc (.int .i64 r6.1), V.sc (.int .i64 r6.2.1), V.ow 2], Blk.row 5 (List.map E5 r6.2.2) []] [])]) (by kernel_rfl) (cj (spec_Cut_ok s_ r1 h1) (cj rfl (cj ((spec_TextEvent_c0_ok s_ r1 r2 h3).at h4) (cj (spec_TextEvent_c1_ok s_ r1 r6 h16) (cj1 ((spec_TextEvent_c2_ok s_ r6 r9 h21).at h22)))))))) (fun s4 h23 =>
   Pn.some (Fn.of [.call [] (E65 r1) [], .wait 2, .mask [0, 2, 4], .ren [0, 1], .join 7 (X.go) (st 60 [(0, V.sc (.string s_)), (2, V.ptr 0 0), (4, V.ow 1)] [Blk.box 42 [V.sc (.int .i64 0), V.sc (.int .i64 0), V.nl 5], Blk.row 9 (List.map E9 r1) []] []), .wait 4, .mask [0, 2, 4, 5], .ren [0, 1, 2], .ownb 2 2, .mask [0, 2, 4, 5], .ren [0, 1, 2, 3], .join 22 (X.go) (st 60 [(0, V.sc (.string s_)), (2, V.ptr 0 0), (5, V.ptr 1 0)] [Blk.box 42 [V.sc (.int .i64 0), V.sc (.int .i64 0), V.nl 5], Blk.box 42 [V.sc (.int .i64 r6.1), V.sc (.int .i64 r6.2.1), V.ow 2], Blk.row 5 (List.map E5 r6.2.2) []] []), .wait 1, .mask [0, 2, 5], .ren [0, 1, 2], .join 7 (X.ret) (st 60 [(2, V.ptr 0 0), (3, V.sc (.bool false))] [Blk.box 42 [V.sc (.int .i64 0), V.sc (.int .i64 0), V.nl 5]] [])] (p := [Fn Tryd.prog 48 [(false, E9 s_)] (E65 r1) [],
    (true || ((E65 r1).nv && nvL [])) = true,
    HT Tryd.prog (sub (codeOf Tryd.prog 17) [1, 1, 0]) (st 60 [(0, V.sc (.string s_)), (2, V.ptr 0 0), (4, V.ow 1)] [Blk.box 42 [V.sc (.int .i64 0), V.sc (.int .i64 0), V.nl 5], Blk.row 9 (List.map E9 r1) []] []) (X.go) (st 60 [(0, V.sc (.string s_)), (2, V.ptr 0 0), (4, V.ow 1)] [Blk.box 42 [V.sc (.int .i64 0), V.sc (.int .i64 0), V.nl 5], Blk.row 9 (List.map E9 r1) []] []),
    HT Tryd.prog (sub (codeOf Tryd.prog 17) [1, 1, 1, 1, 0]) (st 60 [(0, V.sc (.string s_)), (2, V.ptr 0 0), (4, V.ow 1), (5, V.ptr 2 0)] [Blk.box 42 [V.sc (.int .i64 0), V.sc (.int .i64 0), V.nl 5], Blk.row 9 (List.map E9 r1) [], Blk.box 42 [V.sc (.int .i64 0), V.sc (.int .i64 0), V.ow 3], Blk.row 5 ([] : List V) []] []) (X.go) (st 60 [(0, V.sc (.string s_)), (2, V.ptr 0 0), (5, V.ptr 1 0)] [Blk.box 42 [V.sc (.int .i64 0), V.sc (.int .i64 0), V.nl 5], Blk.box 42 [V.sc (.int .i64 r6.1), V.sc (.int .i64 r6.2.1), V.ow 2], Blk.row 5 (List.map E5 r6.2.2) []] []),
    HT Tryd.prog (sub (codeOf Tryd.prog 17) [1, 1, 1, 1, 1, 0]) (st 60 [(0, V.sc (.string s_)), (2, V.ptr 0 0), (5, V.ptr 1 0)] [Blk.box 42 [V.sc (.int .i64 0), V.sc (.int .i64 0), V.nl 5], Blk.box 42 [V.sc (.int .i64 r6.1), V.sc (.int .i64 r6.2.1), V.ow 2], Blk.row 5 (List.map E5 r6.2.2) []] []) (X.ret) (st 60 [(2, V.ptr 0 0), (3, V.sc (.bool false))] [Blk.box 42 [V.sc (.int .i64 0), V.sc (.int .i64 0), V.nl 5]] [])]) (by kernel_rfl) (cj (spec_Cut_ok s_ r1 h1) (cj rfl (cj ((spec_TextEvent_c0_ok s_ r1 r2 h3).at h4) (cj (spec_TextEvent_c1_ok s_ r1 r6 h16) (cj1 ((spec_TextEvent_c2_ok s_ r6 r9 h21).at h23))))))))))) (fun s2 h5 =>
   Pn.some (Fn.of [.call [] (E65 r1) [], .wait 2, .mask [0, 2, 4], .ren [0, 1], .join 7 (X.ret) (st 60 [(2, V.ptr 0 0), (3, V.sc (.bool false))] [Blk.box 42 [V.sc (.int .i64 0), V.sc (.int .i64 0), V.nl 5]] [])] (p := [Fn Tryd.prog 48 [(false, E9 s_)] (E65 r1) [],
    (true || ((E65 r1).nv && nvL [])) = true,
    HT Tryd.prog (sub (codeOf Tryd.prog 17) [1, 1, 0]) (st 60 [(0, V.sc (.string s_)), (2, V.ptr 0 0), (4, V.ow 1)] [Blk.box 42 [V.sc (.int .i64 0), V.sc (.int .i64 0), V.nl 5], Blk.row 9 (List.map E9 r1) []] []) (X.ret) (st 60 [(2, V.ptr 0 0), (3, V.sc (.bool false))] [Blk.box 42 [V.sc (.int .i64 0), V.sc (.int .i64 0), V.nl 5]] [])]) (by kernel_rfl) (cj (spec_Cut_ok s_ r1 h1) (cj rfl (cj1 ((spec_TextEvent_c0_ok s_ r1 r2 h3).at h5))))))))
def spec_ReadEvents_l0 (r1 : (List ByteArray)) : List ByteArray → List ByteArray → (List Event) → Option (Lo ((List Event)) Int)
  | [], p1, v1 =>
   some (.out v1)
  | x1 :: t1, p1, v1 =>
   if (x1 == (bs [])) = true then
   spec_ReadEvents_l0 r1 t1 (p1 ++ [x1]) v1
   else
   if (decide (0 ≤ 0)) = true then
   if (decide ((0 : Int) < (x1.size : Int))) = true then
   if ((sAt x1 0) == 35) = true then
   spec_ReadEvents_l0 r1 t1 (p1 ++ [x1]) v1
   else
   (spec_TextEvent x1).bind fun r2 =>
   if r2.2 = true then
   if (capOk (v1.length + 1)) = true then
   spec_ReadEvents_l0 r1 t1 (p1 ++ [x1]) (v1 ++ [r2.1])
   else none
   else
   some (.ret (i64 ((p1.length : Int) + 1)))
   else none
   else none
theorem spec_ReadEvents_l0_ok (r1 : (List ByteArray)) (h3 : capOk r1.length = true) : ∀ (t1 p1 : List ByteArray) (_ : r1 = p1 ++ t1) (v1 : List Event), Pn (LpO Tryd.prog (sub (codeOf Tryd.prog 22) [1, 1, 0, 1, 0, 0]) (st 40 [(4, V.ow 0), (11, V.ow 1), (12, V.sc (.int .i64 (r1.length : Int))), (13, V.sc (.int .i64 (p1.length : Int)))] [Blk.row 42 (List.map E42 v1) [], Blk.row 9 (List.map E9 r1) []] []) (fun (y : Lo ((List Event)) Int) => Lo.elim y (fun s => (X.out 0, st 40 [(4, V.ow 0)] [Blk.row 42 (List.map E42 s) []] [])) (fun s => (X.ret, st 40 [(2, V.nl 42), (3, V.sc (.int .i64 s))] [] [])))) (spec_ReadEvents_l0 r1 t1 p1 v1)
  | [], p1, h2, v1 => by
    unfold spec_ReadEvents_l0
    exact
     Pn.some (LpO.out [.bit false, .mask [4], .ren [0]] (p := [(decide ((p1.length : Int) < (r1.length : Int))) = false]) (by kernel_rfl) (show X.out 0 ≠ X.go from nofun) (cj1 (rng_end h2)))
  | x1 :: t1, p1, h2, v1 => by
    unfold spec_ReadEvents_l0
    exact
     Pn.ite (fun h4 =>
     LpO.go [.bit true, .el (E9 x1), .bit true, .bit true, .bit true, .bit true, .bit true, .wait 2, .mask [4, 11, 12, 13], .ren [0, 1], .nm 13 (V.sc (.int .i64 ((p1 ++ [x1]).length : Int)))] (p := [(decide ((p1.length : Int) < (r1.length : Int))) = true,
      (0 : Int) ≤ (p1.length : Int),
      ((p1.length : Int) : Int) < ((List.map E9 r1).length : Int),
      look [] ((p1.length : Int).toNat) = none,
      (List.map E9 r1)[(p1.length : Int).toNat]? = some (E9 x1),
      (x1 == (bs [])) = true,
      (x1 == (bs [])) = true,
      (x1 == (bs [])) = true,
      (x1 == (bs [])) = true,
      true = true,
      V.sc (.int .i64 (i64 ((p1.length : Int) + 1))) = V.sc (.int .i64 ((p1 ++ [x1]).length : Int))]) (by kernel_rfl) (cj (rng_lt h2) (cj (by omega) (cj (rng_ltI _ h2) (cj rfl (cj (rng_get _ h2) (cj h4 (cj h4 (cj h4 (cj h4 (cj rfl (cj1 (rng_next h2 h3)))))))))))) (spec_ReadEvents_l0_ok r1 h3 t1 (p1 ++ [x1]) (rng_step h2) v1)) (fun h4 =>
     Pn.ite (fun h5 =>
     Pn.ite (fun h6 =>
     Pn.ite (fun h7 =>
     LpO.go [.bit true, .el (E9 x1), .bit false, .bit false, .bit false, .bit false, .bit true, .wait 2, .mask [4, 11, 12, 13], .ren [0, 1], .nm 13 (V.sc (.int .i64 ((p1 ++ [x1]).length : Int)))] (p := [(decide ((p1.length : Int) < (r1.length : Int))) = true,
      (0 : Int) ≤ (p1.length : Int),
      ((p1.length : Int) : Int) < ((List.map E9 r1).length : Int),
      look [] ((p1.length : Int).toNat) = none,
      (List.map E9 r1)[(p1.length : Int).toNat]? = some (E9 x1),
      (x1 == (bs [])) = false,
      (x1 == (bs [])) = false,
      (0 : Int) ≤ 0,
      (0 : Int) < x1.size,
      (x1 == (bs [])) = false,
      (x1 == (bs [])) = false,
      ((sAt x1 0) == 35) = true,
      V.sc (.int .i64 (i64 ((p1.length : Int) + 1))) = V.sc (.int .i64 ((p1 ++ [x1]).length : Int))]) (by kernel_rfl) (cj (rng_lt h2) (cj (by omega) (cj (rng_ltI _ h2) (cj rfl (cj (rng_get _ h2) (cj h4 (cj h4 (cj (od h5) (cj (od h6) (cj h4 (cj h4 (cj h7 (cj1 (rng_next h2 h3)))))))))))))) (spec_ReadEvents_l0_ok r1 h3 t1 (p1 ++ [x1]) (rng_step h2) v1)) (fun h7 =>
     Pn.bind (fun r2 h8 =>
     Pn.ite (fun h9 =>
     Pn.ite (fun h10 =>
     LpO.go [.bit true, .el (E9 x1), .bit false, .bit false, .bit false, .bit false, .bit false, .call [] (V.tup [E42 r2.1, E4 r2.2]) [], .bit false, .wait 2, .shut 4, .mv, .nb 5 (.row 42 (List.map E42 (v1 ++ [r2.1])) []), .wait 4, .mask [4, 11, 12, 13], .ren [5, 1], .nm 13 (V.sc (.int .i64 ((p1 ++ [x1]).length : Int)))] (p := [(decide ((p1.length : Int) < (r1.length : Int))) = true,
      (0 : Int) ≤ (p1.length : Int),
      ((p1.length : Int) : Int) < ((List.map E9 r1).length : Int),
      look [] ((p1.length : Int).toNat) = none,
      (List.map E9 r1)[(p1.length : Int).toNat]? = some (E9 x1),
      (x1 == (bs [])) = false,
      (x1 == (bs [])) = false,
      (0 : Int) ≤ 0,
      (0 : Int) < x1.size,
      (x1 == (bs [])) = false,
      (x1 == (bs [])) = false,
      ((sAt x1 0) == 35) = false,
      Fn Tryd.prog 17 [(false, E9 x1)] (V.tup [E42 r2.1, E4 r2.2]) [],
      (true || ((V.tup [E42 r2.1, E4 r2.2]).nv && nvL [])) = true,
      (!r2.2) = false,
      (List.map E42 v1).length + [V.agg [V.sc (.int .i64 r2.1.Kind), V.sc (.int .i64 r2.1.K), V.sl true 5 (List.map E5 r2.1.Data)]].length ≤ 9223372036854775807,
      ((List.map E42 v1).length + [V.agg [V.sc (.int .i64 r2.1.Kind), V.sc (.int .i64 r2.1.K), V.sl true 5 (List.map E5 r2.1.Data)]].length) * 40 ≤ 140737488355328,
      Blk.row 42 ((List.map E42 v1) ++ [V.agg [V.sc (.int .i64 r2.1.Kind), V.sc (.int .i64 r2.1.K), V.sl true 5 (List.map E5 r2.1.Data)]]) [] = Blk.row 42 (List.map E42 (v1 ++ [r2.1])) [],
      V.sc (.int .i64 (i64 ((p1.length : Int) + 1))) = V.sc (.int .i64 ((p1 ++ [x1]).length : Int))]) (by kernel_rfl) (cj (rng_lt h2) (cj (by omega) (cj (rng_ltI _ h2) (cj rfl (cj (rng_get _ h2) (cj h4 (cj h4 (cj (od h5) (cj (od h6) (cj h4 (cj h4 (cj h7 (cj (spec_TextEvent_ok x1 r2 h8) (cj rfl (cj (nf h9) (cj (cap1 (capN (by simp) h10)) (cj (cap2 (capN (by simp) h10) (by decide)) (cj (nb_app E42 v1 [r2.1]) (cj1 (rng_next h2 h3)))))))))))))))))))) (spec_ReadEvents_l0_ok r1 h3 t1 (p1 ++ [x1]) (rng_step h2) (v1 ++ [r2.1]))) (fun h10 =>
     Pn.none)) (fun h9 =>
     Pn.some (LpO.out [.bit true, .el (E9 x1), .bit false, .bit false, .bit false, .bit false, .bit false, .call [] (V.tup [E42 r2.1, E4 r2.2]) [], .bit true, .wait 4, .mask [2, 3], .ren []] (p := [(decide ((p1.length : Int) < (r1.length : Int))) = true,
      (0 : Int) ≤ (p1.length : Int),
      ((p1.length : Int) : Int) < ((List.map E9 r1).length : Int),
      look [] ((p1.length : Int).toNat) = none,
      (List.map E9 r1)[(p1.length : Int).toNat]? = some (E9 x1),
      (x1 == (bs [])) = false,
      (x1 == (bs [])) = false,
      (0 : Int) ≤ 0,
      (0 : Int) < x1.size,
      (x1 == (bs [])) = false,
      (x1 == (bs [])) = false,
      ((sAt x1 0) == 35) = false,
      Fn Tryd.prog 17 [(false, E9 x1)] (V.tup [E42 r2.1, E4 r2.2]) [],
      (true || ((V.tup [E42 r2.1, E4 r2.2]).nv && nvL [])) = true,
      (!r2.2) = true]) (by kernel_rfl) (show X.ret ≠ X.go from nofun) (cj (rng_lt h2) (cj (by omega) (cj (rng_ltI _ h2) (cj rfl (cj (rng_get _ h2) (cj h4 (cj h4 (cj (od h5) (cj (od h6) (cj h4 (cj h4 (cj h7 (cj (spec_TextEvent_ok x1 r2 h8) (cj rfl (cj1 (nt h9))))))))))))))))))))) (fun h6 =>
     Pn.none)) (fun h5 =>
     Pn.none))
def spec_ReadEvents (s_ : ByteArray) : Option ((List Event) × Int) :=
 (spec_Lines s_).bind fun r1 =>
 if (capOk r1.length) = true then
 (spec_ReadEvents_l0 r1 r1 [] []).bind fun r3 =>
 Lo.elim r3 (fun s1 =>
 some (s1, 0)) (fun s2 =>
 some ([], s2))
 else none
theorem spec_ReadEvents_ok (s_ : ByteArray) : Pn (fun y => Fn Tryd.prog 22 [(false, E9 s_)] (V.tup [E48 y.1, E3 y.2]) []) (spec_ReadEvents s_) := by
  unfold spec_ReadEvents
  exact
   Pn.bind (fun r1 h1 =>
   Pn.ite (fun h11 =>
   Pn.bind (fun r3 h12 =>
   Pn.lo (fun s1 h13 =>
   Pn.some (Fn.of [.call [] (E65 r1) [], .wait 1, .nm 12 (V.sc (.int .i64 (r1.length : Int))), .wait 2, .mask [4, 11, 12, 13], .ren [0, 1], .loop (X.out 0) (st 40 [(4, V.ow 0)] [Blk.row 42 (List.map E42 s1) []] [])] (p := [Fn Tryd.prog 59 [(false, E9 s_)] (E65 r1) [],
    (true || ((E65 r1).nv && nvL [])) = true,
    V.sc (.int .i64 ((List.map E9 r1).length : Int)) = V.sc (.int .i64 (r1.length : Int)),
    Loop Tryd.prog (sub (codeOf Tryd.prog 22) [1, 1, 0, 1, 0, 0]) (st 40 [(4, V.ow 0), (11, V.ow 1), (12, V.sc (.int .i64 (r1.length : Int))), (13, V.sc (.int .i64 0))] [Blk.row 42 ([] : List V) [], Blk.row 9 (List.map E9 r1) []] []) (X.out 0) (st 40 [(4, V.ow 0)] [Blk.row 42 (List.map E42 s1) []] [])]) (by kernel_rfl) (cj (spec_Lines_ok s_ r1 h1) (cj rfl (cj (len_nm _ _) (cj1 ((spec_ReadEvents_l0_ok r1 h11 r1 [] rfl [] r3 h12).at h13))))))) (fun s2 h14 =>
   Pn.some (Fn.of [.call [] (E65 r1) [], .wait 1, .nm 12 (V.sc (.int .i64 (r1.length : Int))), .wait 2, .mask [4, 11, 12, 13], .ren [0, 1], .loop (X.ret) (st 40 [(2, V.nl 42), (3, V.sc (.int .i64 s2))] [] [])] (p := [Fn Tryd.prog 59 [(false, E9 s_)] (E65 r1) [],
    (true || ((E65 r1).nv && nvL [])) = true,
    V.sc (.int .i64 ((List.map E9 r1).length : Int)) = V.sc (.int .i64 (r1.length : Int)),
    Loop Tryd.prog (sub (codeOf Tryd.prog 22) [1, 1, 0, 1, 0, 0]) (st 40 [(4, V.ow 0), (11, V.ow 1), (12, V.sc (.int .i64 (r1.length : Int))), (13, V.sc (.int .i64 0))] [Blk.row 42 ([] : List V) [], Blk.row 9 (List.map E9 r1) []] []) (X.ret) (st 40 [(2, V.nl 42), (3, V.sc (.int .i64 s2))] [] [])]) (by kernel_rfl) (cj (spec_Lines_ok s_ r1 h1) (cj rfl (cj (len_nm _ _) (cj1 ((spec_ReadEvents_l0_ok r1 h11 r1 [] rfl [] r3 h12).at h14))))))))) (fun h11 =>
   Pn.none))
def strings_Split (s_ : ByteArray) (sep : ByteArray) : Option (List ByteArray) := if (decide (s_.size < 4294967281) && decide (1 ≤ sep.size) && decide ((splitP s_ sep).length ≤ 9223372036854775807)) = true then some (splitP s_ sep) else none
theorem strings_Split_ok (s_ : ByteArray) (sep : ByteArray) : Pn (fun y => Fn Tryd.prog 105 [(false, E9 s_), (false, E9 sep)] (E65 y) []) (strings_Split s_ sep) := by
  unfold strings_Split
  exact Pn.ite (fun h => Pn.some (by
    simp only [Bool.and_eq_true, decide_eq_true_eq] at h
    exact Fn.strs (e := 9) [(.string s_), (.string sep)] (by kernel_rfl) (by kernel_rfl) h.2 (fun w hw => by
      obtain ⟨mv, hm, mz, rfl⟩ := glob_cell hw (b := 0) (List.Mem.tail _ (List.Mem.head _)) (v := fun u => ∃ z, u = Value.int .i64 z) (fun cs ⟨z, hz⟩ => ⟨_, hz, z, rfl⟩)
      have hl : Lib.countB s_ sep + 1 = (splitP s_ sep).length := (Lib.splitB_all sep h.1.2 0 _ s_ rfl).symm
      rw [← hl]
      exact Go.Proofs.Any.strings_Split Tryd.lays146 (by kernel_rfl) s_ sep mz w (by omega) hm h.1.2))) (fun _ => Pn.none)
def impl_Lines (s_ : ByteArray) : Option ((List ByteArray)) :=
 (strings_Split s_ (bs [10])).bind fun r1 =>
 if (decide (0 ≤ (i64 ((r1.length : Int) - 1)))) = true then
 (r1[(i64 ((r1.length : Int) - 1)).toNat]?).bind fun x1 =>
 if (x1 == (bs [])) = true then
 if (decide ((i64 ((r1.length : Int) - 1)) ≤ (r1.length : Int))) = true then
 some (r1.take ((i64 ((r1.length : Int) - 1)).toNat))
 else none
 else
 some r1
 else none
theorem impl_Lines_ok (s_ : ByteArray) : Pn (fun y => Fn Tryd.prog 60 [(false, E9 s_)] (E65 y) []) (impl_Lines s_) := by
  unfold impl_Lines
  exact
   Pn.bind (fun r1 h1 =>
   Pn.ite (fun h2 =>
   Pn.bind (fun x1 h3 =>
   Pn.ite (fun h4 =>
   Pn.ite (fun h5 =>
   Pn.some (Fn.as (res := V.sl true 9 ((List.map E9 r1).take ((i64 ((r1.length : Int) - 1)).toNat))) (sb_take _ _ _) rfl (Fn.of [.call [] (E65 r1) [], .wait 4, .nm 8 (V.sc (.int .i64 (r1.length : Int))), .el (E9 x1), .bit true, .wait 2, .nm 15 (V.sc (.int .i64 (r1.length : Int)))] (p := [Fn Tryd.prog 105 [(false, E9 s_), (false, E9 (bs [10]))] (E65 r1) [],
    (true || ((E65 r1).nv && nvL [])) = true,
    V.sc (.int .i64 ((List.map E9 r1).length : Int)) = V.sc (.int .i64 (r1.length : Int)),
    (0 : Int) ≤ (i64 ((r1.length : Int) - 1)),
    ((i64 ((r1.length : Int) - 1)) : Int) < ((List.map E9 r1).length : Int),
    look [] ((i64 ((r1.length : Int) - 1)).toNat) = none,
    (List.map E9 r1)[(i64 ((r1.length : Int) - 1)).toNat]? = some (E9 x1),
    (x1 == (bs [])) = true,
    V.sc (.int .i64 ((List.map E9 r1).length : Int)) = V.sc (.int .i64 (r1.length : Int)),
    (0 : Int) ≤ 0,
    (0 : Int) ≤ (i64 ((r1.length : Int) - 1)),
    ((i64 ((r1.length : Int) - 1)) : Int) ≤ ((List.map E9 r1).length : Int)]) (by kernel_rfl) (cj (strings_Split_ok s_ (bs [10]) r1 h1) (cj rfl (cj (len_nm _ _) (cj (od h2) (cj (map_ltN (od h2) h3) (cj rfl (cj (map_get h3) (cj h4 (cj (len_nm _ _) (cj (by decide) (cj (od h2) (cj1 (by rw [List.length_map]; exact (od h5))))))))))))))))) (fun h5 =>
   Pn.none)) (fun h4 =>
   Pn.some (Fn.of [.call [] (E65 r1) [], .wait 4, .nm 8 (V.sc (.int .i64 (r1.length : Int))), .el (E9 x1), .bit false] (p := [Fn Tryd.prog 105 [(false, E9 s_), (false, E9 (bs [10]))] (E65 r1) [],
    (true || ((E65 r1).nv && nvL [])) = true,
    V.sc (.int .i64 ((List.map E9 r1).length : Int)) = V.sc (.int .i64 (r1.length : Int)),
    (0 : Int) ≤ (i64 ((r1.length : Int) - 1)),
    ((i64 ((r1.length : Int) - 1)) : Int) < ((List.map E9 r1).length : Int),
    look [] ((i64 ((r1.length : Int) - 1)).toNat) = none,
    (List.map E9 r1)[(i64 ((r1.length : Int) - 1)).toNat]? = some (E9 x1),
    (x1 == (bs [])) = false]) (by kernel_rfl) (cj (strings_Split_ok s_ (bs [10]) r1 h1) (cj rfl (cj (len_nm _ _) (cj (od h2) (cj (map_ltN (od h2) h3) (cj rfl (cj (map_get h3) (cj1 h4)))))))))))) (fun h2 =>
   Pn.none))
def strings_Cut (s_ : ByteArray) (sep : ByteArray) : Option (ByteArray × ByteArray × Bool) := if (decide (s_.size < 4294967281)) = true then some (cutP s_ sep) else none
theorem strings_Cut_ok (s_ : ByteArray) (sep : ByteArray) : Pn (fun y => Fn Tryd.prog 52 [(false, E9 s_), (false, E9 sep)] (V.tup [E9 y.1, E9 y.2.1, E4 y.2.2]) []) (strings_Cut s_ sep) := by
  unfold strings_Cut
  exact Pn.ite (fun h => Pn.some (by
    simp only [Bool.and_eq_true, decide_eq_true_eq] at h
    exact Fn.flats [(.string s_), (.string sep)] (by kernel_rfl) rfl (fun w hw => by
      obtain ⟨mv, hm, mz, rfl⟩ := glob_cell hw (b := 0) (List.Mem.tail _ (List.Mem.head _)) (v := fun u => ∃ z, u = Value.int .i64 z) (fun cs ⟨z, hz⟩ => ⟨_, hz, z, rfl⟩)
      exact (Go.Proofs.Any.strings_Cut Tryd.lays145 s_ sep mz w (by omega) hm).mono fun e w2 ⟨h1, n, h2⟩ => ⟨h1, h2 ▸ below_drewN w n⟩))) (fun _ => Pn.none)
def strings_IndexByte (s_ : ByteArray) (c : Int) : Option (Int) := if (true) = true then some (idxbP s_ c) else none
theorem strings_IndexByte_ok (s_ : ByteArray) (c : Int) : Pn (fun y => Fn Tryd.prog 101 [(false, E9 s_), (false, E5 c)] (E3 y) []) (strings_IndexByte s_ c) := by
  unfold strings_IndexByte
  exact Pn.ite (fun h => Pn.some (by
    simp only [Bool.and_eq_true, decide_eq_true_eq] at h
    exact Fn.flat [(.string s_), (.int .u8 c)] (by kernel_rfl) rfl (fun w hw => by
      exact (Go.Proofs.Any.strings_IndexByte Tryd.lays137 s_ c w).mono fun e w2 ⟨h1, h2⟩ => ⟨h1, h2 ▸ Below.refl _ _⟩))) (fun _ => Pn.none)
def impl_TextHex_l0 (s_ : ByteArray) : Nat → Int → (List Int) → Option (Lo ((List Int)) Unit)
  | 0, _, _ => none
  | fuel + 1, v1, v2 =>
   if (decide (v1 < (s_.size : Int))) = true then
   if (decide (0 ≤ v1)) = true then
   if (decide ((v1 : Int) < (s_.size : Int))) = true then
   if (decide (0 ≤ i64 (v1 + 1))) = true then
   if (decide ((i64 (v1 + 1) : Int) < (s_.size : Int))) = true then
   (strings_IndexByte (bs [48, 49, 50, 51, 52, 53, 54, 55, 56, 57, 97, 98, 99, 100, 101, 102]) (sAt s_ v1)).bind fun r1 =>
   (strings_IndexByte (bs [48, 49, 50, 51, 52, 53, 54, 55, 56, 57, 97, 98, 99, 100, 101, 102]) (sAt s_ (i64 (v1 + 1)))).bind fun r2 =>
   if (decide (r1 < 0)) = true then
   some (.ret ())
   else
   if (decide (r2 < 0)) = true then
   some (.ret ())
   else
   if (capOk (v2.length + 1)) = true then
   impl_TextHex_l0 s_ fuel (i64 (v1 + 2)) (v2 ++ [u8 (i64 ((i64 (16 * r1)) + r2))])
   else none
   else none
   else none
   else none
   else none
   else
   some (.out v2)
theorem impl_TextHex_l0_ok (s_ : ByteArray) : ∀ (fuel : Nat) (v1 : Int) (v2 : List Int), Pn (LpO Tryd.prog (sub (codeOf Tryd.prog 53) [1, 1, 1, 0, 1, 0, 0]) (st 43 [(0, V.sc (.string s_)), (4, V.ow 0), (5, V.sc (.int .i64 v1))] [Blk.row 5 (List.map E5 v2) []] []) (fun (y : Lo ((List Int)) Unit) => Lo.elim y (fun s => (X.out 0, st 43 [(4, V.ow 0)] [Blk.row 5 (List.map E5 s) []] [])) (fun s => (X.ret, st 43 [(2, V.nl 5), (3, V.sc (.bool false))] [] [])))) (impl_TextHex_l0 s_ fuel v1 v2)
  | 0, _, _ => Pn.none
  | fuel + 1, v1, v2 => by
    unfold impl_TextHex_l0
    exact
     Pn.ite (fun h2 =>
     Pn.ite (fun h3 =>
     Pn.ite (fun h4 =>
     Pn.ite (fun h5 =>
     Pn.ite (fun h6 =>
     Pn.bind (fun r1 h7 =>
     Pn.bind (fun r2 h8 =>
     Pn.ite (fun h9 =>
     Pn.some (LpO.out [.bit true, .draw [], .call [] (E3 r1) [], .call [] (E3 r2) [], .bit true, .bit true, .bit true, .bit true, .wait 2, .mask [2, 3], .ren []] (p := [(decide (v1 < (s_.size : Int))) = true,
      (0 : Int) ≤ v1,
      (v1 : Int) < s_.size,
      (0 : Int) ≤ i64 (v1 + 1),
      (i64 (v1 + 1) : Int) < s_.size,
      Fn Tryd.prog 101 [(false, E9 (bs [48, 49, 50, 51, 52, 53, 54, 55, 56, 57, 97, 98, 99, 100, 101, 102])), (false, E5 (sAt s_ v1))] (E3 r1) [],
      (true || ((E3 r1).nv && nvL [])) = true,
      Fn Tryd.prog 101 [(false, E9 (bs [48, 49, 50, 51, 52, 53, 54, 55, 56, 57, 97, 98, 99, 100, 101, 102])), (false, E5 (sAt s_ (i64 (v1 + 1))))] (E3 r2) [],
      (true || ((E3 r2).nv && nvL [])) = true,
      (decide (r1 < 0)) = true,
      (decide (r1 < 0)) = true,
      (decide (r1 < 0)) = true,
      true = true]) (by kernel_rfl) (show X.ret ≠ X.go from nofun) (cj h2 (cj (od h3) (cj (od h4) (cj (od h5) (cj (od h6) (cj (strings_IndexByte_ok (bs [48, 49, 50, 51, 52, 53, 54, 55, 56, 57, 97, 98, 99, 100, 101, 102]) (sAt s_ v1) r1 h7) (cj rfl (cj (strings_IndexByte_ok (bs [48, 49, 50, 51, 52, 53, 54, 55, 56, 57, 97, 98, 99, 100, 101, 102]) (sAt s_ (i64 (v1 + 1))) r2 h8) (cj rfl (cj h9 (cj h9 (cj h9 (cj1 rfl))))))))))))))) (fun h9 =>
     Pn.ite (fun h10 =>
     Pn.some (LpO.out [.bit true, .draw [], .call [] (E3 r1) [], .call [] (E3 r2) [], .bit false, .bit false, .bit false, .bit true, .wait 2, .mask [2, 3], .ren []] (p := [(decide (v1 < (s_.size : Int))) = true,
      (0 : Int) ≤ v1,
      (v1 : Int) < s_.size,
      (0 : Int) ≤ i64 (v1 + 1),
      (i64 (v1 + 1) : Int) < s_.size,
      Fn Tryd.prog 101 [(false, E9 (bs [48, 49, 50, 51, 52, 53, 54, 55, 56, 57, 97, 98, 99, 100, 101, 102])), (false, E5 (sAt s_ v1))] (E3 r1) [],
      (true || ((E3 r1).nv && nvL [])) = true,
      Fn Tryd.prog 101 [(false, E9 (bs [48, 49, 50, 51, 52, 53, 54, 55, 56, 57, 97, 98, 99, 100, 101, 102])), (false, E5 (sAt s_ (i64 (v1 + 1))))] (E3 r2) [],
      (true || ((E3 r2).nv && nvL [])) = true,
      (decide (r1 < 0)) = false,
      (decide (r1 < 0)) = false,
      (decide (r1 < 0)) = false,
      (decide (r2 < 0)) = true]) (by kernel_rfl) (show X.ret ≠ X.go from nofun) (cj h2 (cj (od h3) (cj (od h4) (cj (od h5) (cj (od h6) (cj (strings_IndexByte_ok (bs [48, 49, 50, 51, 52, 53, 54, 55, 56, 57, 97, 98, 99, 100, 101, 102]) (sAt s_ v1) r1 h7) (cj rfl (cj (strings_IndexByte_ok (bs [48, 49, 50, 51, 52, 53, 54, 55, 56, 57, 97, 98, 99, 100, 101, 102]) (sAt s_ (i64 (v1 + 1))) r2 h8) (cj rfl (cj h9 (cj h9 (cj h9 (cj1 h10))))))))))))))) (fun h10 =>
     Pn.ite (fun h11 =>
     LpO.go [.bit true, .draw [], .call [] (E3 r1) [], .call [] (E3 r2) [], .bit false, .bit false, .bit false, .bit false, .cp [V.sc (.int .u8 (u8 (i64 ((i64 (16 * r1)) + r2))))], .nb 2 (.row 5 (List.map E5 (v2 ++ [u8 (i64 ((i64 (16 * r1)) + r2))])) []), .wait 5, .mask [0, 4, 5], .ren [2]] (p := [(decide (v1 < (s_.size : Int))) = true,
      (0 : Int) ≤ v1,
      (v1 : Int) < s_.size,
      (0 : Int) ≤ i64 (v1 + 1),
      (i64 (v1 + 1) : Int) < s_.size,
      Fn Tryd.prog 101 [(false, E9 (bs [48, 49, 50, 51, 52, 53, 54, 55, 56, 57, 97, 98, 99, 100, 101, 102])), (false, E5 (sAt s_ v1))] (E3 r1) [],
      (true || ((E3 r1).nv && nvL [])) = true,
      Fn Tryd.prog 101 [(false, E9 (bs [48, 49, 50, 51, 52, 53, 54, 55, 56, 57, 97, 98, 99, 100, 101, 102])), (false, E5 (sAt s_ (i64 (v1 + 1))))] (E3 r2) [],
      (true || ((E3 r2).nv && nvL [])) = true,
      (decide (r1 < 0)) = false,
      (decide (r1 < 0)) = false,
      (decide (r1 < 0)) = false,
      (decide (r2 < 0)) = false,
      [V.sc (.int .u8 (u8 (i64 ((i64 (16 * r1)) + r2))))] = [V.sc (.int .u8 (u8 (i64 ((i64 (16 * r1)) + r2))))],
      [V.sc (.int .u8 (u8 (i64 ((i64 (16 * r1)) + r2))))].all V.flatE = true,
      (List.map E5 v2).length + [V.sc (.int .u8 (u8 (i64 ((i64 (16 * r1)) + r2))))].length ≤ 9223372036854775807,
      ((List.map E5 v2).length + [V.sc (.int .u8 (u8 (i64 ((i64 (16 * r1)) + r2))))].length) * 1 ≤ 140737488355328,
      Blk.row 5 ((List.map E5 v2) ++ [V.sc (.int .u8 (u8 (i64 ((i64 (16 * r1)) + r2))))]) [] = Blk.row 5 (List.map E5 (v2 ++ [u8 (i64 ((i64 (16 * r1)) + r2))])) []]) (by kernel_rfl) (cj h2 (cj (od h3) (cj (od h4) (cj (od h5) (cj (od h6) (cj (strings_IndexByte_ok (bs [48, 49, 50, 51, 52, 53, 54, 55, 56, 57, 97, 98, 99, 100, 101, 102]) (sAt s_ v1) r1 h7) (cj rfl (cj (strings_IndexByte_ok (bs [48, 49, 50, 51, 52, 53, 54, 55, 56, 57, 97, 98, 99, 100, 101, 102]) (sAt s_ (i64 (v1 + 1))) r2 h8) (cj rfl (cj h9 (cj h9 (cj h9 (cj h10 (cj rfl (cj rfl (cj (cap1 (capN (by simp) h11)) (cj (cap2 (capN (by simp) h11) (by decide)) (cj1 (nb_app E5 v2 [u8 (i64 ((i64 (16 * r1)) + r2))]))))))))))))))))))) (impl_TextHex_l0_ok s_ fuel (i64 (v1 + 2)) (v2 ++ [u8 (i64 ((i64 (16 * r1)) + r2))]))) (fun h11 =>
     Pn.none)))))) (fun h6 =>
     Pn.none)) (fun h5 =>
     Pn.none)) (fun h4 =>
     Pn.none)) (fun h3 =>
     Pn.none)) (fun h2 =>
     Pn.some (LpO.out [.bit false, .mask [4], .ren [0]] (p := [(decide (v1 < (s_.size : Int))) = false]) (by kernel_rfl) (show X.out 0 ≠ X.go from nofun) (cj1 h2)))
def impl_TextHex (s_ : ByteArray) : Option ((List Int) × Bool) :=
 if ((Int.tmod (s_.size : Int) 2) == 1) = true then
 some ([], false)
 else
 (impl_TextHex_l0 s_ FUEL 0 []).bind fun r3 =>
 Lo.elim r3 (fun s1 =>
 some (s1, true)) (fun s2 =>
 some ([], false))
theorem impl_TextHex_ok (s_ : ByteArray) : Pn (fun y => Fn Tryd.prog 53 [(false, E9 s_)] (V.tup [E40 y.1, E4 y.2]) []) (impl_TextHex s_) := by
  unfold impl_TextHex
  exact
   Pn.ite (fun h1 =>
   Pn.some (Fn.of [.bit true] (p := [(2 : Int) ≠ 0,
    ((Int.tmod (s_.size : Int) 2) == 1) = true]) (by kernel_rfl) (cj (by decide) (cj1 h1)))) (fun h1 =>
   Pn.bind (fun r3 h12 =>
   Pn.lo (fun s1 h13 =>
   Pn.some (Fn.of [.bit false, .wait 3, .mask [0, 4, 5], .ren [0], .loop (X.out 0) (st 43 [(4, V.ow 0)] [Blk.row 5 (List.map E5 s1) []] [])] (p := [(2 : Int) ≠ 0,
    ((Int.tmod (s_.size : Int) 2) == 1) = false,
    Loop Tryd.prog (sub (codeOf Tryd.prog 53) [1, 1, 1, 0, 1, 0, 0]) (st 43 [(0, V.sc (.string s_)), (4, V.ow 0), (5, V.sc (.int .i64 0))] [Blk.row 5 ([] : List V) []] []) (X.out 0) (st 43 [(4, V.ow 0)] [Blk.row 5 (List.map E5 s1) []] [])]) (by kernel_rfl) (cj (by decide) (cj h1 (cj1 ((impl_TextHex_l0_ok s_ FUEL 0 [] r3 h12).at h13)))))) (fun s2 h14 =>
   Pn.some (Fn.of [.bit false, .wait 3, .mask [0, 4, 5], .ren [0], .loop (X.ret) (st 43 [(2, V.nl 5), (3, V.sc (.bool false))] [] [])] (p := [(2 : Int) ≠ 0,
    ((Int.tmod (s_.size : Int) 2) == 1) = false,
    Loop Tryd.prog (sub (codeOf Tryd.prog 53) [1, 1, 1, 0, 1, 0, 0]) (st 43 [(0, V.sc (.string s_)), (4, V.ow 0), (5, V.sc (.int .i64 0))] [Blk.row 5 ([] : List V) []] []) (X.ret) (st 43 [(2, V.nl 5), (3, V.sc (.bool false))] [] [])]) (by kernel_rfl) (cj (by decide) (cj h1 (cj1 ((impl_TextHex_l0_ok s_ FUEL 0 [] r3 h12).at h14))))))))
def impl_within (n : Int) (low : Int) (high : Int) : Option (Bool) :=
 if (decide (low ≤ n)) = true then
 some (decide (n ≤ high))
 else
 some false
theorem impl_within_ok (n : Int) (low : Int) (high : Int) : Pn (fun y => Fn Tryd.prog 83 [(false, E3 n), (false, E3 low), (false, E3 high)] (E4 y) []) (impl_within n low high) := by
  unfold impl_within
  exact
   Pn.ite (fun h1 =>
   Pn.some (Fn.of [.bit true, .bit true, .bit true, .bit true] (p := [(decide (low ≤ n)) = true,
    (decide (low ≤ n)) = true,
    (decide (low ≤ n)) = true,
    (decide (low ≤ n)) = true]) (by kernel_rfl) (cj h1 (cj h1 (cj h1 (cj1 h1)))))) (fun h1 =>
   Pn.some (Fn.of [.bit false, .bit false, .bit false, .bit false] (p := [(decide (low ≤ n)) = false,
    (decide (low ≤ n)) = false,
    (decide (low ≤ n)) = false,
    (decide (low ≤ n)) = false]) (by kernel_rfl) (cj h1 (cj h1 (cj h1 (cj1 h1))))))
def impl_isMoney (n : Int) : Option (Bool) :=
 (impl_within n 0 4611686018427387904).bind fun r1 =>
 some r1
theorem impl_isMoney_ok (n : Int) : Pn (fun y => Fn Tryd.prog 85 [(false, E3 n)] (E4 y) []) (impl_isMoney n) := by
  unfold impl_isMoney
  exact
   Pn.bind (fun r1 h1 =>
   Pn.some (Fn.of [.call [] (E4 r1) []] (p := [Fn Tryd.prog 83 [(false, E3 n), (false, E3 0), (false, E3 4611686018427387904)] (E4 r1) [],
    (true || ((E4 r1).nv && nvL [])) = true]) (by kernel_rfl) (cj (impl_within_ok n 0 4611686018427387904 r1 h1) (cj1 rfl))))
def strconv_Itoa (i : Int) : Option ByteArray := if (decide (-9223372036854775808 ≤ i) && decide (i ≤ 9223372036854775807)) = true then some ⟨(Lib.itoa i).toArray⟩ else none
theorem strconv_Itoa_ok (i : Int) : Pn (fun y => Fn Tryd.prog 86 [(false, E3 i)] (E9 y) []) (strconv_Itoa i) := by
  unfold strconv_Itoa
  exact Pn.ite (fun h => Pn.some (Fn.flat [.int .i64 i] (by kernel_rfl) rfl fun w hw => by
    simp only [Bool.and_eq_true, decide_eq_true_eq] at h
    obtain ⟨cs, t, z, e1, e2⟩ := hw _ (List.Mem.head _)
    exact (Go.Proofs.Any.strconv_Itoa Tryd.laysM171 i h.1 h.2 w (tab_of (by kernel_rfl) e1 e2)).mono fun e w2 ⟨h1, k, os, h2⟩ => ⟨h1, h2 ▸ Lib.below_grow _ w (Nat.le_refl _) k os⟩)) (fun _ => Pn.none)
def impl_NumText (n : Int) : Option (ByteArray) :=
 (impl_isMoney n).bind fun r1 =>
 if r1 = true then
 (strconv_Itoa n).bind fun r2 =>
 some r2
 else
 some (bs [])
theorem impl_NumText_ok (n : Int) : Pn (fun y => Fn Tryd.prog 40 [(false, E3 n)] (E9 y) []) (impl_NumText n) := by
  unfold impl_NumText
  exact
   Pn.bind (fun r1 h1 =>
   Pn.ite (fun h2 =>
   Pn.bind (fun r2 h3 =>
   Pn.some (Fn.of [.call [] (E4 r1) [], .bit false, .call [] (E9 r2) []] (p := [Fn Tryd.prog 85 [(false, E3 n)] (E4 r1) [],
    (true || ((E4 r1).nv && nvL [])) = true,
    (!r1) = false,
    Fn Tryd.prog 86 [(false, E3 n)] (E9 r2) [],
    (true || ((E9 r2).nv && nvL [])) = true]) (by kernel_rfl) (cj (impl_isMoney_ok n r1 h1) (cj rfl (cj (nf h2) (cj (strconv_Itoa_ok n r2 h3) (cj1 rfl)))))))) (fun h2 =>
   Pn.some (Fn.of [.call [] (E4 r1) [], .bit true] (p := [Fn Tryd.prog 85 [(false, E3 n)] (E4 r1) [],
    (true || ((E4 r1).nv && nvL [])) = true,
    (!r1) = true]) (by kernel_rfl) (cj (impl_isMoney_ok n r1 h1) (cj rfl (cj1 (nt h2)))))))
def impl_TextNum (s_ : ByteArray) : Option (Int × Bool) := if (decide (s_.size ≤ 281474976710656)) = true then (match Lib.atoiAll s_.data.toList with | .ok v => (impl_isMoney v).bind fun r1 => if r1 = true then (impl_NumText v).bind fun r2 => (if (r2 == s_) = true then some (v, true) else some (0, false)) else some (0, false) | _ => some (0, false)) else none
set_option maxHeartbeats 4000000 in
theorem impl_TextNum_ok (s_ : ByteArray) : Pn (fun y => Fn Tryd.prog 54 [(false, E9 s_)] (V.tup [E3 y.1, E4 y.2]) []) (impl_TextNum s_) := by
  unfold impl_TextNum
  refine Pn.ite (fun hz => ?_) (fun _ => Pn.none)
  have hz := of_decide_eq_true hz
  cases hv : Lib.atoiAll s_.data.toList with
  | ok v =>
    refine Pn.bind (fun r1 h1 => ?_)
    have hD := fun w hw => Fn.calls [.int .i64 v] (impl_isMoney_ok v r1 h1) (r := .bool r1) rfl w hw
    have hA := fun w => Go.Proofs.Any.strconv_Atoi_ok Tryd.laysC172 s_ (by omega) v hv w
    refine Pn.ite (fun hr => ?_) (fun hr => ?_)
    · subst hr
      refine Pn.bind (fun r2 h2 => ?_)
      have hK := fun w hw => Fn.calls [.int .i64 v] (impl_NumText_ok v r2 h2) (r := .string r2) rfl w hw
      refine Pn.ite (fun hq => Pn.some (Fn.flats [.string s_] (by kernel_rfl) rfl (rs := [.int .i64 v, .bool true]) (fun w hw => ?_))) (fun hq => Pn.some (Fn.flats [.string s_] (by kernel_rfl) rfl (rs := [.int .i64 0, .bool false]) (fun w hw => ?_)))
      · have hq2 : r2 = s_ := ba_of_beq hq
        subst hq2
        go_enter Tryd.func54, Tryd.ntmps54
        go_wp2_with (go_at_call 102; refine (hA _).mono ?_; rintro e w1 ⟨rfl, hb1⟩)
        have hb1 := below_bytes hb1
        go_wp2_with (go_at_call 85; refine (hD _ (hw.below hb1)).mono ?_; rintro e w2 ⟨rfl, hb2⟩)
        have hb2 := below_then hb1 hb2
        go_wp2_with (go_at_call 40; refine (hK _ (hw.below hb2)).mono ?_; rintro e w3 ⟨rfl, hb3⟩)
        go_wp2
        go_ret2
        exact ⟨rfl, below_then hb2 hb3⟩
      · have hq3 : (r2.toList == s_.toList) = false := by rw [← beq_toListBytes]; exact hq
        go_enter Tryd.func54, Tryd.ntmps54
        go_wp2_with (go_at_call 102; refine (hA _).mono ?_; rintro e w1 ⟨rfl, hb1⟩)
        have hb1 := below_bytes hb1
        go_wp2_with (go_at_call 85; refine (hD _ (hw.below hb1)).mono ?_; rintro e w2 ⟨rfl, hb2⟩)
        have hb2 := below_then hb1 hb2
        go_wp2_with (go_at_call 40; refine (hK _ (hw.below hb2)).mono ?_; rintro e w3 ⟨rfl, hb3⟩)
        go_wp2
        go_ret2
        exact ⟨rfl, below_then hb2 hb3⟩
    · subst hr
      refine Pn.some (Fn.flats [.string s_] (by kernel_rfl) rfl (rs := [.int .i64 0, .bool false]) (fun w hw => ?_))
      go_enter Tryd.func54, Tryd.ntmps54
      go_wp2_with (go_at_call 102; refine (hA _).mono ?_; rintro e w1 ⟨rfl, hb1⟩)
      have hb1 := below_bytes hb1
      go_wp2_with (go_at_call 85; refine (hD _ (hw.below hb1)).mono ?_; rintro e w2 ⟨rfl, hb2⟩)
      go_wp2
      go_ret2
      exact ⟨rfl, below_then hb1 hb2⟩
  | «syntax» =>
    refine Pn.some (Fn.flats [.string s_] (by kernel_rfl) rfl (rs := [.int .i64 0, .bool false]) (fun w hw => ?_))
    obtain ⟨ev, hc, he⟩ := glob_cell hw (b := 3) (List.Mem.tail _ (List.Mem.tail _ (List.Mem.head _))) (v := fun ev => ev = .nilIface ∨ ∃ te pe, ev = .iface te pe) (fun cs h => h)
    have hA := Go.Proofs.Any.strconv_Atoi_syntax Tryd.laysC172 s_ hz hv ev w hc he
    go_enter Tryd.func54, Tryd.ntmps54
    go_wp2_with (go_at_call 102; refine hA.mono ?_; rintro e w1 ⟨M, rfl, _, _, hb1⟩)
    go_wp2
    go_ret2
    exact ⟨rfl, hb1⟩
  | range =>
    refine Pn.some (Fn.flats [.string s_] (by kernel_rfl) rfl (rs := [.int .i64 0, .bool false]) (fun w hw => ?_))
    obtain ⟨ev, hc, he⟩ := glob_cell hw (b := 4) (List.Mem.tail _ (List.Mem.tail _ (List.Mem.tail _ (List.Mem.head _)))) (v := fun ev => ev = .nilIface ∨ ∃ te pe, ev = .iface te pe) (fun cs h => h)
    have hA := Go.Proofs.Any.strconv_Atoi_range Tryd.laysC172 s_ hz hv ev w hc he
    go_enter Tryd.func54, Tryd.ntmps54
    go_wp2_with (go_at_call 102; refine hA.mono ?_; rintro e w1 ⟨M, rfl, _, _, hb1⟩)
    go_wp2
    go_ret2
    exact ⟨rfl, hb1⟩
def impl_EventOk (e : Event) : Option (Bool) :=
 if (e.Kind == 1) = true then
 if (e.K == 0) = true then
 some (decide ((e.Data.length : Int) ≤ 300))
 else
 some false
 else
 if (e.Kind == 2) = true then
 (impl_within e.K 0 11).bind fun r1 =>
 if r1 = true then
 some ((e.Data.length : Int) == 0)
 else
 some false
 else
 if (e.Kind == 3) = true then
 (impl_within e.K 1 1000).bind fun r2 =>
 if r2 = true then
 some ((e.Data.length : Int) == 0)
 else
 some false
 else
 some false
theorem impl_EventOk_ok (e : Event) : Pn (fun y => Fn Tryd.prog 103 [(false, E42 e)] (E4 y) []) (impl_EventOk e) := by
  unfold impl_EventOk
  exact
   Pn.ite (fun h1 =>
   Pn.ite (fun h2 =>
   Pn.some (Fn.of [.bit true, .bit true, .bit true, .bit true, .nm 13 (V.sc (.int .i64 (e.Data.length : Int))), .bit true, .bit true] (p := [(e.Kind == 1) = true,
    (e.K == 0) = true,
    (e.K == 0) = true,
    (e.K == 0) = true,
    V.sc (.int .i64 ((List.map E5 e.Data).length : Int)) = V.sc (.int .i64 (e.Data.length : Int)),
    (e.K == 0) = true,
    (e.K == 0) = true]) (by kernel_rfl) (cj h1 (cj h2 (cj h2 (cj h2 (cj (len_nm _ _) (cj h2 (cj1 h2))))))))) (fun h2 =>
   Pn.some (Fn.of [.bit true, .bit false, .bit false, .bit false, .bit false, .bit false] (p := [(e.Kind == 1) = true,
    (e.K == 0) = false,
    (e.K == 0) = false,
    (e.K == 0) = false,
    (e.K == 0) = false,
    (e.K == 0) = false]) (by kernel_rfl) (cj h1 (cj h2 (cj h2 (cj h2 (cj h2 (cj1 h2))))))))) (fun h1 =>
   Pn.ite (fun h3 =>
   Pn.bind (fun r1 h4 =>
   Pn.ite (fun h5 =>
   Pn.some (Fn.of [.bit false, .bit true, .call [] (E4 r1) [], .bit true, .bit true, .bit true, .nm 24 (V.sc (.int .i64 (e.Data.length : Int))), .bit true, .bit true] (p := [(e.Kind == 1) = false,
    (e.Kind == 2) = true,
    Fn Tryd.prog 83 [(false, E3 e.K), (false, E3 0), (false, E3 11)] (E4 r1) [],
    (true || ((E4 r1).nv && nvL [])) = true,
    r1 = true,
    r1 = true,
    r1 = true,
    V.sc (.int .i64 ((List.map E5 e.Data).length : Int)) = V.sc (.int .i64 (e.Data.length : Int)),
    r1 = true,
    r1 = true]) (by kernel_rfl) (cj h1 (cj h3 (cj (impl_within_ok e.K 0 11 r1 h4) (cj rfl (cj h5 (cj h5 (cj h5 (cj (len_nm _ _) (cj h5 (cj1 h5)))))))))))) (fun h5 =>
   Pn.some (Fn.of [.bit false, .bit true, .call [] (E4 r1) [], .bit false, .bit false, .bit false, .bit false, .bit false] (p := [(e.Kind == 1) = false,
    (e.Kind == 2) = true,
    Fn Tryd.prog 83 [(false, E3 e.K), (false, E3 0), (false, E3 11)] (E4 r1) [],
    (true || ((E4 r1).nv && nvL [])) = true,
    r1 = false,
    r1 = false,
    r1 = false,
    r1 = false,
    r1 = false]) (by kernel_rfl) (cj h1 (cj h3 (cj (impl_within_ok e.K 0 11 r1 h4) (cj rfl (cj h5 (cj h5 (cj h5 (cj h5 (cj1 h5))))))))))))) (fun h3 =>
   Pn.ite (fun h6 =>
   Pn.bind (fun r2 h7 =>
   Pn.ite (fun h8 =>
   Pn.some (Fn.of [.bit false, .bit false, .bit true, .call [] (E4 r2) [], .bit true, .bit true, .bit true, .nm 35 (V.sc (.int .i64 (e.Data.length : Int))), .bit true, .bit true] (p := [(e.Kind == 1) = false,
    (e.Kind == 2) = false,
    (e.Kind == 3) = true,
    Fn Tryd.prog 83 [(false, E3 e.K), (false, E3 1), (false, E3 1000)] (E4 r2) [],
    (true || ((E4 r2).nv && nvL [])) = true,
    r2 = true,
    r2 = true,
    r2 = true,
    V.sc (.int .i64 ((List.map E5 e.Data).length : Int)) = V.sc (.int .i64 (e.Data.length : Int)),
    r2 = true,
    r2 = true]) (by kernel_rfl) (cj h1 (cj h3 (cj h6 (cj (impl_within_ok e.K 1 1000 r2 h7) (cj rfl (cj h8 (cj h8 (cj h8 (cj (len_nm _ _) (cj h8 (cj1 h8))))))))))))) (fun h8 =>
   Pn.some (Fn.of [.bit false, .bit false, .bit true, .call [] (E4 r2) [], .bit false, .bit false, .bit false, .bit false, .bit false] (p := [(e.Kind == 1) = false,
    (e.Kind == 2) = false,
    (e.Kind == 3) = true,
    Fn Tryd.prog 83 [(false, E3 e.K), (false, E3 1), (false, E3 1000)] (E4 r2) [],
    (true || ((E4 r2).nv && nvL [])) = true,
    r2 = false,
    r2 = false,
    r2 = false,
    r2 = false,
    r2 = false]) (by kernel_rfl) (cj h1 (cj h3 (cj h6 (cj (impl_within_ok e.K 1 1000 r2 h7) (cj rfl (cj h8 (cj h8 (cj h8 (cj h8 (cj1 h8)))))))))))))) (fun h6 =>
   Pn.some (Fn.of [.bit false, .bit false, .bit false] (p := [(e.Kind == 1) = false,
    (e.Kind == 2) = false,
    (e.Kind == 3) = false]) (by kernel_rfl) (cj h1 (cj h3 (cj1 h6)))))))
def impl_HexText_l0 (b : List Int) : List Int → (List Int) → Option ((List Int))
  | [], v1 =>
   some v1
  | x1 :: t1, v1 =>
   if (decide (0 ≤ bshr .u8 x1 4)) = true then
   if (decide ((bshr .u8 x1 4 : Int) < ((bs [48, 49, 50, 51, 52, 53, 54, 55, 56, 57, 97, 98, 99, 100, 101, 102]).size : Int))) = true then
   if (decide (0 ≤ band .u8 x1 15)) = true then
   if (decide ((band .u8 x1 15 : Int) < ((bs [48, 49, 50, 51, 52, 53, 54, 55, 56, 57, 97, 98, 99, 100, 101, 102]).size : Int))) = true then
   if (capOk (v1.length + 2)) = true then
   impl_HexText_l0 b t1 (v1 ++ [sAt (bs [48, 49, 50, 51, 52, 53, 54, 55, 56, 57, 97, 98, 99, 100, 101, 102]) (bshr .u8 x1 4), sAt (bs [48, 49, 50, 51, 52, 53, 54, 55, 56, 57, 97, 98, 99, 100, 101, 102]) (band .u8 x1 15)])
   else none
   else none
   else none
   else none
   else none
theorem impl_HexText_l0_ok (b : List Int) (h2 : capOk b.length = true) : ∀ (t1 p1 : List Int) (_ : b = p1 ++ t1) (v1 : List Int), Pn (LpO Tryd.prog (sub (codeOf Tryd.prog 104) [1, 1, 0, 1, 0, 0]) (st 25 [(3, V.ow 0), (7, V.sl false 5 (List.map E5 b)), (8, V.sc (.int .i64 (b.length : Int))), (9, V.sc (.int .i64 (p1.length : Int)))] [Blk.row 5 (List.map E5 v1) []] []) (fun (y : (List Int)) => (X.out 0, st 25 [(3, V.ow 0)] [Blk.row 5 (List.map E5 y) []] []))) (impl_HexText_l0 b t1 v1)
  | [], p1, h1, v1 => by
    unfold impl_HexText_l0
    exact
     Pn.some (LpO.out [.bit false, .mask [3], .ren [0]] (p := [(decide ((p1.length : Int) < (b.length : Int))) = false]) (by kernel_rfl) (show X.out 0 ≠ X.go from nofun) (cj1 (rng_end h1)))
  | x1 :: t1, p1, h1, v1 => by
    unfold impl_HexText_l0
    exact
     Pn.ite (fun h3 =>
     Pn.ite (fun h4 =>
     Pn.ite (fun h5 =>
     Pn.ite (fun h6 =>
     Pn.ite (fun h7 =>
     LpO.go [.bit true, .el (E5 x1), .draw [8], .cp [V.sc (.int .u8 (sAt (bs [48, 49, 50, 51, 52, 53, 54, 55, 56, 57, 97, 98, 99, 100, 101, 102]) (bshr .u8 x1 4))), V.sc (.int .u8 (sAt (bs [48, 49, 50, 51, 52, 53, 54, 55, 56, 57, 97, 98, 99, 100, 101, 102]) (band .u8 x1 15)))], .nb 2 (.row 5 (List.map E5 (v1 ++ [sAt (bs [48, 49, 50, 51, 52, 53, 54, 55, 56, 57, 97, 98, 99, 100, 101, 102]) (bshr .u8 x1 4), sAt (bs [48, 49, 50, 51, 52, 53, 54, 55, 56, 57, 97, 98, 99, 100, 101, 102]) (band .u8 x1 15)])) []), .wait 4, .mask [3, 7, 8, 9], .ren [2], .nm 9 (V.sc (.int .i64 ((p1 ++ [x1]).length : Int)))] (p := [(decide ((p1.length : Int) < (b.length : Int))) = true,
      (0 : Int) ≤ (p1.length : Int),
      (List.map E5 b)[(p1.length : Int).toNat]? = some (E5 x1),
      ¬ (4 : Int) < 0,
      (0 : Int) ≤ bshr .u8 x1 4,
      (bshr .u8 x1 4 : Int) < (bs [48, 49, 50, 51, 52, 53, 54, 55, 56, 57, 97, 98, 99, 100, 101, 102]).size,
      (0 : Int) ≤ band .u8 x1 15,
      (band .u8 x1 15 : Int) < (bs [48, 49, 50, 51, 52, 53, 54, 55, 56, 57, 97, 98, 99, 100, 101, 102]).size,
      [V.sc (.int .u8 (sAt (bs [48, 49, 50, 51, 52, 53, 54, 55, 56, 57, 97, 98, 99, 100, 101, 102]) (bshr .u8 x1 4))), V.sc (.int .u8 (sAt (bs [48, 49, 50, 51, 52, 53, 54, 55, 56, 57, 97, 98, 99, 100, 101, 102]) (band .u8 x1 15)))] = [V.sc (.int .u8 (sAt (bs [48, 49, 50, 51, 52, 53, 54, 55, 56, 57, 97, 98, 99, 100, 101, 102]) (bshr .u8 x1 4))), V.sc (.int .u8 (sAt (bs [48, 49, 50, 51, 52, 53, 54, 55, 56, 57, 97, 98, 99, 100, 101, 102]) (band .u8 x1 15)))],
      [V.sc (.int .u8 (sAt (bs [48, 49, 50, 51, 52, 53, 54, 55, 56, 57, 97, 98, 99, 100, 101, 102]) (bshr .u8 x1 4))), V.sc (.int .u8 (sAt (bs [48, 49, 50, 51, 52, 53, 54, 55, 56, 57, 97, 98, 99, 100, 101, 102]) (band .u8 x1 15)))].all V.flatE = true,
      (List.map E5 v1).length + [V.sc (.int .u8 (sAt (bs [48, 49, 50, 51, 52, 53, 54, 55, 56, 57, 97, 98, 99, 100, 101, 102]) (bshr .u8 x1 4))), V.sc (.int .u8 (sAt (bs [48, 49, 50, 51, 52, 53, 54, 55, 56, 57, 97, 98, 99, 100, 101, 102]) (band .u8 x1 15)))].length ≤ 9223372036854775807,
      ((List.map E5 v1).length + [V.sc (.int .u8 (sAt (bs [48, 49, 50, 51, 52, 53, 54, 55, 56, 57, 97, 98, 99, 100, 101, 102]) (bshr .u8 x1 4))), V.sc (.int .u8 (sAt (bs [48, 49, 50, 51, 52, 53, 54, 55, 56, 57, 97, 98, 99, 100, 101, 102]) (band .u8 x1 15)))].length) * 1 ≤ 140737488355328,
      Blk.row 5 ((List.map E5 v1) ++ [V.sc (.int .u8 (sAt (bs [48, 49, 50, 51, 52, 53, 54, 55, 56, 57, 97, 98, 99, 100, 101, 102]) (bshr .u8 x1 4))), V.sc (.int .u8 (sAt (bs [48, 49, 50, 51, 52, 53, 54, 55, 56, 57, 97, 98, 99, 100, 101, 102]) (band .u8 x1 15)))]) [] = Blk.row 5 (List.map E5 (v1 ++ [sAt (bs [48, 49, 50, 51, 52, 53, 54, 55, 56, 57, 97, 98, 99, 100, 101, 102]) (bshr .u8 x1 4), sAt (bs [48, 49, 50, 51, 52, 53, 54, 55, 56, 57, 97, 98, 99, 100, 101, 102]) (band .u8 x1 15)])) [],
      V.sc (.int .i64 (i64 ((p1.length : Int) + 1))) = V.sc (.int .i64 ((p1 ++ [x1]).length : Int))]) (by kernel_rfl) (cj (rng_lt h1) (cj (by omega) (cj (rng_get _ h1) (cj (by decide) (cj (od h3) (cj (od h4) (cj (od h5) (cj (od h6) (cj rfl (cj rfl (cj (cap1 (capN (by simp) h7)) (cj (cap2 (capN (by simp) h7) (by decide)) (cj (nb_app E5 v1 [sAt (bs [48, 49, 50, 51, 52, 53, 54, 55, 56, 57, 97, 98, 99, 100, 101, 102]) (bshr .u8 x1 4), sAt (bs [48, 49, 50, 51, 52, 53, 54, 55, 56, 57, 97, 98, 99, 100, 101, 102]) (band .u8 x1 15)]) (cj1 (rng_next h1 h2))))))))))))))) (impl_HexText_l0_ok b h2 t1 (p1 ++ [x1]) (rng_step h1) (v1 ++ [sAt (bs [48, 49, 50, 51, 52, 53, 54, 55, 56, 57, 97, 98, 99, 100, 101, 102]) (bshr .u8 x1 4), sAt (bs [48, 49, 50, 51, 52, 53, 54, 55, 56, 57, 97, 98, 99, 100, 101, 102]) (band .u8 x1 15)]))) (fun h7 =>
     Pn.none)) (fun h6 =>
     Pn.none)) (fun h5 =>
     Pn.none)) (fun h4 =>
     Pn.none)) (fun h3 =>
     Pn.none)
def impl_HexText (b : List Int) : Option (ByteArray) :=
 if (capOk b.length) = true then
 (impl_HexText_l0 b b []).bind fun r1 =>
 some (bstr r1)
 else none
theorem impl_HexText_ok (b : List Int) : Pn (fun y => Fn Tryd.prog 104 [(false, E40 b)] (E9 y) []) (impl_HexText b) := by
  unfold impl_HexText
  exact
   Pn.ite (fun h8 =>
   Pn.bind (fun r1 h9 =>
   Pn.some (Fn.of [.wait 5, .nm 8 (V.sc (.int .i64 (b.length : Int))), .wait 2, .mask [3, 7, 8, 9], .ren [0], .loop (X.out 0) (st 25 [(3, V.ow 0)] [Blk.row 5 (List.map E5 r1) []] []), .ints r1] (p := [V.sc (.int .i64 ((List.map E5 b).length : Int)) = V.sc (.int .i64 (b.length : Int)),
    Loop Tryd.prog (sub (codeOf Tryd.prog 104) [1, 1, 0, 1, 0, 0]) (st 25 [(3, V.ow 0), (7, V.sl false 5 (List.map E5 b)), (8, V.sc (.int .i64 (b.length : Int))), (9, V.sc (.int .i64 0))] [Blk.row 5 ([] : List V) []] []) (X.out 0) (st 25 [(3, V.ow 0)] [Blk.row 5 (List.map E5 r1) []] []),
    (List.map E5 r1) = r1.map fun n => V.sc (.int .u8 n)]) (by kernel_rfl) (cj (len_nm _ _) (cj (impl_HexText_l0_ok b h8 b [] rfl [] r1 h9) (cj1 rfl)))))) (fun h8 =>
   Pn.none)
def impl_EventText (e : Event) : Option (ByteArray) :=
 (impl_EventOk e).bind fun r1 =>
 if r1 = true then
 if (e.Kind == 1) = true then
 (impl_HexText e.Data).bind fun r2 =>
 if (decide ((bs [97, 114, 114, 105, 118, 101, 32]).size + r2.size ≤ 9223372036854775807)) = true then
 some ((bs [97, 114, 114, 105, 118, 101, 32]) ++ r2)
 else none
 else
 if (e.Kind == 2) = true then
 (impl_NumText e.K).bind fun r3 =>
 if (decide ((bs [112, 105, 99, 107, 32]).size + r3.size ≤ 9223372036854775807)) = true then
 some ((bs [112, 105, 99, 107, 32]) ++ r3)
 else none
 else
 (impl_NumText e.K).bind fun r4 =>
 if (decide ((bs [112, 97, 115, 115, 32]).size + r4.size ≤ 9223372036854775807)) = true then
 some ((bs [112, 97, 115, 115, 32]) ++ r4)
 else none
 else
 some (bs [])
theorem impl_EventText_ok (e : Event) : Pn (fun y => Fn Tryd.prog 55 [(false, E42 e)] (E9 y) []) (impl_EventText e) := by
  unfold impl_EventText
  exact
   Pn.bind (fun r1 h1 =>
   Pn.ite (fun h2 =>
   Pn.ite (fun h3 =>
   Pn.bind (fun r2 h4 =>
   Pn.ite (fun h5 =>
   Pn.some (Fn.of [.call [] (E4 r1) [], .bit false, .bit true, .call [] (E9 r2) []] (p := [Fn Tryd.prog 103 [(false, E42 e)] (E4 r1) [],
    (true || ((E4 r1).nv && nvL [])) = true,
    (!r1) = false,
    (e.Kind == 1) = true,
    Fn Tryd.prog 104 [(false, E40 e.Data)] (E9 r2) [],
    (true || ((E9 r2).nv && nvL [])) = true,
    (bs [97, 114, 114, 105, 118, 101, 32]).size + r2.size ≤ 9223372036854775807]) (by kernel_rfl) (cj (impl_EventOk_ok e r1 h1) (cj rfl (cj (nf h2) (cj h3 (cj (impl_HexText_ok e.Data r2 h4) (cj rfl (cj1 (od h5)))))))))) (fun h5 =>
   Pn.none))) (fun h3 =>
   Pn.ite (fun h6 =>
   Pn.bind (fun r3 h7 =>
   Pn.ite (fun h8 =>
   Pn.some (Fn.of [.call [] (E4 r1) [], .bit false, .bit false, .bit true, .call [] (E9 r3) []] (p := [Fn Tryd.prog 103 [(false, E42 e)] (E4 r1) [],
    (true || ((E4 r1).nv && nvL [])) = true,
    (!r1) = false,
    (e.Kind == 1) = false,
    (e.Kind == 2) = true,
    Fn Tryd.prog 40 [(false, E3 e.K)] (E9 r3) [],
    (true || ((E9 r3).nv && nvL [])) = true,
    (bs [112, 105, 99, 107, 32]).size + r3.size ≤ 9223372036854775807]) (by kernel_rfl) (cj (impl_EventOk_ok e r1 h1) (cj rfl (cj (nf h2) (cj h3 (cj h6 (cj (impl_NumText_ok e.K r3 h7) (cj rfl (cj1 (od h8))))))))))) (fun h8 =>
   Pn.none))) (fun h6 =>
   Pn.bind (fun r4 h9 =>
   Pn.ite (fun h10 =>
   Pn.some (Fn.of [.call [] (E4 r1) [], .bit false, .bit false, .bit false, .call [] (E9 r4) []] (p := [Fn Tryd.prog 103 [(false, E42 e)] (E4 r1) [],
    (true || ((E4 r1).nv && nvL [])) = true,
    (!r1) = false,
    (e.Kind == 1) = false,
    (e.Kind == 2) = false,
    Fn Tryd.prog 40 [(false, E3 e.K)] (E9 r4) [],
    (true || ((E9 r4).nv && nvL [])) = true,
    (bs [112, 97, 115, 115, 32]).size + r4.size ≤ 9223372036854775807]) (by kernel_rfl) (cj (impl_EventOk_ok e r1 h1) (cj rfl (cj (nf h2) (cj h3 (cj h6 (cj (impl_NumText_ok e.K r4 h9) (cj rfl (cj1 (od h10))))))))))) (fun h10 =>
   Pn.none))))) (fun h2 =>
   Pn.some (Fn.of [.call [] (E4 r1) [], .bit true] (p := [Fn Tryd.prog 103 [(false, E42 e)] (E4 r1) [],
    (true || ((E4 r1).nv && nvL [])) = true,
    (!r1) = true]) (by kernel_rfl) (cj (impl_EventOk_ok e r1 h1) (cj rfl (cj1 (nt h2)))))))
def impl_TextEvent_c0 (s_ : ByteArray) (r1 : ByteArray × ByteArray × Bool) : Option (Int × Int × (List Int)) :=
 if (r1.1 == (bs [97, 114, 114, 105, 118, 101])) = true then
 (impl_TextHex r1.2.1).bind fun r2 =>
 some (1, 0, r2.1)
 else
 if (r1.1 == (bs [112, 105, 99, 107])) = true then
 (impl_TextNum r1.2.1).bind fun r3 =>
 some (2, r3.1, [])
 else
 if (r1.1 == (bs [112, 97, 115, 115])) = true then
 (impl_TextNum r1.2.1).bind fun r4 =>
 some (3, r4.1, [])
 else
 some (0, 0, [])
theorem impl_TextEvent_c0_ok (s_ : ByteArray) (r1 : ByteArray × ByteArray × Bool) : Pn (JnO Tryd.prog (sub (codeOf Tryd.prog 18) [1, 1, 1, 0]) (st 53 [(0, V.sc (.string s_)), (2, V.ptr 0 0), (4, V.sc (.string r1.1)), (5, V.sc (.string r1.2.1)), (7, V.ptr 1 0)] [Blk.box 42 [V.sc (.int .i64 0), V.sc (.int .i64 0), V.nl 5], Blk.box 42 [V.sc (.int .i64 0), V.sc (.int .i64 0), V.ow 2], Blk.row 5 ([] : List V) []] []) (fun (y : Int × Int × (List Int)) => (X.go, st 53 [(0, V.sc (.string s_)), (2, V.ptr 0 0), (7, V.ptr 1 0)] [Blk.box 42 [V.sc (.int .i64 0), V.sc (.int .i64 0), V.nl 5], Blk.box 42 [V.sc (.int .i64 y.1), V.sc (.int .i64 y.2.1), V.ow 2], Blk.row 5 (List.map E5 y.2.2) []] []))) (impl_TextEvent_c0 s_ r1) := by
  unfold impl_TextEvent_c0
  exact
   Pn.ite (fun h2 =>
   Pn.bind (fun r2 h3 =>
   Pn.some (JnO.of [.bit true, .call [] (V.tup [E40 r2.1, E4 r2.2]) [], .wait 6, .mask [0, 2, 7], .ren [0, 1, 3]] (p := [(r1.1 == (bs [97, 114, 114, 105, 118, 101])) = true,
    Fn Tryd.prog 53 [(false, E9 r1.2.1)] (V.tup [E40 r2.1, E4 r2.2]) [],
    (true || ((V.tup [E40 r2.1, E4 r2.2]).nv && nvL [])) = true]) (by kernel_rfl) (cj h2 (cj (impl_TextHex_ok r1.2.1 r2 h3) (cj1 rfl)))))) (fun h2 =>
   Pn.ite (fun h4 =>
   Pn.bind (fun r3 h5 =>
   Pn.some (JnO.of [.bit false, .bit true, .call [] (V.tup [E3 r3.1, E4 r3.2]) [], .wait 6, .mask [0, 2, 7], .ren [0, 1, 2]] (p := [(r1.1 == (bs [97, 114, 114, 105, 118, 101])) = false,
    (r1.1 == (bs [112, 105, 99, 107])) = true,
    Fn Tryd.prog 54 [(false, E9 r1.2.1)] (V.tup [E3 r3.1, E4 r3.2]) [],
    (true || ((V.tup [E3 r3.1, E4 r3.2]).nv && nvL [])) = true]) (by kernel_rfl) (cj h2 (cj h4 (cj (impl_TextNum_ok r1.2.1 r3 h5) (cj1 rfl))))))) (fun h4 =>
   Pn.ite (fun h6 =>
   Pn.bind (fun r4 h7 =>
   Pn.some (JnO.of [.bit false, .bit false, .bit true, .call [] (V.tup [E3 r4.1, E4 r4.2]) [], .wait 6, .mask [0, 2, 7], .ren [0, 1, 2]] (p := [(r1.1 == (bs [97, 114, 114, 105, 118, 101])) = false,
    (r1.1 == (bs [112, 105, 99, 107])) = false,
    (r1.1 == (bs [112, 97, 115, 115])) = true,
    Fn Tryd.prog 54 [(false, E9 r1.2.1)] (V.tup [E3 r4.1, E4 r4.2]) [],
    (true || ((V.tup [E3 r4.1, E4 r4.2]).nv && nvL [])) = true]) (by kernel_rfl) (cj h2 (cj h4 (cj h6 (cj (impl_TextNum_ok r1.2.1 r4 h7) (cj1 rfl)))))))) (fun h6 =>
   Pn.some (JnO.of [.bit false, .bit false, .bit false, .mask [0, 2, 7], .ren [0, 1, 2]] (p := [(r1.1 == (bs [97, 114, 114, 105, 118, 101])) = false,
    (r1.1 == (bs [112, 105, 99, 107])) = false,
    (r1.1 == (bs [112, 97, 115, 115])) = false]) (by kernel_rfl) (cj h2 (cj h4 (cj1 h6)))))))
def impl_TextEvent_c1 (s_ : ByteArray) (r5 : Int × Int × (List Int)) : Option (Lo Unit Unit) :=
 if (s_ == (bs [])) = true then
 some (.ret ())
 else
 (impl_EventText (Event.mk r5.1 r5.2.1 r5.2.2)).bind fun r6 =>
 if (r6 == s_) = true then
 some (.out ())
 else
 some (.ret ())
theorem impl_TextEvent_c1_ok (s_ : ByteArray) (r5 : Int × Int × (List Int)) : Pn (JnO Tryd.prog (sub (codeOf Tryd.prog 18) [1, 1, 1, 1, 0]) (st 53 [(0, V.sc (.string s_)), (2, V.ptr 0 0), (7, V.ptr 1 0)] [Blk.box 42 [V.sc (.int .i64 0), V.sc (.int .i64 0), V.nl 5], Blk.box 42 [V.sc (.int .i64 r5.1), V.sc (.int .i64 r5.2.1), V.ow 2], Blk.row 5 (List.map E5 r5.2.2) []] []) (fun (y : Lo Unit Unit) => Lo.elim y (fun s => (X.go, st 53 [(2, V.ptr 0 0), (7, V.ptr 1 0)] [Blk.box 42 [V.sc (.int .i64 0), V.sc (.int .i64 0), V.nl 5], Blk.box 42 [V.sc (.int .i64 r5.1), V.sc (.int .i64 r5.2.1), V.ow 2], Blk.row 5 (List.map E5 r5.2.2) []] [])) (fun s => (X.ret, st 53 [(2, V.ptr 0 0), (3, V.sc (.bool false))] [Blk.box 42 [V.sc (.int .i64 0), V.sc (.int .i64 0), V.nl 5]] [])))) (impl_TextEvent_c1 s_ r5) := by
  unfold impl_TextEvent_c1
  exact
   Pn.ite (fun h9 =>
   Pn.some (JnO.of [.bit true, .bit true, .bit true, .bit true, .bit true, .bit true, .wait 3, .mask [2, 3], .ren [0]] (p := [(s_ == (bs [])) = true,
    (s_ == (bs [])) = true,
    (s_ == (bs [])) = true,
    (s_ == (bs [])) = true,
    (s_ == (bs [])) = true,
    true = true]) (by kernel_rfl) (cj h9 (cj h9 (cj h9 (cj h9 (cj h9 (cj1 rfl)))))))) (fun h9 =>
   Pn.bind (fun r6 h10 =>
   Pn.ite (fun h11 =>
   Pn.some (JnO.of [.bit false, .bit false, .call [] (E9 r6) [], .bit false, .bit false, .bit false, .bit false, .mask [2, 7], .ren [0, 1, 2]] (p := [(s_ == (bs [])) = false,
    (s_ == (bs [])) = false,
    Fn Tryd.prog 55 [(false, E42 (Event.mk r5.1 r5.2.1 r5.2.2))] (E9 r6) [],
    (false || ((E9 r6).nv && nvL [])) = true,
    (s_ == (bs [])) = false,
    (s_ == (bs [])) = false,
    (s_ == (bs [])) = false,
    (!(r6 == s_)) = false]) (by kernel_rfl) (cj h9 (cj h9 (cj (impl_EventText_ok (Event.mk r5.1 r5.2.1 r5.2.2) r6 h10) (cj (by simp [V.nv, nvL, nvL_all, nv_E9]) (cj h9 (cj h9 (cj h9 (cj1 (nf h11))))))))))) (fun h11 =>
   Pn.some (JnO.of [.bit false, .bit false, .call [] (E9 r6) [], .bit false, .bit false, .bit false, .bit true, .wait 3, .mask [2, 3], .ren [0]] (p := [(s_ == (bs [])) = false,
    (s_ == (bs [])) = false,
    Fn Tryd.prog 55 [(false, E42 (Event.mk r5.1 r5.2.1 r5.2.2))] (E9 r6) [],
    (false || ((E9 r6).nv && nvL [])) = true,
    (s_ == (bs [])) = false,
    (s_ == (bs [])) = false,
    (s_ == (bs [])) = false,
    (!(r6 == s_)) = true]) (by kernel_rfl) (cj h9 (cj h9 (cj (impl_EventText_ok (Event.mk r5.1 r5.2.1 r5.2.2) r6 h10) (cj (by simp [V.nv, nvL, nvL_all, nv_E9]) (cj h9 (cj h9 (cj h9 (cj1 (nt h11)))))))))))))
def impl_TextEvent (s_ : ByteArray) : Option (Event × Bool) :=
 (strings_Cut s_ (bs [32])).bind fun r1 =>
 (impl_TextEvent_c0 s_ r1).bind fun r5 =>
 (impl_TextEvent_c1 s_ r5).bind fun r7 =>
 Lo.elim r7 (fun s1 =>
 some ((Event.mk r5.1 r5.2.1 r5.2.2), true)) (fun s2 =>
 some ((Event.mk 0 0 []), false))
theorem impl_TextEvent_ok (s_ : ByteArray) : Pn (fun y => Fn Tryd.prog 18 [(false, E9 s_)] (V.tup [E42 y.1, E4 y.2]) []) (impl_TextEvent s_) := by
  unfold impl_TextEvent
  exact
   Pn.bind (fun r1 h1 =>
   Pn.bind (fun r5 h8 =>
   Pn.bind (fun r7 h12 =>
   Pn.lo (fun s1 h13 =>
   Pn.some (Fn.of [.call [] (V.tup [E9 r1.1, E9 r1.2.1, E4 r1.2.2]) [], .wait 11, .mask [0, 2, 4, 5, 7], .ren [0, 1], .ownb 1 2, .mask [0, 2, 4, 5, 7], .ren [0, 1, 2], .join 22 (X.go) (st 53 [(0, V.sc (.string s_)), (2, V.ptr 0 0), (7, V.ptr 1 0)] [Blk.box 42 [V.sc (.int .i64 0), V.sc (.int .i64 0), V.nl 5], Blk.box 42 [V.sc (.int .i64 r5.1), V.sc (.int .i64 r5.2.1), V.ow 2], Blk.row 5 (List.map E5 r5.2.2) []] []), .wait 1, .mask [0, 2, 7], .ren [0, 1, 2], .join 7 (X.go) (st 53 [(2, V.ptr 0 0), (7, V.ptr 1 0)] [Blk.box 42 [V.sc (.int .i64 0), V.sc (.int .i64 0), V.nl 5], Blk.box 42 [V.sc (.int .i64 r5.1), V.sc (.int .i64 r5.2.1), V.ow 2], Blk.row 5 (List.map E5 r5.2.2) []] [])] (p := [Fn Tryd.prog 52 [(false, E9 s_), (false, E9 (bs [32]))] (V.tup [E9 r1.1, E9 r1.2.1, E4 r1.2.2]) [],
    (true || ((V.tup [E9 r1.1, E9 r1.2.1, E4 r1.2.2]).nv && nvL [])) = true,
    HT Tryd.prog (sub (codeOf Tryd.prog 18) [1, 1, 1, 0]) (st 53 [(0, V.sc (.string s_)), (2, V.ptr 0 0), (4, V.sc (.string r1.1)), (5, V.sc (.string r1.2.1)), (7, V.ptr 1 0)] [Blk.box 42 [V.sc (.int .i64 0), V.sc (.int .i64 0), V.nl 5], Blk.box 42 [V.sc (.int .i64 0), V.sc (.int .i64 0), V.ow 2], Blk.row 5 ([] : List V) []] []) (X.go) (st 53 [(0, V.sc (.string s_)), (2, V.ptr 0 0), (7, V.ptr 1 0)] [Blk.box 42 [V.sc (.int .i64 0), V.sc (.int .i64 0), V.nl 5], Blk.box 42 [V.sc (.int .i64 r5.1), V.sc (.int .i64 r5.2.1), V.ow 2], Blk.row 5 (List.map E5 r5.2.2) []] []),
    HT Tryd.prog (sub (codeOf Tryd.prog 18) [1, 1, 1, 1, 0]) (st 53 [(0, V.sc (.string s_)), (2, V.ptr 0 0), (7, V.ptr 1 0)] [Blk.box 42 [V.sc (.int .i64 0), V.sc (.int .i64 0), V.nl 5], Blk.box 42 [V.sc (.int .i64 r5.1), V.sc (.int .i64 r5.2.1), V.ow 2], Blk.row 5 (List.map E5 r5.2.2) []] []) (X.go) (st 53 [(2, V.ptr 0 0), (7, V.ptr 1 0)] [Blk.box 42 [V.sc (.int .i64 0), V.sc (.int .i64 0), V.nl 5], Blk.box 42 [V.sc (.int .i64 r5.1), V.sc (.int .i64 r5.2.1), V.ow 2], Blk.row 5 (List.map E5 r5.2.2) []] [])]) (by kernel_rfl) (cj (strings_Cut_ok s_ (bs [32]) r1 h1) (cj rfl (cj (impl_TextEvent_c0_ok s_ r1 r5 h8) (cj1 ((impl_TextEvent_c1_ok s_ r5 r7 h12).at h13))))))) (fun s2 h14 =>
   Pn.some (Fn.of [.call [] (V.tup [E9 r1.1, E9 r1.2.1, E4 r1.2.2]) [], .wait 11, .mask [0, 2, 4, 5, 7], .ren [0, 1], .ownb 1 2, .mask [0, 2, 4, 5, 7], .ren [0, 1, 2], .join 22 (X.go) (st 53 [(0, V.sc (.string s_)), (2, V.ptr 0 0), (7, V.ptr 1 0)] [Blk.box 42 [V.sc (.int .i64 0), V.sc (.int .i64 0), V.nl 5], Blk.box 42 [V.sc (.int .i64 r5.1), V.sc (.int .i64 r5.2.1), V.ow 2], Blk.row 5 (List.map E5 r5.2.2) []] []), .wait 1, .mask [0, 2, 7], .ren [0, 1, 2], .join 7 (X.ret) (st 53 [(2, V.ptr 0 0), (3, V.sc (.bool false))] [Blk.box 42 [V.sc (.int .i64 0), V.sc (.int .i64 0), V.nl 5]] [])] (p := [Fn Tryd.prog 52 [(false, E9 s_), (false, E9 (bs [32]))] (V.tup [E9 r1.1, E9 r1.2.1, E4 r1.2.2]) [],
    (true || ((V.tup [E9 r1.1, E9 r1.2.1, E4 r1.2.2]).nv && nvL [])) = true,
    HT Tryd.prog (sub (codeOf Tryd.prog 18) [1, 1, 1, 0]) (st 53 [(0, V.sc (.string s_)), (2, V.ptr 0 0), (4, V.sc (.string r1.1)), (5, V.sc (.string r1.2.1)), (7, V.ptr 1 0)] [Blk.box 42 [V.sc (.int .i64 0), V.sc (.int .i64 0), V.nl 5], Blk.box 42 [V.sc (.int .i64 0), V.sc (.int .i64 0), V.ow 2], Blk.row 5 ([] : List V) []] []) (X.go) (st 53 [(0, V.sc (.string s_)), (2, V.ptr 0 0), (7, V.ptr 1 0)] [Blk.box 42 [V.sc (.int .i64 0), V.sc (.int .i64 0), V.nl 5], Blk.box 42 [V.sc (.int .i64 r5.1), V.sc (.int .i64 r5.2.1), V.ow 2], Blk.row 5 (List.map E5 r5.2.2) []] []),
    HT Tryd.prog (sub (codeOf Tryd.prog 18) [1, 1, 1, 1, 0]) (st 53 [(0, V.sc (.string s_)), (2, V.ptr 0 0), (7, V.ptr 1 0)] [Blk.box 42 [V.sc (.int .i64 0), V.sc (.int .i64 0), V.nl 5], Blk.box 42 [V.sc (.int .i64 r5.1), V.sc (.int .i64 r5.2.1), V.ow 2], Blk.row 5 (List.map E5 r5.2.2) []] []) (X.ret) (st 53 [(2, V.ptr 0 0), (3, V.sc (.bool false))] [Blk.box 42 [V.sc (.int .i64 0), V.sc (.int .i64 0), V.nl 5]] [])]) (by kernel_rfl) (cj (strings_Cut_ok s_ (bs [32]) r1 h1) (cj rfl (cj (impl_TextEvent_c0_ok s_ r1 r5 h8) (cj1 ((impl_TextEvent_c1_ok s_ r5 r7 h12).at h14))))))))))
def impl_ReadEvents_l0 (r1 : (List ByteArray)) : List ByteArray → List ByteArray → (List Event) → Option (Lo ((List Event)) Int)
  | [], p1, v1 =>
   some (.out v1)
  | x1 :: t1, p1, v1 =>
   if (x1 == (bs [])) = true then
   impl_ReadEvents_l0 r1 t1 (p1 ++ [x1]) v1
   else
   if (decide (0 ≤ 0)) = true then
   if (decide ((0 : Int) < (x1.size : Int))) = true then
   if ((sAt x1 0) == 35) = true then
   impl_ReadEvents_l0 r1 t1 (p1 ++ [x1]) v1
   else
   (impl_TextEvent x1).bind fun r2 =>
   if r2.2 = true then
   if (capOk (v1.length + 1)) = true then
   impl_ReadEvents_l0 r1 t1 (p1 ++ [x1]) (v1 ++ [r2.1])
   else none
   else
   some (.ret (i64 ((p1.length : Int) + 1)))
   else none
   else none
theorem impl_ReadEvents_l0_ok (r1 : (List ByteArray)) (h3 : capOk r1.length = true) : ∀ (t1 p1 : List ByteArray) (_ : r1 = p1 ++ t1) (v1 : List Event), Pn (LpO Tryd.prog (sub (codeOf Tryd.prog 23) [1, 1, 0, 1, 0, 0]) (st 40 [(4, V.ow 0), (11, V.ow 1), (12, V.sc (.int .i64 (r1.length : Int))), (13, V.sc (.int .i64 (p1.length : Int)))] [Blk.row 42 (List.map E42 v1) [], Blk.row 9 (List.map E9 r1) []] []) (fun (y : Lo ((List Event)) Int) => Lo.elim y (fun s => (X.out 0, st 40 [(4, V.ow 0)] [Blk.row 42 (List.map E42 s) []] [])) (fun s => (X.ret, st 40 [(2, V.nl 42), (3, V.sc (.int .i64 s))] [] [])))) (impl_ReadEvents_l0 r1 t1 p1 v1)
  | [], p1, h2, v1 => by
    unfold impl_ReadEvents_l0
    exact
     Pn.some (LpO.out [.bit false, .mask [4], .ren [0]] (p := [(decide ((p1.length : Int) < (r1.length : Int))) = false]) (by kernel_rfl) (show X.out 0 ≠ X.go from nofun) (cj1 (rng_end h2)))
  | x1 :: t1, p1, h2, v1 => by
    unfold impl_ReadEvents_l0
    exact
     Pn.ite (fun h4 =>
     LpO.go [.bit true, .el (E9 x1), .bit true, .bit true, .bit true, .bit true, .bit true, .wait 2, .mask [4, 11, 12, 13], .ren [0, 1], .nm 13 (V.sc (.int .i64 ((p1 ++ [x1]).length : Int)))] (p := [(decide ((p1.length : Int) < (r1.length : Int))) = true,
      (0 : Int) ≤ (p1.length : Int),
      ((p1.length : Int) : Int) < ((List.map E9 r1).length : Int),
      look [] ((p1.length : Int).toNat) = none,
      (List.map E9 r1)[(p1.length : Int).toNat]? = some (E9 x1),
      (x1 == (bs [])) = true,
      (x1 == (bs [])) = true,
      (x1 == (bs [])) = true,
      (x1 == (bs [])) = true,
      true = true,
      V.sc (.int .i64 (i64 ((p1.length : Int) + 1))) = V.sc (.int .i64 ((p1 ++ [x1]).length : Int))]) (by kernel_rfl) (cj (rng_lt h2) (cj (by omega) (cj (rng_ltI _ h2) (cj rfl (cj (rng_get _ h2) (cj h4 (cj h4 (cj h4 (cj h4 (cj rfl (cj1 (rng_next h2 h3)))))))))))) (impl_ReadEvents_l0_ok r1 h3 t1 (p1 ++ [x1]) (rng_step h2) v1)) (fun h4 =>
     Pn.ite (fun h5 =>
     Pn.ite (fun h6 =>
     Pn.ite (fun h7 =>
     LpO.go [.bit true, .el (E9 x1), .bit false, .bit false, .bit false, .bit false, .bit true, .wait 2, .mask [4, 11, 12, 13], .ren [0, 1], .nm 13 (V.sc (.int .i64 ((p1 ++ [x1]).length : Int)))] (p := [(decide ((p1.length : Int) < (r1.length : Int))) = true,
      (0 : Int) ≤ (p1.length : Int),
      ((p1.length : Int) : Int) < ((List.map E9 r1).length : Int),
      look [] ((p1.length : Int).toNat) = none,
      (List.map E9 r1)[(p1.length : Int).toNat]? = some (E9 x1),
      (x1 == (bs [])) = false,
      (x1 == (bs [])) = false,
      (0 : Int) ≤ 0,
      (0 : Int) < x1.size,
      (x1 == (bs [])) = false,
      (x1 == (bs [])) = false,
      ((sAt x1 0) == 35) = true,
      V.sc (.int .i64 (i64 ((p1.length : Int) + 1))) = V.sc (.int .i64 ((p1 ++ [x1]).length : Int))]) (by kernel_rfl) (cj (rng_lt h2) (cj (by omega) (cj (rng_ltI _ h2) (cj rfl (cj (rng_get _ h2) (cj h4 (cj h4 (cj (od h5) (cj (od h6) (cj h4 (cj h4 (cj h7 (cj1 (rng_next h2 h3)))))))))))))) (impl_ReadEvents_l0_ok r1 h3 t1 (p1 ++ [x1]) (rng_step h2) v1)) (fun h7 =>
     Pn.bind (fun r2 h8 =>
     Pn.ite (fun h9 =>
     Pn.ite (fun h10 =>
     LpO.go [.bit true, .el (E9 x1), .bit false, .bit false, .bit false, .bit false, .bit false, .call [] (V.tup [E42 r2.1, E4 r2.2]) [], .bit false, .wait 2, .shut 4, .mv, .nb 5 (.row 42 (List.map E42 (v1 ++ [r2.1])) []), .wait 4, .mask [4, 11, 12, 13], .ren [5, 1], .nm 13 (V.sc (.int .i64 ((p1 ++ [x1]).length : Int)))] (p := [(decide ((p1.length : Int) < (r1.length : Int))) = true,
      (0 : Int) ≤ (p1.length : Int),
      ((p1.length : Int) : Int) < ((List.map E9 r1).length : Int),
      look [] ((p1.length : Int).toNat) = none,
      (List.map E9 r1)[(p1.length : Int).toNat]? = some (E9 x1),
      (x1 == (bs [])) = false,
      (x1 == (bs [])) = false,
      (0 : Int) ≤ 0,
      (0 : Int) < x1.size,
      (x1 == (bs [])) = false,
      (x1 == (bs [])) = false,
      ((sAt x1 0) == 35) = false,
      Fn Tryd.prog 18 [(false, E9 x1)] (V.tup [E42 r2.1, E4 r2.2]) [],
      (true || ((V.tup [E42 r2.1, E4 r2.2]).nv && nvL [])) = true,
      (!r2.2) = false,
      (List.map E42 v1).length + [V.agg [V.sc (.int .i64 r2.1.Kind), V.sc (.int .i64 r2.1.K), V.sl true 5 (List.map E5 r2.1.Data)]].length ≤ 9223372036854775807,
      ((List.map E42 v1).length + [V.agg [V.sc (.int .i64 r2.1.Kind), V.sc (.int .i64 r2.1.K), V.sl true 5 (List.map E5 r2.1.Data)]].length) * 40 ≤ 140737488355328,
      Blk.row 42 ((List.map E42 v1) ++ [V.agg [V.sc (.int .i64 r2.1.Kind), V.sc (.int .i64 r2.1.K), V.sl true 5 (List.map E5 r2.1.Data)]]) [] = Blk.row 42 (List.map E42 (v1 ++ [r2.1])) [],
      V.sc (.int .i64 (i64 ((p1.length : Int) + 1))) = V.sc (.int .i64 ((p1 ++ [x1]).length : Int))]) (by kernel_rfl) (cj (rng_lt h2) (cj (by omega) (cj (rng_ltI _ h2) (cj rfl (cj (rng_get _ h2) (cj h4 (cj h4 (cj (od h5) (cj (od h6) (cj h4 (cj h4 (cj h7 (cj (impl_TextEvent_ok x1 r2 h8) (cj rfl (cj (nf h9) (cj (cap1 (capN (by simp) h10)) (cj (cap2 (capN (by simp) h10) (by decide)) (cj (nb_app E42 v1 [r2.1]) (cj1 (rng_next h2 h3)))))))))))))))))))) (impl_ReadEvents_l0_ok r1 h3 t1 (p1 ++ [x1]) (rng_step h2) (v1 ++ [r2.1]))) (fun h10 =>
     Pn.none)) (fun h9 =>
     Pn.some (LpO.out [.bit true, .el (E9 x1), .bit false, .bit false, .bit false, .bit false, .bit false, .call [] (V.tup [E42 r2.1, E4 r2.2]) [], .bit true, .wait 4, .mask [2, 3], .ren []] (p := [(decide ((p1.length : Int) < (r1.length : Int))) = true,
      (0 : Int) ≤ (p1.length : Int),
      ((p1.length : Int) : Int) < ((List.map E9 r1).length : Int),
      look [] ((p1.length : Int).toNat) = none,
      (List.map E9 r1)[(p1.length : Int).toNat]? = some (E9 x1),
      (x1 == (bs [])) = false,
      (x1 == (bs [])) = false,
      (0 : Int) ≤ 0,
      (0 : Int) < x1.size,
      (x1 == (bs [])) = false,
      (x1 == (bs [])) = false,
      ((sAt x1 0) == 35) = false,
      Fn Tryd.prog 18 [(false, E9 x1)] (V.tup [E42 r2.1, E4 r2.2]) [],
      (true || ((V.tup [E42 r2.1, E4 r2.2]).nv && nvL [])) = true,
      (!r2.2) = true]) (by kernel_rfl) (show X.ret ≠ X.go from nofun) (cj (rng_lt h2) (cj (by omega) (cj (rng_ltI _ h2) (cj rfl (cj (rng_get _ h2) (cj h4 (cj h4 (cj (od h5) (cj (od h6) (cj h4 (cj h4 (cj h7 (cj (impl_TextEvent_ok x1 r2 h8) (cj rfl (cj1 (nt h9))))))))))))))))))))) (fun h6 =>
     Pn.none)) (fun h5 =>
     Pn.none))
def impl_ReadEvents (s_ : ByteArray) : Option ((List Event) × Int) :=
 (impl_Lines s_).bind fun r1 =>
 if (capOk r1.length) = true then
 (impl_ReadEvents_l0 r1 r1 [] []).bind fun r3 =>
 Lo.elim r3 (fun s1 =>
 some (s1, 0)) (fun s2 =>
 some ([], s2))
 else none
theorem impl_ReadEvents_ok (s_ : ByteArray) : Pn (fun y => Fn Tryd.prog 23 [(false, E9 s_)] (V.tup [E48 y.1, E3 y.2]) []) (impl_ReadEvents s_) := by
  unfold impl_ReadEvents
  exact
   Pn.bind (fun r1 h1 =>
   Pn.ite (fun h11 =>
   Pn.bind (fun r3 h12 =>
   Pn.lo (fun s1 h13 =>
   Pn.some (Fn.of [.call [] (E65 r1) [], .wait 1, .nm 12 (V.sc (.int .i64 (r1.length : Int))), .wait 2, .mask [4, 11, 12, 13], .ren [0, 1], .loop (X.out 0) (st 40 [(4, V.ow 0)] [Blk.row 42 (List.map E42 s1) []] [])] (p := [Fn Tryd.prog 60 [(false, E9 s_)] (E65 r1) [],
    (true || ((E65 r1).nv && nvL [])) = true,
    V.sc (.int .i64 ((List.map E9 r1).length : Int)) = V.sc (.int .i64 (r1.length : Int)),
    Loop Tryd.prog (sub (codeOf Tryd.prog 23) [1, 1, 0, 1, 0, 0]) (st 40 [(4, V.ow 0), (11, V.ow 1), (12, V.sc (.int .i64 (r1.length : Int))), (13, V.sc (.int .i64 0))] [Blk.row 42 ([] : List V) [], Blk.row 9 (List.map E9 r1) []] []) (X.out 0) (st 40 [(4, V.ow 0)] [Blk.row 42 (List.map E42 s1) []] [])]) (by kernel_rfl) (cj (impl_Lines_ok s_ r1 h1) (cj rfl (cj (len_nm _ _) (cj1 ((impl_ReadEvents_l0_ok r1 h11 r1 [] rfl [] r3 h12).at h13))))))) (fun s2 h14 =>
   Pn.some (Fn.of [.call [] (E65 r1) [], .wait 1, .nm 12 (V.sc (.int .i64 (r1.length : Int))), .wait 2, .mask [4, 11, 12, 13], .ren [0, 1], .loop (X.ret) (st 40 [(2, V.nl 42), (3, V.sc (.int .i64 s2))] [] [])] (p := [Fn Tryd.prog 60 [(false, E9 s_)] (E65 r1) [],
    (true || ((E65 r1).nv && nvL [])) = true,
    V.sc (.int .i64 ((List.map E9 r1).length : Int)) = V.sc (.int .i64 (r1.length : Int)),
    Loop Tryd.prog (sub (codeOf Tryd.prog 23) [1, 1, 0, 1, 0, 0]) (st 40 [(4, V.ow 0), (11, V.ow 1), (12, V.sc (.int .i64 (r1.length : Int))), (13, V.sc (.int .i64 0))] [Blk.row 42 ([] : List V) [], Blk.row 9 (List.map E9 r1) []] []) (X.ret) (st 40 [(2, V.nl 42), (3, V.sc (.int .i64 s2))] [] [])]) (by kernel_rfl) (cj (impl_Lines_ok s_ r1 h1) (cj rfl (cj (len_nm _ _) (cj1 ((impl_ReadEvents_l0_ok r1 h11 r1 [] rfl [] r3 h12).at h14))))))))) (fun h11 =>
   Pn.none))
def laws_eqByteS_l0 (a : List Int) (b : List Int) : List Int → List Int → Option (Lo Unit Unit)
  | [], p1 =>
   some (.out ())
  | x1 :: t1, p1 =>
   (b[(p1.length : Int).toNat]?).bind fun x2 =>
   if (x1 != x2) = true then
   some (.ret ())
   else
   laws_eqByteS_l0 a b t1 (p1 ++ [x1])
theorem laws_eqByteS_l0_ok (a : List Int) (b : List Int) (h3 : capOk a.length = true) : ∀ (t1 p1 : List Int) (_ : a = p1 ++ t1) , Pn (LpO Tryd.prog (sub (codeOf Tryd.prog 56) [1, 1, 0, 1, 0, 0]) (st 26 [(0, V.sl false 5 (List.map E5 a)), (1, V.sl false 5 (List.map E5 b)), (5, V.sc (.int .i64 (p1.length : Int)))] [] []) (fun (y : Lo Unit Unit) => Lo.elim y (fun s => (X.out 0, st 26 [] [] [])) (fun s => (X.ret, st 26 [(4, V.sc (.bool false))] [] [])))) (laws_eqByteS_l0 a b t1 p1)
  | [], p1, h2 => by
    unfold laws_eqByteS_l0
    exact
     Pn.some (LpO.out [.wait 3, .nm 13 (V.sc (.int .i64 (a.length : Int))), .bit false, .mask [], .ren []] (p := [V.sc (.int .i64 ((List.map E5 a).length : Int)) = V.sc (.int .i64 (a.length : Int)),
      (decide ((p1.length : Int) < (a.length : Int))) = false]) (by kernel_rfl) (show X.out 0 ≠ X.go from nofun) (cj (len_nm _ _) (cj1 (rng_end h2))))
  | x1 :: t1, p1, h2 => by
    unfold laws_eqByteS_l0
    exact
     Pn.bind (fun x2 h4 =>
     Pn.ite (fun h5 =>
     Pn.some (LpO.out [.wait 3, .nm 13 (V.sc (.int .i64 (a.length : Int))), .bit true, .draw [], .el (E5 x1), .el (E5 x2), .bit true, .wait 1, .mask [4], .ren []] (p := [V.sc (.int .i64 ((List.map E5 a).length : Int)) = V.sc (.int .i64 (a.length : Int)),
      (decide ((p1.length : Int) < (a.length : Int))) = true,
      (0 : Int) ≤ (p1.length : Int),
      (List.map E5 a)[(p1.length : Int).toNat]? = some (E5 x1),
      (0 : Int) ≤ (p1.length : Int),
      (List.map E5 b)[(p1.length : Int).toNat]? = some (E5 x2),
      (x1 != x2) = true]) (by kernel_rfl) (show X.ret ≠ X.go from nofun) (cj (len_nm _ _) (cj (rng_lt h2) (cj (by omega) (cj (rng_get _ h2) (cj (by omega) (cj (map_get h4) (cj1 h5))))))))) (fun h5 =>
     LpO.go [.wait 3, .nm 13 (V.sc (.int .i64 (a.length : Int))), .bit true, .draw [], .el (E5 x1), .el (E5 x2), .bit false, .wait 3, .mask [0, 1, 5], .ren [], .nm 5 (V.sc (.int .i64 ((p1 ++ [x1]).length : Int)))] (p := [V.sc (.int .i64 ((List.map E5 a).length : Int)) = V.sc (.int .i64 (a.length : Int)),
      (decide ((p1.length : Int) < (a.length : Int))) = true,
      (0 : Int) ≤ (p1.length : Int),
      (List.map E5 a)[(p1.length : Int).toNat]? = some (E5 x1),
      (0 : Int) ≤ (p1.length : Int),
      (List.map E5 b)[(p1.length : Int).toNat]? = some (E5 x2),
      (x1 != x2) = false,
      V.sc (.int .i64 (i64 ((p1.length : Int) + 1))) = V.sc (.int .i64 ((p1 ++ [x1]).length : Int))]) (by kernel_rfl) (cj (len_nm _ _) (cj (rng_lt h2) (cj (by omega) (cj (rng_get _ h2) (cj (by omega) (cj (map_get h4) (cj h5 (cj1 (rng_next h2 h3))))))))) (laws_eqByteS_l0_ok a b h3 t1 (p1 ++ [x1]) (rng_step h2))))
def laws_eqByteS (a : List Int) (b : List Int) : Option (Bool) :=
 if ((a.length : Int) != (b.length : Int)) = true then
 some false
 else
 if (capOk a.length) = true then
 (laws_eqByteS_l0 a b a []).bind fun r1 =>
 Lo.elim r1 (fun s1 =>
 some true) (fun s2 =>
 some false)
 else none
theorem laws_eqByteS_ok (a : List Int) (b : List Int) : Pn (fun y => Fn Tryd.prog 56 [(false, E40 a), (false, E40 b)] (E4 y) []) (laws_eqByteS a b) := by
  unfold laws_eqByteS
  exact
   Pn.ite (fun h1 =>
   Pn.some (Fn.of [.wait 3, .nm 7 (V.sc (.int .i64 (a.length : Int))), .wait 2, .nm 9 (V.sc (.int .i64 (b.length : Int))), .bit true] (p := [V.sc (.int .i64 ((List.map E5 a).length : Int)) = V.sc (.int .i64 (a.length : Int)),
    V.sc (.int .i64 ((List.map E5 b).length : Int)) = V.sc (.int .i64 (b.length : Int)),
    ((a.length : Int) != (b.length : Int)) = true]) (by kernel_rfl) (cj (len_nm _ _) (cj (len_nm _ _) (cj1 h1))))) (fun h1 =>
   Pn.ite (fun h6 =>
   Pn.bind (fun r1 h7 =>
   Pn.lo (fun s1 h8 =>
   Pn.some (Fn.of [.wait 3, .nm 7 (V.sc (.int .i64 (a.length : Int))), .wait 2, .nm 9 (V.sc (.int .i64 (b.length : Int))), .bit false, .wait 1, .mask [0, 1, 5], .ren [], .loop (X.out 0) (st 26 [] [] [])] (p := [V.sc (.int .i64 ((List.map E5 a).length : Int)) = V.sc (.int .i64 (a.length : Int)),
    V.sc (.int .i64 ((List.map E5 b).length : Int)) = V.sc (.int .i64 (b.length : Int)),
    ((a.length : Int) != (b.length : Int)) = false,
    Loop Tryd.prog (sub (codeOf Tryd.prog 56) [1, 1, 0, 1, 0, 0]) (st 26 [(0, V.sl false 5 (List.map E5 a)), (1, V.sl false 5 (List.map E5 b)), (5, V.sc (.int .i64 0))] [] []) (X.out 0) (st 26 [] [] [])]) (by kernel_rfl) (cj (len_nm _ _) (cj (len_nm _ _) (cj h1 (cj1 ((laws_eqByteS_l0_ok a b h6 a [] rfl r1 h7).at h8))))))) (fun s2 h9 =>
   Pn.some (Fn.of [.wait 3, .nm 7 (V.sc (.int .i64 (a.length : Int))), .wait 2, .nm 9 (V.sc (.int .i64 (b.length : Int))), .bit false, .wait 1, .mask [0, 1, 5], .ren [], .loop (X.ret) (st 26 [(4, V.sc (.bool false))] [] [])] (p := [V.sc (.int .i64 ((List.map E5 a).length : Int)) = V.sc (.int .i64 (a.length : Int)),
    V.sc (.int .i64 ((List.map E5 b).length : Int)) = V.sc (.int .i64 (b.length : Int)),
    ((a.length : Int) != (b.length : Int)) = false,
    Loop Tryd.prog (sub (codeOf Tryd.prog 56) [1, 1, 0, 1, 0, 0]) (st 26 [(0, V.sl false 5 (List.map E5 a)), (1, V.sl false 5 (List.map E5 b)), (5, V.sc (.int .i64 0))] [] []) (X.ret) (st 26 [(4, V.sc (.bool false))] [] [])]) (by kernel_rfl) (cj (len_nm _ _) (cj (len_nm _ _) (cj h1 (cj1 ((laws_eqByteS_l0_ok a b h6 a [] rfl r1 h7).at h9))))))))) (fun h6 =>
   Pn.none))
def laws_eqEvent (a : Event) (b : Event) : Option (Bool) :=
 if (a.Kind != b.Kind) = true then
 some false
 else
 if (a.K != b.K) = true then
 some false
 else
 (laws_eqByteS a.Data b.Data).bind fun r1 =>
 if r1 = true then
 some true
 else
 some false
theorem laws_eqEvent_ok (a : Event) (b : Event) : Pn (fun y => Fn Tryd.prog 19 [(false, E42 a), (false, E42 b)] (E4 y) []) (laws_eqEvent a b) := by
  unfold laws_eqEvent
  exact
   Pn.ite (fun h1 =>
   Pn.some (Fn.of [.bit true] (p := [(a.Kind != b.Kind) = true]) (by kernel_rfl) (cj1 h1))) (fun h1 =>
   Pn.ite (fun h2 =>
   Pn.some (Fn.of [.bit false, .bit true] (p := [(a.Kind != b.Kind) = false,
    (a.K != b.K) = true]) (by kernel_rfl) (cj h1 (cj1 h2)))) (fun h2 =>
   Pn.bind (fun r1 h3 =>
   Pn.ite (fun h4 =>
   Pn.some (Fn.of [.bit false, .bit false, .call [] (E4 r1) [], .bit false] (p := [(a.Kind != b.Kind) = false,
    (a.K != b.K) = false,
    Fn Tryd.prog 56 [(false, E40 a.Data), (false, E40 b.Data)] (E4 r1) [],
    (true || ((E4 r1).nv && nvL [])) = true,
    (!r1) = false]) (by kernel_rfl) (cj h1 (cj h2 (cj (laws_eqByteS_ok a.Data b.Data r1 h3) (cj rfl (cj1 (nf h4)))))))) (fun h4 =>
   Pn.some (Fn.of [.bit false, .bit false, .call [] (E4 r1) [], .bit true] (p := [(a.Kind != b.Kind) = false,
    (a.K != b.K) = false,
    Fn Tryd.prog 56 [(false, E40 a.Data), (false, E40 b.Data)] (E4 r1) [],
    (true || ((E4 r1).nv && nvL [])) = true,
    (!r1) = true]) (by kernel_rfl) (cj h1 (cj h2 (cj (laws_eqByteS_ok a.Data b.Data r1 h3) (cj rfl (cj1 (nt h4)))))))))))
def laws_eqEventS_l0 (a : List Event) (b : List Event) : List Event → List Event → Option (Lo Unit Unit)
  | [], p1 =>
   some (.out ())
  | x1 :: t1, p1 =>
   (b[(p1.length : Int).toNat]?).bind fun x2 =>
   (laws_eqEvent x1 x2).bind fun r1 =>
   if r1 = true then
   laws_eqEventS_l0 a b t1 (p1 ++ [x1])
   else
   some (.ret ())
theorem laws_eqEventS_l0_ok (a : List Event) (b : List Event) (h3 : capOk a.length = true) : ∀ (t1 p1 : List Event) (_ : a = p1 ++ t1) , Pn (LpO Tryd.prog (sub (codeOf Tryd.prog 24) [1, 1, 0, 1, 0, 0]) (st 27 [(0, V.sl false 42 (List.map E42 a)), (1, V.sl false 42 (List.map E42 b)), (5, V.sc (.int .i64 (p1.length : Int)))] [] []) (fun (y : Lo Unit Unit) => Lo.elim y (fun s => (X.out 0, st 27 [] [] [])) (fun s => (X.ret, st 27 [(4, V.sc (.bool false))] [] [])))) (laws_eqEventS_l0 a b t1 p1)
  | [], p1, h2 => by
    unfold laws_eqEventS_l0
    exact
     Pn.some (LpO.out [.wait 3, .nm 13 (V.sc (.int .i64 (a.length : Int))), .bit false, .mask [], .ren []] (p := [V.sc (.int .i64 ((List.map E42 a).length : Int)) = V.sc (.int .i64 (a.length : Int)),
      (decide ((p1.length : Int) < (a.length : Int))) = false]) (by kernel_rfl) (show X.out 0 ≠ X.go from nofun) (cj (len_nm _ _) (cj1 (rng_end h2))))
  | x1 :: t1, p1, h2 => by
    unfold laws_eqEventS_l0
    exact
     Pn.bind (fun x2 h4 =>
     Pn.bind (fun r1 h5 =>
     Pn.ite (fun h6 =>
     LpO.go [.wait 3, .nm 13 (V.sc (.int .i64 (a.length : Int))), .bit true, .draw [], .el (E42 x1), .el (E42 x2), .call [] (E4 r1) [], .bit false, .wait 3, .mask [0, 1, 5], .ren [], .nm 5 (V.sc (.int .i64 ((p1 ++ [x1]).length : Int)))] (p := [V.sc (.int .i64 ((List.map E42 a).length : Int)) = V.sc (.int .i64 (a.length : Int)),
      (decide ((p1.length : Int) < (a.length : Int))) = true,
      (0 : Int) ≤ (p1.length : Int),
      (List.map E42 a)[(p1.length : Int).toNat]? = some (E42 x1),
      (0 : Int) ≤ (p1.length : Int),
      (List.map E42 b)[(p1.length : Int).toNat]? = some (E42 x2),
      Fn Tryd.prog 19 [(false, E42 x1), (false, E42 x2)] (E4 r1) [],
      (true || ((E4 r1).nv && nvL [])) = true,
      (!r1) = false,
      V.sc (.int .i64 (i64 ((p1.length : Int) + 1))) = V.sc (.int .i64 ((p1 ++ [x1]).length : Int))]) (by kernel_rfl) (cj (len_nm _ _) (cj (rng_lt h2) (cj (by omega) (cj (rng_get _ h2) (cj (by omega) (cj (map_get h4) (cj (laws_eqEvent_ok x1 x2 r1 h5) (cj rfl (cj (nf h6) (cj1 (rng_next h2 h3))))))))))) (laws_eqEventS_l0_ok a b h3 t1 (p1 ++ [x1]) (rng_step h2))) (fun h6 =>
     Pn.some (LpO.out [.wait 3, .nm 13 (V.sc (.int .i64 (a.length : Int))), .bit true, .draw [], .el (E42 x1), .el (E42 x2), .call [] (E4 r1) [], .bit true, .wait 1, .mask [4], .ren []] (p := [V.sc (.int .i64 ((List.map E42 a).length : Int)) = V.sc (.int .i64 (a.length : Int)),
      (decide ((p1.length : Int) < (a.length : Int))) = true,
      (0 : Int) ≤ (p1.length : Int),
      (List.map E42 a)[(p1.length : Int).toNat]? = some (E42 x1),
      (0 : Int) ≤ (p1.length : Int),
      (List.map E42 b)[(p1.length : Int).toNat]? = some (E42 x2),
      Fn Tryd.prog 19 [(false, E42 x1), (false, E42 x2)] (E4 r1) [],
      (true || ((E4 r1).nv && nvL [])) = true,
      (!r1) = true]) (by kernel_rfl) (show X.ret ≠ X.go from nofun) (cj (len_nm _ _) (cj (rng_lt h2) (cj (by omega) (cj (rng_get _ h2) (cj (by omega) (cj (map_get h4) (cj (laws_eqEvent_ok x1 x2 r1 h5) (cj rfl (cj1 (nt h6))))))))))))))
def laws_eqEventS (a : List Event) (b : List Event) : Option (Bool) :=
 if ((a.length : Int) != (b.length : Int)) = true then
 some false
 else
 if (capOk a.length) = true then
 (laws_eqEventS_l0 a b a []).bind fun r2 =>
 Lo.elim r2 (fun s1 =>
 some true) (fun s2 =>
 some false)
 else none
theorem laws_eqEventS_ok (a : List Event) (b : List Event) : Pn (fun y => Fn Tryd.prog 24 [(false, E48 a), (false, E48 b)] (E4 y) []) (laws_eqEventS a b) := by
  unfold laws_eqEventS
  exact
   Pn.ite (fun h1 =>
   Pn.some (Fn.of [.wait 3, .nm 7 (V.sc (.int .i64 (a.length : Int))), .wait 2, .nm 9 (V.sc (.int .i64 (b.length : Int))), .bit true] (p := [V.sc (.int .i64 ((List.map E42 a).length : Int)) = V.sc (.int .i64 (a.length : Int)),
    V.sc (.int .i64 ((List.map E42 b).length : Int)) = V.sc (.int .i64 (b.length : Int)),
    ((a.length : Int) != (b.length : Int)) = true]) (by kernel_rfl) (cj (len_nm _ _) (cj (len_nm _ _) (cj1 h1))))) (fun h1 =>
   Pn.ite (fun h7 =>
   Pn.bind (fun r2 h8 =>
   Pn.lo (fun s1 h9 =>
   Pn.some (Fn.of [.wait 3, .nm 7 (V.sc (.int .i64 (a.length : Int))), .wait 2, .nm 9 (V.sc (.int .i64 (b.length : Int))), .bit false, .wait 1, .mask [0, 1, 5], .ren [], .loop (X.out 0) (st 27 [] [] [])] (p := [V.sc (.int .i64 ((List.map E42 a).length : Int)) = V.sc (.int .i64 (a.length : Int)),
    V.sc (.int .i64 ((List.map E42 b).length : Int)) = V.sc (.int .i64 (b.length : Int)),
    ((a.length : Int) != (b.length : Int)) = false,
    Loop Tryd.prog (sub (codeOf Tryd.prog 24) [1, 1, 0, 1, 0, 0]) (st 27 [(0, V.sl false 42 (List.map E42 a)), (1, V.sl false 42 (List.map E42 b)), (5, V.sc (.int .i64 0))] [] []) (X.out 0) (st 27 [] [] [])]) (by kernel_rfl) (cj (len_nm _ _) (cj (len_nm _ _) (cj h1 (cj1 ((laws_eqEventS_l0_ok a b h7 a [] rfl r2 h8).at h9))))))) (fun s2 h10 =>
   Pn.some (Fn.of [.wait 3, .nm 7 (V.sc (.int .i64 (a.length : Int))), .wait 2, .nm 9 (V.sc (.int .i64 (b.length : Int))), .bit false, .wait 1, .mask [0, 1, 5], .ren [], .loop (X.ret) (st 27 [(4, V.sc (.bool false))] [] [])] (p := [V.sc (.int .i64 ((List.map E42 a).length : Int)) = V.sc (.int .i64 (a.length : Int)),
    V.sc (.int .i64 ((List.map E42 b).length : Int)) = V.sc (.int .i64 (b.length : Int)),
    ((a.length : Int) != (b.length : Int)) = false,
    Loop Tryd.prog (sub (codeOf Tryd.prog 24) [1, 1, 0, 1, 0, 0]) (st 27 [(0, V.sl false 42 (List.map E42 a)), (1, V.sl false 42 (List.map E42 b)), (5, V.sc (.int .i64 0))] [] []) (X.ret) (st 27 [(4, V.sc (.bool false))] [] [])]) (by kernel_rfl) (cj (len_nm _ _) (cj (len_nm _ _) (cj h1 (cj1 ((laws_eqEventS_l0_ok a b h7 a [] rfl r2 h8).at h10))))))))) (fun h7 =>
   Pn.none))
def laws_markByteS_l0  : Nat → Int → Int → (List Int) → Option (Int × (List Int))
  | 0, _, _, _ => none
  | fuel + 1, v1, v2, v3 =>
   if (decide (v2 < (v3.length : Int))) = true then
   if (decide (0 ≤ v2)) = true then
   (v3[v2.toNat]?).bind fun x1 =>
   laws_markByteS_l0 fuel (i64 (v1 + 1)) (i64 (v2 + 1)) (v3.set v2.toNat (u8 v1))
   else none
   else
   some (v1, v3)
theorem laws_markByteS_l0_ok  : ∀ (fuel : Nat) (v1 : Int) (v2 : Int) (v3 : List Int), Pn (LpO Tryd.prog (sub (codeOf Tryd.prog 57) [1, 0, 1, 0, 0]) (st 20 [(0, V.ow 0), (1, V.sc (.int .i64 v1)), (5, V.sc (.int .i64 v2))] [Blk.row 5 (List.map E5 v3) []] [some 0]) (fun (y : Int × (List Int)) => (X.out 0, st 20 [(1, V.sc (.int .i64 y.1))] [Blk.row 5 (List.map E5 y.2) []] [some 0]))) (laws_markByteS_l0 fuel v1 v2 v3)
  | 0, _, _, _ => Pn.none
  | fuel + 1, v1, v2, v3 => by
    unfold laws_markByteS_l0
    exact
     Pn.ite (fun h1 =>
     Pn.ite (fun h2 =>
     Pn.bind (fun x1 h3 =>
     LpO.go [.wait 3, .nm 8 (V.sc (.int .i64 (v3.length : Int))), .bit true, .el (E5 x1), .nb 0 (.row 5 (List.map E5 (v3.set v2.toNat (u8 v1))) []), .wait 7, .mask [0, 1, 5], .ren [0]] (p := [V.sc (.int .i64 ((List.map E5 v3).length : Int)) = V.sc (.int .i64 (v3.length : Int)),
      (decide (v2 < (v3.length : Int))) = true,
      (0 : Int) ≤ v2,
      (v2 : Int) < ((List.map E5 v3).length : Int),
      look [] v2.toNat = none,
      (List.map E5 v3)[v2.toNat]? = some (E5 x1),
      Blk.row 5 ((List.map E5 v3).set v2.toNat (V.sc (.int .u8 (u8 v1)))) [] = Blk.row 5 (List.map E5 (v3.set v2.toNat (u8 v1))) []]) (by kernel_rfl) (cj (len_nm _ _) (cj h1 (cj (od h2) (cj (map_ltN (od h2) h3) (cj rfl (cj (map_get h3) (cj1 (nb_set E5 _ _ (u8 v1))))))))) (laws_markByteS_l0_ok fuel (i64 (v1 + 1)) (i64 (v2 + 1)) (v3.set v2.toNat (u8 v1))))) (fun h2 =>
     Pn.none)) (fun h1 =>
     Pn.some (LpO.out [.wait 3, .nm 8 (V.sc (.int .i64 (v3.length : Int))), .bit false, .mask [1], .ren [0]] (p := [V.sc (.int .i64 ((List.map E5 v3).length : Int)) = V.sc (.int .i64 (v3.length : Int)),
      (decide (v2 < (v3.length : Int))) = false]) (by kernel_rfl) (show X.out 0 ≠ X.go from nofun) (cj (len_nm _ _) (cj1 h1))))
def laws_markByteS (a : List Int) (k : Int) : Option (Int × (List Int)) :=
 (laws_markByteS_l0 FUEL k 0 a).bind fun r1 =>
 some (r1.1, r1.2)
theorem laws_markByteS_ok (a : List Int) (k : Int) : Pn (fun y => Fn Tryd.prog 57 [(true, E40 a), (false, E3 k)] (E3 y.1) [V.sl true 5 (List.map E5 y.2)]) (laws_markByteS a k) := by
  unfold laws_markByteS
  exact
   Pn.bind (fun r1 h4 =>
   Pn.some (Fn.of [.wait 3, .mask [0, 1, 5], .ren [0], .loop (X.out 0) (st 20 [(1, V.sc (.int .i64 r1.1))] [Blk.row 5 (List.map E5 r1.2) []] [some 0])] (p := [Loop Tryd.prog (sub (codeOf Tryd.prog 57) [1, 0, 1, 0, 0]) (st 20 [(0, V.ow 0), (1, V.sc (.int .i64 k)), (5, V.sc (.int .i64 0))] [Blk.row 5 (List.map E5 a) []] [some 0]) (X.out 0) (st 20 [(1, V.sc (.int .i64 r1.1))] [Blk.row 5 (List.map E5 r1.2) []] [some 0])]) (by kernel_rfl) (cj1 (laws_markByteS_l0_ok FUEL k 0 a r1 h4))))
def laws_markEventS_l0  : Nat → Int → Int → (List Event) → Option (Int × (List Event))
  | 0, _, _, _ => none
  | fuel + 1, v1, v2, v3 =>
   if (decide (v2 < (v3.length : Int))) = true then
   if (decide (0 ≤ v2)) = true then
   (v3[v2.toNat]?).bind fun x1 =>
   (laws_markByteS x1.Data (i64 ((i64 (v1 + 1)) + 1))).bind fun r1 =>
   laws_markEventS_l0 fuel r1.1 (i64 (v2 + 1)) (v3.set v2.toNat (Event.mk v1 (i64 (v1 + 1)) r1.2))
   else none
   else
   some (v1, v3)
theorem laws_markEventS_l0_ok  : ∀ (fuel : Nat) (v1 : Int) (v2 : Int) (v3 : List Event), Pn (LpO Tryd.prog (sub (codeOf Tryd.prog 25) [1, 0, 1, 0, 0]) (st 34 [(0, V.ow 0), (1, V.sc (.int .i64 v1)), (5, V.sc (.int .i64 v2))] [Blk.row 42 (List.map E42 v3) []] [some 0]) (fun (y : Int × (List Event)) => (X.out 0, st 34 [(1, V.sc (.int .i64 y.1))] [Blk.row 42 (List.map E42 y.2) []] [some 0]))) (laws_markEventS_l0 fuel v1 v2 v3)
  | 0, _, _, _ => Pn.none
  | fuel + 1, v1, v2, v3 => by
    unfold laws_markEventS_l0
    exact
     Pn.ite (fun h1 =>
     Pn.ite (fun h2 =>
     Pn.bind (fun x1 h3 =>
     Pn.bind (fun r1 h4 =>
     LpO.go [.wait 3, .nm 8 (V.sc (.int .i64 (v3.length : Int))), .bit true, .wait 3, .foc 0 v2.toNat (E42 x1), .fo 0, .fo 0, .fo 0, .call [true, false] (E3 r1.1) [V.sl true 5 (List.map E5 r1.2)], .wait 5, .shut 0, .nb 0 (.row 42 (List.map E42 (v3.set v2.toNat (Event.mk v1 (i64 (v1 + 1)) r1.2))) []), .mask [0, 1, 5], .ren [0]] (p := [V.sc (.int .i64 ((List.map E42 v3).length : Int)) = V.sc (.int .i64 (v3.length : Int)),
      (decide (v2 < (v3.length : Int))) = true,
      (0 : Int) ≤ v2,
      (v2 : Int) < ((List.map E42 v3).length : Int),
      look [] v2.toNat = none,
      (List.map E42 v3)[v2.toNat]? = some (E42 x1),
      look [(v2.toNat, V.agg [V.sc (.int .i64 x1.Kind), V.sc (.int .i64 x1.K), V.ow 1])] v2.toNat = some (V.agg [V.sc (.int .i64 x1.Kind), V.sc (.int .i64 x1.K), V.ow 1]),
      v2.toNat < (List.map E42 v3).length,
      v2.toNat = v2.toNat,
      (0 : Int) ≤ v2,
      (v2 : Int) < ((List.map E42 v3).length : Int),
      look [(v2.toNat, V.agg [V.sc (.int .i64 v1), V.sc (.int .i64 x1.K), V.ow 1])] v2.toNat = some (V.agg [V.sc (.int .i64 v1), V.sc (.int .i64 x1.K), V.ow 1]),
      v2.toNat < (List.map E42 v3).length,
      v2.toNat = v2.toNat,
      (0 : Int) ≤ v2,
      (v2 : Int) < ((List.map E42 v3).length : Int),
      look [(v2.toNat, V.agg [V.sc (.int .i64 v1), V.sc (.int .i64 (i64 (v1 + 1))), V.ow 1])] v2.toNat = some (V.agg [V.sc (.int .i64 v1), V.sc (.int .i64 (i64 (v1 + 1))), V.ow 1]),
      v2.toNat < (List.map E42 v3).length,
      Fn Tryd.prog 57 [(true, E40 x1.Data), (false, E3 (i64 ((i64 (v1 + 1)) + 1)))] (E3 r1.1) [V.sl true 5 (List.map E5 r1.2)],
      (true || ((E3 r1.1).nv && nvL [V.sl true 5 (List.map E5 r1.2)])) = true,
      Blk.row 42 ((List.map E42 v3).set v2.toNat (V.agg [V.sc (.int .i64 v1), V.sc (.int .i64 (i64 (v1 + 1))), V.sl true 5 (List.map E5 r1.2)])) [] = Blk.row 42 (List.map E42 (v3.set v2.toNat (Event.mk v1 (i64 (v1 + 1)) r1.2))) []]) (by kernel_rfl) (cj (len_nm _ _) (cj h1 (cj (od h2) (cj (map_ltN (od h2) h3) (cj rfl (cj (map_get h3) (cj (look_cons_self _ _ _) (cj (map_lt h3) (cj rfl (cj (od h2) (cj (map_ltN (od h2) h3) (cj (look_cons_self _ _ _) (cj (map_lt h3) (cj rfl (cj (od h2) (cj (map_ltN (od h2) h3) (cj (look_cons_self _ _ _) (cj (map_lt h3) (cj (laws_markByteS_ok x1.Data (i64 ((i64 (v1 + 1)) + 1)) r1 h4) (cj rfl (cj1 (nb_set E42 _ _ (Event.mk v1 (i64 (v1 + 1)) r1.2))))))))))))))))))))))) (laws_markEventS_l0_ok fuel r1.1 (i64 (v2 + 1)) (v3.set v2.toNat (Event.mk v1 (i64 (v1 + 1)) r1.2)))))) (fun h2 =>
     Pn.none)) (fun h1 =>
     Pn.some (LpO.out [.wait 3, .nm 8 (V.sc (.int .i64 (v3.length : Int))), .bit false, .mask [1], .ren [0]] (p := [V.sc (.int .i64 ((List.map E42 v3).length : Int)) = V.sc (.int .i64 (v3.length : Int)),
      (decide (v2 < (v3.length : Int))) = false]) (by kernel_rfl) (show X.out 0 ≠ X.go from nofun) (cj (len_nm _ _) (cj1 h1))))
def laws_markEventS (a : List Event) (k : Int) : Option (Int × (List Event)) :=
 (laws_markEventS_l0 FUEL k 0 a).bind fun r2 =>
 some (r2.1, r2.2)
theorem laws_markEventS_ok (a : List Event) (k : Int) : Pn (fun y => Fn Tryd.prog 25 [(true, E48 a), (false, E3 k)] (E3 y.1) [V.sl true 42 (List.map E42 y.2)]) (laws_markEventS a k) := by
  unfold laws_markEventS
  exact
   Pn.bind (fun r2 h5 =>
   Pn.some (Fn.of [.wait 3, .mask [0, 1, 5], .ren [0], .loop (X.out 0) (st 34 [(1, V.sc (.int .i64 r2.1))] [Blk.row 42 (List.map E42 r2.2) []] [some 0])] (p := [Loop Tryd.prog (sub (codeOf Tryd.prog 25) [1, 0, 1, 0, 0]) (st 34 [(0, V.ow 0), (1, V.sc (.int .i64 k)), (5, V.sc (.int .i64 0))] [Blk.row 42 (List.map E42 a) []] [some 0]) (X.out 0) (st 34 [(1, V.sc (.int .i64 r2.1))] [Blk.row 42 (List.map E42 r2.2) []] [some 0])]) (by kernel_rfl) (cj1 (laws_markEventS_l0_ok FUEL k 0 a r2 h5))))
def laws_heldByteS_l0 (a : List Int) : List Int → Int → Option (Lo Int Unit)
  | [], v1 =>
   some (.out v1)
  | x1 :: t1, v1 =>
   if (x1 != (u8 v1)) = true then
   some (.ret ())
   else
   laws_heldByteS_l0 a t1 (i64 (v1 + 1))
theorem laws_heldByteS_l0_ok (a : List Int) (h2 : capOk a.length = true) : ∀ (t1 p1 : List Int) (_ : a = p1 ++ t1) (v1 : Int), Pn (LpO Tryd.prog (sub (codeOf Tryd.prog 58) [1, 0, 1, 0, 0]) (st 22 [(0, V.sl false 5 (List.map E5 a)), (1, V.sc (.int .i64 v1)), (5, V.sc (.int .i64 (p1.length : Int)))] [] []) (fun (y : Lo Int Unit) => Lo.elim y (fun s => (X.out 0, st 22 [(1, V.sc (.int .i64 s))] [] [])) (fun s => (X.ret, st 22 [(4, V.sc (.int .i64 (-1)))] [] [])))) (laws_heldByteS_l0 a t1 v1)
  | [], p1, h1, v1 => by
    unfold laws_heldByteS_l0
    exact
     Pn.some (LpO.out [.wait 3, .nm 8 (V.sc (.int .i64 (a.length : Int))), .bit false, .mask [1], .ren []] (p := [V.sc (.int .i64 ((List.map E5 a).length : Int)) = V.sc (.int .i64 (a.length : Int)),
      (decide ((p1.length : Int) < (a.length : Int))) = false]) (by kernel_rfl) (show X.out 0 ≠ X.go from nofun) (cj (len_nm _ _) (cj1 (rng_end h1))))
  | x1 :: t1, p1, h1, v1 => by
    unfold laws_heldByteS_l0
    exact
     Pn.ite (fun h3 =>
     Pn.some (LpO.out [.wait 3, .nm 8 (V.sc (.int .i64 (a.length : Int))), .bit true, .el (E5 x1), .bit true, .wait 1, .mask [4], .ren []] (p := [V.sc (.int .i64 ((List.map E5 a).length : Int)) = V.sc (.int .i64 (a.length : Int)),
      (decide ((p1.length : Int) < (a.length : Int))) = true,
      (0 : Int) ≤ (p1.length : Int),
      (List.map E5 a)[(p1.length : Int).toNat]? = some (E5 x1),
      (x1 != (u8 v1)) = true]) (by kernel_rfl) (show X.ret ≠ X.go from nofun) (cj (len_nm _ _) (cj (rng_lt h1) (cj (by omega) (cj (rng_get _ h1) (cj1 h3))))))) (fun h3 =>
     LpO.go [.wait 3, .nm 8 (V.sc (.int .i64 (a.length : Int))), .bit true, .el (E5 x1), .bit false, .wait 6, .mask [0, 1, 5], .ren [], .nm 5 (V.sc (.int .i64 ((p1 ++ [x1]).length : Int)))] (p := [V.sc (.int .i64 ((List.map E5 a).length : Int)) = V.sc (.int .i64 (a.length : Int)),
      (decide ((p1.length : Int) < (a.length : Int))) = true,
      (0 : Int) ≤ (p1.length : Int),
      (List.map E5 a)[(p1.length : Int).toNat]? = some (E5 x1),
      (x1 != (u8 v1)) = false,
      V.sc (.int .i64 (i64 ((p1.length : Int) + 1))) = V.sc (.int .i64 ((p1 ++ [x1]).length : Int))]) (by kernel_rfl) (cj (len_nm _ _) (cj (rng_lt h1) (cj (by omega) (cj (rng_get _ h1) (cj h3 (cj1 (rng_next h1 h2))))))) (laws_heldByteS_l0_ok a h2 t1 (p1 ++ [x1]) (rng_step h1) (i64 (v1 + 1))))
def laws_heldByteS (a : List Int) (k : Int) : Option (Int) :=
 if (capOk a.length) = true then
 (laws_heldByteS_l0 a a k).bind fun r1 =>
 Lo.elim r1 (fun s1 =>
 some s1) (fun s2 =>
 some (-1))
 else none
theorem laws_heldByteS_ok (a : List Int) (k : Int) : Pn (fun y => Fn Tryd.prog 58 [(false, E40 a), (false, E3 k)] (E3 y) []) (laws_heldByteS a k) := by
  unfold laws_heldByteS
  exact
   Pn.ite (fun h4 =>
   Pn.bind (fun r1 h5 =>
   Pn.lo (fun s1 h6 =>
   Pn.some (Fn.of [.wait 3, .mask [0, 1, 5], .ren [], .loop (X.out 0) (st 22 [(1, V.sc (.int .i64 s1))] [] [])] (p := [Loop Tryd.prog (sub (codeOf Tryd.prog 58) [1, 0, 1, 0, 0]) (st 22 [(0, V.sl false 5 (List.map E5 a)), (1, V.sc (.int .i64 k)), (5, V.sc (.int .i64 0))] [] []) (X.out 0) (st 22 [(1, V.sc (.int .i64 s1))] [] [])]) (by kernel_rfl) (cj1 ((laws_heldByteS_l0_ok a h4 a [] rfl k r1 h5).at h6)))) (fun s2 h7 =>
   Pn.some (Fn.of [.wait 3, .mask [0, 1, 5], .ren [], .loop (X.ret) (st 22 [(4, V.sc (.int .i64 (-1)))] [] [])] (p := [Loop Tryd.prog (sub (codeOf Tryd.prog 58) [1, 0, 1, 0, 0]) (st 22 [(0, V.sl false 5 (List.map E5 a)), (1, V.sc (.int .i64 k)), (5, V.sc (.int .i64 0))] [] []) (X.ret) (st 22 [(4, V.sc (.int .i64 (-1)))] [] [])]) (by kernel_rfl) (cj1 ((laws_heldByteS_l0_ok a h4 a [] rfl k r1 h5).at h7)))))) (fun h4 =>
   Pn.none)
def laws_heldEventS_l0 (a : List Event) : List Event → Int → Option (Lo Int Unit)
  | [], v1 =>
   some (.out v1)
  | x1 :: t1, v1 =>
   if (x1.Kind != v1) = true then
   some (.ret ())
   else
   if (x1.K != (i64 (v1 + 1))) = true then
   some (.ret ())
   else
   (laws_heldByteS x1.Data (i64 ((i64 (v1 + 1)) + 1))).bind fun r1 =>
   if (decide (r1 < 0)) = true then
   some (.ret ())
   else
   laws_heldEventS_l0 a t1 r1
theorem laws_heldEventS_l0_ok (a : List Event) (h2 : capOk a.length = true) : ∀ (t1 p1 : List Event) (_ : a = p1 ++ t1) (v1 : Int), Pn (LpO Tryd.prog (sub (codeOf Tryd.prog 26) [1, 0, 1, 0, 0]) (st 40 [(0, V.sl false 42 (List.map E42 a)), (1, V.sc (.int .i64 v1)), (5, V.sc (.int .i64 (p1.length : Int)))] [] []) (fun (y : Lo Int Unit) => Lo.elim y (fun s => (X.out 0, st 40 [(1, V.sc (.int .i64 s))] [] [])) (fun s => (X.ret, st 40 [(4, V.sc (.int .i64 (-1)))] [] [])))) (laws_heldEventS_l0 a t1 v1)
  | [], p1, h1, v1 => by
    unfold laws_heldEventS_l0
    exact
     Pn.some (LpO.out [.wait 3, .nm 8 (V.sc (.int .i64 (a.length : Int))), .bit false, .mask [1], .ren []] (p := [V.sc (.int .i64 ((List.map E42 a).length : Int)) = V.sc (.int .i64 (a.length : Int)),
      (decide ((p1.length : Int) < (a.length : Int))) = false]) (by kernel_rfl) (show X.out 0 ≠ X.go from nofun) (cj (len_nm _ _) (cj1 (rng_end h1))))
  | x1 :: t1, p1, h1, v1 => by
    unfold laws_heldEventS_l0
    exact
     Pn.ite (fun h3 =>
     Pn.some (LpO.out [.wait 3, .nm 8 (V.sc (.int .i64 (a.length : Int))), .bit true, .el (E42 x1), .bit true, .wait 1, .mask [4], .ren []] (p := [V.sc (.int .i64 ((List.map E42 a).length : Int)) = V.sc (.int .i64 (a.length : Int)),
      (decide ((p1.length : Int) < (a.length : Int))) = true,
      (0 : Int) ≤ (p1.length : Int),
      (List.map E42 a)[(p1.length : Int).toNat]? = some (E42 x1),
      (x1.Kind != v1) = true]) (by kernel_rfl) (show X.ret ≠ X.go from nofun) (cj (len_nm _ _) (cj (rng_lt h1) (cj (by omega) (cj (rng_get _ h1) (cj1 h3))))))) (fun h3 =>
     Pn.ite (fun h4 =>
     Pn.some (LpO.out [.wait 3, .nm 8 (V.sc (.int .i64 (a.length : Int))), .bit true, .el (E42 x1), .bit false, .el (E42 x1), .bit true, .wait 1, .mask [4], .ren []] (p := [V.sc (.int .i64 ((List.map E42 a).length : Int)) = V.sc (.int .i64 (a.length : Int)),
      (decide ((p1.length : Int) < (a.length : Int))) = true,
      (0 : Int) ≤ (p1.length : Int),
      (List.map E42 a)[(p1.length : Int).toNat]? = some (E42 x1),
      (x1.Kind != v1) = false,
      (0 : Int) ≤ (p1.length : Int),
      (List.map E42 a)[(p1.length : Int).toNat]? = some (E42 x1),
      (x1.K != (i64 (v1 + 1))) = true]) (by kernel_rfl) (show X.ret ≠ X.go from nofun) (cj (len_nm _ _) (cj (rng_lt h1) (cj (by omega) (cj (rng_get _ h1) (cj h3 (cj (by omega) (cj (rng_get _ h1) (cj1 h4)))))))))) (fun h4 =>
     Pn.bind (fun r1 h5 =>
     Pn.ite (fun h6 =>
     Pn.some (LpO.out [.wait 3, .nm 8 (V.sc (.int .i64 (a.length : Int))), .bit true, .el (E42 x1), .bit false, .el (E42 x1), .bit false, .el (E42 x1), .call [] (E3 r1) [], .bit true, .wait 1, .mask [4], .ren []] (p := [V.sc (.int .i64 ((List.map E42 a).length : Int)) = V.sc (.int .i64 (a.length : Int)),
      (decide ((p1.length : Int) < (a.length : Int))) = true,
      (0 : Int) ≤ (p1.length : Int),
      (List.map E42 a)[(p1.length : Int).toNat]? = some (E42 x1),
      (x1.Kind != v1) = false,
      (0 : Int) ≤ (p1.length : Int),
      (List.map E42 a)[(p1.length : Int).toNat]? = some (E42 x1),
      (x1.K != (i64 (v1 + 1))) = false,
      (0 : Int) ≤ (p1.length : Int),
      (List.map E42 a)[(p1.length : Int).toNat]? = some (E42 x1),
      Fn Tryd.prog 58 [(false, E40 x1.Data), (false, E3 (i64 ((i64 (v1 + 1)) + 1)))] (E3 r1) [],
      (true || ((E3 r1).nv && nvL [])) = true,
      (decide (r1 < 0)) = true]) (by kernel_rfl) (show X.ret ≠ X.go from nofun) (cj (len_nm _ _) (cj (rng_lt h1) (cj (by omega) (cj (rng_get _ h1) (cj h3 (cj (by omega) (cj (rng_get _ h1) (cj h4 (cj (by omega) (cj (rng_get _ h1) (cj (laws_heldByteS_ok x1.Data (i64 ((i64 (v1 + 1)) + 1)) r1 h5) (cj rfl (cj1 h6))))))))))))))) (fun h6 =>
     LpO.go [.wait 3, .nm 8 (V.sc (.int .i64 (a.length : Int))), .bit true, .el (E42 x1), .bit false, .el (E42 x1), .bit false, .el (E42 x1), .call [] (E3 r1) [], .bit false, .wait 3, .mask [0, 1, 5], .ren [], .nm 5 (V.sc (.int .i64 ((p1 ++ [x1]).length : Int)))] (p := [V.sc (.int .i64 ((List.map E42 a).length : Int)) = V.sc (.int .i64 (a.length : Int)),
      (decide ((p1.length : Int) < (a.length : Int))) = true,
      (0 : Int) ≤ (p1.length : Int),
      (List.map E42 a)[(p1.length : Int).toNat]? = some (E42 x1),
      (x1.Kind != v1) = false,
      (0 : Int) ≤ (p1.length : Int),
      (List.map E42 a)[(p1.length : Int).toNat]? = some (E42 x1),
      (x1.K != (i64 (v1 + 1))) = false,
      (0 : Int) ≤ (p1.length : Int),
      (List.map E42 a)[(p1.length : Int).toNat]? = some (E42 x1),
      Fn Tryd.prog 58 [(false, E40 x1.Data), (false, E3 (i64 ((i64 (v1 + 1)) + 1)))] (E3 r1) [],
      (true || ((E3 r1).nv && nvL [])) = true,
      (decide (r1 < 0)) = false,
      V.sc (.int .i64 (i64 ((p1.length : Int) + 1))) = V.sc (.int .i64 ((p1 ++ [x1]).length : Int))]) (by kernel_rfl) (cj (len_nm _ _) (cj (rng_lt h1) (cj (by omega) (cj (rng_get _ h1) (cj h3 (cj (by omega) (cj (rng_get _ h1) (cj h4 (cj (by omega) (cj (rng_get _ h1) (cj (laws_heldByteS_ok x1.Data (i64 ((i64 (v1 + 1)) + 1)) r1 h5) (cj rfl (cj h6 (cj1 (rng_next h1 h2))))))))))))))) (laws_heldEventS_l0_ok a h2 t1 (p1 ++ [x1]) (rng_step h1) r1)))))
def laws_heldEventS (a : List Event) (k : Int) : Option (Int) :=
 if (capOk a.length) = true then
 (laws_heldEventS_l0 a a k).bind fun r2 =>
 Lo.elim r2 (fun s1 =>
 some s1) (fun s2 =>
 some (-1))
 else none
theorem laws_heldEventS_ok (a : List Event) (k : Int) : Pn (fun y => Fn Tryd.prog 26 [(false, E48 a), (false, E3 k)] (E3 y) []) (laws_heldEventS a k) := by
  unfold laws_heldEventS
  exact
   Pn.ite (fun h7 =>
   Pn.bind (fun r2 h8 =>
   Pn.lo (fun s1 h9 =>
   Pn.some (Fn.of [.wait 3, .mask [0, 1, 5], .ren [], .loop (X.out 0) (st 40 [(1, V.sc (.int .i64 s1))] [] [])] (p := [Loop Tryd.prog (sub (codeOf Tryd.prog 26) [1, 0, 1, 0, 0]) (st 40 [(0, V.sl false 42 (List.map E42 a)), (1, V.sc (.int .i64 k)), (5, V.sc (.int .i64 0))] [] []) (X.out 0) (st 40 [(1, V.sc (.int .i64 s1))] [] [])]) (by kernel_rfl) (cj1 ((laws_heldEventS_l0_ok a h7 a [] rfl k r2 h8).at h9)))) (fun s2 h10 =>
   Pn.some (Fn.of [.wait 3, .mask [0, 1, 5], .ren [], .loop (X.ret) (st 40 [(4, V.sc (.int .i64 (-1)))] [] [])] (p := [Loop Tryd.prog (sub (codeOf Tryd.prog 26) [1, 0, 1, 0, 0]) (st 40 [(0, V.sl false 42 (List.map E42 a)), (1, V.sc (.int .i64 k)), (5, V.sc (.int .i64 0))] [] []) (X.ret) (st 40 [(4, V.sc (.int .i64 (-1)))] [] [])]) (by kernel_rfl) (cj1 ((laws_heldEventS_l0_ok a h7 a [] rfl k r2 h8).at h10)))))) (fun h7 =>
   Pn.none)
def laws_FnExactReadEvents (o : ByteArray) : Option (Bool) :=
 if (decide (1048576 < (o.size : Int))) = true then
 some true
 else
 (spec_ReadEvents o).bind fun r1 =>
 (impl_ReadEvents o).bind fun r2 =>
 (laws_eqEventS r2.1 r1.1).bind fun r3 =>
 if r3 = true then
 if (r2.2 != r1.2) = true then
 some false
 else
 (laws_markEventS r2.1 1).bind fun r4 =>
 (laws_heldEventS r4.2 1).bind fun r5 =>
 if (decide (r5 < 0)) = true then
 some false
 else
 if (r5 != r4.1) = true then
 some false
 else
 (impl_ReadEvents o).bind fun r6 =>
 (laws_eqEventS r6.1 r1.1).bind fun r7 =>
 if r7 = true then
 if (r6.2 != r1.2) = true then
 some false
 else
 (laws_heldEventS r4.2 1).bind fun r8 =>
 if (decide (r8 < 0)) = true then
 some false
 else
 if (r8 != r4.1) = true then
 some false
 else
 some true
 else
 some false
 else
 some false
theorem laws_FnExactReadEvents_ok (o : ByteArray) : Pn (fun y => Fn Tryd.prog 6 [(false, E9 o)] (E4 y) []) (laws_FnExactReadEvents o) := by
  unfold laws_FnExactReadEvents
  exact
   Pn.ite (fun h1 =>
   Pn.some (Fn.of [.bit true] (p := [(decide (1048576 < (o.size : Int))) = true]) (by kernel_rfl) (cj1 h1))) (fun h1 =>
   Pn.bind (fun r1 h2 =>
   Pn.bind (fun r2 h3 =>
   Pn.bind (fun r3 h4 =>
   Pn.ite (fun h5 =>
   Pn.ite (fun h6 =>
   Pn.some (Fn.of [.bit false, .call [] (V.tup [E48 r1.1, E3 r1.2]) [], .call [] (V.tup [E48 r2.1, E3 r2.2]) [], .call [] (E4 r3) [], .bit false, .bit false, .bit false, .bit false, .bit true] (p := [(decide (1048576 < (o.size : Int))) = false,
    Fn Tryd.prog 22 [(false, E9 o)] (V.tup [E48 r1.1, E3 r1.2]) [],
    (true || ((V.tup [E48 r1.1, E3 r1.2]).nv && nvL [])) = true,
    Fn Tryd.prog 23 [(false, E9 o)] (V.tup [E48 r2.1, E3 r2.2]) [],
    (true || ((V.tup [E48 r2.1, E3 r2.2]).nv && nvL [])) = true,
    Fn Tryd.prog 24 [(false, E48 r2.1), (false, E48 r1.1)] (E4 r3) [],
    (false || ((E4 r3).nv && nvL [])) = true,
    (!r3) = false,
    (!r3) = false,
    (!r3) = false,
    (!r3) = false,
    (r2.2 != r1.2) = true]) (by kernel_rfl) (cj h1 (cj (spec_ReadEvents_ok o r1 h2) (cj rfl (cj (impl_ReadEvents_ok o r2 h3) (cj rfl (cj (laws_eqEventS_ok r2.1 r1.1 r3 h4) (cj (by simp [V.nv, nvL, nvL_all, nv_E4]) (cj (nf h5) (cj (nf h5) (cj (nf h5) (cj (nf h5) (cj1 h6)))))))))))))) (fun h6 =>
   Pn.bind (fun r4 h7 =>
   Pn.bind (fun r5 h8 =>
   Pn.ite (fun h9 =>
   Pn.some (Fn.of [.bit false, .call [] (V.tup [E48 r1.1, E3 r1.2]) [], .call [] (V.tup [E48 r2.1, E3 r2.2]) [], .call [] (E4 r3) [], .bit false, .bit false, .bit false, .bit false, .bit false, .call [true, false] (E3 r4.1) [V.sl true 42 (List.map E42 r4.2)], .call [] (E3 r5) [], .bit true] (p := [(decide (1048576 < (o.size : Int))) = false,
    Fn Tryd.prog 22 [(false, E9 o)] (V.tup [E48 r1.1, E3 r1.2]) [],
    (true || ((V.tup [E48 r1.1, E3 r1.2]).nv && nvL [])) = true,
    Fn Tryd.prog 23 [(false, E9 o)] (V.tup [E48 r2.1, E3 r2.2]) [],
    (true || ((V.tup [E48 r2.1, E3 r2.2]).nv && nvL [])) = true,
    Fn Tryd.prog 24 [(false, E48 r2.1), (false, E48 r1.1)] (E4 r3) [],
    (false || ((E4 r3).nv && nvL [])) = true,
    (!r3) = false,
    (!r3) = false,
    (!r3) = false,
    (!r3) = false,
    (r2.2 != r1.2) = false,
    Fn Tryd.prog 25 [(true, E48 r2.1), (false, E3 1)] (E3 r4.1) [V.sl true 42 (List.map E42 r4.2)],
    (true || ((E3 r4.1).nv && nvL [V.sl true 42 (List.map E42 r4.2)])) = true,
    Fn Tryd.prog 26 [(false, E48 r4.2), (false, E3 1)] (E3 r5) [],
    (false || ((E3 r5).nv && nvL [])) = true,
    (decide (r5 < 0)) = true]) (by kernel_rfl) (cj h1 (cj (spec_ReadEvents_ok o r1 h2) (cj rfl (cj (impl_ReadEvents_ok o r2 h3) (cj rfl (cj (laws_eqEventS_ok r2.1 r1.1 r3 h4) (cj (by simp [V.nv, nvL, nvL_all, nv_E4]) (cj (nf h5) (cj (nf h5) (cj (nf h5) (cj (nf h5) (cj h6 (cj (laws_markEventS_ok r2.1 1 r4 h7) (cj rfl (cj (laws_heldEventS_ok r4.2 1 r5 h8) (cj (by simp [V.nv, nvL, nvL_all, nv_E3]) (cj1 h9))))))))))))))))))) (fun h9 =>
   Pn.ite (fun h10 =>
   Pn.some (Fn.of [.bit false, .call [] (V.tup [E48 r1.1, E3 r1.2]) [], .call [] (V.tup [E48 r2.1, E3 r2.2]) [], .call [] (E4 r3) [], .bit false, .bit false, .bit false, .bit false, .bit false, .call [true, false] (E3 r4.1) [V.sl true 42 (List.map E42 r4.2)], .call [] (E3 r5) [], .bit false, .bit true] (p := [(decide (1048576 < (o.size : Int))) = false,
    Fn Tryd.prog 22 [(false, E9 o)] (V.tup [E48 r1.1, E3 r1.2]) [],
    (true || ((V.tup [E48 r1.1, E3 r1.2]).nv && nvL [])) = true,
    Fn Tryd.prog 23 [(false, E9 o)] (V.tup [E48 r2.1, E3 r2.2]) [],
    (true || ((V.tup [E48 r2.1, E3 r2.2]).nv && nvL [])) = true,
    Fn Tryd.prog 24 [(false, E48 r2.1), (false, E48 r1.1)] (E4 r3) [],
    (false || ((E4 r3).nv && nvL [])) = true,
    (!r3) = false,
    (!r3) = false,
    (!r3) = false,
    (!r3) = false,
    (r2.2 != r1.2) = false,
    Fn Tryd.prog 25 [(true, E48 r2.1), (false, E3 1)] (E3 r4.1) [V.sl true 42 (List.map E42 r4.2)],
    (true || ((E3 r4.1).nv && nvL [V.sl true 42 (List.map E42 r4.2)])) = true,
    Fn Tryd.prog 26 [(false, E48 r4.2), (false, E3 1)] (E3 r5) [],
    (false || ((E3 r5).nv && nvL [])) = true,
    (decide (r5 < 0)) = false,
    (r5 != r4.1) = true]) (by kernel_rfl) (cj h1 (cj (spec_ReadEvents_ok o r1 h2) (cj rfl (cj (impl_ReadEvents_ok o r2 h3) (cj rfl (cj (laws_eqEventS_ok r2.1 r1.1 r3 h4) (cj (by simp [V.nv, nvL, nvL_all, nv_E4]) (cj (nf h5) (cj (nf h5) (cj (nf h5) (cj (nf h5) (cj h6 (cj (laws_markEventS_ok r2.1 1 r4 h7) (cj rfl (cj (laws_heldEventS_ok r4.2 1 r5 h8) (cj (by simp [V.nv, nvL, nvL_all, nv_E3]) (cj h9 (cj1 h10)))))))))))))))))))) (fun h10 =>
   Pn.bind (fun r6 h11 =>
   Pn.bind (fun r7 h12 =>
   Pn.ite (fun h13 =>
   Pn.ite (fun h14 =>
   Pn.some (Fn.of [.bit false, .call [] (V.tup [E48 r1.1, E3 r1.2]) [], .call [] (V.tup [E48 r2.1, E3 r2.2]) [], .call [] (E4 r3) [], .bit false, .bit false, .bit false, .bit false, .bit false, .call [true, false] (E3 r4.1) [V.sl true 42 (List.map E42 r4.2)], .call [] (E3 r5) [], .bit false, .bit false, .call [] (V.tup [E48 r6.1, E3 r6.2]) [], .call [] (E4 r7) [], .bit false, .bit false, .bit false, .bit false, .bit true] (p := [(decide (1048576 < (o.size : Int))) = false,
    Fn Tryd.prog 22 [(false, E9 o)] (V.tup [E48 r1.1, E3 r1.2]) [],
    (true || ((V.tup [E48 r1.1, E3 r1.2]).nv && nvL [])) = true,
    Fn Tryd.prog 23 [(false, E9 o)] (V.tup [E48 r2.1, E3 r2.2]) [],
    (true || ((V.tup [E48 r2.1, E3 r2.2]).nv && nvL [])) = true,
    Fn Tryd.prog 24 [(false, E48 r2.1), (false, E48 r1.1)] (E4 r3) [],
    (false || ((E4 r3).nv && nvL [])) = true,
    (!r3) = false,
    (!r3) = false,
    (!r3) = false,
    (!r3) = false,
    (r2.2 != r1.2) = false,
    Fn Tryd.prog 25 [(true, E48 r2.1), (false, E3 1)] (E3 r4.1) [V.sl true 42 (List.map E42 r4.2)],
    (true || ((E3 r4.1).nv && nvL [V.sl true 42 (List.map E42 r4.2)])) = true,
    Fn Tryd.prog 26 [(false, E48 r4.2), (false, E3 1)] (E3 r5) [],
    (false || ((E3 r5).nv && nvL [])) = true,
    (decide (r5 < 0)) = false,
    (r5 != r4.1) = false,
    Fn Tryd.prog 23 [(false, E9 o)] (V.tup [E48 r6.1, E3 r6.2]) [],
    (true || ((V.tup [E48 r6.1, E3 r6.2]).nv && nvL [])) = true,
    Fn Tryd.prog 24 [(false, E48 r6.1), (false, E48 r1.1)] (E4 r7) [],
    (false || ((E4 r7).nv && nvL [])) = true,
    (!r7) = false,
    (!r7) = false,
    (!r7) = false,
    (!r7) = false,
    (r6.2 != r1.2) = true]) (by kernel_rfl) (cj h1 (cj (spec_ReadEvents_ok o r1 h2) (cj rfl (cj (impl_ReadEvents_ok o r2 h3) (cj rfl (cj (laws_eqEventS_ok r2.1 r1.1 r3 h4) (cj (by simp [V.nv, nvL, nvL_all, nv_E4]) (cj (nf h5) (cj (nf h5) (cj (nf h5) (cj (nf h5) (cj h6 (cj (laws_markEventS_ok r2.1 1 r4 h7) (cj rfl (cj (laws_heldEventS_ok r4.2 1 r5 h8) (cj (by simp [V.nv, nvL, nvL_all, nv_E3]) (cj h9 (cj h10 (cj (impl_ReadEvents_ok o r6 h11) (cj rfl (cj (laws_eqEventS_ok r6.1 r1.1 r7 h12) (cj (by simp [V.nv, nvL, nvL_all, nv_E4]) (cj (nf h13) (cj (nf h13) (cj (nf h13) (cj (nf h13) (cj1 h14))))))))))))))))))))))))))))) (fun h14 =>
   Pn.bind (fun r8 h15 =>
   Pn.ite (fun h16 =>
   Pn.some (Fn.of [.bit false, .call [] (V.tup [E48 r1.1, E3 r1.2]) [], .call [] (V.tup [E48 r2.1, E3 r2.2]) [], .call [] (E4 r3) [], .bit false, .bit false, .bit false, .bit false, .bit false, .call [true, false] (E3 r4.1) [V.sl true 42 (List.map E42 r4.2)], .call [] (E3 r5) [], .bit false, .bit false, .call [] (V.tup [E48 r6.1, E3 r6.2]) [], .call [] (E4 r7) [], .bit false, .bit false, .bit false, .bit false, .bit false, .call [] (E3 r8) [], .bit true] (p := [(decide (1048576 < (o.size : Int))) = false,
    Fn Tryd.prog 22 [(false, E9 o)] (V.tup [E48 r1.1, E3 r1.2]) [],
    (true || ((V.tup [E48 r1.1, E3 r1.2]).nv && nvL [])) = true,
    Fn Tryd.prog 23 [(false, E9 o)] (V.tup [E48 r2.1, E3 r2.2]) [],
    (true || ((V.tup [E48 r2.1, E3 r2.2]).nv && nvL [])) = true,
    Fn Tryd.prog 24 [(false, E48 r2.1), (false, E48 r1.1)] (E4 r3) [],
    (false || ((E4 r3).nv && nvL [])) = true,
    (!r3) = false,
    (!r3) = false,
    (!r3) = false,
    (!r3) = false,
    (r2.2 != r1.2) = false,
    Fn Tryd.prog 25 [(true, E48 r2.1), (false, E3 1)] (E3 r4.1) [V.sl true 42 (List.map E42 r4.2)],
    (true || ((E3 r4.1).nv && nvL [V.sl true 42 (List.map E42 r4.2)])) = true,
    Fn Tryd.prog 26 [(false, E48 r4.2), (false, E3 1)] (E3 r5) [],
    (false || ((E3 r5).nv && nvL [])) = true,
    (decide (r5 < 0)) = false,
    (r5 != r4.1) = false,
    Fn Tryd.prog 23 [(false, E9 o)] (V.tup [E48 r6.1, E3 r6.2]) [],
    (true || ((V.tup [E48 r6.1, E3 r6.2]).nv && nvL [])) = true,
    Fn Tryd.prog 24 [(false, E48 r6.1), (false, E48 r1.1)] (E4 r7) [],
    (false || ((E4 r7).nv && nvL [])) = true,
    (!r7) = false,
    (!r7) = false,
    (!r7) = false,
    (!r7) = false,
    (r6.2 != r1.2) = false,
    Fn Tryd.prog 26 [(false, E48 r4.2), (false, E3 1)] (E3 r8) [],
    (false || ((E3 r8).nv && nvL [])) = true,
    (decide (r8 < 0)) = true]) (by kernel_rfl) (cj h1 (cj (spec_ReadEvents_ok o r1 h2) (cj rfl (cj (impl_ReadEvents_ok o r2 h3) (cj rfl (cj (laws_eqEventS_ok r2.1 r1.1 r3 h4) (cj (by simp [V.nv, nvL, nvL_all, nv_E4]) (cj (nf h5) (cj (nf h5) (cj (nf h5) (cj (nf h5) (cj h6 (cj (laws_markEventS_ok r2.1 1 r4 h7) (cj rfl (cj (laws_heldEventS_ok r4.2 1 r5 h8) (cj (by simp [V.nv, nvL, nvL_all, nv_E3]) (cj h9 (cj h10 (cj (impl_ReadEvents_ok o r6 h11) (cj rfl (cj (laws_eqEventS_ok r6.1 r1.1 r7 h12) (cj (by simp [V.nv, nvL, nvL_all, nv_E4]) (cj (nf h13) (cj (nf h13) (cj (nf h13) (cj (nf h13) (cj h14 (cj (laws_heldEventS_ok r4.2 1 r8 h15) (cj (by simp [V.nv, nvL, nvL_all, nv_E3]) (cj1 h16)))))))))))))))))))))))))))))))) (fun h16 =>
   Pn.ite (fun h17 =>
   Pn.some (Fn.of [.bit false, .call [] (V.tup [E48 r1.1, E3 r1.2]) [], .call [] (V.tup [E48 r2.1, E3 r2.2]) [], .call [] (E4 r3) [], .bit false, .bit false, .bit false, .bit false, .bit false, .call [true, false] (E3 r4.1) [V.sl true 42 (List.map E42 r4.2)], .call [] (E3 r5) [], .bit false, .bit false, .call [] (V.tup [E48 r6.1, E3 r6.2]) [], .call [] (E4 r7) [], .bit false, .bit false, .bit false, .bit false, .bit false, .call [] (E3 r8) [], .bit false, .bit true] (p := [(decide (1048576 < (o.size : Int))) = false,
    Fn Tryd.prog 22 [(false, E9 o)] (V.tup [E48 r1.1, E3 r1.2]) [],
    (true || ((V.tup [E48 r1.1, E3 r1.2]).nv && nvL [])) = true,
    Fn Tryd.prog 23 [(false, E9 o)] (V.tup [E48 r2.1, E3 r2.2]) [],
    (true || ((V.tup [E48 r2.1, E3 r2.2]).nv && nvL [])) = true,
    Fn Tryd.prog 24 [(false, E48 r2.1), (false, E48 r1.1)] (E4 r3) [],
    (false || ((E4 r3).nv && nvL [])) = true,
    (!r3) = false,
    (!r3) = false,
    (!r3) = false,
    (!r3) = false,
    (r2.2 != r1.2) = false,
    Fn Tryd.prog 25 [(true, E48 r2.1), (false, E3 1)] (E3 r4.1) [V.sl true 42 (List.map E42 r4.2)],
    (true || ((E3 r4.1).nv && nvL [V.sl true 42 (List.map E42 r4.2)])) = true,
    Fn Tryd.prog 26 [(false, E48 r4.2), (false, E3 1)] (E3 r5) [],
    (false || ((E3 r5).nv && nvL [])) = true,
    (decide (r5 < 0)) = false,
    (r5 != r4.1) = false,
    Fn Tryd.prog 23 [(false, E9 o)] (V.tup [E48 r6.1, E3 r6.2]) [],
    (true || ((V.tup [E48 r6.1, E3 r6.2]).nv && nvL [])) = true,
    Fn Tryd.prog 24 [(false, E48 r6.1), (false, E48 r1.1)] (E4 r7) [],
    (false || ((E4 r7).nv && nvL [])) = true,
    (!r7) = false,
    (!r7) = false,
    (!r7) = false,
    (!r7) = false,
    (r6.2 != r1.2) = false,
    Fn Tryd.prog 26 [(false, E48 r4.2), (false, E3 1)] (E3 r8) [],
    (false || ((E3 r8).nv && nvL [])) = true,
    (decide (r8 < 0)) = false,
    (r8 != r4.1) = true]) (by kernel_rfl) (cj h1 (cj (spec_ReadEvents_ok o r1 h2) (cj rfl (cj (impl_ReadEvents_ok o r2 h3) (cj rfl (cj (laws_eqEventS_ok r2.1 r1.1 r3 h4) (cj (by simp [V.nv, nvL, nvL_all, nv_E4]) (cj (nf h5) (cj (nf h5) (cj (nf h5) (cj (nf h5) (cj h6 (cj (laws_markEventS_ok r2.1 1 r4 h7) (cj rfl (cj (laws_heldEventS_ok r4.2 1 r5 h8) (cj (by simp [V.nv, nvL, nvL_all, nv_E3]) (cj h9 (cj h10 (cj (impl_ReadEvents_ok o r6 h11) (cj rfl (cj (laws_eqEventS_ok r6.1 r1.1 r7 h12) (cj (by simp [V.nv, nvL, nvL_all, nv_E4]) (cj (nf h13) (cj (nf h13) (cj (nf h13) (cj (nf h13) (cj h14 (cj (laws_heldEventS_ok r4.2 1 r8 h15) (cj (by simp [V.nv, nvL, nvL_all, nv_E3]) (cj h16 (cj1 h17))))))))))))))))))))))))))))))))) (fun h17 =>
   Pn.some (Fn.of [.bit false, .call [] (V.tup [E48 r1.1, E3 r1.2]) [], .call [] (V.tup [E48 r2.1, E3 r2.2]) [], .call [] (E4 r3) [], .bit false, .bit false, .bit false, .bit false, .bit false, .call [true, false] (E3 r4.1) [V.sl true 42 (List.map E42 r4.2)], .call [] (E3 r5) [], .bit false, .bit false, .call [] (V.tup [E48 r6.1, E3 r6.2]) [], .call [] (E4 r7) [], .bit false, .bit false, .bit false, .bit false, .bit false, .call [] (E3 r8) [], .bit false, .bit false] (p := [(decide (1048576 < (o.size : Int))) = false,
    Fn Tryd.prog 22 [(false, E9 o)] (V.tup [E48 r1.1, E3 r1.2]) [],
    (true || ((V.tup [E48 r1.1, E3 r1.2]).nv && nvL [])) = true,
    Fn Tryd.prog 23 [(false, E9 o)] (V.tup [E48 r2.1, E3 r2.2]) [],
    (true || ((V.tup [E48 r2.1, E3 r2.2]).nv && nvL [])) = true,
    Fn Tryd.prog 24 [(false, E48 r2.1), (false, E48 r1.1)] (E4 r3) [],
    (false || ((E4 r3).nv && nvL [])) = true,
    (!r3) = false,
    (!r3) = false,
    (!r3) = false,
    (!r3) = false,
    (r2.2 != r1.2) = false,
    Fn Tryd.prog 25 [(true, E48 r2.1), (false, E3 1)] (E3 r4.1) [V.sl true 42 (List.map E42 r4.2)],
    (true || ((E3 r4.1).nv && nvL [V.sl true 42 (List.map E42 r4.2)])) = true,
    Fn Tryd.prog 26 [(false, E48 r4.2), (false, E3 1)] (E3 r5) [],
    (false || ((E3 r5).nv && nvL [])) = true,
    (decide (r5 < 0)) = false,
    (r5 != r4.1) = false,
    Fn Tryd.prog 23 [(false, E9 o)] (V.tup [E48 r6.1, E3 r6.2]) [],
    (true || ((V.tup [E48 r6.1, E3 r6.2]).nv && nvL [])) = true,
    Fn Tryd.prog 24 [(false, E48 r6.1), (false, E48 r1.1)] (E4 r7) [],
    (false || ((E4 r7).nv && nvL [])) = true,
    (!r7) = false,
    (!r7) = false,
    (!r7) = false,
    (!r7) = false,
    (r6.2 != r1.2) = false,
    Fn Tryd.prog 26 [(false, E48 r4.2), (false, E3 1)] (E3 r8) [],
    (false || ((E3 r8).nv && nvL [])) = true,
    (decide (r8 < 0)) = false,
    (r8 != r4.1) = false]) (by kernel_rfl) (cj h1 (cj (spec_ReadEvents_ok o r1 h2) (cj rfl (cj (impl_ReadEvents_ok o r2 h3) (cj rfl (cj (laws_eqEventS_ok r2.1 r1.1 r3 h4) (cj (by simp [V.nv, nvL, nvL_all, nv_E4]) (cj (nf h5) (cj (nf h5) (cj (nf h5) (cj (nf h5) (cj h6 (cj (laws_markEventS_ok r2.1 1 r4 h7) (cj rfl (cj (laws_heldEventS_ok r4.2 1 r5 h8) (cj (by simp [V.nv, nvL, nvL_all, nv_E3]) (cj h9 (cj h10 (cj (impl_ReadEvents_ok o r6 h11) (cj rfl (cj (laws_eqEventS_ok r6.1 r1.1 r7 h12) (cj (by simp [V.nv, nvL, nvL_all, nv_E4]) (cj (nf h13) (cj (nf h13) (cj (nf h13) (cj (nf h13) (cj h14 (cj (laws_heldEventS_ok r4.2 1 r8 h15) (cj (by simp [V.nv, nvL, nvL_all, nv_E3]) (cj h16 (cj1 h17))))))))))))))))))))))))))))))))))))) (fun h13 =>
   Pn.some (Fn.of [.bit false, .call [] (V.tup [E48 r1.1, E3 r1.2]) [], .call [] (V.tup [E48 r2.1, E3 r2.2]) [], .call [] (E4 r3) [], .bit false, .bit false, .bit false, .bit false, .bit false, .call [true, false] (E3 r4.1) [V.sl true 42 (List.map E42 r4.2)], .call [] (E3 r5) [], .bit false, .bit false, .call [] (V.tup [E48 r6.1, E3 r6.2]) [], .call [] (E4 r7) [], .bit true, .bit true, .bit true, .bit true, .bit true] (p := [(decide (1048576 < (o.size : Int))) = false,
    Fn Tryd.prog 22 [(false, E9 o)] (V.tup [E48 r1.1, E3 r1.2]) [],
    (true || ((V.tup [E48 r1.1, E3 r1.2]).nv && nvL [])) = true,
    Fn Tryd.prog 23 [(false, E9 o)] (V.tup [E48 r2.1, E3 r2.2]) [],
    (true || ((V.tup [E48 r2.1, E3 r2.2]).nv && nvL [])) = true,
    Fn Tryd.prog 24 [(false, E48 r2.1), (false, E48 r1.1)] (E4 r3) [],
    (false || ((E4 r3).nv && nvL [])) = true,
    (!r3) = false,
    (!r3) = false,
    (!r3) = false,
    (!r3) = false,
    (r2.2 != r1.2) = false,
    Fn Tryd.prog 25 [(true, E48 r2.1), (false, E3 1)] (E3 r4.1) [V.sl true 42 (List.map E42 r4.2)],
    (true || ((E3 r4.1).nv && nvL [V.sl true 42 (List.map E42 r4.2)])) = true,
    Fn Tryd.prog 26 [(false, E48 r4.2), (false, E3 1)] (E3 r5) [],
    (false || ((E3 r5).nv && nvL [])) = true,
    (decide (r5 < 0)) = false,
    (r5 != r4.1) = false,
    Fn Tryd.prog 23 [(false, E9 o)] (V.tup [E48 r6.1, E3 r6.2]) [],
    (true || ((V.tup [E48 r6.1, E3 r6.2]).nv && nvL [])) = true,
    Fn Tryd.prog 24 [(false, E48 r6.1), (false, E48 r1.1)] (E4 r7) [],
    (false || ((E4 r7).nv && nvL [])) = true,
    (!r7) = true,
    (!r7) = true,
    (!r7) = true,
    (!r7) = true,
    true = true]) (by kernel_rfl) (cj h1 (cj (spec_ReadEvents_ok o r1 h2) (cj rfl (cj (impl_ReadEvents_ok o r2 h3) (cj rfl (cj (laws_eqEventS_ok r2.1 r1.1 r3 h4) (cj (by simp [V.nv, nvL, nvL_all, nv_E4]) (cj (nf h5) (cj (nf h5) (cj (nf h5) (cj (nf h5) (cj h6 (cj (laws_markEventS_ok r2.1 1 r4 h7) (cj rfl (cj (laws_heldEventS_ok r4.2 1 r5 h8) (cj (by simp [V.nv, nvL, nvL_all, nv_E3]) (cj h9 (cj h10 (cj (impl_ReadEvents_ok o r6 h11) (cj rfl (cj (laws_eqEventS_ok r6.1 r1.1 r7 h12) (cj (by simp [V.nv, nvL, nvL_all, nv_E4]) (cj (nt h13) (cj (nt h13) (cj (nt h13) (cj (nt h13) (cj1 rfl))))))))))))))))))))))))))))))))))))) (fun h5 =>
   Pn.some (Fn.of [.bit false, .call [] (V.tup [E48 r1.1, E3 r1.2]) [], .call [] (V.tup [E48 r2.1, E3 r2.2]) [], .call [] (E4 r3) [], .bit true, .bit true, .bit true, .bit true, .bit true] (p := [(decide (1048576 < (o.size : Int))) = false,
    Fn Tryd.prog 22 [(false, E9 o)] (V.tup [E48 r1.1, E3 r1.2]) [],
    (true || ((V.tup [E48 r1.1, E3 r1.2]).nv && nvL [])) = true,
    Fn Tryd.prog 23 [(false, E9 o)] (V.tup [E48 r2.1, E3 r2.2]) [],
    (true || ((V.tup [E48 r2.1, E3 r2.2]).nv && nvL [])) = true,
    Fn Tryd.prog 24 [(false, E48 r2.1), (false, E48 r1.1)] (E4 r3) [],
    (false || ((E4 r3).nv && nvL [])) = true,
    (!r3) = true,
    (!r3) = true,
    (!r3) = true,
    (!r3) = true,
    true = true]) (by kernel_rfl) (cj h1 (cj (spec_ReadEvents_ok o r1 h2) (cj rfl (cj (impl_ReadEvents_ok o r2 h3) (cj rfl (cj (laws_eqEventS_ok r2.1 r1.1 r3 h4) (cj (by simp [V.nv, nvL, nvL_all, nv_E4]) (cj (nt h5) (cj (nt h5) (cj (nt h5) (cj (nt h5) (cj1 rfl))))))))))))))))))
end Go.Proofs.YtjnnbcdakaabbaaDoorM
