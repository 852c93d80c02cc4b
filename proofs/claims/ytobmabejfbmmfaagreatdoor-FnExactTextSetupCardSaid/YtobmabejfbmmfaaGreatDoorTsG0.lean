/- Printed by gen.py: functions on plain data, and that the program computes them. No condition. -/
import Derived.Test.YtobmabejfbmmfaaGreatDoorX1
import Derived.Test.YtobmabejfbmmfaaGreatDoorX2
import Derived.Test.YtobmabejfbmmfaaGreatDoorProg
namespace Go.Proofs.YtobmabejfbmmfaaGreatDoorM
set_option linter.unusedVariables false
set_option linter.unusedSimpArgs false
open Go.RowKit
set_option maxRecDepth 100000

structure Hold where
  Id : ByteArray
  Amount : Int
  Due : Int
structure Ring where
  Span : Int
  Head : Int
  Counts : List Int
  Sums : List Int
structure Slot where
  Trace : ByteArray
  Mti : ByteArray
  Reply : List Int
structure Acct where
  Id : ByteArray
  Limit : Int
  Posted : Int
  Most : Int
  MostSum : Int
  Holds : List Hold
  Ring : Ring
  Slots : List Slot
def E9 (x : ByteArray) : V := V.sc (.string x)
def E4 (x : Bool) : V := V.sc (.bool x)
def E3 (x : Int) : V := V.sc (.int .i64 x)
def E61 (x : Hold) : V := V.agg [V.sc (.string x.Id), V.sc (.int .i64 x.Amount), V.sc (.int .i64 x.Due)]
def E22 (x : List Hold) : V := V.sl true 61 (List.map E61 x)
def E23 (x : List Int) : V := V.sl true 3 (List.map E3 x)
def E25 (x : Ring) : V := V.agg [V.sc (.int .i64 x.Span), V.sc (.int .i64 x.Head), V.sl true 3 (List.map E3 x.Counts), V.sl true 3 (List.map E3 x.Sums)]
def E5 (x : Int) : V := V.sc (.int .u8 x)
def E64 (x : List Int) : V := V.sl true 5 (List.map E5 x)
def E66 (x : Slot) : V := V.agg [V.sc (.string x.Trace), V.sc (.string x.Mti), V.sl true 5 (List.map E5 x.Reply)]
def E26 (x : List Slot) : V := V.sl true 66 (List.map E66 x)
def E28 (x : Acct) : V := V.agg [V.sc (.string x.Id), V.sc (.int .i64 x.Limit), V.sc (.int .i64 x.Posted), V.sc (.int .i64 x.Most), V.sc (.int .i64 x.MostSum), V.sl true 61 (List.map E61 x.Holds), V.sc (.int .i64 x.Ring.Span), V.sc (.int .i64 x.Ring.Head), V.sl true 3 (List.map E3 x.Ring.Counts), V.sl true 3 (List.map E3 x.Ring.Sums), V.sl true 66 (List.map E66 x.Slots)]
def E34 (x : List ByteArray) : V := V.sl true 9 (List.map E9 x)
def E112 (x : List (List Int)) : V := V.sl true 23 (List.map E23 x)
theorem nv_E9 (x : ByteArray) : (E9 x).nv = true := by
  simp [E9, V.nv, nvL, nvL_all]
theorem nv_E4 (x : Bool) : (E4 x).nv = true := by
  simp [E4, V.nv, nvL, nvL_all]
theorem nv_E3 (x : Int) : (E3 x).nv = true := by
  simp [E3, V.nv, nvL, nvL_all]
theorem nv_E61 (x : Hold) : (E61 x).nv = true := by
  simp [E61, V.nv, nvL, nvL_all]
theorem nv_E22 (x : List Hold) : (E22 x).nv = true := by
  simp [E22, V.nv, nvL, nvL_all, nv_E61]
theorem nv_E23 (x : List Int) : (E23 x).nv = true := by
  simp [E23, V.nv, nvL, nvL_all, nv_E3]
theorem nv_E25 (x : Ring) : (E25 x).nv = true := by
  simp [E25, V.nv, nvL, nvL_all, nv_E3, nv_E3]
theorem nv_E5 (x : Int) : (E5 x).nv = true := by
  simp [E5, V.nv, nvL, nvL_all]
theorem nv_E64 (x : List Int) : (E64 x).nv = true := by
  simp [E64, V.nv, nvL, nvL_all, nv_E5]
theorem nv_E66 (x : Slot) : (E66 x).nv = true := by
  simp [E66, V.nv, nvL, nvL_all, nv_E5]
theorem nv_E26 (x : List Slot) : (E26 x).nv = true := by
  simp [E26, V.nv, nvL, nvL_all, nv_E66]
theorem nv_E28 (x : Acct) : (E28 x).nv = true := by
  simp [E28, V.nv, nvL, nvL_all, nv_E61, nv_E3, nv_E3, nv_E66]
theorem nv_E34 (x : List ByteArray) : (E34 x).nv = true := by
  simp [E34, V.nv, nvL, nvL_all, nv_E9]
theorem nv_E112 (x : List (List Int)) : (E112 x).nv = true := by
  simp [E112, V.nv, nvL, nvL_all, nv_E23]
def spec_l01Split_l0 (s_ : ByteArray) (by_ : Int) : Nat → Int → Int → (List ByteArray) → Option ((List ByteArray))
  | 0, _, _, _ => none
  | fuel + 1, v1, v2, v3 =>
   if (decide (v2 ≤ (s_.size : Int))) = true then
   if (v2 == (s_.size : Int)) = true then
   if (decide (0 ≤ v1)) = true then
   if (decide (v1 ≤ v2)) = true then
   if (capOk (v3.length + 1)) = true then
   spec_l01Split_l0 s_ by_ fuel (i64 (v2 + 1)) (i64 (v2 + 1)) (v3 ++ [s_.extract v1.toNat v2.toNat])
   else none
   else none
   else none
   else
   if (decide (0 ≤ v2)) = true then
   if (decide ((v2 : Int) < (s_.size : Int))) = true then
   if ((sAt s_ v2) == by_) = true then
   if (decide (0 ≤ v1)) = true then
   if (decide (v1 ≤ v2)) = true then
   if (capOk (v3.length + 1)) = true then
   spec_l01Split_l0 s_ by_ fuel (i64 (v2 + 1)) (i64 (v2 + 1)) (v3 ++ [s_.extract v1.toNat v2.toNat])
   else none
   else none
   else none
   else
   spec_l01Split_l0 s_ by_ fuel v1 (i64 (v2 + 1)) v3
   else none
   else none
   else
   some v3
theorem spec_l01Split_l0_ok (s_ : ByteArray) (by_ : Int) : ∀ (fuel : Nat) (v1 : Int) (v2 : Int) (v3 : List ByteArray), Pn (LpO Tryz.prog (sub (codeOf Tryz.prog 26) [1, 1, 1, 0, 1, 0, 0]) (st 36 [(0, V.sc (.string s_)), (1, V.sc (.int .u8 by_)), (5, V.ow 0), (6, V.sc (.int .i64 v1)), (7, V.sc (.int .i64 v2))] [Blk.row 9 (List.map E9 v3) []] []) (fun (y : (List ByteArray)) => (X.out 0, st 36 [(5, V.ow 0)] [Blk.row 9 (List.map E9 y) []] []))) (spec_l01Split_l0 s_ by_ fuel v1 v2 v3)
  | 0, _, _, _ => Pn.none
  | fuel + 1, v1, v2, v3 => by
    unfold spec_l01Split_l0
    exact
     Pn.ite (fun h1 =>
     Pn.ite (fun h2 =>
     Pn.ite (fun h3 =>
     Pn.ite (fun h4 =>
     Pn.ite (fun h5 =>
     LpO.go [.bit true, .bit true, .bit true, .bit true, .bit true, .bit true, .bit true, .bit true, .cp [V.sc (.string (s_.extract v1.toNat v2.toNat))], .nb 2 (.row 9 (List.map E9 (v3 ++ [s_.extract v1.toNat v2.toNat])) []), .wait 8, .mask [0, 1, 5, 6, 7], .ren [2]] (p := [(decide (v2 ≤ (s_.size : Int))) = true,
      (v2 == (s_.size : Int)) = true,
      (v2 == (s_.size : Int)) = true,
      (v2 == (s_.size : Int)) = true,
      (v2 == (s_.size : Int)) = true,
      (v2 == (s_.size : Int)) = true,
      (v2 == (s_.size : Int)) = true,
      true = true,
      (0 : Int) ≤ v1,
      (v1 : Int) ≤ v2,
      (v2 : Int) ≤ (s_.size : Int),
      [V.sc (.string (s_.extract v1.toNat v2.toNat))] = [V.sc (.string (s_.extract v1.toNat v2.toNat))],
      [V.sc (.string (s_.extract v1.toNat v2.toNat))].all V.flatE = true,
      (List.map E9 v3).length + [V.sc (.string (s_.extract v1.toNat v2.toNat))].length ≤ 9223372036854775807,
      ((List.map E9 v3).length + [V.sc (.string (s_.extract v1.toNat v2.toNat))].length) * 16 ≤ 140737488355328,
      Blk.row 9 ((List.map E9 v3) ++ [V.sc (.string (s_.extract v1.toNat v2.toNat))]) [] = Blk.row 9 (List.map E9 (v3 ++ [s_.extract v1.toNat v2.toNat])) []]) (by kernel_rfl) (cj h1 (cj h2 (cj h2 (cj h2 (cj h2 (cj h2 (cj h2 (cj rfl (cj (od h3) (cj (od h4) (cj (od h1) (cj rfl (cj rfl (cj (cap1 (capN (by simp) h5)) (cj (cap2 (capN (by simp) h5) (by decide)) (cj1 (nb_app E9 v3 [s_.extract v1.toNat v2.toNat]))))))))))))))))) (spec_l01Split_l0_ok s_ by_ fuel (i64 (v2 + 1)) (i64 (v2 + 1)) (v3 ++ [s_.extract v1.toNat v2.toNat]))) (fun h5 =>
     Pn.none)) (fun h4 =>
     Pn.none)) (fun h3 =>
     Pn.none)) (fun h2 =>
     Pn.ite (fun h6 =>
     Pn.ite (fun h7 =>
     Pn.ite (fun h8 =>
     Pn.ite (fun h9 =>
     Pn.ite (fun h10 =>
     Pn.ite (fun h11 =>
     LpO.go [.bit true, .bit false, .bit false, .bit false, .bit false, .bit false, .bit false, .bit true, .cp [V.sc (.string (s_.extract v1.toNat v2.toNat))], .nb 2 (.row 9 (List.map E9 (v3 ++ [s_.extract v1.toNat v2.toNat])) []), .wait 8, .mask [0, 1, 5, 6, 7], .ren [2]] (p := [(decide (v2 ≤ (s_.size : Int))) = true,
      (v2 == (s_.size : Int)) = false,
      (v2 == (s_.size : Int)) = false,
      (v2 == (s_.size : Int)) = false,
      (0 : Int) ≤ v2,
      (v2 : Int) < s_.size,
      (v2 == (s_.size : Int)) = false,
      (v2 == (s_.size : Int)) = false,
      (v2 == (s_.size : Int)) = false,
      ((sAt s_ v2) == by_) = true,
      (0 : Int) ≤ v1,
      (v1 : Int) ≤ v2,
      (v2 : Int) ≤ (s_.size : Int),
      [V.sc (.string (s_.extract v1.toNat v2.toNat))] = [V.sc (.string (s_.extract v1.toNat v2.toNat))],
      [V.sc (.string (s_.extract v1.toNat v2.toNat))].all V.flatE = true,
      (List.map E9 v3).length + [V.sc (.string (s_.extract v1.toNat v2.toNat))].length ≤ 9223372036854775807,
      ((List.map E9 v3).length + [V.sc (.string (s_.extract v1.toNat v2.toNat))].length) * 16 ≤ 140737488355328,
      Blk.row 9 ((List.map E9 v3) ++ [V.sc (.string (s_.extract v1.toNat v2.toNat))]) [] = Blk.row 9 (List.map E9 (v3 ++ [s_.extract v1.toNat v2.toNat])) []]) (by kernel_rfl) (cj h1 (cj h2 (cj h2 (cj h2 (cj (od h6) (cj (od h7) (cj h2 (cj h2 (cj h2 (cj h8 (cj (od h9) (cj (od h10) (cj (od h1) (cj rfl (cj rfl (cj (cap1 (capN (by simp) h11)) (cj (cap2 (capN (by simp) h11) (by decide)) (cj1 (nb_app E9 v3 [s_.extract v1.toNat v2.toNat]))))))))))))))))))) (spec_l01Split_l0_ok s_ by_ fuel (i64 (v2 + 1)) (i64 (v2 + 1)) (v3 ++ [s_.extract v1.toNat v2.toNat]))) (fun h11 =>
     Pn.none)) (fun h10 =>
     Pn.none)) (fun h9 =>
     Pn.none)) (fun h8 =>
     LpO.go [.bit true, .bit false, .bit false, .bit false, .bit false, .bit false, .bit false, .bit false, .wait 3, .mask [0, 1, 5, 6, 7], .ren [0]] (p := [(decide (v2 ≤ (s_.size : Int))) = true,
      (v2 == (s_.size : Int)) = false,
      (v2 == (s_.size : Int)) = false,
      (v2 == (s_.size : Int)) = false,
      (0 : Int) ≤ v2,
      (v2 : Int) < s_.size,
      (v2 == (s_.size : Int)) = false,
      (v2 == (s_.size : Int)) = false,
      (v2 == (s_.size : Int)) = false,
      ((sAt s_ v2) == by_) = false]) (by kernel_rfl) (cj h1 (cj h2 (cj h2 (cj h2 (cj (od h6) (cj (od h7) (cj h2 (cj h2 (cj h2 (cj1 h8)))))))))) (spec_l01Split_l0_ok s_ by_ fuel v1 (i64 (v2 + 1)) v3))) (fun h7 =>
     Pn.none)) (fun h6 =>
     Pn.none))) (fun h1 =>
     Pn.some (LpO.out [.bit false, .mask [5], .ren [0]] (p := [(decide (v2 ≤ (s_.size : Int))) = false]) (by kernel_rfl) (show X.out 0 ≠ X.go from nofun) (cj1 h1)))
def spec_l01Split (s_ : ByteArray) (by_ : Int) : Option ((List ByteArray)) :=
 (spec_l01Split_l0 s_ by_ FUEL 0 0 []).bind fun r1 =>
 some r1
theorem spec_l01Split_ok (s_ : ByteArray) (by_ : Int) : Pn (fun y => Fn Tryz.prog 26 [(false, E9 s_), (false, E5 by_)] (E34 y) []) (spec_l01Split s_ by_) := by
  unfold spec_l01Split
  exact
   Pn.bind (fun r1 h12 =>
   Pn.some (Fn.of [.wait 6, .mask [0, 1, 5, 6, 7], .ren [0], .loop (X.out 0) (st 36 [(5, V.ow 0)] [Blk.row 9 (List.map E9 r1) []] [])] (p := [Loop Tryz.prog (sub (codeOf Tryz.prog 26) [1, 1, 1, 0, 1, 0, 0]) (st 36 [(0, V.sc (.string s_)), (1, V.sc (.int .u8 by_)), (5, V.ow 0), (6, V.sc (.int .i64 0)), (7, V.sc (.int .i64 0))] [Blk.row 9 ([] : List V) []] []) (X.out 0) (st 36 [(5, V.ow 0)] [Blk.row 9 (List.map E9 r1) []] [])]) (by kernel_rfl) (cj1 (spec_l01Split_l0_ok s_ by_ FUEL 0 0 [] r1 h12))))
def spec_Cut (s_ : ByteArray) : Option ((List ByteArray)) :=
 (spec_l01Split s_ 32).bind fun r1 =>
 some r1
theorem spec_Cut_ok (s_ : ByteArray) : Pn (fun y => Fn Tryz.prog 9 [(false, E9 s_)] (E34 y) []) (spec_Cut s_) := by
  unfold spec_Cut
  exact
   Pn.bind (fun r1 h1 =>
   Pn.some (Fn.of [.call [] (E34 r1) []] (p := [Fn Tryz.prog 26 [(false, E9 s_), (false, E5 32)] (E34 r1) [],
    (true || ((E34 r1).nv && nvL [])) = true]) (by kernel_rfl) (cj (spec_l01Split_ok s_ 32 r1 h1) (cj1 rfl))))
def spec_Digits_l0 (s_ : ByteArray) : Nat → Int → Option (Lo Unit Unit)
  | 0, _ => none
  | fuel + 1, v1 =>
   if (decide (v1 < (s_.size : Int))) = true then
   if (decide (0 ≤ v1)) = true then
   if (decide ((v1 : Int) < (s_.size : Int))) = true then
   if (decide ((sAt s_ v1) < 48)) = true then
   some (.ret ())
   else
   if (decide (57 < (sAt s_ v1))) = true then
   some (.ret ())
   else
   spec_Digits_l0 s_ fuel (i64 (v1 + 1))
   else none
   else none
   else
   some (.out ())
theorem spec_Digits_l0_ok (s_ : ByteArray) : ∀ (fuel : Nat) (v1 : Int), Pn (LpO Tryz.prog (sub (codeOf Tryz.prog 27) [1, 0, 1, 0, 0]) (st 23 [(0, V.sc (.string s_)), (3, V.sc (.int .i64 v1))] [] []) (fun (y : Lo Unit Unit) => Lo.elim y (fun s => (X.out 0, st 23 [(0, V.sc (.string s_))] [] [])) (fun s => (X.ret, st 23 [(2, V.sc (.bool false))] [] [])))) (spec_Digits_l0 s_ fuel v1)
  | 0, _ => Pn.none
  | fuel + 1, v1 => by
    unfold spec_Digits_l0
    exact
     Pn.ite (fun h1 =>
     Pn.ite (fun h2 =>
     Pn.ite (fun h3 =>
     Pn.ite (fun h4 =>
     Pn.some (LpO.out [.bit true, .bit true, .bit true, .bit true, .bit true, .bit true, .bit true, .wait 1, .mask [2], .ren []] (p := [(decide (v1 < (s_.size : Int))) = true,
      (0 : Int) ≤ v1,
      (v1 : Int) < s_.size,
      (decide ((sAt s_ v1) < 48)) = true,
      (decide ((sAt s_ v1) < 48)) = true,
      (decide ((sAt s_ v1) < 48)) = true,
      (decide ((sAt s_ v1) < 48)) = true,
      (decide ((sAt s_ v1) < 48)) = true,
      true = true]) (by kernel_rfl) (show X.ret ≠ X.go from nofun) (cj h1 (cj (od h2) (cj (od h3) (cj h4 (cj h4 (cj h4 (cj h4 (cj h4 (cj1 rfl))))))))))) (fun h4 =>
     Pn.ite (fun h5 =>
     Pn.some (LpO.out [.bit true, .bit false, .bit false, .bit false, .bit false, .bit false, .bit true, .wait 1, .mask [2], .ren []] (p := [(decide (v1 < (s_.size : Int))) = true,
      (0 : Int) ≤ v1,
      (v1 : Int) < s_.size,
      (decide ((sAt s_ v1) < 48)) = false,
      (decide ((sAt s_ v1) < 48)) = false,
      (decide ((sAt s_ v1) < 48)) = false,
      (0 : Int) ≤ v1,
      (v1 : Int) < s_.size,
      (decide ((sAt s_ v1) < 48)) = false,
      (decide ((sAt s_ v1) < 48)) = false,
      (decide (57 < (sAt s_ v1))) = true]) (by kernel_rfl) (show X.ret ≠ X.go from nofun) (cj h1 (cj (od h2) (cj (od h3) (cj h4 (cj h4 (cj h4 (cj (od h2) (cj (od h3) (cj h4 (cj h4 (cj1 h5))))))))))))) (fun h5 =>
     LpO.go [.bit true, .bit false, .bit false, .bit false, .bit false, .bit false, .bit false, .wait 3, .mask [0, 3], .ren []] (p := [(decide (v1 < (s_.size : Int))) = true,
      (0 : Int) ≤ v1,
      (v1 : Int) < s_.size,
      (decide ((sAt s_ v1) < 48)) = false,
      (decide ((sAt s_ v1) < 48)) = false,
      (decide ((sAt s_ v1) < 48)) = false,
      (0 : Int) ≤ v1,
      (v1 : Int) < s_.size,
      (decide ((sAt s_ v1) < 48)) = false,
      (decide ((sAt s_ v1) < 48)) = false,
      (decide (57 < (sAt s_ v1))) = false]) (by kernel_rfl) (cj h1 (cj (od h2) (cj (od h3) (cj h4 (cj h4 (cj h4 (cj (od h2) (cj (od h3) (cj h4 (cj h4 (cj1 h5))))))))))) (spec_Digits_l0_ok s_ fuel (i64 (v1 + 1)))))) (fun h3 =>
     Pn.none)) (fun h2 =>
     Pn.none)) (fun h1 =>
     Pn.some (LpO.out [.bit false, .mask [0], .ren []] (p := [(decide (v1 < (s_.size : Int))) = false]) (by kernel_rfl) (show X.out 0 ≠ X.go from nofun) (cj1 h1)))
def spec_Digits (s_ : ByteArray) : Option (Bool) :=
 (spec_Digits_l0 s_ FUEL 0).bind fun r1 =>
 Lo.elim r1 (fun s1 =>
 some (decide (0 < (s_.size : Int)))) (fun s2 =>
 some false)
theorem spec_Digits_ok (s_ : ByteArray) : Pn (fun y => Fn Tryz.prog 27 [(false, E9 s_)] (E4 y) []) (spec_Digits s_) := by
  unfold spec_Digits
  exact
   Pn.bind (fun r1 h6 =>
   Pn.lo (fun s1 h7 =>
   Pn.some (Fn.of [.wait 3, .mask [0, 3], .ren [], .loop (X.out 0) (st 23 [(0, V.sc (.string s_))] [] [])] (p := [Loop Tryz.prog (sub (codeOf Tryz.prog 27) [1, 0, 1, 0, 0]) (st 23 [(0, V.sc (.string s_)), (3, V.sc (.int .i64 0))] [] []) (X.out 0) (st 23 [(0, V.sc (.string s_))] [] [])]) (by kernel_rfl) (cj1 ((spec_Digits_l0_ok s_ FUEL 0 r1 h6).at h7 :)))) (fun s2 h8 =>
   Pn.some (Fn.of [.wait 3, .mask [0, 3], .ren [], .loop (X.ret) (st 23 [(2, V.sc (.bool false))] [] [])] (p := [Loop Tryz.prog (sub (codeOf Tryz.prog 27) [1, 0, 1, 0, 0]) (st 23 [(0, V.sc (.string s_)), (3, V.sc (.int .i64 0))] [] []) (X.ret) (st 23 [(2, V.sc (.bool false))] [] [])]) (by kernel_rfl) (cj1 ((spec_Digits_l0_ok s_ FUEL 0 r1 h6).at h8 :)))))
def spec_l01Money (n : Int) : Option (Bool) :=
 if (decide (0 ≤ n)) = true then
 some (decide (n ≤ 4611686018427387904))
 else
 some false
theorem spec_l01Money_ok (n : Int) : Pn (fun y => Fn Tryz.prog 48 [(false, E3 n)] (E4 y) []) (spec_l01Money n) := by
  unfold spec_l01Money
  exact
   Pn.ite (fun h1 =>
   Pn.some (Fn.of [.bit true, .bit true, .bit true] (p := [(decide (0 ≤ n)) = true,
    (decide (0 ≤ n)) = true,
    (decide (0 ≤ n)) = true]) (by kernel_rfl) (cj h1 (cj h1 (cj1 h1))))) (fun h1 =>
   Pn.some (Fn.of [.bit false, .bit false, .bit false] (p := [(decide (0 ≤ n)) = false,
    (decide (0 ≤ n)) = false,
    (decide (0 ≤ n)) = false]) (by kernel_rfl) (cj h1 (cj h1 (cj1 h1)))))
def spec_NumText_l0 (n : Int) : Nat → Int → ByteArray → Option (Int × ByteArray)
  | 0, _, _ => none
  | fuel + 1, v1, v2 =>
   if (decide (9 < v1)) = true then
   if (decide ((bstr [u8 (i64 (48 + (Int.tmod v1 10)))]).size + v2.size ≤ 9223372036854775807)) = true then
   spec_NumText_l0 n fuel (i64 (Int.tdiv v1 10)) ((bstr [u8 (i64 (48 + (Int.tmod v1 10)))]) ++ v2)
   else none
   else
   some (v1, v2)
theorem spec_NumText_l0_ok (n : Int) : ∀ (fuel : Nat) (v1 : Int) (v2 : ByteArray), Pn (LpO Tryz.prog (sub (codeOf Tryz.prog 28) [1, 1, 1, 0, 0, 0]) (st 26 [(0, V.sc (.int .i64 v1)), (3, V.sc (.string v2))] [] []) (fun (y : Int × ByteArray) => (X.out 0, st 26 [(0, V.sc (.int .i64 y.1)), (3, V.sc (.string y.2))] [] []))) (spec_NumText_l0 n fuel v1 v2)
  | 0, _, _ => Pn.none
  | fuel + 1, v1, v2 => by
    unfold spec_NumText_l0
    exact
     Pn.ite (fun h3 =>
     Pn.ite (fun h4 =>
     LpO.go [.bit true, .ints [u8 (i64 (48 + (Int.tmod v1 10)))], .wait 7, .mask [0, 3], .ren []] (p := [(decide (9 < v1)) = true,
      (10 : Int) ≠ 0,
      [V.sc (.int .u8 (u8 (i64 (48 + (Int.tmod v1 10)))))] = [u8 (i64 (48 + (Int.tmod v1 10)))].map fun n => V.sc (.int .u8 n),
      (bstr [u8 (i64 (48 + (Int.tmod v1 10)))]).size + v2.size ≤ 9223372036854775807,
      (10 : Int) ≠ 0]) (by kernel_rfl) (cj h3 (cj (by decide) (cj rfl (cj (od h4) (cj1 (by decide)))))) (spec_NumText_l0_ok n fuel (i64 (Int.tdiv v1 10)) ((bstr [u8 (i64 (48 + (Int.tmod v1 10)))]) ++ v2))) (fun h4 =>
     Pn.none)) (fun h3 =>
     Pn.some (LpO.out [.bit false, .mask [0, 3], .ren []] (p := [(decide (9 < v1)) = false]) (by kernel_rfl) (show X.out 0 ≠ X.go from nofun) (cj1 h3)))
def spec_NumText (n : Int) : Option (ByteArray) :=
 (spec_l01Money n).bind fun r1 =>
 if r1 = true then
 (spec_NumText_l0 n FUEL n (bs [])).bind fun r2 =>
 if (decide ((bstr [u8 (i64 (48 + r2.1))]).size + r2.2.size ≤ 9223372036854775807)) = true then
 some ((bstr [u8 (i64 (48 + r2.1))]) ++ r2.2)
 else none
 else
 some (bs [])
theorem spec_NumText_ok (n : Int) : Pn (fun y => Fn Tryz.prog 28 [(false, E3 n)] (E9 y) []) (spec_NumText n) := by
  unfold spec_NumText
  exact
   Pn.bind (fun r1 h1 =>
   Pn.ite (fun h2 =>
   Pn.bind (fun r2 h5 =>
   Pn.ite (fun h6 =>
   Pn.some (Fn.of [.call [] (E4 r1) [], .bit false, .wait 1, .mask [0, 3], .ren [], .loop (X.out 0) (st 26 [(0, V.sc (.int .i64 r2.1)), (3, V.sc (.string r2.2))] [] []), .ints [u8 (i64 (48 + r2.1))]] (p := [Fn Tryz.prog 48 [(false, E3 n)] (E4 r1) [],
    (true || ((E4 r1).nv && nvL [])) = true,
    (!r1) = false,
    Loop Tryz.prog (sub (codeOf Tryz.prog 28) [1, 1, 1, 0, 0, 0]) (st 26 [(0, V.sc (.int .i64 n)), (3, V.sc (.string (bs [])))] [] []) (X.out 0) (st 26 [(0, V.sc (.int .i64 r2.1)), (3, V.sc (.string r2.2))] [] []),
    [V.sc (.int .u8 (u8 (i64 (48 + r2.1))))] = [u8 (i64 (48 + r2.1))].map fun n => V.sc (.int .u8 n),
    (bstr [u8 (i64 (48 + r2.1))]).size + r2.2.size ≤ 9223372036854775807]) (by kernel_rfl) (cj (spec_l01Money_ok n r1 h1) (cj rfl (cj (nf h2) (cj (spec_NumText_l0_ok n FUEL n (bs []) r2 h5) (cj rfl (cj1 (od h6))))))))) (fun h6 =>
   Pn.none))) (fun h2 =>
   Pn.some (Fn.of [.call [] (E4 r1) [], .bit true] (p := [Fn Tryz.prog 48 [(false, E3 n)] (E4 r1) [],
    (true || ((E4 r1).nv && nvL [])) = true,
    (!r1) = true]) (by kernel_rfl) (cj (spec_l01Money_ok n r1 h1) (cj rfl (cj1 (nt h2)))))))
def spec_TextNum_l0 (s_ : ByteArray) : Nat → Int → Int → Option (Lo Int Unit)
  | 0, _, _ => none
  | fuel + 1, v1, v2 =>
   if (decide (v2 < (s_.size : Int))) = true then
   if (decide (0 ≤ v2)) = true then
   if (decide ((v2 : Int) < (s_.size : Int))) = true then
   if (decide ((i64 (Int.tdiv (i64 (4611686018427387904 - (i64 ((i64 (sAt s_ v2)) - 48)))) 10)) < v1)) = true then
   some (.ret ())
   else
   spec_TextNum_l0 s_ fuel (i64 ((i64 (v1 * 10)) + (i64 ((i64 (sAt s_ v2)) - 48)))) (i64 (v2 + 1))
   else none
   else none
   else
   some (.out v1)
theorem spec_TextNum_l0_ok (s_ : ByteArray) : ∀ (fuel : Nat) (v1 : Int) (v2 : Int), Pn (LpO Tryz.prog (sub (codeOf Tryz.prog 10) [1, 1, 1, 0, 1, 0, 0]) (st 40 [(0, V.sc (.string s_)), (4, V.sc (.int .i64 v1)), (5, V.sc (.int .i64 v2))] [] []) (fun (y : Lo Int Unit) => Lo.elim y (fun s => (X.out 0, st 40 [(0, V.sc (.string s_)), (4, V.sc (.int .i64 s))] [] [])) (fun s => (X.ret, st 40 [(2, V.sc (.int .i64 0)), (3, V.sc (.bool false))] [] [])))) (spec_TextNum_l0 s_ fuel v1 v2)
  | 0, _, _ => Pn.none
  | fuel + 1, v1, v2 => by
    unfold spec_TextNum_l0
    exact
     Pn.ite (fun h4 =>
     Pn.ite (fun h5 =>
     Pn.ite (fun h6 =>
     Pn.ite (fun h7 =>
     Pn.some (LpO.out [.bit true, .bit true, .wait 2, .mask [2, 3], .ren []] (p := [(decide (v2 < (s_.size : Int))) = true,
      (0 : Int) ≤ v2,
      (v2 : Int) < s_.size,
      (10 : Int) ≠ 0,
      (decide ((i64 (Int.tdiv (i64 (4611686018427387904 - (i64 ((i64 (sAt s_ v2)) - 48)))) 10)) < v1)) = true]) (by kernel_rfl) (show X.ret ≠ X.go from nofun) (cj h4 (cj (od h5) (cj (od h6) (cj (by decide) (cj1 h7))))))) (fun h7 =>
     LpO.go [.bit true, .bit false, .wait 8, .mask [0, 4, 5], .ren []] (p := [(decide (v2 < (s_.size : Int))) = true,
      (0 : Int) ≤ v2,
      (v2 : Int) < s_.size,
      (10 : Int) ≠ 0,
      (decide ((i64 (Int.tdiv (i64 (4611686018427387904 - (i64 ((i64 (sAt s_ v2)) - 48)))) 10)) < v1)) = false]) (by kernel_rfl) (cj h4 (cj (od h5) (cj (od h6) (cj (by decide) (cj1 h7))))) (spec_TextNum_l0_ok s_ fuel (i64 ((i64 (v1 * 10)) + (i64 ((i64 (sAt s_ v2)) - 48)))) (i64 (v2 + 1))))) (fun h6 =>
     Pn.none)) (fun h5 =>
     Pn.none)) (fun h4 =>
     Pn.some (LpO.out [.bit false, .mask [0, 4], .ren []] (p := [(decide (v2 < (s_.size : Int))) = false]) (by kernel_rfl) (show X.out 0 ≠ X.go from nofun) (cj1 h4)))
def spec_TextNum (s_ : ByteArray) : Option (Int × Bool) :=
 (spec_Digits s_).bind fun r1 =>
 if r1 = true then
 if (decide (19 < (s_.size : Int))) = true then
 some (0, false)
 else
 (spec_TextNum_l0 s_ FUEL 0 0).bind fun r2 =>
 Lo.elim r2 (fun s1 =>
 (spec_NumText s1).bind fun r3 =>
 if (r3 == s_) = true then
 some (s1, true)
 else
 some (0, false)) (fun s2 =>
 some (0, false))
 else
 some (0, false)
theorem spec_TextNum_ok (s_ : ByteArray) : Pn (fun y => Fn Tryz.prog 10 [(false, E9 s_)] (V.tup [E3 y.1, E4 y.2]) []) (spec_TextNum s_) := by
  unfold spec_TextNum
  exact
   Pn.bind (fun r1 h1 =>
   Pn.ite (fun h2 =>
   Pn.ite (fun h3 =>
   Pn.some (Fn.of [.call [] (E4 r1) [], .bit false, .bit false, .bit false, .bit false, .bit true] (p := [Fn Tryz.prog 27 [(false, E9 s_)] (E4 r1) [],
    (true || ((E4 r1).nv && nvL [])) = true,
    (!r1) = false,
    (!r1) = false,
    (!r1) = false,
    (!r1) = false,
    (decide (19 < (s_.size : Int))) = true]) (by kernel_rfl) (cj (spec_Digits_ok s_ r1 h1) (cj rfl (cj (nf h2) (cj (nf h2) (cj (nf h2) (cj (nf h2) (cj1 h3))))))))) (fun h3 =>
   Pn.bind (fun r2 h8 =>
   Pn.lo (fun s1 h9 =>
   Pn.bind (fun r3 h11 =>
   Pn.ite (fun h12 =>
   Pn.some (Fn.of [.call [] (E4 r1) [], .bit false, .bit false, .bit false, .bit false, .bit false, .wait 2, .mask [0, 4, 5], .ren [], .loop (X.out 0) (st 40 [(0, V.sc (.string s_)), (4, V.sc (.int .i64 s1))] [] []), .call [] (E9 r3) [], .bit false] (p := [Fn Tryz.prog 27 [(false, E9 s_)] (E4 r1) [],
    (true || ((E4 r1).nv && nvL [])) = true,
    (!r1) = false,
    (!r1) = false,
    (!r1) = false,
    (!r1) = false,
    (decide (19 < (s_.size : Int))) = false,
    Loop Tryz.prog (sub (codeOf Tryz.prog 10) [1, 1, 1, 0, 1, 0, 0]) (st 40 [(0, V.sc (.string s_)), (4, V.sc (.int .i64 0)), (5, V.sc (.int .i64 0))] [] []) (X.out 0) (st 40 [(0, V.sc (.string s_)), (4, V.sc (.int .i64 s1))] [] []),
    Fn Tryz.prog 28 [(false, E3 s1)] (E9 r3) [],
    (true || ((E9 r3).nv && nvL [])) = true,
    (!(r3 == s_)) = false]) (by kernel_rfl) (cj (spec_Digits_ok s_ r1 h1) (cj rfl (cj (nf h2) (cj (nf h2) (cj (nf h2) (cj (nf h2) (cj h3 (cj ((spec_TextNum_l0_ok s_ FUEL 0 0 r2 h8).at h9 :) (cj (spec_NumText_ok s1 r3 h11) (cj rfl (cj1 (nf h12)))))))))))))) (fun h12 =>
   Pn.some (Fn.of [.call [] (E4 r1) [], .bit false, .bit false, .bit false, .bit false, .bit false, .wait 2, .mask [0, 4, 5], .ren [], .loop (X.out 0) (st 40 [(0, V.sc (.string s_)), (4, V.sc (.int .i64 s1))] [] []), .call [] (E9 r3) [], .bit true] (p := [Fn Tryz.prog 27 [(false, E9 s_)] (E4 r1) [],
    (true || ((E4 r1).nv && nvL [])) = true,
    (!r1) = false,
    (!r1) = false,
    (!r1) = false,
    (!r1) = false,
    (decide (19 < (s_.size : Int))) = false,
    Loop Tryz.prog (sub (codeOf Tryz.prog 10) [1, 1, 1, 0, 1, 0, 0]) (st 40 [(0, V.sc (.string s_)), (4, V.sc (.int .i64 0)), (5, V.sc (.int .i64 0))] [] []) (X.out 0) (st 40 [(0, V.sc (.string s_)), (4, V.sc (.int .i64 s1))] [] []),
    Fn Tryz.prog 28 [(false, E3 s1)] (E9 r3) [],
    (true || ((E9 r3).nv && nvL [])) = true,
    (!(r3 == s_)) = true]) (by kernel_rfl) (cj (spec_Digits_ok s_ r1 h1) (cj rfl (cj (nf h2) (cj (nf h2) (cj (nf h2) (cj (nf h2) (cj h3 (cj ((spec_TextNum_l0_ok s_ FUEL 0 0 r2 h8).at h9 :) (cj (spec_NumText_ok s1 r3 h11) (cj rfl (cj1 (nt h12)))))))))))))))) (fun s2 h10 =>
   Pn.some (Fn.of [.call [] (E4 r1) [], .bit false, .bit false, .bit false, .bit false, .bit false, .wait 2, .mask [0, 4, 5], .ren [], .loop (X.ret) (st 40 [(2, V.sc (.int .i64 0)), (3, V.sc (.bool false))] [] [])] (p := [Fn Tryz.prog 27 [(false, E9 s_)] (E4 r1) [],
    (true || ((E4 r1).nv && nvL [])) = true,
    (!r1) = false,
    (!r1) = false,
    (!r1) = false,
    (!r1) = false,
    (decide (19 < (s_.size : Int))) = false,
    Loop Tryz.prog (sub (codeOf Tryz.prog 10) [1, 1, 1, 0, 1, 0, 0]) (st 40 [(0, V.sc (.string s_)), (4, V.sc (.int .i64 0)), (5, V.sc (.int .i64 0))] [] []) (X.ret) (st 40 [(2, V.sc (.int .i64 0)), (3, V.sc (.bool false))] [] [])]) (by kernel_rfl) (cj (spec_Digits_ok s_ r1 h1) (cj rfl (cj (nf h2) (cj (nf h2) (cj (nf h2) (cj (nf h2) (cj h3 (cj1 ((spec_TextNum_l0_ok s_ FUEL 0 0 r2 h8).at h10 :)))))))))))))) (fun h2 =>
   Pn.some (Fn.of [.call [] (E4 r1) [], .bit true, .bit true, .bit true, .bit true, .bit true] (p := [Fn Tryz.prog 27 [(false, E9 s_)] (E4 r1) [],
    (true || ((E4 r1).nv && nvL [])) = true,
    (!r1) = true,
    (!r1) = true,
    (!r1) = true,
    (!r1) = true,
    true = true]) (by kernel_rfl) (cj (spec_Digits_ok s_ r1 h1) (cj rfl (cj (nt h2) (cj (nt h2) (cj (nt h2) (cj (nt h2) (cj1 rfl))))))))))
def spec_l01In (n : Int) (lo : Int) (hi : Int) : Option (Bool) :=
 if (decide (lo ≤ n)) = true then
 some (decide (n ≤ hi))
 else
 some false
theorem spec_l01In_ok (n : Int) (lo : Int) (hi : Int) : Pn (fun y => Fn Tryz.prog 49 [(false, E3 n), (false, E3 lo), (false, E3 hi)] (E4 y) []) (spec_l01In n lo hi) := by
  unfold spec_l01In
  exact
   Pn.ite (fun h1 =>
   Pn.some (Fn.of [.bit true, .bit true, .bit true, .bit true] (p := [(decide (lo ≤ n)) = true,
    (decide (lo ≤ n)) = true,
    (decide (lo ≤ n)) = true,
    (decide (lo ≤ n)) = true]) (by kernel_rfl) (cj h1 (cj h1 (cj h1 (cj1 h1)))))) (fun h1 =>
   Pn.some (Fn.of [.bit false, .bit false, .bit false, .bit false] (p := [(decide (lo ≤ n)) = false,
    (decide (lo ≤ n)) = false,
    (decide (lo ≤ n)) = false,
    (decide (lo ≤ n)) = false]) (by kernel_rfl) (cj h1 (cj h1 (cj h1 (cj1 h1))))))
def spec_RingNew_s1 (buckets : Int) (span : Int) (r1 : Bool) (r2 : Bool) : St := st 21 [(0, V.sc (.int .i64 buckets)), (1, V.sc (.int .i64 span)), (4, V.ptr 0 0), (5, V.sc (.bool true)), (6, V.sc (.int .i64 buckets)), (7, V.sc (.bool r1)), (8, V.sc (.bool (!r1))), (9, V.sc (.bool (!r1))), (10, V.sc (.int .i64 span)), (11, V.sc (.bool r2)), (12, V.sc (.bool (!r2))), (13, V.sc (.bool (!r2))), (15, V.sc (.int .i64 span)), (16, V.sc (.int .i64 buckets)), (17, V.ow 1), (18, V.sc (.int .i64 buckets)), (19, V.ow 2), (20, V.agg [V.sc (.int .i64 span), V.sc (.int .i64 0), V.ow 1, V.ow 2])] [Blk.box 25 [V.sc (.int .i64 span), V.sc (.int .i64 0), V.ow 1, V.ow 2], Blk.row 3 (List.map E3 (List.replicate buckets.toNat 0)) [], Blk.row 3 (List.map E3 (List.replicate buckets.toNat 0)) []] []
def spec_RingNew (buckets : Int) (span : Int) : Option (Ring × Bool) :=
 (spec_l01In buckets 1 8).bind fun r1 =>
 if r1 = true then
 (spec_l01In span 1 1000).bind fun r2 =>
 if r2 = true then
 if (decide (0 ≤ buckets)) = true then
 if (capOk buckets.toNat) = true then
 some ((Ring.mk span 0 (List.replicate buckets.toNat 0) (List.replicate buckets.toNat 0)), true)
 else none
 else none
 else
 some ((Ring.mk 0 0 [] []), false)
 else
 some ((Ring.mk 0 0 [] []), false)
theorem spec_RingNew_ok (buckets : Int) (span : Int) : Pn (fun y => Fn Tryz.prog 29 [(false, E3 buckets), (false, E3 span)] (V.tup [E25 y.1, E4 y.2]) []) (spec_RingNew buckets span) := by
  unfold spec_RingNew
  exact
   Pn.bind (fun r1 h1 =>
   Pn.ite (fun h2 =>
   Pn.bind (fun r2 h3 =>
   Pn.ite (fun h4 =>
   Pn.ite (fun h5 =>
   Pn.ite (fun h6 =>
   Pn.some (Fn.of [.call [] (E4 r1) [], .bit false, .bit false, .call [] (E4 r2) [], .bit false, .bit false, .bit false, .draw [6], .loop .go ((spec_RingNew_s1 buckets span r1 r2)), .nb 1 (.row 3 (List.map E3 (List.replicate buckets.toNat 0)) []), .wait 1, .nb 2 (.row 3 (List.map E3 (List.replicate buckets.toNat 0)) []), .wait 3, .ren [0, 1, 2], .wait 1, .nb 1 (.row 3 (List.map E3 (List.replicate buckets.toNat 0)) []), .wait 1, .nb 2 (.row 3 (List.map E3 (List.replicate buckets.toNat 0)) []), .wait 3, .ren [0, 2, 1]] (p := [Fn Tryz.prog 49 [(false, E3 buckets), (false, E3 1), (false, E3 8)] (E4 r1) [],
    (true || ((E4 r1).nv && nvL [])) = true,
    (!r1) = false,
    (!r1) = false,
    Fn Tryz.prog 49 [(false, E3 span), (false, E3 1), (false, E3 1000)] (E4 r2) [],
    (true || ((E4 r2).nv && nvL [])) = true,
    (!r1) = false,
    (!r1) = false,
    (!r2) = false,
    (buckets : Int) = buckets,
    (0 : Int) ≤ buckets,
    (buckets : Int) ≤ 9223372036854775807,
    8 * buckets.toNat ≤ 281474976710656,
    Blk.row 3 (List.replicate buckets.toNat (V.sc (.int .i64 0))) [] = Blk.row 3 (List.map E3 (List.replicate buckets.toNat 0)) [],
    (buckets : Int) = buckets,
    (0 : Int) ≤ buckets,
    (buckets : Int) ≤ 9223372036854775807,
    8 * buckets.toNat ≤ 281474976710656,
    Blk.row 3 (List.replicate buckets.toNat (V.sc (.int .i64 0))) [] = Blk.row 3 (List.map E3 (List.replicate buckets.toNat 0)) [],
    (spec_RingNew_s1 buckets span r1 r2) = (spec_RingNew_s1 buckets span r1 r2),
    (buckets : Int) = buckets,
    (0 : Int) ≤ buckets,
    (buckets : Int) ≤ 9223372036854775807,
    8 * buckets.toNat ≤ 281474976710656,
    Blk.row 3 (List.replicate buckets.toNat (V.sc (.int .i64 0))) [] = Blk.row 3 (List.map E3 (List.replicate buckets.toNat 0)) [],
    (buckets : Int) = buckets,
    (0 : Int) ≤ buckets,
    (buckets : Int) ≤ 9223372036854775807,
    8 * buckets.toNat ≤ 281474976710656,
    Blk.row 3 (List.replicate buckets.toNat (V.sc (.int .i64 0))) [] = Blk.row 3 (List.map E3 (List.replicate buckets.toNat 0)) [],
    (spec_RingNew_s1 buckets span r1 r2) = (spec_RingNew_s1 buckets span r1 r2)]) (by kernel_rfl) (cj (spec_l01In_ok buckets 1 8 r1 h1) (cj rfl (cj (nf h2) (cj (nf h2) (cj (spec_l01In_ok span 1 1000 r2 h3) (cj rfl (cj (nf h2) (cj (nf h2) (cj (nf h4) (cj rfl (cj (od h5) (cj (cap3 h5 h6) (cj (cap4 h6 (by decide)) (cj (nb_rep E3 _ 0) (cj rfl (cj (od h5) (cj (cap3 h5 h6) (cj (cap4 h6 (by decide)) (cj (nb_rep E3 _ 0) (cj rfl (cj rfl (cj (od h5) (cj (cap3 h5 h6) (cj (cap4 h6 (by decide)) (cj (nb_rep E3 _ 0) (cj rfl (cj (od h5) (cj (cap3 h5 h6) (cj (cap4 h6 (by decide)) (cj (nb_rep E3 _ 0) (cj1 rfl))))))))))))))))))))))))))))))))) (fun h6 =>
   Pn.none)) (fun h5 =>
   Pn.none)) (fun h4 =>
   Pn.some (Fn.of [.call [] (E4 r1) [], .bit false, .bit false, .call [] (E4 r2) [], .bit false, .bit false, .bit true] (p := [Fn Tryz.prog 49 [(false, E3 buckets), (false, E3 1), (false, E3 8)] (E4 r1) [],
    (true || ((E4 r1).nv && nvL [])) = true,
    (!r1) = false,
    (!r1) = false,
    Fn Tryz.prog 49 [(false, E3 span), (false, E3 1), (false, E3 1000)] (E4 r2) [],
    (true || ((E4 r2).nv && nvL [])) = true,
    (!r1) = false,
    (!r1) = false,
    (!r2) = true]) (by kernel_rfl) (cj (spec_l01In_ok buckets 1 8 r1 h1) (cj rfl (cj (nf h2) (cj (nf h2) (cj (spec_l01In_ok span 1 1000 r2 h3) (cj rfl (cj (nf h2) (cj (nf h2) (cj1 (nt h4)))))))))))))) (fun h2 =>
   Pn.some (Fn.of [.call [] (E4 r1) [], .bit true, .bit true, .bit true, .bit true, .bit true] (p := [Fn Tryz.prog 49 [(false, E3 buckets), (false, E3 1), (false, E3 8)] (E4 r1) [],
    (true || ((E4 r1).nv && nvL [])) = true,
    (!r1) = true,
    (!r1) = true,
    (!r1) = true,
    (!r1) = true,
    true = true]) (by kernel_rfl) (cj (spec_l01In_ok buckets 1 8 r1 h1) (cj rfl (cj (nt h2) (cj (nt h2) (cj (nt h2) (cj (nt h2) (cj1 rfl))))))))))
def spec_Luhn_l0 (s_ : ByteArray) : Nat → Int → Bool → Int → Option (Int)
  | 0, _, _, _ => none
  | fuel + 1, v1, v2, v3 =>
   if (decide (0 ≤ v3)) = true then
   if (decide ((v3 : Int) < (s_.size : Int))) = true then
   if v2 = true then
   if (decide (9 < (i64 (2 * (i64 ((i64 (sAt s_ v3)) - 48)))))) = true then
   spec_Luhn_l0 s_ fuel (Int.tmod (i64 (v1 + (i64 ((i64 (2 * (i64 ((i64 (sAt s_ v3)) - 48)))) - 9)))) 10) (!v2) (i64 (v3 - 1))
   else
   spec_Luhn_l0 s_ fuel (Int.tmod (i64 (v1 + (i64 (2 * (i64 ((i64 (sAt s_ v3)) - 48)))))) 10) (!v2) (i64 (v3 - 1))
   else
   spec_Luhn_l0 s_ fuel (Int.tmod (i64 (v1 + (i64 ((i64 (sAt s_ v3)) - 48)))) 10) (!v2) (i64 (v3 - 1))
   else none
   else
   some v1
theorem spec_Luhn_l0_ok (s_ : ByteArray) : ∀ (fuel : Nat) (v1 : Int) (v2 : Bool) (v3 : Int), Pn (LpO Tryz.prog (sub (codeOf Tryz.prog 103) [1, 1, 1, 1, 0, 1, 0, 0]) (st 38 [(0, V.sc (.string s_)), (3, V.sc (.int .i64 v1)), (4, V.sc (.bool v2)), (5, V.sc (.int .i64 v3))] [] []) (fun (y : Int) => (X.out 0, st 38 [(3, V.sc (.int .i64 y))] [] []))) (spec_Luhn_l0 s_ fuel v1 v2 v3)
  | 0, _, _, _ => Pn.none
  | fuel + 1, v1, v2, v3 => by
    unfold spec_Luhn_l0
    exact
     Pn.ite (fun h3 =>
     Pn.ite (fun h4 =>
     Pn.ite (fun h5 =>
     Pn.ite (fun h6 =>
     LpO.go [.bit true, .bit true, .bit true, .wait 14, .mask [0, 3, 4, 5], .ren []] (p := [(decide (0 ≤ v3)) = true,
      (0 : Int) ≤ v3,
      (v3 : Int) < s_.size,
      v2 = true,
      (decide (9 < (i64 (2 * (i64 ((i64 (sAt s_ v3)) - 48)))))) = true,
      (10 : Int) ≠ 0]) (by kernel_rfl) (cj h3 (cj (od h3) (cj (od h4) (cj h5 (cj h6 (cj1 (by decide))))))) (spec_Luhn_l0_ok s_ fuel (Int.tmod (i64 (v1 + (i64 ((i64 (2 * (i64 ((i64 (sAt s_ v3)) - 48)))) - 9)))) 10) (!v2) (i64 (v3 - 1)))) (fun h6 =>
     LpO.go [.bit true, .bit true, .bit false, .wait 11, .mask [0, 3, 4, 5], .ren []] (p := [(decide (0 ≤ v3)) = true,
      (0 : Int) ≤ v3,
      (v3 : Int) < s_.size,
      v2 = true,
      (decide (9 < (i64 (2 * (i64 ((i64 (sAt s_ v3)) - 48)))))) = false,
      (10 : Int) ≠ 0]) (by kernel_rfl) (cj h3 (cj (od h3) (cj (od h4) (cj h5 (cj h6 (cj1 (by decide))))))) (spec_Luhn_l0_ok s_ fuel (Int.tmod (i64 (v1 + (i64 (2 * (i64 ((i64 (sAt s_ v3)) - 48)))))) 10) (!v2) (i64 (v3 - 1))))) (fun h5 =>
     LpO.go [.bit true, .bit false, .wait 11, .mask [0, 3, 4, 5], .ren []] (p := [(decide (0 ≤ v3)) = true,
      (0 : Int) ≤ v3,
      (v3 : Int) < s_.size,
      v2 = false,
      (10 : Int) ≠ 0]) (by kernel_rfl) (cj h3 (cj (od h3) (cj (od h4) (cj h5 (cj1 (by decide)))))) (spec_Luhn_l0_ok s_ fuel (Int.tmod (i64 (v1 + (i64 ((i64 (sAt s_ v3)) - 48)))) 10) (!v2) (i64 (v3 - 1))))) (fun h4 =>
     Pn.none)) (fun h3 =>
     Pn.some (LpO.out [.bit false, .mask [3], .ren []] (p := [(decide (0 ≤ v3)) = false]) (by kernel_rfl) (show X.out 0 ≠ X.go from nofun) (cj1 h3)))
def spec_Luhn (s_ : ByteArray) : Option (Int) :=
 (spec_Digits s_).bind fun r1 =>
 if r1 = true then
 (spec_Luhn_l0 s_ FUEL 0 true (i64 ((s_.size : Int) - 1))).bind fun r2 =>
 some (Int.tmod (i64 (10 - r2)) 10)
 else
 some (-1)
theorem spec_Luhn_ok (s_ : ByteArray) : Pn (fun y => Fn Tryz.prog 103 [(false, E9 s_)] (E3 y) []) (spec_Luhn s_) := by
  unfold spec_Luhn
  exact
   Pn.bind (fun r1 h1 =>
   Pn.ite (fun h2 =>
   Pn.bind (fun r2 h7 =>
   Pn.some (Fn.of [.call [] (E4 r1) [], .bit false, .wait 6, .mask [0, 3, 4, 5], .ren [], .loop (X.out 0) (st 38 [(3, V.sc (.int .i64 r2))] [] [])] (p := [Fn Tryz.prog 27 [(false, E9 s_)] (E4 r1) [],
    (true || ((E4 r1).nv && nvL [])) = true,
    (!r1) = false,
    Loop Tryz.prog (sub (codeOf Tryz.prog 103) [1, 1, 1, 1, 0, 1, 0, 0]) (st 38 [(0, V.sc (.string s_)), (3, V.sc (.int .i64 0)), (4, V.sc (.bool true)), (5, V.sc (.int .i64 (i64 ((s_.size : Int) - 1))))] [] []) (X.out 0) (st 38 [(3, V.sc (.int .i64 r2))] [] []),
    (10 : Int) ≠ 0]) (by kernel_rfl) (cj (spec_Digits_ok s_ r1 h1) (cj rfl (cj (nf h2) (cj (spec_Luhn_l0_ok s_ FUEL 0 true (i64 ((s_.size : Int) - 1)) r2 h7) (cj1 (by decide))))))))) (fun h2 =>
   Pn.some (Fn.of [.call [] (E4 r1) [], .bit true] (p := [Fn Tryz.prog 27 [(false, E9 s_)] (E4 r1) [],
    (true || ((E4 r1).nv && nvL [])) = true,
    (!r1) = true]) (by kernel_rfl) (cj (spec_Digits_ok s_ r1 h1) (cj rfl (cj1 (nt h2)))))))
def spec_LuhnOk (s_ : ByteArray) : Option (Bool) :=
 (spec_Digits s_).bind fun r1 =>
 if r1 = true then
 if (decide ((s_.size : Int) < 2)) = true then
 some false
 else
 if (decide (0 ≤ (i64 ((s_.size : Int) - 1)))) = true then
 if (decide ((i64 ((s_.size : Int) - 1)) ≤ (s_.size : Int))) = true then
 if (decide (0 ≤ i64 ((s_.size : Int) - 1))) = true then
 if (decide ((i64 ((s_.size : Int) - 1) : Int) < (s_.size : Int))) = true then
 (spec_Luhn (s_.extract 0 (i64 ((s_.size : Int) - 1)).toNat)).bind fun r2 =>
 some (r2 == (i64 ((i64 (sAt s_ (i64 ((s_.size : Int) - 1)))) - 48)))
 else none
 else none
 else none
 else none
 else
 some false
theorem spec_LuhnOk_ok (s_ : ByteArray) : Pn (fun y => Fn Tryz.prog 76 [(false, E9 s_)] (E4 y) []) (spec_LuhnOk s_) := by
  unfold spec_LuhnOk
  exact
   Pn.bind (fun r1 h1 =>
   Pn.ite (fun h2 =>
   Pn.ite (fun h3 =>
   Pn.some (Fn.of [.call [] (E4 r1) [], .bit false, .bit false, .bit false, .bit false, .bit true] (p := [Fn Tryz.prog 27 [(false, E9 s_)] (E4 r1) [],
    (true || ((E4 r1).nv && nvL [])) = true,
    (!r1) = false,
    (!r1) = false,
    (!r1) = false,
    (!r1) = false,
    (decide ((s_.size : Int) < 2)) = true]) (by kernel_rfl) (cj (spec_Digits_ok s_ r1 h1) (cj rfl (cj (nf h2) (cj (nf h2) (cj (nf h2) (cj (nf h2) (cj1 h3))))))))) (fun h3 =>
   Pn.ite (fun h4 =>
   Pn.ite (fun h5 =>
   Pn.ite (fun h6 =>
   Pn.ite (fun h7 =>
   Pn.bind (fun r2 h8 =>
   Pn.some (Fn.of [.call [] (E4 r1) [], .bit false, .bit false, .bit false, .bit false, .bit false, .draw [], .call [] (E3 r2) []] (p := [Fn Tryz.prog 27 [(false, E9 s_)] (E4 r1) [],
    (true || ((E4 r1).nv && nvL [])) = true,
    (!r1) = false,
    (!r1) = false,
    (!r1) = false,
    (!r1) = false,
    (decide ((s_.size : Int) < 2)) = false,
    (0 : Int) ≤ 0,
    (0 : Int) ≤ (i64 ((s_.size : Int) - 1)),
    ((i64 ((s_.size : Int) - 1)) : Int) ≤ (s_.size : Int),
    (0 : Int) ≤ i64 ((s_.size : Int) - 1),
    (i64 ((s_.size : Int) - 1) : Int) < s_.size,
    Fn Tryz.prog 103 [(false, E9 (s_.extract 0 (i64 ((s_.size : Int) - 1)).toNat))] (E3 r2) [],
    (true || ((E3 r2).nv && nvL [])) = true]) (by kernel_rfl) (cj (spec_Digits_ok s_ r1 h1) (cj rfl (cj (nf h2) (cj (nf h2) (cj (nf h2) (cj (nf h2) (cj h3 (cj (by decide) (cj (od h4) (cj (od h5) (cj (od h6) (cj (od h7) (cj (spec_Luhn_ok (s_.extract 0 (i64 ((s_.size : Int) - 1)).toNat) r2 h8) (cj1 rfl))))))))))))))))) (fun h7 =>
   Pn.none)) (fun h6 =>
   Pn.none)) (fun h5 =>
   Pn.none)) (fun h4 =>
   Pn.none))) (fun h2 =>
   Pn.some (Fn.of [.call [] (E4 r1) [], .bit true, .bit true, .bit true, .bit true, .bit true] (p := [Fn Tryz.prog 27 [(false, E9 s_)] (E4 r1) [],
    (true || ((E4 r1).nv && nvL [])) = true,
    (!r1) = true,
    (!r1) = true,
    (!r1) = true,
    (!r1) = true,
    true = true]) (by kernel_rfl) (cj (spec_Digits_ok s_ r1 h1) (cj rfl (cj (nt h2) (cj (nt h2) (cj (nt h2) (cj (nt h2) (cj1 rfl))))))))))
def spec_AcctIdOk (s_ : ByteArray) : Option (Bool) :=
 if (decide ((s_.size : Int) ≤ 19)) = true then
 (spec_LuhnOk s_).bind fun r1 =>
 some r1
 else
 some false
theorem spec_AcctIdOk_ok (s_ : ByteArray) : Pn (fun y => Fn Tryz.prog 50 [(false, E9 s_)] (E4 y) []) (spec_AcctIdOk s_) := by
  unfold spec_AcctIdOk
  exact
   Pn.ite (fun h1 =>
   Pn.bind (fun r1 h2 =>
   Pn.some (Fn.of [.bit true, .bit true, .call [] (E4 r1) [], .bit true] (p := [(decide ((s_.size : Int) ≤ 19)) = true,
    (decide ((s_.size : Int) ≤ 19)) = true,
    Fn Tryz.prog 76 [(false, E9 s_)] (E4 r1) [],
    (true || ((E4 r1).nv && nvL [])) = true,
    (decide ((s_.size : Int) ≤ 19)) = true]) (by kernel_rfl) (cj h1 (cj h1 (cj (spec_LuhnOk_ok s_ r1 h2) (cj rfl (cj1 h1)))))))) (fun h1 =>
   Pn.some (Fn.of [.bit false, .bit false, .bit false] (p := [(decide ((s_.size : Int) ≤ 19)) = false,
    (decide ((s_.size : Int) ≤ 19)) = false,
    (decide ((s_.size : Int) ≤ 19)) = false]) (by kernel_rfl) (cj h1 (cj h1 (cj1 h1)))))
def spec_HoldIdOk_l0 (s_ : ByteArray) : Nat → Int → Option (Lo Unit Unit)
  | 0, _ => none
  | fuel + 1, v1 =>
   if (decide (v1 < (s_.size : Int))) = true then
   if (decide (0 ≤ v1)) = true then
   if (decide ((v1 : Int) < (s_.size : Int))) = true then
   if (decide ((sAt s_ v1) < 48)) = true then
   if (decide ((sAt s_ v1) < 97)) = true then
   some (.ret ())
   else
   if (decide (122 < (sAt s_ v1))) = true then
   some (.ret ())
   else
   spec_HoldIdOk_l0 s_ fuel (i64 (v1 + 1))
   else
   if (decide (57 < (sAt s_ v1))) = true then
   if (decide ((sAt s_ v1) < 97)) = true then
   some (.ret ())
   else
   if (decide (122 < (sAt s_ v1))) = true then
   some (.ret ())
   else
   spec_HoldIdOk_l0 s_ fuel (i64 (v1 + 1))
   else
   spec_HoldIdOk_l0 s_ fuel (i64 (v1 + 1))
   else none
   else none
   else
   some (.out ())
theorem spec_HoldIdOk_l0_ok (s_ : ByteArray) : ∀ (fuel : Nat) (v1 : Int), Pn (LpO Tryz.prog (sub (codeOf Tryz.prog 104) [1, 0, 1, 0, 0]) (st 35 [(0, V.sc (.string s_)), (3, V.sc (.int .i64 v1))] [] []) (fun (y : Lo Unit Unit) => Lo.elim y (fun s => (X.out 0, st 35 [(0, V.sc (.string s_))] [] [])) (fun s => (X.ret, st 35 [(2, V.sc (.bool false))] [] [])))) (spec_HoldIdOk_l0 s_ fuel v1)
  | 0, _ => Pn.none
  | fuel + 1, v1 => by
    unfold spec_HoldIdOk_l0
    exact
     Pn.ite (fun h1 =>
     Pn.ite (fun h2 =>
     Pn.ite (fun h3 =>
     Pn.ite (fun h4 =>
     Pn.ite (fun h5 =>
     Pn.some (LpO.out [.bit true, .bit true, .bit true, .bit true, .bit true, .bit true, .bit true, .bit true, .bit true, .bit true, .bit true, .bit true, .bit true, .bit true, .bit true, .bit true, .bit true, .bit true, .bit true, .wait 1, .mask [2], .ren []] (p := [(decide (v1 < (s_.size : Int))) = true,
      (0 : Int) ≤ v1,
      (v1 : Int) < s_.size,
      (decide ((sAt s_ v1) < 48)) = true,
      (decide ((sAt s_ v1) < 48)) = true,
      (decide ((sAt s_ v1) < 48)) = true,
      (decide ((sAt s_ v1) < 48)) = true,
      (decide ((sAt s_ v1) < 48)) = true,
      true = true,
      true = true,
      true = true,
      (0 : Int) ≤ v1,
      (v1 : Int) < s_.size,
      true = true,
      true = true,
      (decide ((sAt s_ v1) < 97)) = true,
      (decide ((sAt s_ v1) < 97)) = true,
      (decide ((sAt s_ v1) < 97)) = true,
      (decide ((sAt s_ v1) < 97)) = true,
      true = true,
      (decide ((sAt s_ v1) < 97)) = true,
      true = true,
      true = true]) (by kernel_rfl) (show X.ret ≠ X.go from nofun) (cj h1 (cj (od h2) (cj (od h3) (cj h4 (cj h4 (cj h4 (cj h4 (cj h4 (cj rfl (cj rfl (cj rfl (cj (od h2) (cj (od h3) (cj rfl (cj rfl (cj h5 (cj h5 (cj h5 (cj h5 (cj rfl (cj h5 (cj rfl (cj1 rfl))))))))))))))))))))))))) (fun h5 =>
     Pn.ite (fun h6 =>
     Pn.some (LpO.out [.bit true, .bit true, .bit true, .bit true, .bit true, .bit true, .bit true, .bit true, .bit true, .bit true, .bit true, .bit false, .bit false, .bit false, .bit false, .bit true, .bit false, .bit true, .bit true, .wait 1, .mask [2], .ren []] (p := [(decide (v1 < (s_.size : Int))) = true,
      (0 : Int) ≤ v1,
      (v1 : Int) < s_.size,
      (decide ((sAt s_ v1) < 48)) = true,
      (decide ((sAt s_ v1) < 48)) = true,
      (decide ((sAt s_ v1) < 48)) = true,
      (decide ((sAt s_ v1) < 48)) = true,
      (decide ((sAt s_ v1) < 48)) = true,
      true = true,
      true = true,
      true = true,
      (0 : Int) ≤ v1,
      (v1 : Int) < s_.size,
      true = true,
      true = true,
      (decide ((sAt s_ v1) < 97)) = false,
      (decide ((sAt s_ v1) < 97)) = false,
      (decide ((sAt s_ v1) < 97)) = false,
      (0 : Int) ≤ v1,
      (v1 : Int) < s_.size,
      (decide ((sAt s_ v1) < 97)) = false,
      true = true,
      (decide ((sAt s_ v1) < 97)) = false,
      true = true,
      (decide (122 < (sAt s_ v1))) = true]) (by kernel_rfl) (show X.ret ≠ X.go from nofun) (cj h1 (cj (od h2) (cj (od h3) (cj h4 (cj h4 (cj h4 (cj h4 (cj h4 (cj rfl (cj rfl (cj rfl (cj (od h2) (cj (od h3) (cj rfl (cj rfl (cj h5 (cj h5 (cj h5 (cj (od h2) (cj (od h3) (cj h5 (cj rfl (cj h5 (cj rfl (cj1 h6))))))))))))))))))))))))))) (fun h6 =>
     LpO.go [.bit true, .bit true, .bit true, .bit true, .bit true, .bit true, .bit true, .bit true, .bit true, .bit true, .bit true, .bit false, .bit false, .bit false, .bit false, .bit true, .bit false, .bit true, .bit false, .wait 3, .mask [0, 3], .ren []] (p := [(decide (v1 < (s_.size : Int))) = true,
      (0 : Int) ≤ v1,
      (v1 : Int) < s_.size,
      (decide ((sAt s_ v1) < 48)) = true,
      (decide ((sAt s_ v1) < 48)) = true,
      (decide ((sAt s_ v1) < 48)) = true,
      (decide ((sAt s_ v1) < 48)) = true,
      (decide ((sAt s_ v1) < 48)) = true,
      true = true,
      true = true,
      true = true,
      (0 : Int) ≤ v1,
      (v1 : Int) < s_.size,
      true = true,
      true = true,
      (decide ((sAt s_ v1) < 97)) = false,
      (decide ((sAt s_ v1) < 97)) = false,
      (decide ((sAt s_ v1) < 97)) = false,
      (0 : Int) ≤ v1,
      (v1 : Int) < s_.size,
      (decide ((sAt s_ v1) < 97)) = false,
      true = true,
      (decide ((sAt s_ v1) < 97)) = false,
      true = true,
      (decide (122 < (sAt s_ v1))) = false]) (by kernel_rfl) (cj h1 (cj (od h2) (cj (od h3) (cj h4 (cj h4 (cj h4 (cj h4 (cj h4 (cj rfl (cj rfl (cj rfl (cj (od h2) (cj (od h3) (cj rfl (cj rfl (cj h5 (cj h5 (cj h5 (cj (od h2) (cj (od h3) (cj h5 (cj rfl (cj h5 (cj rfl (cj1 h6))))))))))))))))))))))))) (spec_HoldIdOk_l0_ok s_ fuel (i64 (v1 + 1)))))) (fun h4 =>
     Pn.ite (fun h7 =>
     Pn.ite (fun h8 =>
     Pn.some (LpO.out [.bit true, .bit false, .bit false, .bit false, .bit false, .bit false, .bit true, .bit true, .bit true, .bit true, .bit true, .bit true, .bit true, .bit true, .bit true, .bit true, .bit true, .bit true, .bit true, .wait 1, .mask [2], .ren []] (p := [(decide (v1 < (s_.size : Int))) = true,
      (0 : Int) ≤ v1,
      (v1 : Int) < s_.size,
      (decide ((sAt s_ v1) < 48)) = false,
      (decide ((sAt s_ v1) < 48)) = false,
      (decide ((sAt s_ v1) < 48)) = false,
      (0 : Int) ≤ v1,
      (v1 : Int) < s_.size,
      (decide ((sAt s_ v1) < 48)) = false,
      (decide ((sAt s_ v1) < 48)) = false,
      (decide (57 < (sAt s_ v1))) = true,
      (decide (57 < (sAt s_ v1))) = true,
      (decide (57 < (sAt s_ v1))) = true,
      (0 : Int) ≤ v1,
      (v1 : Int) < s_.size,
      (decide (57 < (sAt s_ v1))) = true,
      (decide (57 < (sAt s_ v1))) = true,
      (decide ((sAt s_ v1) < 97)) = true,
      (decide ((sAt s_ v1) < 97)) = true,
      (decide ((sAt s_ v1) < 97)) = true,
      (decide ((sAt s_ v1) < 97)) = true,
      (decide (57 < (sAt s_ v1))) = true,
      (decide ((sAt s_ v1) < 97)) = true,
      (decide (57 < (sAt s_ v1))) = true,
      true = true]) (by kernel_rfl) (show X.ret ≠ X.go from nofun) (cj h1 (cj (od h2) (cj (od h3) (cj h4 (cj h4 (cj h4 (cj (od h2) (cj (od h3) (cj h4 (cj h4 (cj h7 (cj h7 (cj h7 (cj (od h2) (cj (od h3) (cj h7 (cj h7 (cj h8 (cj h8 (cj h8 (cj h8 (cj h7 (cj h8 (cj h7 (cj1 rfl))))))))))))))))))))))))))) (fun h8 =>
     Pn.ite (fun h9 =>
     Pn.some (LpO.out [.bit true, .bit false, .bit false, .bit false, .bit false, .bit false, .bit true, .bit true, .bit true, .bit true, .bit true, .bit false, .bit false, .bit false, .bit false, .bit true, .bit false, .bit true, .bit true, .wait 1, .mask [2], .ren []] (p := [(decide (v1 < (s_.size : Int))) = true,
      (0 : Int) ≤ v1,
      (v1 : Int) < s_.size,
      (decide ((sAt s_ v1) < 48)) = false,
      (decide ((sAt s_ v1) < 48)) = false,
      (decide ((sAt s_ v1) < 48)) = false,
      (0 : Int) ≤ v1,
      (v1 : Int) < s_.size,
      (decide ((sAt s_ v1) < 48)) = false,
      (decide ((sAt s_ v1) < 48)) = false,
      (decide (57 < (sAt s_ v1))) = true,
      (decide (57 < (sAt s_ v1))) = true,
      (decide (57 < (sAt s_ v1))) = true,
      (0 : Int) ≤ v1,
      (v1 : Int) < s_.size,
      (decide (57 < (sAt s_ v1))) = true,
      (decide (57 < (sAt s_ v1))) = true,
      (decide ((sAt s_ v1) < 97)) = false,
      (decide ((sAt s_ v1) < 97)) = false,
      (decide ((sAt s_ v1) < 97)) = false,
      (0 : Int) ≤ v1,
      (v1 : Int) < s_.size,
      (decide ((sAt s_ v1) < 97)) = false,
      (decide (57 < (sAt s_ v1))) = true,
      (decide ((sAt s_ v1) < 97)) = false,
      (decide (57 < (sAt s_ v1))) = true,
      (decide (122 < (sAt s_ v1))) = true]) (by kernel_rfl) (show X.ret ≠ X.go from nofun) (cj h1 (cj (od h2) (cj (od h3) (cj h4 (cj h4 (cj h4 (cj (od h2) (cj (od h3) (cj h4 (cj h4 (cj h7 (cj h7 (cj h7 (cj (od h2) (cj (od h3) (cj h7 (cj h7 (cj h8 (cj h8 (cj h8 (cj (od h2) (cj (od h3) (cj h8 (cj h7 (cj h8 (cj h7 (cj1 h9))))))))))))))))))))))))))))) (fun h9 =>
     LpO.go [.bit true, .bit false, .bit false, .bit false, .bit false, .bit false, .bit true, .bit true, .bit true, .bit true, .bit true, .bit false, .bit false, .bit false, .bit false, .bit true, .bit false, .bit true, .bit false, .wait 3, .mask [0, 3], .ren []] (p := [(decide (v1 < (s_.size : Int))) = true,
      (0 : Int) ≤ v1,
      (v1 : Int) < s_.size,
      (decide ((sAt s_ v1) < 48)) = false,
      (decide ((sAt s_ v1) < 48)) = false,
      (decide ((sAt s_ v1) < 48)) = false,
      (0 : Int) ≤ v1,
      (v1 : Int) < s_.size,
      (decide ((sAt s_ v1) < 48)) = false,
      (decide ((sAt s_ v1) < 48)) = false,
      (decide (57 < (sAt s_ v1))) = true,
      (decide (57 < (sAt s_ v1))) = true,
      (decide (57 < (sAt s_ v1))) = true,
      (0 : Int) ≤ v1,
      (v1 : Int) < s_.size,
      (decide (57 < (sAt s_ v1))) = true,
      (decide (57 < (sAt s_ v1))) = true,
      (decide ((sAt s_ v1) < 97)) = false,
      (decide ((sAt s_ v1) < 97)) = false,
      (decide ((sAt s_ v1) < 97)) = false,
      (0 : Int) ≤ v1,
      (v1 : Int) < s_.size,
      (decide ((sAt s_ v1) < 97)) = false,
      (decide (57 < (sAt s_ v1))) = true,
      (decide ((sAt s_ v1) < 97)) = false,
      (decide (57 < (sAt s_ v1))) = true,
      (decide (122 < (sAt s_ v1))) = false]) (by kernel_rfl) (cj h1 (cj (od h2) (cj (od h3) (cj h4 (cj h4 (cj h4 (cj (od h2) (cj (od h3) (cj h4 (cj h4 (cj h7 (cj h7 (cj h7 (cj (od h2) (cj (od h3) (cj h7 (cj h7 (cj h8 (cj h8 (cj h8 (cj (od h2) (cj (od h3) (cj h8 (cj h7 (cj h8 (cj h7 (cj1 h9))))))))))))))))))))))))))) (spec_HoldIdOk_l0_ok s_ fuel (i64 (v1 + 1)))))) (fun h7 =>
     LpO.go [.bit true, .bit false, .bit false, .bit false, .bit false, .bit false, .bit false, .bit false, .bit false, .bit false, .bit false, .bit false, .bit false, .bit false, .wait 3, .mask [0, 3], .ren []] (p := [(decide (v1 < (s_.size : Int))) = true,
      (0 : Int) ≤ v1,
      (v1 : Int) < s_.size,
      (decide ((sAt s_ v1) < 48)) = false,
      (decide ((sAt s_ v1) < 48)) = false,
      (decide ((sAt s_ v1) < 48)) = false,
      (0 : Int) ≤ v1,
      (v1 : Int) < s_.size,
      (decide ((sAt s_ v1) < 48)) = false,
      (decide ((sAt s_ v1) < 48)) = false,
      (decide (57 < (sAt s_ v1))) = false,
      (decide (57 < (sAt s_ v1))) = false,
      (decide (57 < (sAt s_ v1))) = false,
      (decide (57 < (sAt s_ v1))) = false,
      (decide (57 < (sAt s_ v1))) = false,
      (decide (57 < (sAt s_ v1))) = false,
      (decide (57 < (sAt s_ v1))) = false,
      false = false]) (by kernel_rfl) (cj h1 (cj (od h2) (cj (od h3) (cj h4 (cj h4 (cj h4 (cj (od h2) (cj (od h3) (cj h4 (cj h4 (cj h7 (cj h7 (cj h7 (cj h7 (cj h7 (cj h7 (cj h7 (cj1 rfl)))))))))))))))))) (spec_HoldIdOk_l0_ok s_ fuel (i64 (v1 + 1)))))) (fun h3 =>
     Pn.none)) (fun h2 =>
     Pn.none)) (fun h1 =>
     Pn.some (LpO.out [.bit false, .mask [0], .ren []] (p := [(decide (v1 < (s_.size : Int))) = false]) (by kernel_rfl) (show X.out 0 ≠ X.go from nofun) (cj1 h1)))
def spec_HoldIdOk (s_ : ByteArray) : Option (Bool) :=
 (spec_HoldIdOk_l0 s_ FUEL 0).bind fun r1 =>
 Lo.elim r1 (fun s1 =>
 (spec_l01In (s_.size : Int) 1 6).bind fun r2 =>
 some r2) (fun s2 =>
 some false)
theorem spec_HoldIdOk_ok (s_ : ByteArray) : Pn (fun y => Fn Tryz.prog 104 [(false, E9 s_)] (E4 y) []) (spec_HoldIdOk s_) := by
  unfold spec_HoldIdOk
  exact
   Pn.bind (fun r1 h10 =>
   Pn.lo (fun s1 h11 =>
   Pn.bind (fun r2 h13 =>
   Pn.some (Fn.of [.wait 3, .mask [0, 3], .ren [], .loop (X.out 0) (st 35 [(0, V.sc (.string s_))] [] []), .call [] (E4 r2) []] (p := [Loop Tryz.prog (sub (codeOf Tryz.prog 104) [1, 0, 1, 0, 0]) (st 35 [(0, V.sc (.string s_)), (3, V.sc (.int .i64 0))] [] []) (X.out 0) (st 35 [(0, V.sc (.string s_))] [] []),
    Fn Tryz.prog 49 [(false, E3 (s_.size : Int)), (false, E3 1), (false, E3 6)] (E4 r2) [],
    (true || ((E4 r2).nv && nvL [])) = true]) (by kernel_rfl) (cj ((spec_HoldIdOk_l0_ok s_ FUEL 0 r1 h10).at h11 :) (cj (spec_l01In_ok (s_.size : Int) 1 6 r2 h13) (cj1 rfl)))))) (fun s2 h12 =>
   Pn.some (Fn.of [.wait 3, .mask [0, 3], .ren [], .loop (X.ret) (st 35 [(2, V.sc (.bool false))] [] [])] (p := [Loop Tryz.prog (sub (codeOf Tryz.prog 104) [1, 0, 1, 0, 0]) (st 35 [(0, V.sc (.string s_)), (3, V.sc (.int .i64 0))] [] []) (X.ret) (st 35 [(2, V.sc (.bool false))] [] [])]) (by kernel_rfl) (cj1 ((spec_HoldIdOk_l0_ok s_ FUEL 0 r1 h10).at h12 :)))))
def spec_l06Time (n : Int) : Option (Bool) :=
 (spec_l01In n 0 1000000000).bind fun r1 =>
 some r1
theorem spec_l06Time_ok (n : Int) : Pn (fun y => Fn Tryz.prog 78 [(false, E3 n)] (E4 y) []) (spec_l06Time n) := by
  unfold spec_l06Time
  exact
   Pn.bind (fun r1 h1 =>
   Pn.some (Fn.of [.call [] (E4 r1) []] (p := [Fn Tryz.prog 49 [(false, E3 n), (false, E3 0), (false, E3 1000000000)] (E4 r1) [],
    (true || ((E4 r1).nv && nvL [])) = true]) (by kernel_rfl) (cj (spec_l01In_ok n 0 1000000000 r1 h1) (cj1 rfl))))
def spec_HoldOk (h_ : Hold) : Option (Bool) :=
 (spec_HoldIdOk h_.Id).bind fun r1 =>
 if r1 = true then
 (spec_l01In h_.Amount 1 9007199254740992).bind fun r2 =>
 if r2 = true then
 (spec_l06Time h_.Due).bind fun r3 =>
 some r3
 else
 some false
 else
 some false
theorem spec_HoldOk_ok (h_ : Hold) : Pn (fun y => Fn Tryz.prog 77 [(false, E61 h_)] (E4 y) []) (spec_HoldOk h_) := by
  unfold spec_HoldOk
  exact
   Pn.bind (fun r1 h1 =>
   Pn.ite (fun h2 =>
   Pn.bind (fun r2 h3 =>
   Pn.ite (fun h4 =>
   Pn.bind (fun r3 h5 =>
   Pn.some (Fn.of [.call [] (E4 r1) [], .bit true, .bit true, .bit true, .call [] (E4 r2) [], .bit true, .bit true, .bit true, .bit true, .call [] (E4 r3) [], .bit true] (p := [Fn Tryz.prog 104 [(false, E9 h_.Id)] (E4 r1) [],
    (true || ((E4 r1).nv && nvL [])) = true,
    r1 = true,
    r1 = true,
    r1 = true,
    Fn Tryz.prog 49 [(false, E3 h_.Amount), (false, E3 1), (false, E3 9007199254740992)] (E4 r2) [],
    (true || ((E4 r2).nv && nvL [])) = true,
    r1 = true,
    r2 = true,
    r2 = true,
    r2 = true,
    Fn Tryz.prog 78 [(false, E3 h_.Due)] (E4 r3) [],
    (true || ((E4 r3).nv && nvL [])) = true,
    r2 = true]) (by kernel_rfl) (cj (spec_HoldIdOk_ok h_.Id r1 h1) (cj rfl (cj h2 (cj h2 (cj h2 (cj (spec_l01In_ok h_.Amount 1 9007199254740992 r2 h3) (cj rfl (cj h2 (cj h4 (cj h4 (cj h4 (cj (spec_l06Time_ok h_.Due r3 h5) (cj rfl (cj1 h4))))))))))))))))) (fun h4 =>
   Pn.some (Fn.of [.call [] (E4 r1) [], .bit true, .bit true, .bit true, .call [] (E4 r2) [], .bit true, .bit false, .bit false, .bit false, .bit false] (p := [Fn Tryz.prog 104 [(false, E9 h_.Id)] (E4 r1) [],
    (true || ((E4 r1).nv && nvL [])) = true,
    r1 = true,
    r1 = true,
    r1 = true,
    Fn Tryz.prog 49 [(false, E3 h_.Amount), (false, E3 1), (false, E3 9007199254740992)] (E4 r2) [],
    (true || ((E4 r2).nv && nvL [])) = true,
    r1 = true,
    r2 = false,
    r2 = false,
    r2 = false,
    r2 = false]) (by kernel_rfl) (cj (spec_HoldIdOk_ok h_.Id r1 h1) (cj rfl (cj h2 (cj h2 (cj h2 (cj (spec_l01In_ok h_.Amount 1 9007199254740992 r2 h3) (cj rfl (cj h2 (cj h4 (cj h4 (cj h4 (cj1 h4)))))))))))))))) (fun h2 =>
   Pn.some (Fn.of [.call [] (E4 r1) [], .bit false, .bit false, .bit false, .bit false, .bit false, .bit false, .bit false, .bit false] (p := [Fn Tryz.prog 104 [(false, E9 h_.Id)] (E4 r1) [],
    (true || ((E4 r1).nv && nvL [])) = true,
    r1 = false,
    r1 = false,
    r1 = false,
    r1 = false,
    false = false,
    false = false,
    false = false,
    false = false]) (by kernel_rfl) (cj (spec_HoldIdOk_ok h_.Id r1 h1) (cj rfl (cj h2 (cj h2 (cj h2 (cj h2 (cj rfl (cj rfl (cj rfl (cj1 rfl)))))))))))))
def spec_HoldsOk_l0 (l : List Hold) : List Hold → List Hold → Option (Lo Unit Unit)
  | [], p1 =>
   some (.out ())
  | x1 :: t1, p1 =>
   (spec_HoldOk x1).bind fun r1 =>
   if r1 = true then
   if (decide (0 < (p1.length : Int))) = true then
   if (decide (0 ≤ (i64 ((p1.length : Int) - 1)))) = true then
   (l[(i64 ((p1.length : Int) - 1)).toNat]?).bind fun x2 =>
   if (Op.bytesLess x2.Id.toList x1.Id.toList) = true then
   spec_HoldsOk_l0 l t1 (p1 ++ [x1])
   else
   some (.ret ())
   else none
   else
   spec_HoldsOk_l0 l t1 (p1 ++ [x1])
   else
   some (.ret ())
theorem spec_HoldsOk_l0_ok (l : List Hold) (h2 : capOk l.length = true) : ∀ (t1 p1 : List Hold) (_ : l = p1 ++ t1) , Pn (LpO Tryz.prog (sub (codeOf Tryz.prog 51) [1, 0, 1, 0, 0]) (st 34 [(0, V.sl false 61 (List.map E61 l)), (5, V.sl false 61 (List.map E61 l)), (6, V.sc (.int .i64 (l.length : Int))), (7, V.sc (.int .i64 (p1.length : Int)))] [] []) (fun (y : Lo Unit Unit) => Lo.elim y (fun s => (X.out 0, st 34 [(0, V.sl false 61 (List.map E61 l))] [] [])) (fun s => (X.ret, st 34 [(2, V.sc (.bool false))] [] [])))) (spec_HoldsOk_l0 l t1 p1)
  | [], p1, h1 => by
    unfold spec_HoldsOk_l0
    exact
     Pn.some (LpO.out [.bit false, .mask [0], .ren []] (p := [(decide ((p1.length : Int) < (l.length : Int))) = false]) (by kernel_rfl) (show X.out 0 ≠ X.go from nofun) (cj1 (rng_end h1)))
  | x1 :: t1, p1, h1 => by
    unfold spec_HoldsOk_l0
    exact
     Pn.bind (fun r1 h3 =>
     Pn.ite (fun h4 =>
     Pn.ite (fun h5 =>
     Pn.ite (fun h6 =>
     Pn.bind (fun x2 h7 =>
     Pn.ite (fun h8 =>
     LpO.go [.bit true, .el (E61 x1), .draw [], .call [] (E4 r1) [], .bit false, .bit false, .bit false, .bit true, .bit true, .bit true, .bit true, .el (E61 x2), .bit true, .bit true, .bit true, .bit true, .bit true, .bit false, .bit true, .bit false, .bit false, .wait 2, .mask [0, 5, 6, 7], .ren [], .nm 7 (V.sc (.int .i64 ((p1 ++ [x1]).length : Int)))] (p := [(decide ((p1.length : Int) < (l.length : Int))) = true,
      (0 : Int) ≤ (p1.length : Int),
      (List.map E61 l)[(p1.length : Int).toNat]? = some (E61 x1),
      Fn Tryz.prog 77 [(false, E61 x1)] (E4 r1) [],
      (true || ((E4 r1).nv && nvL [])) = true,
      (!r1) = false,
      (!r1) = false,
      (!r1) = false,
      (decide (0 < (p1.length : Int))) = true,
      (decide (0 < (p1.length : Int))) = true,
      (decide (0 < (p1.length : Int))) = true,
      (decide (0 < (p1.length : Int))) = true,
      (0 : Int) ≤ (i64 ((p1.length : Int) - 1)),
      (List.map E61 l)[(i64 ((p1.length : Int) - 1)).toNat]? = some (E61 x2),
      (decide (0 < (p1.length : Int))) = true,
      (decide (0 < (p1.length : Int))) = true,
      (decide (0 < (p1.length : Int))) = true,
      (decide (0 < (p1.length : Int))) = true,
      (decide (0 < (p1.length : Int))) = true,
      (!r1) = false,
      (decide (0 < (p1.length : Int))) = true,
      (!r1) = false,
      (!(Op.bytesLess x2.Id.toList x1.Id.toList)) = false,
      V.sc (.int .i64 (i64 ((p1.length : Int) + 1))) = V.sc (.int .i64 ((p1 ++ [x1]).length : Int))]) (by kernel_rfl) (cj (rng_lt h1) (cj (by omega) (cj (rng_get _ h1) (cj (spec_HoldOk_ok x1 r1 h3) (cj rfl (cj (nf h4) (cj (nf h4) (cj (nf h4) (cj h5 (cj h5 (cj h5 (cj h5 (cj (od h6) (cj (map_get h7) (cj h5 (cj h5 (cj h5 (cj h5 (cj h5 (cj (nf h4) (cj h5 (cj (nf h4) (cj (nf h8) (cj1 (rng_next h1 h2))))))))))))))))))))))))) (spec_HoldsOk_l0_ok l h2 t1 (p1 ++ [x1]) (rng_step h1))) (fun h8 =>
     Pn.some (LpO.out [.bit true, .el (E61 x1), .draw [], .call [] (E4 r1) [], .bit false, .bit false, .bit false, .bit true, .bit true, .bit true, .bit true, .el (E61 x2), .bit true, .bit true, .bit true, .bit true, .bit true, .bit false, .bit true, .bit false, .bit true, .wait 1, .mask [2], .ren []] (p := [(decide ((p1.length : Int) < (l.length : Int))) = true,
      (0 : Int) ≤ (p1.length : Int),
      (List.map E61 l)[(p1.length : Int).toNat]? = some (E61 x1),
      Fn Tryz.prog 77 [(false, E61 x1)] (E4 r1) [],
      (true || ((E4 r1).nv && nvL [])) = true,
      (!r1) = false,
      (!r1) = false,
      (!r1) = false,
      (decide (0 < (p1.length : Int))) = true,
      (decide (0 < (p1.length : Int))) = true,
      (decide (0 < (p1.length : Int))) = true,
      (decide (0 < (p1.length : Int))) = true,
      (0 : Int) ≤ (i64 ((p1.length : Int) - 1)),
      (List.map E61 l)[(i64 ((p1.length : Int) - 1)).toNat]? = some (E61 x2),
      (decide (0 < (p1.length : Int))) = true,
      (decide (0 < (p1.length : Int))) = true,
      (decide (0 < (p1.length : Int))) = true,
      (decide (0 < (p1.length : Int))) = true,
      (decide (0 < (p1.length : Int))) = true,
      (!r1) = false,
      (decide (0 < (p1.length : Int))) = true,
      (!r1) = false,
      (!(Op.bytesLess x2.Id.toList x1.Id.toList)) = true]) (by kernel_rfl) (show X.ret ≠ X.go from nofun) (cj (rng_lt h1) (cj (by omega) (cj (rng_get _ h1) (cj (spec_HoldOk_ok x1 r1 h3) (cj rfl (cj (nf h4) (cj (nf h4) (cj (nf h4) (cj h5 (cj h5 (cj h5 (cj h5 (cj (od h6) (cj (map_get h7) (cj h5 (cj h5 (cj h5 (cj h5 (cj h5 (cj (nf h4) (cj h5 (cj (nf h4) (cj1 (nt h8)))))))))))))))))))))))))))) (fun h6 =>
     Pn.none)) (fun h5 =>
     LpO.go [.bit true, .el (E61 x1), .draw [], .call [] (E4 r1) [], .bit false, .bit false, .bit false, .bit false, .bit false, .bit false, .bit false, .bit false, .bit false, .bit false, .bit false, .bit false, .bit false, .bit false, .bit false, .bit false, .wait 2, .mask [0, 5, 6, 7], .ren [], .nm 7 (V.sc (.int .i64 ((p1 ++ [x1]).length : Int)))] (p := [(decide ((p1.length : Int) < (l.length : Int))) = true,
      (0 : Int) ≤ (p1.length : Int),
      (List.map E61 l)[(p1.length : Int).toNat]? = some (E61 x1),
      Fn Tryz.prog 77 [(false, E61 x1)] (E4 r1) [],
      (true || ((E4 r1).nv && nvL [])) = true,
      (!r1) = false,
      (!r1) = false,
      (!r1) = false,
      (decide (0 < (p1.length : Int))) = false,
      (decide (0 < (p1.length : Int))) = false,
      (decide (0 < (p1.length : Int))) = false,
      (decide (0 < (p1.length : Int))) = false,
      (decide (0 < (p1.length : Int))) = false,
      (decide (0 < (p1.length : Int))) = false,
      (decide (0 < (p1.length : Int))) = false,
      (decide (0 < (p1.length : Int))) = false,
      (decide (0 < (p1.length : Int))) = false,
      (!r1) = false,
      (decide (0 < (p1.length : Int))) = false,
      (!r1) = false,
      false = false,
      V.sc (.int .i64 (i64 ((p1.length : Int) + 1))) = V.sc (.int .i64 ((p1 ++ [x1]).length : Int))]) (by kernel_rfl) (cj (rng_lt h1) (cj (by omega) (cj (rng_get _ h1) (cj (spec_HoldOk_ok x1 r1 h3) (cj rfl (cj (nf h4) (cj (nf h4) (cj (nf h4) (cj h5 (cj h5 (cj h5 (cj h5 (cj h5 (cj h5 (cj h5 (cj h5 (cj h5 (cj (nf h4) (cj h5 (cj (nf h4) (cj rfl (cj1 (rng_next h1 h2))))))))))))))))))))))) (spec_HoldsOk_l0_ok l h2 t1 (p1 ++ [x1]) (rng_step h1)))) (fun h4 =>
     Pn.some (LpO.out [.bit true, .el (E61 x1), .draw [], .call [] (E4 r1) [], .bit true, .bit true, .bit true, .bit true, .bit true, .bit true, .wait 1, .mask [2], .ren []] (p := [(decide ((p1.length : Int) < (l.length : Int))) = true,
      (0 : Int) ≤ (p1.length : Int),
      (List.map E61 l)[(p1.length : Int).toNat]? = some (E61 x1),
      Fn Tryz.prog 77 [(false, E61 x1)] (E4 r1) [],
      (true || ((E4 r1).nv && nvL [])) = true,
      (!r1) = true,
      (!r1) = true,
      (!r1) = true,
      (!r1) = true,
      (!r1) = true,
      true = true]) (by kernel_rfl) (show X.ret ≠ X.go from nofun) (cj (rng_lt h1) (cj (by omega) (cj (rng_get _ h1) (cj (spec_HoldOk_ok x1 r1 h3) (cj rfl (cj (nt h4) (cj (nt h4) (cj (nt h4) (cj (nt h4) (cj (nt h4) (cj1 rfl))))))))))))))
def spec_HoldsOk (l : List Hold) : Option (Bool) :=
 if (capOk l.length) = true then
 (spec_HoldsOk_l0 l l []).bind fun r2 =>
 Lo.elim r2 (fun s1 =>
 some (decide ((l.length : Int) ≤ 4))) (fun s2 =>
 some false)
 else none
theorem spec_HoldsOk_ok (l : List Hold) : Pn (fun y => Fn Tryz.prog 51 [(false, E22 l)] (E4 y) []) (spec_HoldsOk l) := by
  unfold spec_HoldsOk
  exact
   Pn.ite (fun h9 =>
   Pn.bind (fun r2 h10 =>
   Pn.lo (fun s1 h11 =>
   Pn.some (Fn.of [.wait 3, .nm 6 (V.sc (.int .i64 (l.length : Int))), .wait 2, .mask [0, 5, 6, 7], .ren [], .loop (X.out 0) (st 34 [(0, V.sl false 61 (List.map E61 l))] [] []), .wait 2, .nm 32 (V.sc (.int .i64 (l.length : Int)))] (p := [V.sc (.int .i64 ((List.map E61 l).length : Int)) = V.sc (.int .i64 (l.length : Int)),
    Loop Tryz.prog (sub (codeOf Tryz.prog 51) [1, 0, 1, 0, 0]) (st 34 [(0, V.sl false 61 (List.map E61 l)), (5, V.sl false 61 (List.map E61 l)), (6, V.sc (.int .i64 (l.length : Int))), (7, V.sc (.int .i64 0))] [] []) (X.out 0) (st 34 [(0, V.sl false 61 (List.map E61 l))] [] []),
    V.sc (.int .i64 ((List.map E61 l).length : Int)) = V.sc (.int .i64 (l.length : Int))]) (by kernel_rfl) (cj (len_nm _ _) (cj ((spec_HoldsOk_l0_ok l h9 l [] rfl r2 h10).at h11 :) (cj1 (len_nm _ _)))))) (fun s2 h12 =>
   Pn.some (Fn.of [.wait 3, .nm 6 (V.sc (.int .i64 (l.length : Int))), .wait 2, .mask [0, 5, 6, 7], .ren [], .loop (X.ret) (st 34 [(2, V.sc (.bool false))] [] [])] (p := [V.sc (.int .i64 ((List.map E61 l).length : Int)) = V.sc (.int .i64 (l.length : Int)),
    Loop Tryz.prog (sub (codeOf Tryz.prog 51) [1, 0, 1, 0, 0]) (st 34 [(0, V.sl false 61 (List.map E61 l)), (5, V.sl false 61 (List.map E61 l)), (6, V.sc (.int .i64 (l.length : Int))), (7, V.sc (.int .i64 0))] [] []) (X.ret) (st 34 [(2, V.sc (.bool false))] [] [])]) (by kernel_rfl) (cj (len_nm _ _) (cj1 ((spec_HoldsOk_l0_ok l h9 l [] rfl r2 h10).at h12 :))))))) (fun h9 =>
   Pn.none)
def spec_RingOk_l0 (r_ : Ring) : List Int → List Int → Option (Lo Unit Unit)
  | [], p1 =>
   some (.out ())
  | x1 :: t1, p1 =>
   (spec_l01Money x1).bind fun r4 =>
   if r4 = true then
   (r_.Sums[(p1.length : Int).toNat]?).bind fun x2 =>
   (spec_l01Money x2).bind fun r5 =>
   if r5 = true then
   spec_RingOk_l0 r_ t1 (p1 ++ [x1])
   else
   some (.ret ())
   else
   some (.ret ())
theorem spec_RingOk_l0_ok (r_ : Ring) (h9 : capOk r_.Counts.length = true) : ∀ (t1 p1 : List Int) (_ : r_.Counts = p1 ++ t1) , Pn (LpO Tryz.prog (sub (codeOf Tryz.prog 52) [1, 1, 0, 1, 0, 0]) (st 53 [(1, V.ptr 0 0), (32, V.sc (.int .i64 (r_.Counts.length : Int))), (33, V.sc (.int .i64 (p1.length : Int)))] [Blk.box 25 [V.sc (.int .i64 r_.Span), V.sc (.int .i64 r_.Head), V.sl false 3 (List.map E3 r_.Counts), V.sl false 3 (List.map E3 r_.Sums)]] []) (fun (y : Lo Unit Unit) => Lo.elim y (fun s => (X.out 0, st 53 [] [] [])) (fun s => (X.ret, st 53 [(2, V.sc (.bool false))] [] [])))) (spec_RingOk_l0 r_ t1 p1)
  | [], p1, h8 => by
    unfold spec_RingOk_l0
    exact
     Pn.some (LpO.out [.bit false, .mask [], .ren []] (p := [(decide ((p1.length : Int) < (r_.Counts.length : Int))) = false]) (by kernel_rfl) (show X.out 0 ≠ X.go from nofun) (cj1 (rng_end h8)))
  | x1 :: t1, p1, h8 => by
    unfold spec_RingOk_l0
    exact
     Pn.bind (fun r4 h10 =>
     Pn.ite (fun h11 =>
     Pn.bind (fun x2 h12 =>
     Pn.bind (fun r5 h13 =>
     Pn.ite (fun h14 =>
     LpO.go [.bit true, .el (E3 x1), .call [] (E4 r4) [], .bit false, .bit false, .bit false, .bit false, .el (E3 x2), .bit false, .bit false, .call [] (E4 r5) [], .bit false, .bit false, .bit false, .wait 2, .mask [1, 32, 33], .ren [0], .nm 33 (V.sc (.int .i64 ((p1 ++ [x1]).length : Int)))] (p := [(decide ((p1.length : Int) < (r_.Counts.length : Int))) = true,
      (0 : Int) ≤ (p1.length : Int),
      (List.map E3 r_.Counts)[(p1.length : Int).toNat]? = some (E3 x1),
      Fn Tryz.prog 48 [(false, E3 x1)] (E4 r4) [],
      (true || ((E4 r4).nv && nvL [])) = true,
      (!r4) = false,
      (!r4) = false,
      (!r4) = false,
      (!r4) = false,
      (0 : Int) ≤ (p1.length : Int),
      (List.map E3 r_.Sums)[(p1.length : Int).toNat]? = some (E3 x2),
      (!r4) = false,
      (!r4) = false,
      Fn Tryz.prog 48 [(false, E3 x2)] (E4 r5) [],
      (true || ((E4 r5).nv && nvL [])) = true,
      (!r4) = false,
      (!r4) = false,
      (!r5) = false,
      V.sc (.int .i64 (i64 ((p1.length : Int) + 1))) = V.sc (.int .i64 ((p1 ++ [x1]).length : Int))]) (by kernel_rfl) (cj (rng_lt h8) (cj (by omega) (cj (rng_get _ h8) (cj (spec_l01Money_ok x1 r4 h10) (cj rfl (cj (nf h11) (cj (nf h11) (cj (nf h11) (cj (nf h11) (cj (by omega) (cj (map_get h12) (cj (nf h11) (cj (nf h11) (cj (spec_l01Money_ok x2 r5 h13) (cj rfl (cj (nf h11) (cj (nf h11) (cj (nf h14) (cj1 (rng_next h8 h9)))))))))))))))))))) (spec_RingOk_l0_ok r_ h9 t1 (p1 ++ [x1]) (rng_step h8))) (fun h14 =>
     Pn.some (LpO.out [.bit true, .el (E3 x1), .call [] (E4 r4) [], .bit false, .bit false, .bit false, .bit false, .el (E3 x2), .bit false, .bit false, .call [] (E4 r5) [], .bit false, .bit false, .bit true, .wait 1, .mask [2], .ren []] (p := [(decide ((p1.length : Int) < (r_.Counts.length : Int))) = true,
      (0 : Int) ≤ (p1.length : Int),
      (List.map E3 r_.Counts)[(p1.length : Int).toNat]? = some (E3 x1),
      Fn Tryz.prog 48 [(false, E3 x1)] (E4 r4) [],
      (true || ((E4 r4).nv && nvL [])) = true,
      (!r4) = false,
      (!r4) = false,
      (!r4) = false,
      (!r4) = false,
      (0 : Int) ≤ (p1.length : Int),
      (List.map E3 r_.Sums)[(p1.length : Int).toNat]? = some (E3 x2),
      (!r4) = false,
      (!r4) = false,
      Fn Tryz.prog 48 [(false, E3 x2)] (E4 r5) [],
      (true || ((E4 r5).nv && nvL [])) = true,
      (!r4) = false,
      (!r4) = false,
      (!r5) = true]) (by kernel_rfl) (show X.ret ≠ X.go from nofun) (cj (rng_lt h8) (cj (by omega) (cj (rng_get _ h8) (cj (spec_l01Money_ok x1 r4 h10) (cj rfl (cj (nf h11) (cj (nf h11) (cj (nf h11) (cj (nf h11) (cj (by omega) (cj (map_get h12) (cj (nf h11) (cj (nf h11) (cj (spec_l01Money_ok x2 r5 h13) (cj rfl (cj (nf h11) (cj (nf h11) (cj1 (nt h14)))))))))))))))))))))))) (fun h11 =>
     Pn.some (LpO.out [.bit true, .el (E3 x1), .call [] (E4 r4) [], .bit true, .bit true, .bit true, .bit true, .bit true, .bit true, .bit true, .bit true, .bit true, .wait 1, .mask [2], .ren []] (p := [(decide ((p1.length : Int) < (r_.Counts.length : Int))) = true,
      (0 : Int) ≤ (p1.length : Int),
      (List.map E3 r_.Counts)[(p1.length : Int).toNat]? = some (E3 x1),
      Fn Tryz.prog 48 [(false, E3 x1)] (E4 r4) [],
      (true || ((E4 r4).nv && nvL [])) = true,
      (!r4) = true,
      (!r4) = true,
      (!r4) = true,
      (!r4) = true,
      (!r4) = true,
      (!r4) = true,
      (!r4) = true,
      (!r4) = true,
      true = true]) (by kernel_rfl) (show X.ret ≠ X.go from nofun) (cj (rng_lt h8) (cj (by omega) (cj (rng_get _ h8) (cj (spec_l01Money_ok x1 r4 h10) (cj rfl (cj (nt h11) (cj (nt h11) (cj (nt h11) (cj (nt h11) (cj (nt h11) (cj (nt h11) (cj (nt h11) (cj (nt h11) (cj1 rfl)))))))))))))))))
def spec_RingOk (r_ : Ring) : Option (Bool) :=
 (spec_l01In r_.Span 1 1000).bind fun r1 =>
 if r1 = true then
 (spec_l01In (r_.Counts.length : Int) 1 8).bind fun r2 =>
 if r2 = true then
 if ((r_.Sums.length : Int) != (r_.Counts.length : Int)) = true then
 some false
 else
 (spec_l06Time r_.Head).bind fun r3 =>
 if r3 = true then
 if (capOk r_.Counts.length) = true then
 (spec_RingOk_l0 r_ r_.Counts []).bind fun r6 =>
 Lo.elim r6 (fun s1 =>
 some true) (fun s2 =>
 some false)
 else none
 else
 some false
 else
 some false
 else
 some false
theorem spec_RingOk_ok (r_ : Ring) : Pn (fun y => Fn Tryz.prog 52 [(false, E25 r_)] (E4 y) []) (spec_RingOk r_) := by
  unfold spec_RingOk
  exact
   Pn.bind (fun r1 h1 =>
   Pn.ite (fun h2 =>
   Pn.bind (fun r2 h3 =>
   Pn.ite (fun h4 =>
   Pn.ite (fun h5 =>
   Pn.some (Fn.of [.call [] (E4 r1) [], .bit false, .bit false, .bit false, .nm 11 (V.sc (.int .i64 (r_.Counts.length : Int))), .bit false, .call [] (E4 r2) [], .bit false, .bit false, .bit false, .bit false, .bit false, .nm 18 (V.sc (.int .i64 (r_.Sums.length : Int))), .bit false, .bit false, .bit false, .nm 21 (V.sc (.int .i64 (r_.Counts.length : Int))), .bit false, .bit false, .bit true, .bit true, .bit true, .bit true, .bit true, .bit true] (p := [Fn Tryz.prog 49 [(false, E3 r_.Span), (false, E3 1), (false, E3 1000)] (E4 r1) [],
    (true || ((E4 r1).nv && nvL [])) = true,
    (!r1) = false,
    (!r1) = false,
    (!r1) = false,
    V.sc (.int .i64 ((List.map E3 r_.Counts).length : Int)) = V.sc (.int .i64 (r_.Counts.length : Int)),
    (!r1) = false,
    Fn Tryz.prog 49 [(false, E3 (r_.Counts.length : Int)), (false, E3 1), (false, E3 8)] (E4 r2) [],
    (true || ((E4 r2).nv && nvL [])) = true,
    (!r1) = false,
    (!r1) = false,
    (!r2) = false,
    (!r2) = false,
    (!r2) = false,
    V.sc (.int .i64 ((List.map E3 r_.Sums).length : Int)) = V.sc (.int .i64 (r_.Sums.length : Int)),
    (!r2) = false,
    (!r2) = false,
    (!r2) = false,
    V.sc (.int .i64 ((List.map E3 r_.Counts).length : Int)) = V.sc (.int .i64 (r_.Counts.length : Int)),
    (!r2) = false,
    (!r2) = false,
    ((r_.Sums.length : Int) != (r_.Counts.length : Int)) = true,
    ((r_.Sums.length : Int) != (r_.Counts.length : Int)) = true,
    ((r_.Sums.length : Int) != (r_.Counts.length : Int)) = true,
    ((r_.Sums.length : Int) != (r_.Counts.length : Int)) = true,
    ((r_.Sums.length : Int) != (r_.Counts.length : Int)) = true,
    true = true]) (by kernel_rfl) (cj (spec_l01In_ok r_.Span 1 1000 r1 h1) (cj rfl (cj (nf h2) (cj (nf h2) (cj (nf h2) (cj (len_nm _ _) (cj (nf h2) (cj (spec_l01In_ok (r_.Counts.length : Int) 1 8 r2 h3) (cj rfl (cj (nf h2) (cj (nf h2) (cj (nf h4) (cj (nf h4) (cj (nf h4) (cj (len_nm _ _) (cj (nf h4) (cj (nf h4) (cj (nf h4) (cj (len_nm _ _) (cj (nf h4) (cj (nf h4) (cj h5 (cj h5 (cj h5 (cj h5 (cj h5 (cj1 rfl))))))))))))))))))))))))))))) (fun h5 =>
   Pn.bind (fun r3 h6 =>
   Pn.ite (fun h7 =>
   Pn.ite (fun h15 =>
   Pn.bind (fun r6 h16 =>
   Pn.lo (fun s1 h17 =>
   Pn.some (Fn.of [.call [] (E4 r1) [], .bit false, .bit false, .bit false, .nm 11 (V.sc (.int .i64 (r_.Counts.length : Int))), .bit false, .call [] (E4 r2) [], .bit false, .bit false, .bit false, .bit false, .bit false, .nm 18 (V.sc (.int .i64 (r_.Sums.length : Int))), .bit false, .bit false, .bit false, .nm 21 (V.sc (.int .i64 (r_.Counts.length : Int))), .bit false, .bit false, .bit false, .bit false, .bit false, .call [] (E4 r3) [], .bit false, .bit false, .bit false, .wait 2, .nm 32 (V.sc (.int .i64 (r_.Counts.length : Int))), .wait 2, .mask [1, 32, 33], .ren [0], .loop (X.out 0) (st 53 [] [] [])] (p := [Fn Tryz.prog 49 [(false, E3 r_.Span), (false, E3 1), (false, E3 1000)] (E4 r1) [],
    (true || ((E4 r1).nv && nvL [])) = true,
    (!r1) = false,
    (!r1) = false,
    (!r1) = false,
    V.sc (.int .i64 ((List.map E3 r_.Counts).length : Int)) = V.sc (.int .i64 (r_.Counts.length : Int)),
    (!r1) = false,
    Fn Tryz.prog 49 [(false, E3 (r_.Counts.length : Int)), (false, E3 1), (false, E3 8)] (E4 r2) [],
    (true || ((E4 r2).nv && nvL [])) = true,
    (!r1) = false,
    (!r1) = false,
    (!r2) = false,
    (!r2) = false,
    (!r2) = false,
    V.sc (.int .i64 ((List.map E3 r_.Sums).length : Int)) = V.sc (.int .i64 (r_.Sums.length : Int)),
    (!r2) = false,
    (!r2) = false,
    (!r2) = false,
    V.sc (.int .i64 ((List.map E3 r_.Counts).length : Int)) = V.sc (.int .i64 (r_.Counts.length : Int)),
    (!r2) = false,
    (!r2) = false,
    ((r_.Sums.length : Int) != (r_.Counts.length : Int)) = false,
    ((r_.Sums.length : Int) != (r_.Counts.length : Int)) = false,
    ((r_.Sums.length : Int) != (r_.Counts.length : Int)) = false,
    Fn Tryz.prog 78 [(false, E3 r_.Head)] (E4 r3) [],
    (true || ((E4 r3).nv && nvL [])) = true,
    ((r_.Sums.length : Int) != (r_.Counts.length : Int)) = false,
    ((r_.Sums.length : Int) != (r_.Counts.length : Int)) = false,
    (!r3) = false,
    V.sc (.int .i64 ((List.map E3 r_.Counts).length : Int)) = V.sc (.int .i64 (r_.Counts.length : Int)),
    Loop Tryz.prog (sub (codeOf Tryz.prog 52) [1, 1, 0, 1, 0, 0]) (st 53 [(1, V.ptr 0 0), (32, V.sc (.int .i64 (r_.Counts.length : Int))), (33, V.sc (.int .i64 0))] [Blk.box 25 [V.sc (.int .i64 r_.Span), V.sc (.int .i64 r_.Head), V.sl false 3 (List.map E3 r_.Counts), V.sl false 3 (List.map E3 r_.Sums)]] []) (X.out 0) (st 53 [] [] [])]) (by kernel_rfl) (cj (spec_l01In_ok r_.Span 1 1000 r1 h1) (cj rfl (cj (nf h2) (cj (nf h2) (cj (nf h2) (cj (len_nm _ _) (cj (nf h2) (cj (spec_l01In_ok (r_.Counts.length : Int) 1 8 r2 h3) (cj rfl (cj (nf h2) (cj (nf h2) (cj (nf h4) (cj (nf h4) (cj (nf h4) (cj (len_nm _ _) (cj (nf h4) (cj (nf h4) (cj (nf h4) (cj (len_nm _ _) (cj (nf h4) (cj (nf h4) (cj h5 (cj h5 (cj h5 (cj (spec_l06Time_ok r_.Head r3 h6) (cj rfl (cj h5 (cj h5 (cj (nf h7) (cj (len_nm _ _) (cj1 ((spec_RingOk_l0_ok r_ h15 r_.Counts [] rfl r6 h16).at h17 :)))))))))))))))))))))))))))))))))) (fun s2 h18 =>
   Pn.some (Fn.of [.call [] (E4 r1) [], .bit false, .bit false, .bit false, .nm 11 (V.sc (.int .i64 (r_.Counts.length : Int))), .bit false, .call [] (E4 r2) [], .bit false, .bit false, .bit false, .bit false, .bit false, .nm 18 (V.sc (.int .i64 (r_.Sums.length : Int))), .bit false, .bit false, .bit false, .nm 21 (V.sc (.int .i64 (r_.Counts.length : Int))), .bit false, .bit false, .bit false, .bit false, .bit false, .call [] (E4 r3) [], .bit false, .bit false, .bit false, .wait 2, .nm 32 (V.sc (.int .i64 (r_.Counts.length : Int))), .wait 2, .mask [1, 32, 33], .ren [0], .loop (X.ret) (st 53 [(2, V.sc (.bool false))] [] [])] (p := [Fn Tryz.prog 49 [(false, E3 r_.Span), (false, E3 1), (false, E3 1000)] (E4 r1) [],
    (true || ((E4 r1).nv && nvL [])) = true,
    (!r1) = false,
    (!r1) = false,
    (!r1) = false,
    V.sc (.int .i64 ((List.map E3 r_.Counts).length : Int)) = V.sc (.int .i64 (r_.Counts.length : Int)),
    (!r1) = false,
    Fn Tryz.prog 49 [(false, E3 (r_.Counts.length : Int)), (false, E3 1), (false, E3 8)] (E4 r2) [],
    (true || ((E4 r2).nv && nvL [])) = true,
    (!r1) = false,
    (!r1) = false,
    (!r2) = false,
    (!r2) = false,
    (!r2) = false,
    V.sc (.int .i64 ((List.map E3 r_.Sums).length : Int)) = V.sc (.int .i64 (r_.Sums.length : Int)),
    (!r2) = false,
    (!r2) = false,
    (!r2) = false,
    V.sc (.int .i64 ((List.map E3 r_.Counts).length : Int)) = V.sc (.int .i64 (r_.Counts.length : Int)),
    (!r2) = false,
    (!r2) = false,
    ((r_.Sums.length : Int) != (r_.Counts.length : Int)) = false,
    ((r_.Sums.length : Int) != (r_.Counts.length : Int)) = false,
    ((r_.Sums.length : Int) != (r_.Counts.length : Int)) = false,
    Fn Tryz.prog 78 [(false, E3 r_.Head)] (E4 r3) [],
    (true || ((E4 r3).nv && nvL [])) = true,
    ((r_.Sums.length : Int) != (r_.Counts.length : Int)) = false,
    ((r_.Sums.length : Int) != (r_.Counts.length : Int)) = false,
    (!r3) = false,
    V.sc (.int .i64 ((List.map E3 r_.Counts).length : Int)) = V.sc (.int .i64 (r_.Counts.length : Int)),
    Loop Tryz.prog (sub (codeOf Tryz.prog 52) [1, 1, 0, 1, 0, 0]) (st 53 [(1, V.ptr 0 0), (32, V.sc (.int .i64 (r_.Counts.length : Int))), (33, V.sc (.int .i64 0))] [Blk.box 25 [V.sc (.int .i64 r_.Span), V.sc (.int .i64 r_.Head), V.sl false 3 (List.map E3 r_.Counts), V.sl false 3 (List.map E3 r_.Sums)]] []) (X.ret) (st 53 [(2, V.sc (.bool false))] [] [])]) (by kernel_rfl) (cj (spec_l01In_ok r_.Span 1 1000 r1 h1) (cj rfl (cj (nf h2) (cj (nf h2) (cj (nf h2) (cj (len_nm _ _) (cj (nf h2) (cj (spec_l01In_ok (r_.Counts.length : Int) 1 8 r2 h3) (cj rfl (cj (nf h2) (cj (nf h2) (cj (nf h4) (cj (nf h4) (cj (nf h4) (cj (len_nm _ _) (cj (nf h4) (cj (nf h4) (cj (nf h4) (cj (len_nm _ _) (cj (nf h4) (cj (nf h4) (cj h5 (cj h5 (cj h5 (cj (spec_l06Time_ok r_.Head r3 h6) (cj rfl (cj h5 (cj h5 (cj (nf h7) (cj (len_nm _ _) (cj1 ((spec_RingOk_l0_ok r_ h15 r_.Counts [] rfl r6 h16).at h18 :)))))))))))))))))))))))))))))))))))) (fun h15 =>
   Pn.none)) (fun h7 =>
   Pn.some (Fn.of [.call [] (E4 r1) [], .bit false, .bit false, .bit false, .nm 11 (V.sc (.int .i64 (r_.Counts.length : Int))), .bit false, .call [] (E4 r2) [], .bit false, .bit false, .bit false, .bit false, .bit false, .nm 18 (V.sc (.int .i64 (r_.Sums.length : Int))), .bit false, .bit false, .bit false, .nm 21 (V.sc (.int .i64 (r_.Counts.length : Int))), .bit false, .bit false, .bit false, .bit false, .bit false, .call [] (E4 r3) [], .bit false, .bit false, .bit true] (p := [Fn Tryz.prog 49 [(false, E3 r_.Span), (false, E3 1), (false, E3 1000)] (E4 r1) [],
    (true || ((E4 r1).nv && nvL [])) = true,
    (!r1) = false,
    (!r1) = false,
    (!r1) = false,
    V.sc (.int .i64 ((List.map E3 r_.Counts).length : Int)) = V.sc (.int .i64 (r_.Counts.length : Int)),
    (!r1) = false,
    Fn Tryz.prog 49 [(false, E3 (r_.Counts.length : Int)), (false, E3 1), (false, E3 8)] (E4 r2) [],
    (true || ((E4 r2).nv && nvL [])) = true,
    (!r1) = false,
    (!r1) = false,
    (!r2) = false,
    (!r2) = false,
    (!r2) = false,
    V.sc (.int .i64 ((List.map E3 r_.Sums).length : Int)) = V.sc (.int .i64 (r_.Sums.length : Int)),
    (!r2) = false,
    (!r2) = false,
    (!r2) = false,
    V.sc (.int .i64 ((List.map E3 r_.Counts).length : Int)) = V.sc (.int .i64 (r_.Counts.length : Int)),
    (!r2) = false,
    (!r2) = false,
    ((r_.Sums.length : Int) != (r_.Counts.length : Int)) = false,
    ((r_.Sums.length : Int) != (r_.Counts.length : Int)) = false,
    ((r_.Sums.length : Int) != (r_.Counts.length : Int)) = false,
    Fn Tryz.prog 78 [(false, E3 r_.Head)] (E4 r3) [],
    (true || ((E4 r3).nv && nvL [])) = true,
    ((r_.Sums.length : Int) != (r_.Counts.length : Int)) = false,
    ((r_.Sums.length : Int) != (r_.Counts.length : Int)) = false,
    (!r3) = true]) (by kernel_rfl) (cj (spec_l01In_ok r_.Span 1 1000 r1 h1) (cj rfl (cj (nf h2) (cj (nf h2) (cj (nf h2) (cj (len_nm _ _) (cj (nf h2) (cj (spec_l01In_ok (r_.Counts.length : Int) 1 8 r2 h3) (cj rfl (cj (nf h2) (cj (nf h2) (cj (nf h4) (cj (nf h4) (cj (nf h4) (cj (len_nm _ _) (cj (nf h4) (cj (nf h4) (cj (nf h4) (cj (len_nm _ _) (cj (nf h4) (cj (nf h4) (cj h5 (cj h5 (cj h5 (cj (spec_l06Time_ok r_.Head r3 h6) (cj rfl (cj h5 (cj h5 (cj1 (nt h7))))))))))))))))))))))))))))))))))) (fun h4 =>
   Pn.some (Fn.of [.call [] (E4 r1) [], .bit false, .bit false, .bit false, .nm 11 (V.sc (.int .i64 (r_.Counts.length : Int))), .bit false, .call [] (E4 r2) [], .bit false, .bit false, .bit true, .bit true, .bit true, .bit true, .bit true, .bit true, .bit true, .bit true, .bit true, .bit true, .bit true, .bit true, .bit true, .bit true] (p := [Fn Tryz.prog 49 [(false, E3 r_.Span), (false, E3 1), (false, E3 1000)] (E4 r1) [],
    (true || ((E4 r1).nv && nvL [])) = true,
    (!r1) = false,
    (!r1) = false,
    (!r1) = false,
    V.sc (.int .i64 ((List.map E3 r_.Counts).length : Int)) = V.sc (.int .i64 (r_.Counts.length : Int)),
    (!r1) = false,
    Fn Tryz.prog 49 [(false, E3 (r_.Counts.length : Int)), (false, E3 1), (false, E3 8)] (E4 r2) [],
    (true || ((E4 r2).nv && nvL [])) = true,
    (!r1) = false,
    (!r1) = false,
    (!r2) = true,
    (!r2) = true,
    (!r2) = true,
    (!r2) = true,
    (!r2) = true,
    (!r2) = true,
    (!r2) = true,
    (!r2) = true,
    true = true,
    true = true,
    true = true,
    true = true,
    true = true,
    true = true]) (by kernel_rfl) (cj (spec_l01In_ok r_.Span 1 1000 r1 h1) (cj rfl (cj (nf h2) (cj (nf h2) (cj (nf h2) (cj (len_nm _ _) (cj (nf h2) (cj (spec_l01In_ok (r_.Counts.length : Int) 1 8 r2 h3) (cj rfl (cj (nf h2) (cj (nf h2) (cj (nt h4) (cj (nt h4) (cj (nt h4) (cj (nt h4) (cj (nt h4) (cj (nt h4) (cj (nt h4) (cj (nt h4) (cj rfl (cj rfl (cj rfl (cj rfl (cj rfl (cj1 rfl))))))))))))))))))))))))))))) (fun h2 =>
   Pn.some (Fn.of [.call [] (E4 r1) [], .bit true, .bit true, .bit true, .bit true, .bit true, .bit true, .bit true, .bit true, .bit true, .bit true, .bit true, .bit true, .bit true, .bit true, .bit true, .bit true, .bit true, .bit true, .bit true, .bit true] (p := [Fn Tryz.prog 49 [(false, E3 r_.Span), (false, E3 1), (false, E3 1000)] (E4 r1) [],
    (true || ((E4 r1).nv && nvL [])) = true,
    (!r1) = true,
    (!r1) = true,
    (!r1) = true,
    (!r1) = true,
    (!r1) = true,
    (!r1) = true,
    true = true,
    true = true,
    true = true,
    true = true,
    true = true,
    true = true,
    true = true,
    true = true,
    true = true,
    true = true,
    true = true,
    true = true,
    true = true,
    true = true]) (by kernel_rfl) (cj (spec_l01In_ok r_.Span 1 1000 r1 h1) (cj rfl (cj (nt h2) (cj (nt h2) (cj (nt h2) (cj (nt h2) (cj (nt h2) (cj (nt h2) (cj rfl (cj rfl (cj rfl (cj rfl (cj rfl (cj rfl (cj rfl (cj rfl (cj rfl (cj rfl (cj rfl (cj rfl (cj rfl (cj1 rfl)))))))))))))))))))))))))
def spec_SlotOk (s_ : Slot) : Option (Bool) :=
 (spec_Digits s_.Trace).bind fun r1 =>
 if r1 = true then
 if ((s_.Trace.size : Int) == 6) = true then
 (spec_Digits s_.Mti).bind fun r2 =>
 if r2 = true then
 if ((s_.Mti.size : Int) == 4) = true then
 (spec_l01In (s_.Reply.length : Int) 1 200).bind fun r3 =>
 some r3
 else
 some false
 else
 some false
 else
 some false
 else
 some false
theorem spec_SlotOk_ok (s_ : Slot) : Pn (fun y => Fn Tryz.prog 79 [(false, E66 s_)] (E4 y) []) (spec_SlotOk s_) := by
  unfold spec_SlotOk
  exact
   Pn.bind (fun r1 h1 =>
   Pn.ite (fun h2 =>
   Pn.ite (fun h3 =>
   Pn.bind (fun r2 h4 =>
   Pn.ite (fun h5 =>
   Pn.ite (fun h6 =>
   Pn.bind (fun r3 h7 =>
   Pn.some (Fn.of [.call [] (E4 r1) [], .bit true, .bit true, .bit true, .bit true, .bit true, .bit true, .bit true, .bit true, .call [] (E4 r2) [], .bit true, .bit true, .bit true, .bit true, .bit true, .bit true, .bit true, .bit true, .bit true, .nm 26 (V.sc (.int .i64 (s_.Reply.length : Int))), .bit true, .call [] (E4 r3) [], .bit true] (p := [Fn Tryz.prog 27 [(false, E9 s_.Trace)] (E4 r1) [],
    (true || ((E4 r1).nv && nvL [])) = true,
    r1 = true,
    r1 = true,
    r1 = true,
    r1 = true,
    r1 = true,
    ((s_.Trace.size : Int) == 6) = true,
    ((s_.Trace.size : Int) == 6) = true,
    ((s_.Trace.size : Int) == 6) = true,
    Fn Tryz.prog 27 [(false, E9 s_.Mti)] (E4 r2) [],
    (true || ((E4 r2).nv && nvL [])) = true,
    ((s_.Trace.size : Int) == 6) = true,
    r2 = true,
    r2 = true,
    r2 = true,
    r2 = true,
    r2 = true,
    ((s_.Mti.size : Int) == 4) = true,
    ((s_.Mti.size : Int) == 4) = true,
    ((s_.Mti.size : Int) == 4) = true,
    V.sc (.int .i64 ((List.map E5 s_.Reply).length : Int)) = V.sc (.int .i64 (s_.Reply.length : Int)),
    ((s_.Mti.size : Int) == 4) = true,
    Fn Tryz.prog 49 [(false, E3 (s_.Reply.length : Int)), (false, E3 1), (false, E3 200)] (E4 r3) [],
    (true || ((E4 r3).nv && nvL [])) = true,
    ((s_.Mti.size : Int) == 4) = true]) (by kernel_rfl) (cj (spec_Digits_ok s_.Trace r1 h1) (cj rfl (cj h2 (cj h2 (cj h2 (cj h2 (cj h2 (cj h3 (cj h3 (cj h3 (cj (spec_Digits_ok s_.Mti r2 h4) (cj rfl (cj h3 (cj h5 (cj h5 (cj h5 (cj h5 (cj h5 (cj h6 (cj h6 (cj h6 (cj (len_nm _ _) (cj h6 (cj (spec_l01In_ok (s_.Reply.length : Int) 1 200 r3 h7) (cj rfl (cj1 h6))))))))))))))))))))))))))))) (fun h6 =>
   Pn.some (Fn.of [.call [] (E4 r1) [], .bit true, .bit true, .bit true, .bit true, .bit true, .bit true, .bit true, .bit true, .call [] (E4 r2) [], .bit true, .bit true, .bit true, .bit true, .bit true, .bit true, .bit false, .bit false, .bit false, .bit false, .bit false] (p := [Fn Tryz.prog 27 [(false, E9 s_.Trace)] (E4 r1) [],
    (true || ((E4 r1).nv && nvL [])) = true,
    r1 = true,
    r1 = true,
    r1 = true,
    r1 = true,
    r1 = true,
    ((s_.Trace.size : Int) == 6) = true,
    ((s_.Trace.size : Int) == 6) = true,
    ((s_.Trace.size : Int) == 6) = true,
    Fn Tryz.prog 27 [(false, E9 s_.Mti)] (E4 r2) [],
    (true || ((E4 r2).nv && nvL [])) = true,
    ((s_.Trace.size : Int) == 6) = true,
    r2 = true,
    r2 = true,
    r2 = true,
    r2 = true,
    r2 = true,
    ((s_.Mti.size : Int) == 4) = false,
    ((s_.Mti.size : Int) == 4) = false,
    ((s_.Mti.size : Int) == 4) = false,
    ((s_.Mti.size : Int) == 4) = false,
    ((s_.Mti.size : Int) == 4) = false]) (by kernel_rfl) (cj (spec_Digits_ok s_.Trace r1 h1) (cj rfl (cj h2 (cj h2 (cj h2 (cj h2 (cj h2 (cj h3 (cj h3 (cj h3 (cj (spec_Digits_ok s_.Mti r2 h4) (cj rfl (cj h3 (cj h5 (cj h5 (cj h5 (cj h5 (cj h5 (cj h6 (cj h6 (cj h6 (cj h6 (cj1 h6)))))))))))))))))))))))))) (fun h5 =>
   Pn.some (Fn.of [.call [] (E4 r1) [], .bit true, .bit true, .bit true, .bit true, .bit true, .bit true, .bit true, .bit true, .call [] (E4 r2) [], .bit true, .bit false, .bit false, .bit false, .bit false, .bit false, .bit false, .bit false, .bit false, .bit false, .bit false] (p := [Fn Tryz.prog 27 [(false, E9 s_.Trace)] (E4 r1) [],
    (true || ((E4 r1).nv && nvL [])) = true,
    r1 = true,
    r1 = true,
    r1 = true,
    r1 = true,
    r1 = true,
    ((s_.Trace.size : Int) == 6) = true,
    ((s_.Trace.size : Int) == 6) = true,
    ((s_.Trace.size : Int) == 6) = true,
    Fn Tryz.prog 27 [(false, E9 s_.Mti)] (E4 r2) [],
    (true || ((E4 r2).nv && nvL [])) = true,
    ((s_.Trace.size : Int) == 6) = true,
    r2 = false,
    r2 = false,
    r2 = false,
    r2 = false,
    r2 = false,
    false = false,
    false = false,
    false = false,
    false = false,
    false = false]) (by kernel_rfl) (cj (spec_Digits_ok s_.Trace r1 h1) (cj rfl (cj h2 (cj h2 (cj h2 (cj h2 (cj h2 (cj h3 (cj h3 (cj h3 (cj (spec_Digits_ok s_.Mti r2 h4) (cj rfl (cj h3 (cj h5 (cj h5 (cj h5 (cj h5 (cj h5 (cj rfl (cj rfl (cj rfl (cj rfl (cj1 rfl))))))))))))))))))))))))))) (fun h3 =>
   Pn.some (Fn.of [.call [] (E4 r1) [], .bit true, .bit true, .bit true, .bit true, .bit true, .bit false, .bit false, .bit false, .bit false, .bit false, .bit false, .bit false, .bit false, .bit false, .bit false, .bit false, .bit false, .bit false, .bit false] (p := [Fn Tryz.prog 27 [(false, E9 s_.Trace)] (E4 r1) [],
    (true || ((E4 r1).nv && nvL [])) = true,
    r1 = true,
    r1 = true,
    r1 = true,
    r1 = true,
    r1 = true,
    ((s_.Trace.size : Int) == 6) = false,
    ((s_.Trace.size : Int) == 6) = false,
    ((s_.Trace.size : Int) == 6) = false,
    ((s_.Trace.size : Int) == 6) = false,
    false = false,
    false = false,
    false = false,
    false = false,
    false = false,
    false = false,
    false = false,
    false = false,
    false = false,
    false = false]) (by kernel_rfl) (cj (spec_Digits_ok s_.Trace r1 h1) (cj rfl (cj h2 (cj h2 (cj h2 (cj h2 (cj h2 (cj h3 (cj h3 (cj h3 (cj h3 (cj rfl (cj rfl (cj rfl (cj rfl (cj rfl (cj rfl (cj rfl (cj rfl (cj rfl (cj1 rfl)))))))))))))))))))))))) (fun h2 =>
   Pn.some (Fn.of [.call [] (E4 r1) [], .bit false, .bit false, .bit false, .bit false, .bit false, .bit false, .bit false, .bit false, .bit false, .bit false, .bit false, .bit false, .bit false, .bit false, .bit false, .bit false, .bit false, .bit false, .bit false] (p := [Fn Tryz.prog 27 [(false, E9 s_.Trace)] (E4 r1) [],
    (true || ((E4 r1).nv && nvL [])) = true,
    r1 = false,
    r1 = false,
    r1 = false,
    r1 = false,
    r1 = false,
    false = false,
    false = false,
    false = false,
    false = false,
    false = false,
    false = false,
    false = false,
    false = false,
    false = false,
    false = false,
    false = false,
    false = false,
    false = false,
    false = false]) (by kernel_rfl) (cj (spec_Digits_ok s_.Trace r1 h1) (cj rfl (cj h2 (cj h2 (cj h2 (cj h2 (cj h2 (cj rfl (cj rfl (cj rfl (cj rfl (cj rfl (cj rfl (cj rfl (cj rfl (cj rfl (cj rfl (cj rfl (cj rfl (cj rfl (cj1 rfl))))))))))))))))))))))))
def spec_SlotsOk_l1 (l : List Slot) (p1 : List Slot) (x1 : Slot) : List Slot → Option (Lo Unit Unit)
  | [] =>
   some (.out ())
  | x2 :: t2 =>
   if (x2.Trace == x1.Trace) = true then
   if (x2.Mti == x1.Mti) = true then
   some (.ret ())
   else
   spec_SlotsOk_l1 l p1 x1 t2
   else
   spec_SlotsOk_l1 l p1 x1 t2
theorem spec_SlotsOk_l1_ok (l : List Slot) (p1 : List Slot) (x1 : Slot) (h8 : capOk ((l.take ((p1.length : Int).toNat)).drop 0).length = true) : ∀ (t2 p2 : List Slot) (_ : ((l.take ((p1.length : Int).toNat)).drop 0) = p2 ++ t2) , Pn (LpO Tryz.prog (sub (codeOf Tryz.prog 53) [1, 0, 1, 0, 0, 1, 1, 0, 0, 1, 1, 1, 0, 0]) (st 42 [(0, V.sl false 66 (List.map E66 l)), (4, V.ptr 0 0), (7, V.sl false 66 (List.map E66 l)), (8, V.sc (.int .i64 (l.length : Int))), (9, V.sc (.int .i64 (p1.length : Int))), (19, V.sl false 66 (List.map E66 ((l.take ((p1.length : Int).toNat)).drop 0))), (20, V.sc (.int .i64 (((l.take ((p1.length : Int).toNat)).drop 0).length : Int))), (21, V.sc (.int .i64 (p2.length : Int)))] [Blk.box 66 [V.sc (.string x1.Trace), V.sc (.string x1.Mti), V.sl false 5 (List.map E5 x1.Reply)]] []) (fun (y : Lo Unit Unit) => Lo.elim y (fun s => (X.out 2, st 42 [(0, V.sl false 66 (List.map E66 l)), (7, V.sl false 66 (List.map E66 l)), (8, V.sc (.int .i64 (l.length : Int))), (9, V.sc (.int .i64 (p1.length : Int)))] [] [])) (fun s => (X.ret, st 42 [(2, V.sc (.bool false))] [] [])))) (spec_SlotsOk_l1 l p1 x1 t2)
  | [], p2, h7 => by
    unfold spec_SlotsOk_l1
    exact
     Pn.some (LpO.out [.bit false, .mask [0, 7, 8, 9], .ren []] (p := [(decide ((p2.length : Int) < (((l.take ((p1.length : Int).toNat)).drop 0).length : Int))) = false]) (by kernel_rfl) (show X.out 2 ≠ X.go from nofun) (cj1 (rng_end h7)))
  | x2 :: t2, p2, h7 => by
    unfold spec_SlotsOk_l1
    exact
     Pn.ite (fun h9 =>
     Pn.ite (fun h10 =>
     Pn.some (LpO.out [.bit true, .el (E66 x2), .bit true, .bit true, .bit true, .bit true, .bit true, .bit true, .bit true, .wait 1, .mask [2], .ren []] (p := [(decide ((p2.length : Int) < (((l.take ((p1.length : Int).toNat)).drop 0).length : Int))) = true,
      (0 : Int) ≤ (p2.length : Int),
      (List.map E66 ((l.take ((p1.length : Int).toNat)).drop 0))[(p2.length : Int).toNat]? = some (E66 x2),
      (x2.Trace == x1.Trace) = true,
      (x2.Trace == x1.Trace) = true,
      (x2.Trace == x1.Trace) = true,
      (x2.Trace == x1.Trace) = true,
      (x2.Trace == x1.Trace) = true,
      (x2.Trace == x1.Trace) = true,
      (x2.Mti == x1.Mti) = true]) (by kernel_rfl) (show X.ret ≠ X.go from nofun) (cj (rng_lt h7) (cj (by omega) (cj (rng_get _ h7) (cj h9 (cj h9 (cj h9 (cj h9 (cj h9 (cj h9 (cj1 h10)))))))))))) (fun h10 =>
     LpO.go [.bit true, .el (E66 x2), .bit true, .bit true, .bit true, .bit true, .bit true, .bit true, .bit false, .wait 2, .mask [0, 4, 7, 8, 9, 19, 20, 21], .ren [0], .nm 21 (V.sc (.int .i64 ((p2 ++ [x2]).length : Int)))] (p := [(decide ((p2.length : Int) < (((l.take ((p1.length : Int).toNat)).drop 0).length : Int))) = true,
      (0 : Int) ≤ (p2.length : Int),
      (List.map E66 ((l.take ((p1.length : Int).toNat)).drop 0))[(p2.length : Int).toNat]? = some (E66 x2),
      (x2.Trace == x1.Trace) = true,
      (x2.Trace == x1.Trace) = true,
      (x2.Trace == x1.Trace) = true,
      (x2.Trace == x1.Trace) = true,
      (x2.Trace == x1.Trace) = true,
      (x2.Trace == x1.Trace) = true,
      (x2.Mti == x1.Mti) = false,
      V.sc (.int .i64 (i64 ((p2.length : Int) + 1))) = V.sc (.int .i64 ((p2 ++ [x2]).length : Int))]) (by kernel_rfl) (cj (rng_lt h7) (cj (by omega) (cj (rng_get _ h7) (cj h9 (cj h9 (cj h9 (cj h9 (cj h9 (cj h9 (cj h10 (cj1 (rng_next h7 h8)))))))))))) (spec_SlotsOk_l1_ok l p1 x1 h8 t2 (p2 ++ [x2]) (rng_step h7)))) (fun h9 =>
     LpO.go [.bit true, .el (E66 x2), .bit false, .bit false, .bit false, .bit false, .bit false, .bit false, .bit false, .wait 2, .mask [0, 4, 7, 8, 9, 19, 20, 21], .ren [0], .nm 21 (V.sc (.int .i64 ((p2 ++ [x2]).length : Int)))] (p := [(decide ((p2.length : Int) < (((l.take ((p1.length : Int).toNat)).drop 0).length : Int))) = true,
      (0 : Int) ≤ (p2.length : Int),
      (List.map E66 ((l.take ((p1.length : Int).toNat)).drop 0))[(p2.length : Int).toNat]? = some (E66 x2),
      (x2.Trace == x1.Trace) = false,
      (x2.Trace == x1.Trace) = false,
      (x2.Trace == x1.Trace) = false,
      (x2.Trace == x1.Trace) = false,
      (x2.Trace == x1.Trace) = false,
      (x2.Trace == x1.Trace) = false,
      false = false,
      V.sc (.int .i64 (i64 ((p2.length : Int) + 1))) = V.sc (.int .i64 ((p2 ++ [x2]).length : Int))]) (by kernel_rfl) (cj (rng_lt h7) (cj (by omega) (cj (rng_get _ h7) (cj h9 (cj h9 (cj h9 (cj h9 (cj h9 (cj h9 (cj rfl (cj1 (rng_next h7 h8)))))))))))) (spec_SlotsOk_l1_ok l p1 x1 h8 t2 (p2 ++ [x2]) (rng_step h7)))
def spec_SlotsOk_l0 (l : List Slot) : List Slot → List Slot → Option (Lo Unit Unit)
  | [], p1 =>
   some (.out ())
  | x1 :: t1, p1 =>
   (spec_SlotOk x1).bind fun r1 =>
   if r1 = true then
   if (decide (0 ≤ (p1.length : Int))) = true then
   if (decide ((p1.length : Int) ≤ (l.length : Int))) = true then
   if (capOk ((l.take ((p1.length : Int).toNat)).drop 0).length) = true then
   (spec_SlotsOk_l1 l p1 x1 ((l.take ((p1.length : Int).toNat)).drop 0)).bind fun r2 =>
   Lo.elim r2 (fun s1 =>
   spec_SlotsOk_l0 l t1 (p1 ++ [x1])) (fun s2 =>
   some (.ret ()))
   else none
   else none
   else none
   else
   some (.ret ())
theorem spec_SlotsOk_l0_ok (l : List Slot) (h2 : capOk l.length = true) : ∀ (t1 p1 : List Slot) (_ : l = p1 ++ t1) , Pn (LpO Tryz.prog (sub (codeOf Tryz.prog 53) [1, 0, 1, 0, 0]) (st 42 [(0, V.sl false 66 (List.map E66 l)), (7, V.sl false 66 (List.map E66 l)), (8, V.sc (.int .i64 (l.length : Int))), (9, V.sc (.int .i64 (p1.length : Int)))] [] []) (fun (y : Lo Unit Unit) => Lo.elim y (fun s => (X.out 0, st 42 [(0, V.sl false 66 (List.map E66 l))] [] [])) (fun s => (X.ret, st 42 [(2, V.sc (.bool false))] [] [])))) (spec_SlotsOk_l0 l t1 p1)
  | [], p1, h1 => by
    unfold spec_SlotsOk_l0
    exact
     Pn.some (LpO.out [.bit false, .mask [0], .ren []] (p := [(decide ((p1.length : Int) < (l.length : Int))) = false]) (by kernel_rfl) (show X.out 0 ≠ X.go from nofun) (cj1 (rng_end h1)))
  | x1 :: t1, p1, h1 => by
    unfold spec_SlotsOk_l0
    exact
     Pn.bind (fun r1 h3 =>
     Pn.ite (fun h4 =>
     Pn.ite (fun h5 =>
     Pn.ite (fun h6 =>
     Pn.ite (fun h11 =>
     Pn.bind (fun r2 h12 =>
     Pn.lo (fun s1 h13 =>
     LpO.go [.bit true, .el (E66 x1), .call [] (E4 r1) [], .bit false, .wait 2, .nm 19 (V.sl false 66 (List.map E66 ((l.take ((p1.length : Int).toNat)).drop 0))), .wait 1, .nm 20 (V.sc (.int .i64 (((l.take ((p1.length : Int).toNat)).drop 0).length : Int))), .wait 2, .mask [0, 4, 7, 8, 9, 19, 20, 21], .ren [0], .loop (X.out 2) (st 42 [(0, V.sl false 66 (List.map E66 l)), (7, V.sl false 66 (List.map E66 l)), (8, V.sc (.int .i64 (l.length : Int))), (9, V.sc (.int .i64 (p1.length : Int)))] [] []), .wait 3, .mask [0, 7, 8, 9], .ren [], .nm 9 (V.sc (.int .i64 ((p1 ++ [x1]).length : Int)))] (p := [(decide ((p1.length : Int) < (l.length : Int))) = true,
      (0 : Int) ≤ (p1.length : Int),
      (List.map E66 l)[(p1.length : Int).toNat]? = some (E66 x1),
      Fn Tryz.prog 79 [(false, E66 x1)] (E4 r1) [],
      (true || ((E4 r1).nv && nvL [])) = true,
      (!r1) = false,
      (0 : Int) ≤ 0,
      (0 : Int) ≤ (p1.length : Int),
      ((p1.length : Int) : Int) ≤ ((List.map E66 l).length : Int),
      V.sl false 66 (((List.map E66 l).take ((p1.length : Int).toNat)).drop 0) = V.sl false 66 (List.map E66 ((l.take ((p1.length : Int).toNat)).drop 0)),
      V.sc (.int .i64 ((List.map E66 ((l.take ((p1.length : Int).toNat)).drop 0)).length : Int)) = V.sc (.int .i64 (((l.take ((p1.length : Int).toNat)).drop 0).length : Int)),
      Loop Tryz.prog (sub (codeOf Tryz.prog 53) [1, 0, 1, 0, 0, 1, 1, 0, 0, 1, 1, 1, 0, 0]) (st 42 [(0, V.sl false 66 (List.map E66 l)), (4, V.ptr 0 0), (7, V.sl false 66 (List.map E66 l)), (8, V.sc (.int .i64 (l.length : Int))), (9, V.sc (.int .i64 (p1.length : Int))), (19, V.sl false 66 (List.map E66 ((l.take ((p1.length : Int).toNat)).drop 0))), (20, V.sc (.int .i64 (((l.take ((p1.length : Int).toNat)).drop 0).length : Int))), (21, V.sc (.int .i64 0))] [Blk.box 66 [V.sc (.string x1.Trace), V.sc (.string x1.Mti), V.sl false 5 (List.map E5 x1.Reply)]] []) (X.out 2) (st 42 [(0, V.sl false 66 (List.map E66 l)), (7, V.sl false 66 (List.map E66 l)), (8, V.sc (.int .i64 (l.length : Int))), (9, V.sc (.int .i64 (p1.length : Int)))] [] []),
      V.sc (.int .i64 (i64 ((p1.length : Int) + 1))) = V.sc (.int .i64 ((p1 ++ [x1]).length : Int))]) (by kernel_rfl) (cj (rng_lt h1) (cj (by omega) (cj (rng_get _ h1) (cj (spec_SlotOk_ok x1 r1 h3) (cj rfl (cj (nf h4) (cj (by decide) (cj (od h5) (cj (by rw [List.length_map]; exact (od h6)) (cj (nm_cut _ _ _ _ _) (cj (len_nm _ _) (cj ((spec_SlotsOk_l1_ok l p1 x1 h11 ((l.take ((p1.length : Int).toNat)).drop 0) [] rfl r2 h12).at h13 :) (cj1 (rng_next h1 h2)))))))))))))) (spec_SlotsOk_l0_ok l h2 t1 (p1 ++ [x1]) (rng_step h1))) (fun s2 h14 =>
     Pn.some (LpO.out [.bit true, .el (E66 x1), .call [] (E4 r1) [], .bit false, .wait 2, .nm 19 (V.sl false 66 (List.map E66 ((l.take ((p1.length : Int).toNat)).drop 0))), .wait 1, .nm 20 (V.sc (.int .i64 (((l.take ((p1.length : Int).toNat)).drop 0).length : Int))), .wait 2, .mask [0, 4, 7, 8, 9, 19, 20, 21], .ren [0], .loop (X.ret) (st 42 [(2, V.sc (.bool false))] [] []), .wait 1, .mask [2], .ren []] (p := [(decide ((p1.length : Int) < (l.length : Int))) = true,
      (0 : Int) ≤ (p1.length : Int),
      (List.map E66 l)[(p1.length : Int).toNat]? = some (E66 x1),
      Fn Tryz.prog 79 [(false, E66 x1)] (E4 r1) [],
      (true || ((E4 r1).nv && nvL [])) = true,
      (!r1) = false,
      (0 : Int) ≤ 0,
      (0 : Int) ≤ (p1.length : Int),
      ((p1.length : Int) : Int) ≤ ((List.map E66 l).length : Int),
      V.sl false 66 (((List.map E66 l).take ((p1.length : Int).toNat)).drop 0) = V.sl false 66 (List.map E66 ((l.take ((p1.length : Int).toNat)).drop 0)),
      V.sc (.int .i64 ((List.map E66 ((l.take ((p1.length : Int).toNat)).drop 0)).length : Int)) = V.sc (.int .i64 (((l.take ((p1.length : Int).toNat)).drop 0).length : Int)),
      Loop Tryz.prog (sub (codeOf Tryz.prog 53) [1, 0, 1, 0, 0, 1, 1, 0, 0, 1, 1, 1, 0, 0]) (st 42 [(0, V.sl false 66 (List.map E66 l)), (4, V.ptr 0 0), (7, V.sl false 66 (List.map E66 l)), (8, V.sc (.int .i64 (l.length : Int))), (9, V.sc (.int .i64 (p1.length : Int))), (19, V.sl false 66 (List.map E66 ((l.take ((p1.length : Int).toNat)).drop 0))), (20, V.sc (.int .i64 (((l.take ((p1.length : Int).toNat)).drop 0).length : Int))), (21, V.sc (.int .i64 0))] [Blk.box 66 [V.sc (.string x1.Trace), V.sc (.string x1.Mti), V.sl false 5 (List.map E5 x1.Reply)]] []) (X.ret) (st 42 [(2, V.sc (.bool false))] [] [])]) (by kernel_rfl) (show X.ret ≠ X.go from nofun) (cj (rng_lt h1) (cj (by omega) (cj (rng_get _ h1) (cj (spec_SlotOk_ok x1 r1 h3) (cj rfl (cj (nf h4) (cj (by decide) (cj (od h5) (cj (by rw [List.length_map]; exact (od h6)) (cj (nm_cut _ _ _ _ _) (cj (len_nm _ _) (cj1 ((spec_SlotsOk_l1_ok l p1 x1 h11 ((l.take ((p1.length : Int).toNat)).drop 0) [] rfl r2 h12).at h14 :))))))))))))))))) (fun h11 =>
     Pn.none)) (fun h6 =>
     Pn.none)) (fun h5 =>
     Pn.none)) (fun h4 =>
     Pn.some (LpO.out [.bit true, .el (E66 x1), .call [] (E4 r1) [], .bit true, .wait 1, .mask [2], .ren []] (p := [(decide ((p1.length : Int) < (l.length : Int))) = true,
      (0 : Int) ≤ (p1.length : Int),
      (List.map E66 l)[(p1.length : Int).toNat]? = some (E66 x1),
      Fn Tryz.prog 79 [(false, E66 x1)] (E4 r1) [],
      (true || ((E4 r1).nv && nvL [])) = true,
      (!r1) = true]) (by kernel_rfl) (show X.ret ≠ X.go from nofun) (cj (rng_lt h1) (cj (by omega) (cj (rng_get _ h1) (cj (spec_SlotOk_ok x1 r1 h3) (cj rfl (cj1 (nt h4))))))))))
def spec_SlotsOk (l : List Slot) : Option (Bool) :=
 if (capOk l.length) = true then
 (spec_SlotsOk_l0 l l []).bind fun r3 =>
 Lo.elim r3 (fun s3 =>
 some (decide ((l.length : Int) ≤ 6))) (fun s4 =>
 some false)
 else none
theorem spec_SlotsOk_ok (l : List Slot) : Pn (fun y => Fn Tryz.prog 53 [(false, E26 l)] (E4 y) []) (spec_SlotsOk l) := by
  unfold spec_SlotsOk
  exact
   Pn.ite (fun h15 =>
   Pn.bind (fun r3 h16 =>
   Pn.lo (fun s3 h17 =>
   Pn.some (Fn.of [.wait 3, .nm 8 (V.sc (.int .i64 (l.length : Int))), .wait 2, .mask [0, 7, 8, 9], .ren [], .loop (X.out 0) (st 42 [(0, V.sl false 66 (List.map E66 l))] [] []), .wait 2, .nm 40 (V.sc (.int .i64 (l.length : Int)))] (p := [V.sc (.int .i64 ((List.map E66 l).length : Int)) = V.sc (.int .i64 (l.length : Int)),
    Loop Tryz.prog (sub (codeOf Tryz.prog 53) [1, 0, 1, 0, 0]) (st 42 [(0, V.sl false 66 (List.map E66 l)), (7, V.sl false 66 (List.map E66 l)), (8, V.sc (.int .i64 (l.length : Int))), (9, V.sc (.int .i64 0))] [] []) (X.out 0) (st 42 [(0, V.sl false 66 (List.map E66 l))] [] []),
    V.sc (.int .i64 ((List.map E66 l).length : Int)) = V.sc (.int .i64 (l.length : Int))]) (by kernel_rfl) (cj (len_nm _ _) (cj ((spec_SlotsOk_l0_ok l h15 l [] rfl r3 h16).at h17 :) (cj1 (len_nm _ _)))))) (fun s4 h18 =>
   Pn.some (Fn.of [.wait 3, .nm 8 (V.sc (.int .i64 (l.length : Int))), .wait 2, .mask [0, 7, 8, 9], .ren [], .loop (X.ret) (st 42 [(2, V.sc (.bool false))] [] [])] (p := [V.sc (.int .i64 ((List.map E66 l).length : Int)) = V.sc (.int .i64 (l.length : Int)),
    Loop Tryz.prog (sub (codeOf Tryz.prog 53) [1, 0, 1, 0, 0]) (st 42 [(0, V.sl false 66 (List.map E66 l)), (7, V.sl false 66 (List.map E66 l)), (8, V.sc (.int .i64 (l.length : Int))), (9, V.sc (.int .i64 0))] [] []) (X.ret) (st 42 [(2, V.sc (.bool false))] [] [])]) (by kernel_rfl) (cj (len_nm _ _) (cj1 ((spec_SlotsOk_l0_ok l h15 l [] rfl r3 h16).at h18 :))))))) (fun h15 =>
   Pn.none)
def spec_l01Clamp (n : Int) (lo : Int) (hi : Int) : Option (Int) :=
 if (decide (n < lo)) = true then
 some lo
 else
 if (decide (hi < n)) = true then
 some hi
 else
 some n
theorem spec_l01Clamp_ok (n : Int) (lo : Int) (hi : Int) : Pn (fun y => Fn Tryz.prog 81 [(false, E3 n), (false, E3 lo), (false, E3 hi)] (E3 y) []) (spec_l01Clamp n lo hi) := by
  unfold spec_l01Clamp
  exact
   Pn.ite (fun h1 =>
   Pn.some (Fn.of [.bit true] (p := [(decide (n < lo)) = true]) (by kernel_rfl) (cj1 h1))) (fun h1 =>
   Pn.ite (fun h2 =>
   Pn.some (Fn.of [.bit false, .bit true] (p := [(decide (n < lo)) = false,
    (decide (hi < n)) = true]) (by kernel_rfl) (cj h1 (cj1 h2)))) (fun h2 =>
   Pn.some (Fn.of [.bit false, .bit false] (p := [(decide (n < lo)) = false,
    (decide (hi < n)) = false]) (by kernel_rfl) (cj h1 (cj1 h2)))))
def spec_AddMoney (a : Int) (b : Int) : Option (Int × Bool) :=
 (spec_l01Money a).bind fun r1 =>
 if r1 = true then
 (spec_l01Money b).bind fun r2 =>
 if r2 = true then
 if (decide ((i64 (4611686018427387904 - b)) < a)) = true then
 some (0, false)
 else
 some (i64 (a + b), true)
 else
 some (0, false)
 else
 some (0, false)
theorem spec_AddMoney_ok (a : Int) (b : Int) : Pn (fun y => Fn Tryz.prog 80 [(false, E3 a), (false, E3 b)] (V.tup [E3 y.1, E4 y.2]) []) (spec_AddMoney a b) := by
  unfold spec_AddMoney
  exact
   Pn.bind (fun r1 h1 =>
   Pn.ite (fun h2 =>
   Pn.bind (fun r2 h3 =>
   Pn.ite (fun h4 =>
   Pn.ite (fun h5 =>
   Pn.some (Fn.of [.call [] (E4 r1) [], .bit false, .bit false, .call [] (E4 r2) [], .bit false, .bit false, .bit false, .bit false, .bit false, .bit false, .bit false, .bit true] (p := [Fn Tryz.prog 48 [(false, E3 a)] (E4 r1) [],
    (true || ((E4 r1).nv && nvL [])) = true,
    (!r1) = false,
    (!r1) = false,
    Fn Tryz.prog 48 [(false, E3 b)] (E4 r2) [],
    (true || ((E4 r2).nv && nvL [])) = true,
    (!r1) = false,
    (!r1) = false,
    (!r2) = false,
    (!r2) = false,
    (!r2) = false,
    (!r2) = false,
    (!r2) = false,
    (decide ((i64 (4611686018427387904 - b)) < a)) = true]) (by kernel_rfl) (cj (spec_l01Money_ok a r1 h1) (cj rfl (cj (nf h2) (cj (nf h2) (cj (spec_l01Money_ok b r2 h3) (cj rfl (cj (nf h2) (cj (nf h2) (cj (nf h4) (cj (nf h4) (cj (nf h4) (cj (nf h4) (cj (nf h4) (cj1 h5)))))))))))))))) (fun h5 =>
   Pn.some (Fn.of [.call [] (E4 r1) [], .bit false, .bit false, .call [] (E4 r2) [], .bit false, .bit false, .bit false, .bit false, .bit false, .bit false, .bit false, .bit false] (p := [Fn Tryz.prog 48 [(false, E3 a)] (E4 r1) [],
    (true || ((E4 r1).nv && nvL [])) = true,
    (!r1) = false,
    (!r1) = false,
    Fn Tryz.prog 48 [(false, E3 b)] (E4 r2) [],
    (true || ((E4 r2).nv && nvL [])) = true,
    (!r1) = false,
    (!r1) = false,
    (!r2) = false,
    (!r2) = false,
    (!r2) = false,
    (!r2) = false,
    (!r2) = false,
    (decide ((i64 (4611686018427387904 - b)) < a)) = false]) (by kernel_rfl) (cj (spec_l01Money_ok a r1 h1) (cj rfl (cj (nf h2) (cj (nf h2) (cj (spec_l01Money_ok b r2 h3) (cj rfl (cj (nf h2) (cj (nf h2) (cj (nf h4) (cj (nf h4) (cj (nf h4) (cj (nf h4) (cj (nf h4) (cj1 h5))))))))))))))))) (fun h4 =>
   Pn.some (Fn.of [.call [] (E4 r1) [], .bit false, .bit false, .call [] (E4 r2) [], .bit false, .bit false, .bit true, .bit true, .bit true, .bit true, .bit true, .bit true] (p := [Fn Tryz.prog 48 [(false, E3 a)] (E4 r1) [],
    (true || ((E4 r1).nv && nvL [])) = true,
    (!r1) = false,
    (!r1) = false,
    Fn Tryz.prog 48 [(false, E3 b)] (E4 r2) [],
    (true || ((E4 r2).nv && nvL [])) = true,
    (!r1) = false,
    (!r1) = false,
    (!r2) = true,
    (!r2) = true,
    (!r2) = true,
    (!r2) = true,
    (!r2) = true,
    true = true]) (by kernel_rfl) (cj (spec_l01Money_ok a r1 h1) (cj rfl (cj (nf h2) (cj (nf h2) (cj (spec_l01Money_ok b r2 h3) (cj rfl (cj (nf h2) (cj (nf h2) (cj (nt h4) (cj (nt h4) (cj (nt h4) (cj (nt h4) (cj (nt h4) (cj1 rfl)))))))))))))))))) (fun h2 =>
   Pn.some (Fn.of [.call [] (E4 r1) [], .bit true, .bit true, .bit true, .bit true, .bit true, .bit true, .bit true, .bit true, .bit true, .bit true] (p := [Fn Tryz.prog 48 [(false, E3 a)] (E4 r1) [],
    (true || ((E4 r1).nv && nvL [])) = true,
    (!r1) = true,
    (!r1) = true,
    (!r1) = true,
    (!r1) = true,
    true = true,
    true = true,
    true = true,
    true = true,
    true = true,
    true = true]) (by kernel_rfl) (cj (spec_l01Money_ok a r1 h1) (cj rfl (cj (nt h2) (cj (nt h2) (cj (nt h2) (cj (nt h2) (cj rfl (cj rfl (cj rfl (cj rfl (cj rfl (cj1 rfl)))))))))))))))
def spec_AddSat (a : Int) (b : Int) : Option (Int) :=
 (spec_l01Clamp a 0 4611686018427387904).bind fun r1 =>
 (spec_l01Clamp b 0 4611686018427387904).bind fun r2 =>
 (spec_AddMoney r1 r2).bind fun r3 =>
 if r3.2 = true then
 some r3.1
 else
 some 4611686018427387904
theorem spec_AddSat_ok (a : Int) (b : Int) : Pn (fun y => Fn Tryz.prog 54 [(false, E3 a), (false, E3 b)] (E3 y) []) (spec_AddSat a b) := by
  unfold spec_AddSat
  exact
   Pn.bind (fun r1 h1 =>
   Pn.bind (fun r2 h2 =>
   Pn.bind (fun r3 h3 =>
   Pn.ite (fun h4 =>
   Pn.some (Fn.of [.call [] (E3 r1) [], .call [] (E3 r2) [], .call [] (V.tup [E3 r3.1, E4 r3.2]) [], .bit false] (p := [Fn Tryz.prog 81 [(false, E3 a), (false, E3 0), (false, E3 4611686018427387904)] (E3 r1) [],
    (true || ((E3 r1).nv && nvL [])) = true,
    Fn Tryz.prog 81 [(false, E3 b), (false, E3 0), (false, E3 4611686018427387904)] (E3 r2) [],
    (true || ((E3 r2).nv && nvL [])) = true,
    Fn Tryz.prog 80 [(false, E3 r1), (false, E3 r2)] (V.tup [E3 r3.1, E4 r3.2]) [],
    (true || ((V.tup [E3 r3.1, E4 r3.2]).nv && nvL [])) = true,
    (!r3.2) = false]) (by kernel_rfl) (cj (spec_l01Clamp_ok a 0 4611686018427387904 r1 h1) (cj rfl (cj (spec_l01Clamp_ok b 0 4611686018427387904 r2 h2) (cj rfl (cj (spec_AddMoney_ok r1 r2 r3 h3) (cj rfl (cj1 (nf h4)))))))))) (fun h4 =>
   Pn.some (Fn.of [.call [] (E3 r1) [], .call [] (E3 r2) [], .call [] (V.tup [E3 r3.1, E4 r3.2]) [], .bit true] (p := [Fn Tryz.prog 81 [(false, E3 a), (false, E3 0), (false, E3 4611686018427387904)] (E3 r1) [],
    (true || ((E3 r1).nv && nvL [])) = true,
    Fn Tryz.prog 81 [(false, E3 b), (false, E3 0), (false, E3 4611686018427387904)] (E3 r2) [],
    (true || ((E3 r2).nv && nvL [])) = true,
    Fn Tryz.prog 80 [(false, E3 r1), (false, E3 r2)] (V.tup [E3 r3.1, E4 r3.2]) [],
    (true || ((V.tup [E3 r3.1, E4 r3.2]).nv && nvL [])) = true,
    (!r3.2) = true]) (by kernel_rfl) (cj (spec_l01Clamp_ok a 0 4611686018427387904 r1 h1) (cj rfl (cj (spec_l01Clamp_ok b 0 4611686018427387904 r2 h2) (cj rfl (cj (spec_AddMoney_ok r1 r2 r3 h3) (cj rfl (cj1 (nt h4)))))))))))))
def spec_Stored_l0 (l : List Hold) : List Hold → Int → Option (Int)
  | [], v1 =>
   some v1
  | x1 :: t1, v1 =>
   (spec_AddSat v1 x1.Amount).bind fun r1 =>
   spec_Stored_l0 l t1 r1
theorem spec_Stored_l0_ok (l : List Hold) (h2 : capOk l.length = true) : ∀ (t1 p1 : List Hold) (_ : l = p1 ++ t1) (v1 : Int), Pn (LpO Tryz.prog (sub (codeOf Tryz.prog 55) [1, 1, 0, 1, 0, 0]) (st 18 [(3, V.sc (.int .i64 v1)), (6, V.sl false 61 (List.map E61 l)), (7, V.sc (.int .i64 (l.length : Int))), (8, V.sc (.int .i64 (p1.length : Int)))] [] []) (fun (y : Int) => (X.out 0, st 18 [(3, V.sc (.int .i64 y))] [] []))) (spec_Stored_l0 l t1 v1)
  | [], p1, h1, v1 => by
    unfold spec_Stored_l0
    exact
     Pn.some (LpO.out [.bit false, .mask [3], .ren []] (p := [(decide ((p1.length : Int) < (l.length : Int))) = false]) (by kernel_rfl) (show X.out 0 ≠ X.go from nofun) (cj1 (rng_end h1)))
  | x1 :: t1, p1, h1, v1 => by
    unfold spec_Stored_l0
    exact
     Pn.bind (fun r1 h3 =>
     LpO.go [.bit true, .el (E61 x1), .call [] (E3 r1) [], .wait 4, .mask [3, 6, 7, 8], .ren [], .nm 8 (V.sc (.int .i64 ((p1 ++ [x1]).length : Int)))] (p := [(decide ((p1.length : Int) < (l.length : Int))) = true,
      (0 : Int) ≤ (p1.length : Int),
      (List.map E61 l)[(p1.length : Int).toNat]? = some (E61 x1),
      Fn Tryz.prog 54 [(false, E3 v1), (false, E3 x1.Amount)] (E3 r1) [],
      (true || ((E3 r1).nv && nvL [])) = true,
      V.sc (.int .i64 (i64 ((p1.length : Int) + 1))) = V.sc (.int .i64 ((p1 ++ [x1]).length : Int))]) (by kernel_rfl) (cj (rng_lt h1) (cj (by omega) (cj (rng_get _ h1) (cj (spec_AddSat_ok v1 x1.Amount r1 h3) (cj rfl (cj1 (rng_next h1 h2))))))) (spec_Stored_l0_ok l h2 t1 (p1 ++ [x1]) (rng_step h1) r1))
def spec_Stored (l : List Hold) : Option (Int) :=
 if (capOk l.length) = true then
 (spec_Stored_l0 l l 0).bind fun r2 =>
 some r2
 else none
theorem spec_Stored_ok (l : List Hold) : Pn (fun y => Fn Tryz.prog 55 [(false, E22 l)] (E3 y) []) (spec_Stored l) := by
  unfold spec_Stored
  exact
   Pn.ite (fun h4 =>
   Pn.bind (fun r2 h5 =>
   Pn.some (Fn.of [.wait 4, .nm 7 (V.sc (.int .i64 (l.length : Int))), .wait 2, .mask [3, 6, 7, 8], .ren [], .loop (X.out 0) (st 18 [(3, V.sc (.int .i64 r2))] [] [])] (p := [V.sc (.int .i64 ((List.map E61 l).length : Int)) = V.sc (.int .i64 (l.length : Int)),
    Loop Tryz.prog (sub (codeOf Tryz.prog 55) [1, 1, 0, 1, 0, 0]) (st 18 [(3, V.sc (.int .i64 0)), (6, V.sl false 61 (List.map E61 l)), (7, V.sc (.int .i64 (l.length : Int))), (8, V.sc (.int .i64 0))] [] []) (X.out 0) (st 18 [(3, V.sc (.int .i64 r2))] [] [])]) (by kernel_rfl) (cj (len_nm _ _) (cj1 (spec_Stored_l0_ok l h4 l [] rfl 0 r2 h5)))))) (fun h4 =>
   Pn.none)
def spec_AcctOk (a : Acct) : Option (Bool) :=
 (spec_AcctIdOk a.Id).bind fun r1 =>
 if r1 = true then
 (spec_l01In a.Limit 0 9007199254740992).bind fun r2 =>
 if r2 = true then
 (spec_l01In a.Most 0 1000).bind fun r3 =>
 if r3 = true then
 (spec_l01In a.MostSum 0 9007199254740992).bind fun r4 =>
 if r4 = true then
 (spec_l01Money a.Posted).bind fun r5 =>
 if r5 = true then
 (spec_HoldsOk a.Holds).bind fun r6 =>
 if r6 = true then
 (spec_RingOk a.Ring).bind fun r7 =>
 if r7 = true then
 (spec_SlotsOk a.Slots).bind fun r8 =>
 if r8 = true then
 (spec_Stored a.Holds).bind fun r9 =>
 (spec_AddSat a.Posted r9).bind fun r10 =>
 some (decide (r10 ≤ a.Limit))
 else
 some false
 else
 some false
 else
 some false
 else
 some false
 else
 some false
 else
 some false
 else
 some false
 else
 some false
theorem spec_AcctOk_ok (a : Acct) : Pn (fun y => Fn Tryz.prog 30 [(false, E28 a)] (E4 y) []) (spec_AcctOk a) := by
  unfold spec_AcctOk
  exact
   Pn.bind (fun r1 h1 =>
   Pn.ite (fun h2 =>
   Pn.bind (fun r2 h3 =>
   Pn.ite (fun h4 =>
   Pn.bind (fun r3 h5 =>
   Pn.ite (fun h6 =>
   Pn.bind (fun r4 h7 =>
   Pn.ite (fun h8 =>
   Pn.bind (fun r5 h9 =>
   Pn.ite (fun h10 =>
   Pn.bind (fun r6 h11 =>
   Pn.ite (fun h12 =>
   Pn.bind (fun r7 h13 =>
   Pn.ite (fun h14 =>
   Pn.bind (fun r8 h15 =>
   Pn.ite (fun h16 =>
   Pn.bind (fun r9 h17 =>
   Pn.bind (fun r10 h18 =>
   Pn.some (Fn.of [.call [] (E4 r1) [], .bit false, .bit false, .bit false, .call [] (E4 r2) [], .bit false, .bit false, .bit false, .bit false, .bit false, .call [] (E4 r3) [], .bit false, .bit false, .bit false, .bit false, .bit false, .call [] (E4 r4) [], .bit false, .bit false, .bit false, .bit false, .bit false, .call [] (E4 r5) [], .bit false, .bit false, .bit false, .draw [], .call [] (E4 r6) [], .bit true, .bit true, .bit true, .call [] (E4 r7) [], .bit true, .bit true, .bit true, .bit true, .call [] (E4 r8) [], .bit true, .bit true, .bit true, .bit true, .bit true, .bit true, .bit true, .bit true, .call [] (E3 r9) [], .bit true, .call [] (E3 r10) [], .bit true, .bit true] (p := [Fn Tryz.prog 50 [(false, E9 a.Id)] (E4 r1) [],
    (true || ((E4 r1).nv && nvL [])) = true,
    (!r1) = false,
    (!r1) = false,
    (!r1) = false,
    Fn Tryz.prog 49 [(false, E3 a.Limit), (false, E3 0), (false, E3 9007199254740992)] (E4 r2) [],
    (true || ((E4 r2).nv && nvL [])) = true,
    (!r1) = false,
    (!r1) = false,
    (!r2) = false,
    (!r2) = false,
    (!r2) = false,
    Fn Tryz.prog 49 [(false, E3 a.Most), (false, E3 0), (false, E3 1000)] (E4 r3) [],
    (true || ((E4 r3).nv && nvL [])) = true,
    (!r2) = false,
    (!r2) = false,
    (!r3) = false,
    (!r3) = false,
    (!r3) = false,
    Fn Tryz.prog 49 [(false, E3 a.MostSum), (false, E3 0), (false, E3 9007199254740992)] (E4 r4) [],
    (true || ((E4 r4).nv && nvL [])) = true,
    (!r3) = false,
    (!r3) = false,
    (!r4) = false,
    (!r4) = false,
    (!r4) = false,
    Fn Tryz.prog 48 [(false, E3 a.Posted)] (E4 r5) [],
    (true || ((E4 r5).nv && nvL [])) = true,
    (!r4) = false,
    (!r4) = false,
    (!r5) = false,
    Fn Tryz.prog 51 [(false, E22 a.Holds)] (E4 r6) [],
    (true || ((E4 r6).nv && nvL [])) = true,
    r6 = true,
    r6 = true,
    r6 = true,
    Fn Tryz.prog 52 [(false, E25 a.Ring)] (E4 r7) [],
    (true || ((E4 r7).nv && nvL [])) = true,
    r6 = true,
    r7 = true,
    r7 = true,
    r7 = true,
    Fn Tryz.prog 53 [(false, E26 a.Slots)] (E4 r8) [],
    (true || ((E4 r8).nv && nvL [])) = true,
    r7 = true,
    r8 = true,
    r8 = true,
    r8 = true,
    r8 = true,
    r8 = true,
    r8 = true,
    r8 = true,
    Fn Tryz.prog 55 [(false, E22 a.Holds)] (E3 r9) [],
    (true || ((E3 r9).nv && nvL [])) = true,
    r8 = true,
    Fn Tryz.prog 54 [(false, E3 a.Posted), (false, E3 r9)] (E3 r10) [],
    (true || ((E3 r10).nv && nvL [])) = true,
    r8 = true,
    r8 = true]) (by kernel_rfl) (cj (spec_AcctIdOk_ok a.Id r1 h1) (cj rfl (cj (nf h2) (cj (nf h2) (cj (nf h2) (cj (spec_l01In_ok a.Limit 0 9007199254740992 r2 h3) (cj rfl (cj (nf h2) (cj (nf h2) (cj (nf h4) (cj (nf h4) (cj (nf h4) (cj (spec_l01In_ok a.Most 0 1000 r3 h5) (cj rfl (cj (nf h4) (cj (nf h4) (cj (nf h6) (cj (nf h6) (cj (nf h6) (cj (spec_l01In_ok a.MostSum 0 9007199254740992 r4 h7) (cj rfl (cj (nf h6) (cj (nf h6) (cj (nf h8) (cj (nf h8) (cj (nf h8) (cj (spec_l01Money_ok a.Posted r5 h9) (cj rfl (cj (nf h8) (cj (nf h8) (cj (nf h10) (cj (spec_HoldsOk_ok a.Holds r6 h11) (cj rfl (cj h12 (cj h12 (cj h12 (cj (spec_RingOk_ok a.Ring r7 h13) (cj rfl (cj h12 (cj h14 (cj h14 (cj h14 (cj (spec_SlotsOk_ok a.Slots r8 h15) (cj rfl (cj h14 (cj h16 (cj h16 (cj h16 (cj h16 (cj h16 (cj h16 (cj h16 (cj (spec_Stored_ok a.Holds r9 h17) (cj rfl (cj h16 (cj (spec_AddSat_ok a.Posted r9 r10 h18) (cj rfl (cj h16 (cj1 h16))))))))))))))))))))))))))))))))))))))))))))))))))))))))))))))) (fun h16 =>
   Pn.some (Fn.of [.call [] (E4 r1) [], .bit false, .bit false, .bit false, .call [] (E4 r2) [], .bit false, .bit false, .bit false, .bit false, .bit false, .call [] (E4 r3) [], .bit false, .bit false, .bit false, .bit false, .bit false, .call [] (E4 r4) [], .bit false, .bit false, .bit false, .bit false, .bit false, .call [] (E4 r5) [], .bit false, .bit false, .bit false, .draw [], .call [] (E4 r6) [], .bit true, .bit true, .bit true, .call [] (E4 r7) [], .bit true, .bit true, .bit true, .bit true, .call [] (E4 r8) [], .bit true, .bit false, .bit false, .bit false, .bit false, .bit false, .bit false, .bit false, .bit false, .bit false, .bit false] (p := [Fn Tryz.prog 50 [(false, E9 a.Id)] (E4 r1) [],
    (true || ((E4 r1).nv && nvL [])) = true,
    (!r1) = false,
    (!r1) = false,
    (!r1) = false,
    Fn Tryz.prog 49 [(false, E3 a.Limit), (false, E3 0), (false, E3 9007199254740992)] (E4 r2) [],
    (true || ((E4 r2).nv && nvL [])) = true,
    (!r1) = false,
    (!r1) = false,
    (!r2) = false,
    (!r2) = false,
    (!r2) = false,
    Fn Tryz.prog 49 [(false, E3 a.Most), (false, E3 0), (false, E3 1000)] (E4 r3) [],
    (true || ((E4 r3).nv && nvL [])) = true,
    (!r2) = false,
    (!r2) = false,
    (!r3) = false,
    (!r3) = false,
    (!r3) = false,
    Fn Tryz.prog 49 [(false, E3 a.MostSum), (false, E3 0), (false, E3 9007199254740992)] (E4 r4) [],
    (true || ((E4 r4).nv && nvL [])) = true,
    (!r3) = false,
    (!r3) = false,
    (!r4) = false,
    (!r4) = false,
    (!r4) = false,
    Fn Tryz.prog 48 [(false, E3 a.Posted)] (E4 r5) [],
    (true || ((E4 r5).nv && nvL [])) = true,
    (!r4) = false,
    (!r4) = false,
    (!r5) = false,
    Fn Tryz.prog 51 [(false, E22 a.Holds)] (E4 r6) [],
    (true || ((E4 r6).nv && nvL [])) = true,
    r6 = true,
    r6 = true,
    r6 = true,
    Fn Tryz.prog 52 [(false, E25 a.Ring)] (E4 r7) [],
    (true || ((E4 r7).nv && nvL [])) = true,
    r6 = true,
    r7 = true,
    r7 = true,
    r7 = true,
    Fn Tryz.prog 53 [(false, E26 a.Slots)] (E4 r8) [],
    (true || ((E4 r8).nv && nvL [])) = true,
    r7 = true,
    r8 = false,
    r8 = false,
    r8 = false,
    r8 = false,
    r8 = false,
    r8 = false,
    r8 = false,
    r8 = false,
    r8 = false,
    r8 = false]) (by kernel_rfl) (cj (spec_AcctIdOk_ok a.Id r1 h1) (cj rfl (cj (nf h2) (cj (nf h2) (cj (nf h2) (cj (spec_l01In_ok a.Limit 0 9007199254740992 r2 h3) (cj rfl (cj (nf h2) (cj (nf h2) (cj (nf h4) (cj (nf h4) (cj (nf h4) (cj (spec_l01In_ok a.Most 0 1000 r3 h5) (cj rfl (cj (nf h4) (cj (nf h4) (cj (nf h6) (cj (nf h6) (cj (nf h6) (cj (spec_l01In_ok a.MostSum 0 9007199254740992 r4 h7) (cj rfl (cj (nf h6) (cj (nf h6) (cj (nf h8) (cj (nf h8) (cj (nf h8) (cj (spec_l01Money_ok a.Posted r5 h9) (cj rfl (cj (nf h8) (cj (nf h8) (cj (nf h10) (cj (spec_HoldsOk_ok a.Holds r6 h11) (cj rfl (cj h12 (cj h12 (cj h12 (cj (spec_RingOk_ok a.Ring r7 h13) (cj rfl (cj h12 (cj h14 (cj h14 (cj h14 (cj (spec_SlotsOk_ok a.Slots r8 h15) (cj rfl (cj h14 (cj h16 (cj h16 (cj h16 (cj h16 (cj h16 (cj h16 (cj h16 (cj h16 (cj h16 (cj1 h16))))))))))))))))))))))))))))))))))))))))))))))))))))))))))) (fun h14 =>
   Pn.some (Fn.of [.call [] (E4 r1) [], .bit false, .bit false, .bit false, .call [] (E4 r2) [], .bit false, .bit false, .bit false, .bit false, .bit false, .call [] (E4 r3) [], .bit false, .bit false, .bit false, .bit false, .bit false, .call [] (E4 r4) [], .bit false, .bit false, .bit false, .bit false, .bit false, .call [] (E4 r5) [], .bit false, .bit false, .bit false, .draw [], .call [] (E4 r6) [], .bit true, .bit true, .bit true, .call [] (E4 r7) [], .bit true, .bit false, .bit false, .bit false, .bit false, .bit false, .bit false, .bit false, .bit false, .bit false, .bit false, .bit false, .bit false, .bit false, .bit false] (p := [Fn Tryz.prog 50 [(false, E9 a.Id)] (E4 r1) [],
    (true || ((E4 r1).nv && nvL [])) = true,
    (!r1) = false,
    (!r1) = false,
    (!r1) = false,
    Fn Tryz.prog 49 [(false, E3 a.Limit), (false, E3 0), (false, E3 9007199254740992)] (E4 r2) [],
    (true || ((E4 r2).nv && nvL [])) = true,
    (!r1) = false,
    (!r1) = false,
    (!r2) = false,
    (!r2) = false,
    (!r2) = false,
    Fn Tryz.prog 49 [(false, E3 a.Most), (false, E3 0), (false, E3 1000)] (E4 r3) [],
    (true || ((E4 r3).nv && nvL [])) = true,
    (!r2) = false,
    (!r2) = false,
    (!r3) = false,
    (!r3) = false,
    (!r3) = false,
    Fn Tryz.prog 49 [(false, E3 a.MostSum), (false, E3 0), (false, E3 9007199254740992)] (E4 r4) [],
    (true || ((E4 r4).nv && nvL [])) = true,
    (!r3) = false,
    (!r3) = false,
    (!r4) = false,
    (!r4) = false,
    (!r4) = false,
    Fn Tryz.prog 48 [(false, E3 a.Posted)] (E4 r5) [],
    (true || ((E4 r5).nv && nvL [])) = true,
    (!r4) = false,
    (!r4) = false,
    (!r5) = false,
    Fn Tryz.prog 51 [(false, E22 a.Holds)] (E4 r6) [],
    (true || ((E4 r6).nv && nvL [])) = true,
    r6 = true,
    r6 = true,
    r6 = true,
    Fn Tryz.prog 52 [(false, E25 a.Ring)] (E4 r7) [],
    (true || ((E4 r7).nv && nvL [])) = true,
    r6 = true,
    r7 = false,
    r7 = false,
    r7 = false,
    r7 = false,
    false = false,
    false = false,
    false = false,
    false = false,
    false = false,
    false = false,
    false = false,
    false = false,
    false = false,
    false = false]) (by kernel_rfl) (cj (spec_AcctIdOk_ok a.Id r1 h1) (cj rfl (cj (nf h2) (cj (nf h2) (cj (nf h2) (cj (spec_l01In_ok a.Limit 0 9007199254740992 r2 h3) (cj rfl (cj (nf h2) (cj (nf h2) (cj (nf h4) (cj (nf h4) (cj (nf h4) (cj (spec_l01In_ok a.Most 0 1000 r3 h5) (cj rfl (cj (nf h4) (cj (nf h4) (cj (nf h6) (cj (nf h6) (cj (nf h6) (cj (spec_l01In_ok a.MostSum 0 9007199254740992 r4 h7) (cj rfl (cj (nf h6) (cj (nf h6) (cj (nf h8) (cj (nf h8) (cj (nf h8) (cj (spec_l01Money_ok a.Posted r5 h9) (cj rfl (cj (nf h8) (cj (nf h8) (cj (nf h10) (cj (spec_HoldsOk_ok a.Holds r6 h11) (cj rfl (cj h12 (cj h12 (cj h12 (cj (spec_RingOk_ok a.Ring r7 h13) (cj rfl (cj h12 (cj h14 (cj h14 (cj h14 (cj h14 (cj rfl (cj rfl (cj rfl (cj rfl (cj rfl (cj rfl (cj rfl (cj rfl (cj rfl (cj1 rfl))))))))))))))))))))))))))))))))))))))))))))))))))))))))) (fun h12 =>
   Pn.some (Fn.of [.call [] (E4 r1) [], .bit false, .bit false, .bit false, .call [] (E4 r2) [], .bit false, .bit false, .bit false, .bit false, .bit false, .call [] (E4 r3) [], .bit false, .bit false, .bit false, .bit false, .bit false, .call [] (E4 r4) [], .bit false, .bit false, .bit false, .bit false, .bit false, .call [] (E4 r5) [], .bit false, .bit false, .bit false, .draw [], .call [] (E4 r6) [], .bit false, .bit false, .bit false, .bit false, .bit false, .bit false, .bit false, .bit false, .bit false, .bit false, .bit false, .bit false, .bit false, .bit false, .bit false, .bit false, .bit false, .bit false] (p := [Fn Tryz.prog 50 [(false, E9 a.Id)] (E4 r1) [],
    (true || ((E4 r1).nv && nvL [])) = true,
    (!r1) = false,
    (!r1) = false,
    (!r1) = false,
    Fn Tryz.prog 49 [(false, E3 a.Limit), (false, E3 0), (false, E3 9007199254740992)] (E4 r2) [],
    (true || ((E4 r2).nv && nvL [])) = true,
    (!r1) = false,
    (!r1) = false,
    (!r2) = false,
    (!r2) = false,
    (!r2) = false,
    Fn Tryz.prog 49 [(false, E3 a.Most), (false, E3 0), (false, E3 1000)] (E4 r3) [],
    (true || ((E4 r3).nv && nvL [])) = true,
    (!r2) = false,
    (!r2) = false,
    (!r3) = false,
    (!r3) = false,
    (!r3) = false,
    Fn Tryz.prog 49 [(false, E3 a.MostSum), (false, E3 0), (false, E3 9007199254740992)] (E4 r4) [],
    (true || ((E4 r4).nv && nvL [])) = true,
    (!r3) = false,
    (!r3) = false,
    (!r4) = false,
    (!r4) = false,
    (!r4) = false,
    Fn Tryz.prog 48 [(false, E3 a.Posted)] (E4 r5) [],
    (true || ((E4 r5).nv && nvL [])) = true,
    (!r4) = false,
    (!r4) = false,
    (!r5) = false,
    Fn Tryz.prog 51 [(false, E22 a.Holds)] (E4 r6) [],
    (true || ((E4 r6).nv && nvL [])) = true,
    r6 = false,
    r6 = false,
    r6 = false,
    r6 = false,
    false = false,
    false = false,
    false = false,
    false = false,
    false = false,
    false = false,
    false = false,
    false = false,
    false = false,
    false = false,
    false = false,
    false = false,
    false = false,
    false = false]) (by kernel_rfl) (cj (spec_AcctIdOk_ok a.Id r1 h1) (cj rfl (cj (nf h2) (cj (nf h2) (cj (nf h2) (cj (spec_l01In_ok a.Limit 0 9007199254740992 r2 h3) (cj rfl (cj (nf h2) (cj (nf h2) (cj (nf h4) (cj (nf h4) (cj (nf h4) (cj (spec_l01In_ok a.Most 0 1000 r3 h5) (cj rfl (cj (nf h4) (cj (nf h4) (cj (nf h6) (cj (nf h6) (cj (nf h6) (cj (spec_l01In_ok a.MostSum 0 9007199254740992 r4 h7) (cj rfl (cj (nf h6) (cj (nf h6) (cj (nf h8) (cj (nf h8) (cj (nf h8) (cj (spec_l01Money_ok a.Posted r5 h9) (cj rfl (cj (nf h8) (cj (nf h8) (cj (nf h10) (cj (spec_HoldsOk_ok a.Holds r6 h11) (cj rfl (cj h12 (cj h12 (cj h12 (cj h12 (cj rfl (cj rfl (cj rfl (cj rfl (cj rfl (cj rfl (cj rfl (cj rfl (cj rfl (cj rfl (cj rfl (cj rfl (cj rfl (cj1 rfl))))))))))))))))))))))))))))))))))))))))))))))))))))))) (fun h10 =>
   Pn.some (Fn.of [.call [] (E4 r1) [], .bit false, .bit false, .bit false, .call [] (E4 r2) [], .bit false, .bit false, .bit false, .bit false, .bit false, .call [] (E4 r3) [], .bit false, .bit false, .bit false, .bit false, .bit false, .call [] (E4 r4) [], .bit false, .bit false, .bit false, .bit false, .bit false, .call [] (E4 r5) [], .bit false, .bit false, .bit true] (p := [Fn Tryz.prog 50 [(false, E9 a.Id)] (E4 r1) [],
    (true || ((E4 r1).nv && nvL [])) = true,
    (!r1) = false,
    (!r1) = false,
    (!r1) = false,
    Fn Tryz.prog 49 [(false, E3 a.Limit), (false, E3 0), (false, E3 9007199254740992)] (E4 r2) [],
    (true || ((E4 r2).nv && nvL [])) = true,
    (!r1) = false,
    (!r1) = false,
    (!r2) = false,
    (!r2) = false,
    (!r2) = false,
    Fn Tryz.prog 49 [(false, E3 a.Most), (false, E3 0), (false, E3 1000)] (E4 r3) [],
    (true || ((E4 r3).nv && nvL [])) = true,
    (!r2) = false,
    (!r2) = false,
    (!r3) = false,
    (!r3) = false,
    (!r3) = false,
    Fn Tryz.prog 49 [(false, E3 a.MostSum), (false, E3 0), (false, E3 9007199254740992)] (E4 r4) [],
    (true || ((E4 r4).nv && nvL [])) = true,
    (!r3) = false,
    (!r3) = false,
    (!r4) = false,
    (!r4) = false,
    (!r4) = false,
    Fn Tryz.prog 48 [(false, E3 a.Posted)] (E4 r5) [],
    (true || ((E4 r5).nv && nvL [])) = true,
    (!r4) = false,
    (!r4) = false,
    (!r5) = true]) (by kernel_rfl) (cj (spec_AcctIdOk_ok a.Id r1 h1) (cj rfl (cj (nf h2) (cj (nf h2) (cj (nf h2) (cj (spec_l01In_ok a.Limit 0 9007199254740992 r2 h3) (cj rfl (cj (nf h2) (cj (nf h2) (cj (nf h4) (cj (nf h4) (cj (nf h4) (cj (spec_l01In_ok a.Most 0 1000 r3 h5) (cj rfl (cj (nf h4) (cj (nf h4) (cj (nf h6) (cj (nf h6) (cj (nf h6) (cj (spec_l01In_ok a.MostSum 0 9007199254740992 r4 h7) (cj rfl (cj (nf h6) (cj (nf h6) (cj (nf h8) (cj (nf h8) (cj (nf h8) (cj (spec_l01Money_ok a.Posted r5 h9) (cj rfl (cj (nf h8) (cj (nf h8) (cj1 (nt h10)))))))))))))))))))))))))))))))))))) (fun h8 =>
   Pn.some (Fn.of [.call [] (E4 r1) [], .bit false, .bit false, .bit false, .call [] (E4 r2) [], .bit false, .bit false, .bit false, .bit false, .bit false, .call [] (E4 r3) [], .bit false, .bit false, .bit false, .bit false, .bit false, .call [] (E4 r4) [], .bit false, .bit false, .bit true, .bit true, .bit true, .bit true, .bit true, .bit true] (p := [Fn Tryz.prog 50 [(false, E9 a.Id)] (E4 r1) [],
    (true || ((E4 r1).nv && nvL [])) = true,
    (!r1) = false,
    (!r1) = false,
    (!r1) = false,
    Fn Tryz.prog 49 [(false, E3 a.Limit), (false, E3 0), (false, E3 9007199254740992)] (E4 r2) [],
    (true || ((E4 r2).nv && nvL [])) = true,
    (!r1) = false,
    (!r1) = false,
    (!r2) = false,
    (!r2) = false,
    (!r2) = false,
    Fn Tryz.prog 49 [(false, E3 a.Most), (false, E3 0), (false, E3 1000)] (E4 r3) [],
    (true || ((E4 r3).nv && nvL [])) = true,
    (!r2) = false,
    (!r2) = false,
    (!r3) = false,
    (!r3) = false,
    (!r3) = false,
    Fn Tryz.prog 49 [(false, E3 a.MostSum), (false, E3 0), (false, E3 9007199254740992)] (E4 r4) [],
    (true || ((E4 r4).nv && nvL [])) = true,
    (!r3) = false,
    (!r3) = false,
    (!r4) = true,
    (!r4) = true,
    (!r4) = true,
    (!r4) = true,
    (!r4) = true,
    true = true]) (by kernel_rfl) (cj (spec_AcctIdOk_ok a.Id r1 h1) (cj rfl (cj (nf h2) (cj (nf h2) (cj (nf h2) (cj (spec_l01In_ok a.Limit 0 9007199254740992 r2 h3) (cj rfl (cj (nf h2) (cj (nf h2) (cj (nf h4) (cj (nf h4) (cj (nf h4) (cj (spec_l01In_ok a.Most 0 1000 r3 h5) (cj rfl (cj (nf h4) (cj (nf h4) (cj (nf h6) (cj (nf h6) (cj (nf h6) (cj (spec_l01In_ok a.MostSum 0 9007199254740992 r4 h7) (cj rfl (cj (nf h6) (cj (nf h6) (cj (nt h8) (cj (nt h8) (cj (nt h8) (cj (nt h8) (cj (nt h8) (cj1 rfl))))))))))))))))))))))))))))))))) (fun h6 =>
   Pn.some (Fn.of [.call [] (E4 r1) [], .bit false, .bit false, .bit false, .call [] (E4 r2) [], .bit false, .bit false, .bit false, .bit false, .bit false, .call [] (E4 r3) [], .bit false, .bit false, .bit true, .bit true, .bit true, .bit true, .bit true, .bit true, .bit true, .bit true, .bit true, .bit true, .bit true] (p := [Fn Tryz.prog 50 [(false, E9 a.Id)] (E4 r1) [],
    (true || ((E4 r1).nv && nvL [])) = true,
    (!r1) = false,
    (!r1) = false,
    (!r1) = false,
    Fn Tryz.prog 49 [(false, E3 a.Limit), (false, E3 0), (false, E3 9007199254740992)] (E4 r2) [],
    (true || ((E4 r2).nv && nvL [])) = true,
    (!r1) = false,
    (!r1) = false,
    (!r2) = false,
    (!r2) = false,
    (!r2) = false,
    Fn Tryz.prog 49 [(false, E3 a.Most), (false, E3 0), (false, E3 1000)] (E4 r3) [],
    (true || ((E4 r3).nv && nvL [])) = true,
    (!r2) = false,
    (!r2) = false,
    (!r3) = true,
    (!r3) = true,
    (!r3) = true,
    (!r3) = true,
    (!r3) = true,
    true = true,
    true = true,
    true = true,
    true = true,
    true = true,
    true = true]) (by kernel_rfl) (cj (spec_AcctIdOk_ok a.Id r1 h1) (cj rfl (cj (nf h2) (cj (nf h2) (cj (nf h2) (cj (spec_l01In_ok a.Limit 0 9007199254740992 r2 h3) (cj rfl (cj (nf h2) (cj (nf h2) (cj (nf h4) (cj (nf h4) (cj (nf h4) (cj (spec_l01In_ok a.Most 0 1000 r3 h5) (cj rfl (cj (nf h4) (cj (nf h4) (cj (nt h6) (cj (nt h6) (cj (nt h6) (cj (nt h6) (cj (nt h6) (cj rfl (cj rfl (cj rfl (cj rfl (cj rfl (cj1 rfl))))))))))))))))))))))))))))))) (fun h4 =>
   Pn.some (Fn.of [.call [] (E4 r1) [], .bit false, .bit false, .bit false, .call [] (E4 r2) [], .bit false, .bit false, .bit true, .bit true, .bit true, .bit true, .bit true, .bit true, .bit true, .bit true, .bit true, .bit true, .bit true, .bit true, .bit true, .bit true, .bit true, .bit true] (p := [Fn Tryz.prog 50 [(false, E9 a.Id)] (E4 r1) [],
    (true || ((E4 r1).nv && nvL [])) = true,
    (!r1) = false,
    (!r1) = false,
    (!r1) = false,
    Fn Tryz.prog 49 [(false, E3 a.Limit), (false, E3 0), (false, E3 9007199254740992)] (E4 r2) [],
    (true || ((E4 r2).nv && nvL [])) = true,
    (!r1) = false,
    (!r1) = false,
    (!r2) = true,
    (!r2) = true,
    (!r2) = true,
    (!r2) = true,
    (!r2) = true,
    true = true,
    true = true,
    true = true,
    true = true,
    true = true,
    true = true,
    true = true,
    true = true,
    true = true,
    true = true,
    true = true]) (by kernel_rfl) (cj (spec_AcctIdOk_ok a.Id r1 h1) (cj rfl (cj (nf h2) (cj (nf h2) (cj (nf h2) (cj (spec_l01In_ok a.Limit 0 9007199254740992 r2 h3) (cj rfl (cj (nf h2) (cj (nf h2) (cj (nt h4) (cj (nt h4) (cj (nt h4) (cj (nt h4) (cj (nt h4) (cj rfl (cj rfl (cj rfl (cj rfl (cj rfl (cj rfl (cj rfl (cj rfl (cj rfl (cj rfl (cj1 rfl))))))))))))))))))))))))))))) (fun h2 =>
   Pn.some (Fn.of [.call [] (E4 r1) [], .bit true, .bit true, .bit true, .bit true, .bit true, .bit true, .bit true, .bit true, .bit true, .bit true, .bit true, .bit true, .bit true, .bit true, .bit true, .bit true, .bit true, .bit true, .bit true, .bit true, .bit true] (p := [Fn Tryz.prog 50 [(false, E9 a.Id)] (E4 r1) [],
    (true || ((E4 r1).nv && nvL [])) = true,
    (!r1) = true,
    (!r1) = true,
    (!r1) = true,
    (!r1) = true,
    (!r1) = true,
    true = true,
    true = true,
    true = true,
    true = true,
    true = true,
    true = true,
    true = true,
    true = true,
    true = true,
    true = true,
    true = true,
    true = true,
    true = true,
    true = true,
    true = true,
    true = true]) (by kernel_rfl) (cj (spec_AcctIdOk_ok a.Id r1 h1) (cj rfl (cj (nt h2) (cj (nt h2) (cj (nt h2) (cj (nt h2) (cj (nt h2) (cj rfl (cj rfl (cj rfl (cj rfl (cj rfl (cj rfl (cj rfl (cj rfl (cj rfl (cj rfl (cj rfl (cj rfl (cj rfl (cj rfl (cj rfl (cj1 rfl))))))))))))))))))))))))))
def spec_AcctNew (id : ByteArray) (limit : Int) (most : Int) (mostSum : Int) (buckets : Int) (span : Int) : Option (Acct × Bool) :=
 (spec_RingNew buckets span).bind fun r1 =>
 if r1.2 = true then
 (spec_AcctOk (Acct.mk id limit 0 most mostSum [] r1.1 [])).bind fun r2 =>
 if r2 = true then
 some ((Acct.mk id limit 0 most mostSum [] r1.1 []), true)
 else
 some ((Acct.mk ByteArray.empty 0 0 0 0 [] (Ring.mk 0 0 [] []) []), false)
 else
 some ((Acct.mk ByteArray.empty 0 0 0 0 [] (Ring.mk 0 0 [] []) []), false)
theorem spec_AcctNew_ok (id : ByteArray) (limit : Int) (most : Int) (mostSum : Int) (buckets : Int) (span : Int) : Pn (fun y => Fn Tryz.prog 11 [(false, E9 id), (false, E3 limit), (false, E3 most), (false, E3 mostSum), (false, E3 buckets), (false, E3 span)] (V.tup [E28 y.1, E4 y.2]) []) (spec_AcctNew id limit most mostSum buckets span) := by
  unfold spec_AcctNew
  exact
   Pn.bind (fun r1 h1 =>
   Pn.ite (fun h2 =>
   Pn.bind (fun r2 h3 =>
   Pn.ite (fun h4 =>
   Pn.some (Fn.of [.call [] (V.tup [E25 r1.1, E4 r1.2]) [], .bit false, .bit false, .call [] (E4 r2) [], .bit false, .bit false, .bit false] (p := [Fn Tryz.prog 29 [(false, E3 buckets), (false, E3 span)] (V.tup [E25 r1.1, E4 r1.2]) [],
    (true || ((V.tup [E25 r1.1, E4 r1.2]).nv && nvL [])) = true,
    (!r1.2) = false,
    (!r1.2) = false,
    Fn Tryz.prog 30 [(false, V.agg [V.sc (.string id), V.sc (.int .i64 limit), V.sc (.int .i64 0), V.sc (.int .i64 most), V.sc (.int .i64 mostSum), V.nl 61, V.sc (.int .i64 r1.1.Span), V.sc (.int .i64 r1.1.Head), V.sl true 3 (List.map E3 r1.1.Counts), V.sl true 3 (List.map E3 r1.1.Sums), V.nl 66])] (E4 r2) [],
    (false || ((E4 r2).nv && nvL [])) = true,
    (!r1.2) = false,
    (!r1.2) = false,
    (!r2) = false]) (by kernel_rfl) (cj (spec_RingNew_ok buckets span r1 h1) (cj rfl (cj (nf h2) (cj (nf h2) (cj (Fn.nil [61, 66] (by kernel_rfl) (by kernel_rfl) (spec_AcctOk_ok (Acct.mk id limit 0 most mostSum [] r1.1 []) r2 h3)) (cj (by simp [V.nv, nvL, nvL_all, nv_E4]) (cj (nf h2) (cj (nf h2) (cj1 (nf h4)))))))))))) (fun h4 =>
   Pn.some (Fn.of [.call [] (V.tup [E25 r1.1, E4 r1.2]) [], .bit false, .bit false, .call [] (E4 r2) [], .bit false, .bit false, .bit true] (p := [Fn Tryz.prog 29 [(false, E3 buckets), (false, E3 span)] (V.tup [E25 r1.1, E4 r1.2]) [],
    (true || ((V.tup [E25 r1.1, E4 r1.2]).nv && nvL [])) = true,
    (!r1.2) = false,
    (!r1.2) = false,
    Fn Tryz.prog 30 [(false, V.agg [V.sc (.string id), V.sc (.int .i64 limit), V.sc (.int .i64 0), V.sc (.int .i64 most), V.sc (.int .i64 mostSum), V.nl 61, V.sc (.int .i64 r1.1.Span), V.sc (.int .i64 r1.1.Head), V.sl true 3 (List.map E3 r1.1.Counts), V.sl true 3 (List.map E3 r1.1.Sums), V.nl 66])] (E4 r2) [],
    (false || ((E4 r2).nv && nvL [])) = true,
    (!r1.2) = false,
    (!r1.2) = false,
    (!r2) = true]) (by kernel_rfl) (cj (spec_RingNew_ok buckets span r1 h1) (cj rfl (cj (nf h2) (cj (nf h2) (cj (Fn.nil [61, 66] (by kernel_rfl) (by kernel_rfl) (spec_AcctOk_ok (Acct.mk id limit 0 most mostSum [] r1.1 []) r2 h3)) (cj (by simp [V.nv, nvL, nvL_all, nv_E4]) (cj (nf h2) (cj (nf h2) (cj1 (nt h4)))))))))))))) (fun h2 =>
   Pn.some (Fn.of [.call [] (V.tup [E25 r1.1, E4 r1.2]) [], .bit true, .bit true, .bit true, .bit true, .bit true] (p := [Fn Tryz.prog 29 [(false, E3 buckets), (false, E3 span)] (V.tup [E25 r1.1, E4 r1.2]) [],
    (true || ((V.tup [E25 r1.1, E4 r1.2]).nv && nvL [])) = true,
    (!r1.2) = true,
    (!r1.2) = true,
    (!r1.2) = true,
    (!r1.2) = true,
    true = true]) (by kernel_rfl) (cj (spec_RingNew_ok buckets span r1 h1) (cj rfl (cj (nt h2) (cj (nt h2) (cj (nt h2) (cj (nt h2) (cj1 rfl))))))))))
def spec_l06Same_l0 (o : Ring) (o_ : Ring) : List Int → List Int → Option (Lo Unit Unit)
  | [], p1 =>
   some (.out ())
  | x1 :: t1, p1 =>
   (o_.Counts[(p1.length : Int).toNat]?).bind fun x2 =>
   if (x1 != x2) = true then
   some (.ret ())
   else
   spec_l06Same_l0 o o_ t1 (p1 ++ [x1])
theorem spec_l06Same_l0_ok (o : Ring) (o_ : Ring) (h6 : capOk o.Counts.length = true) : ∀ (t1 p1 : List Int) (_ : o.Counts = p1 ++ t1) , Pn (LpO Tryz.prog (sub (codeOf Tryz.prog 56) [1, 1, 0, 1, 0, 0]) (st 73 [(2, V.ptr 0 0), (3, V.ptr 1 0), (39, V.sc (.int .i64 (o.Counts.length : Int))), (40, V.sc (.int .i64 (p1.length : Int)))] [Blk.box 25 [V.sc (.int .i64 o.Span), V.sc (.int .i64 o.Head), V.sl false 3 (List.map E3 o.Counts), V.sl false 3 (List.map E3 o.Sums)], Blk.box 25 [V.sc (.int .i64 o_.Span), V.sc (.int .i64 o_.Head), V.sl false 3 (List.map E3 o_.Counts), V.sl false 3 (List.map E3 o_.Sums)]] []) (fun (y : Lo Unit Unit) => Lo.elim y (fun s => (X.out 0, st 73 [(2, V.ptr 0 0), (3, V.ptr 1 0)] [Blk.box 25 [V.sc (.int .i64 o.Span), V.sc (.int .i64 o.Head), V.sl false 3 (List.map E3 o.Counts), V.sl false 3 (List.map E3 o.Sums)], Blk.box 25 [V.sc (.int .i64 o_.Span), V.sc (.int .i64 o_.Head), V.sl false 3 (List.map E3 o_.Counts), V.sl false 3 (List.map E3 o_.Sums)]] [])) (fun s => (X.ret, st 73 [(4, V.sc (.bool false))] [] [])))) (spec_l06Same_l0 o o_ t1 p1)
  | [], p1, h5 => by
    unfold spec_l06Same_l0
    exact
     Pn.some (LpO.out [.bit false, .mask [2, 3], .ren [0, 1]] (p := [(decide ((p1.length : Int) < (o.Counts.length : Int))) = false]) (by kernel_rfl) (show X.out 0 ≠ X.go from nofun) (cj1 (rng_end h5)))
  | x1 :: t1, p1, h5 => by
    unfold spec_l06Same_l0
    exact
     Pn.bind (fun x2 h7 =>
     Pn.ite (fun h8 =>
     Pn.some (LpO.out [.bit true, .draw [], .el (E3 x1), .el (E3 x2), .bit true, .wait 1, .mask [4], .ren []] (p := [(decide ((p1.length : Int) < (o.Counts.length : Int))) = true,
      (0 : Int) ≤ (p1.length : Int),
      (List.map E3 o.Counts)[(p1.length : Int).toNat]? = some (E3 x1),
      (0 : Int) ≤ (p1.length : Int),
      (List.map E3 o_.Counts)[(p1.length : Int).toNat]? = some (E3 x2),
      (x1 != x2) = true]) (by kernel_rfl) (show X.ret ≠ X.go from nofun) (cj (rng_lt h5) (cj (by omega) (cj (rng_get _ h5) (cj (by omega) (cj (map_get h7) (cj1 h8)))))))) (fun h8 =>
     LpO.go [.bit true, .draw [], .el (E3 x1), .el (E3 x2), .bit false, .wait 2, .mask [2, 3, 39, 40], .ren [0, 1], .nm 40 (V.sc (.int .i64 ((p1 ++ [x1]).length : Int)))] (p := [(decide ((p1.length : Int) < (o.Counts.length : Int))) = true,
      (0 : Int) ≤ (p1.length : Int),
      (List.map E3 o.Counts)[(p1.length : Int).toNat]? = some (E3 x1),
      (0 : Int) ≤ (p1.length : Int),
      (List.map E3 o_.Counts)[(p1.length : Int).toNat]? = some (E3 x2),
      (x1 != x2) = false,
      V.sc (.int .i64 (i64 ((p1.length : Int) + 1))) = V.sc (.int .i64 ((p1 ++ [x1]).length : Int))]) (by kernel_rfl) (cj (rng_lt h5) (cj (by omega) (cj (rng_get _ h5) (cj (by omega) (cj (map_get h7) (cj h8 (cj1 (rng_next h5 h6)))))))) (spec_l06Same_l0_ok o o_ h6 t1 (p1 ++ [x1]) (rng_step h5))))
def spec_l06Same_l1 (o : Ring) (o_ : Ring) : List Int → List Int → Option (Lo Unit Unit)
  | [], p2 =>
   some (.out ())
  | x3 :: t2, p2 =>
   (o_.Sums[(p2.length : Int).toNat]?).bind fun x4 =>
   if (x3 != x4) = true then
   some (.ret ())
   else
   spec_l06Same_l1 o o_ t2 (p2 ++ [x3])
theorem spec_l06Same_l1_ok (o : Ring) (o_ : Ring) (h14 : capOk o.Sums.length = true) : ∀ (t2 p2 : List Int) (_ : o.Sums = p2 ++ t2) , Pn (LpO Tryz.prog (sub (codeOf Tryz.prog 56) [1, 1, 1, 0, 1, 0, 0]) (st 73 [(2, V.ptr 0 0), (3, V.ptr 1 0), (57, V.sc (.int .i64 (o.Sums.length : Int))), (58, V.sc (.int .i64 (p2.length : Int)))] [Blk.box 25 [V.sc (.int .i64 o.Span), V.sc (.int .i64 o.Head), V.sl false 3 (List.map E3 o.Counts), V.sl false 3 (List.map E3 o.Sums)], Blk.box 25 [V.sc (.int .i64 o_.Span), V.sc (.int .i64 o_.Head), V.sl false 3 (List.map E3 o_.Counts), V.sl false 3 (List.map E3 o_.Sums)]] []) (fun (y : Lo Unit Unit) => Lo.elim y (fun s => (X.out 2, st 73 [] [] [])) (fun s => (X.ret, st 73 [(4, V.sc (.bool false))] [] [])))) (spec_l06Same_l1 o o_ t2 p2)
  | [], p2, h13 => by
    unfold spec_l06Same_l1
    exact
     Pn.some (LpO.out [.bit false, .mask [], .ren []] (p := [(decide ((p2.length : Int) < (o.Sums.length : Int))) = false]) (by kernel_rfl) (show X.out 2 ≠ X.go from nofun) (cj1 (rng_end h13)))
  | x3 :: t2, p2, h13 => by
    unfold spec_l06Same_l1
    exact
     Pn.bind (fun x4 h15 =>
     Pn.ite (fun h16 =>
     Pn.some (LpO.out [.bit true, .draw [], .el (E3 x3), .el (E3 x4), .bit true, .wait 1, .mask [4], .ren []] (p := [(decide ((p2.length : Int) < (o.Sums.length : Int))) = true,
      (0 : Int) ≤ (p2.length : Int),
      (List.map E3 o.Sums)[(p2.length : Int).toNat]? = some (E3 x3),
      (0 : Int) ≤ (p2.length : Int),
      (List.map E3 o_.Sums)[(p2.length : Int).toNat]? = some (E3 x4),
      (x3 != x4) = true]) (by kernel_rfl) (show X.ret ≠ X.go from nofun) (cj (rng_lt h13) (cj (by omega) (cj (rng_get _ h13) (cj (by omega) (cj (map_get h15) (cj1 h16)))))))) (fun h16 =>
     LpO.go [.bit true, .draw [], .el (E3 x3), .el (E3 x4), .bit false, .wait 2, .mask [2, 3, 57, 58], .ren [0, 1], .nm 58 (V.sc (.int .i64 ((p2 ++ [x3]).length : Int)))] (p := [(decide ((p2.length : Int) < (o.Sums.length : Int))) = true,
      (0 : Int) ≤ (p2.length : Int),
      (List.map E3 o.Sums)[(p2.length : Int).toNat]? = some (E3 x3),
      (0 : Int) ≤ (p2.length : Int),
      (List.map E3 o_.Sums)[(p2.length : Int).toNat]? = some (E3 x4),
      (x3 != x4) = false,
      V.sc (.int .i64 (i64 ((p2.length : Int) + 1))) = V.sc (.int .i64 ((p2 ++ [x3]).length : Int))]) (by kernel_rfl) (cj (rng_lt h13) (cj (by omega) (cj (rng_get _ h13) (cj (by omega) (cj (map_get h15) (cj h16 (cj1 (rng_next h13 h14)))))))) (spec_l06Same_l1_ok o o_ h14 t2 (p2 ++ [x3]) (rng_step h13))))
def spec_l06Same (o : Ring) (o_ : Ring) : Option (Bool) :=
 if (o.Span != o_.Span) = true then
 some false
 else
 if (o.Head != o_.Head) = true then
 some false
 else
 if ((o.Counts.length : Int) != (o_.Counts.length : Int)) = true then
 some false
 else
 if ((o.Sums.length : Int) != (o_.Sums.length : Int)) = true then
 some false
 else
 if (capOk o.Counts.length) = true then
 (spec_l06Same_l0 o o_ o.Counts []).bind fun r1 =>
 Lo.elim r1 (fun s1 =>
 if (capOk o.Sums.length) = true then
 (spec_l06Same_l1 o o_ o.Sums []).bind fun r2 =>
 Lo.elim r2 (fun s3 =>
 some true) (fun s4 =>
 some false)
 else none) (fun s2 =>
 some false)
 else none
theorem spec_l06Same_ok (o : Ring) (o_ : Ring) : Pn (fun y => Fn Tryz.prog 56 [(false, E25 o), (false, E25 o_)] (E4 y) []) (spec_l06Same o o_) := by
  unfold spec_l06Same
  exact
   Pn.ite (fun h1 =>
   Pn.some (Fn.of [.bit true, .bit true, .bit true, .bit true, .bit true, .bit true, .bit true, .bit true, .bit true, .bit true, .bit true, .bit true, .bit true, .bit true, .bit true, .bit true, .bit true, .bit true, .bit true, .bit true, .bit true, .bit true, .bit true] (p := [(o.Span != o_.Span) = true,
    (o.Span != o_.Span) = true,
    (o.Span != o_.Span) = true,
    (o.Span != o_.Span) = true,
    (o.Span != o_.Span) = true,
    (o.Span != o_.Span) = true,
    true = true,
    true = true,
    true = true,
    true = true,
    true = true,
    true = true,
    true = true,
    true = true,
    true = true,
    true = true,
    true = true,
    true = true,
    true = true,
    true = true,
    true = true,
    true = true,
    true = true]) (by kernel_rfl) (cj h1 (cj h1 (cj h1 (cj h1 (cj h1 (cj h1 (cj rfl (cj rfl (cj rfl (cj rfl (cj rfl (cj rfl (cj rfl (cj rfl (cj rfl (cj rfl (cj rfl (cj rfl (cj rfl (cj rfl (cj rfl (cj rfl (cj1 rfl))))))))))))))))))))))))) (fun h1 =>
   Pn.ite (fun h2 =>
   Pn.some (Fn.of [.bit false, .bit false, .bit false, .bit false, .bit false, .bit false, .bit true, .bit true, .bit true, .bit true, .bit true, .bit true, .bit true, .bit true, .bit true, .bit true, .bit true, .bit true, .bit true, .bit true, .bit true, .bit true, .bit true] (p := [(o.Span != o_.Span) = false,
    (o.Span != o_.Span) = false,
    (o.Span != o_.Span) = false,
    (o.Span != o_.Span) = false,
    (o.Span != o_.Span) = false,
    (o.Span != o_.Span) = false,
    (o.Head != o_.Head) = true,
    (o.Head != o_.Head) = true,
    (o.Head != o_.Head) = true,
    (o.Head != o_.Head) = true,
    (o.Head != o_.Head) = true,
    (o.Head != o_.Head) = true,
    (o.Head != o_.Head) = true,
    (o.Head != o_.Head) = true,
    true = true,
    true = true,
    true = true,
    true = true,
    true = true,
    true = true,
    true = true,
    true = true,
    true = true]) (by kernel_rfl) (cj h1 (cj h1 (cj h1 (cj h1 (cj h1 (cj h1 (cj h2 (cj h2 (cj h2 (cj h2 (cj h2 (cj h2 (cj h2 (cj h2 (cj rfl (cj rfl (cj rfl (cj rfl (cj rfl (cj rfl (cj rfl (cj rfl (cj1 rfl))))))))))))))))))))))))) (fun h2 =>
   Pn.ite (fun h3 =>
   Pn.some (Fn.of [.bit false, .bit false, .bit false, .bit false, .bit false, .bit false, .bit false, .bit false, .bit false, .nm 22 (V.sc (.int .i64 (o.Counts.length : Int))), .bit false, .bit false, .bit false, .nm 25 (V.sc (.int .i64 (o_.Counts.length : Int))), .bit false, .bit false, .bit true, .bit true, .bit true, .bit true, .bit true, .bit true, .bit true, .bit true, .bit true] (p := [(o.Span != o_.Span) = false,
    (o.Span != o_.Span) = false,
    (o.Span != o_.Span) = false,
    (o.Span != o_.Span) = false,
    (o.Span != o_.Span) = false,
    (o.Span != o_.Span) = false,
    (o.Head != o_.Head) = false,
    (o.Head != o_.Head) = false,
    (o.Head != o_.Head) = false,
    V.sc (.int .i64 ((List.map E3 o.Counts).length : Int)) = V.sc (.int .i64 (o.Counts.length : Int)),
    (o.Head != o_.Head) = false,
    (o.Head != o_.Head) = false,
    (o.Head != o_.Head) = false,
    V.sc (.int .i64 ((List.map E3 o_.Counts).length : Int)) = V.sc (.int .i64 (o_.Counts.length : Int)),
    (o.Head != o_.Head) = false,
    (o.Head != o_.Head) = false,
    ((o.Counts.length : Int) != (o_.Counts.length : Int)) = true,
    ((o.Counts.length : Int) != (o_.Counts.length : Int)) = true,
    ((o.Counts.length : Int) != (o_.Counts.length : Int)) = true,
    ((o.Counts.length : Int) != (o_.Counts.length : Int)) = true,
    ((o.Counts.length : Int) != (o_.Counts.length : Int)) = true,
    ((o.Counts.length : Int) != (o_.Counts.length : Int)) = true,
    ((o.Counts.length : Int) != (o_.Counts.length : Int)) = true,
    ((o.Counts.length : Int) != (o_.Counts.length : Int)) = true,
    true = true]) (by kernel_rfl) (cj h1 (cj h1 (cj h1 (cj h1 (cj h1 (cj h1 (cj h2 (cj h2 (cj h2 (cj (len_nm _ _) (cj h2 (cj h2 (cj h2 (cj (len_nm _ _) (cj h2 (cj h2 (cj h3 (cj h3 (cj h3 (cj h3 (cj h3 (cj h3 (cj h3 (cj h3 (cj1 rfl))))))))))))))))))))))))))) (fun h3 =>
   Pn.ite (fun h4 =>
   Pn.some (Fn.of [.bit false, .bit false, .bit false, .bit false, .bit false, .bit false, .bit false, .bit false, .bit false, .nm 22 (V.sc (.int .i64 (o.Counts.length : Int))), .bit false, .bit false, .bit false, .nm 25 (V.sc (.int .i64 (o_.Counts.length : Int))), .bit false, .bit false, .bit false, .bit false, .bit false, .nm 31 (V.sc (.int .i64 (o.Sums.length : Int))), .bit false, .bit false, .bit false, .nm 34 (V.sc (.int .i64 (o_.Sums.length : Int))), .bit false, .bit false, .bit true] (p := [(o.Span != o_.Span) = false,
    (o.Span != o_.Span) = false,
    (o.Span != o_.Span) = false,
    (o.Span != o_.Span) = false,
    (o.Span != o_.Span) = false,
    (o.Span != o_.Span) = false,
    (o.Head != o_.Head) = false,
    (o.Head != o_.Head) = false,
    (o.Head != o_.Head) = false,
    V.sc (.int .i64 ((List.map E3 o.Counts).length : Int)) = V.sc (.int .i64 (o.Counts.length : Int)),
    (o.Head != o_.Head) = false,
    (o.Head != o_.Head) = false,
    (o.Head != o_.Head) = false,
    V.sc (.int .i64 ((List.map E3 o_.Counts).length : Int)) = V.sc (.int .i64 (o_.Counts.length : Int)),
    (o.Head != o_.Head) = false,
    (o.Head != o_.Head) = false,
    ((o.Counts.length : Int) != (o_.Counts.length : Int)) = false,
    ((o.Counts.length : Int) != (o_.Counts.length : Int)) = false,
    ((o.Counts.length : Int) != (o_.Counts.length : Int)) = false,
    V.sc (.int .i64 ((List.map E3 o.Sums).length : Int)) = V.sc (.int .i64 (o.Sums.length : Int)),
    ((o.Counts.length : Int) != (o_.Counts.length : Int)) = false,
    ((o.Counts.length : Int) != (o_.Counts.length : Int)) = false,
    ((o.Counts.length : Int) != (o_.Counts.length : Int)) = false,
    V.sc (.int .i64 ((List.map E3 o_.Sums).length : Int)) = V.sc (.int .i64 (o_.Sums.length : Int)),
    ((o.Counts.length : Int) != (o_.Counts.length : Int)) = false,
    ((o.Counts.length : Int) != (o_.Counts.length : Int)) = false,
    ((o.Sums.length : Int) != (o_.Sums.length : Int)) = true]) (by kernel_rfl) (cj h1 (cj h1 (cj h1 (cj h1 (cj h1 (cj h1 (cj h2 (cj h2 (cj h2 (cj (len_nm _ _) (cj h2 (cj h2 (cj h2 (cj (len_nm _ _) (cj h2 (cj h2 (cj h3 (cj h3 (cj h3 (cj (len_nm _ _) (cj h3 (cj h3 (cj h3 (cj (len_nm _ _) (cj h3 (cj h3 (cj1 h4))))))))))))))))))))))))))))) (fun h4 =>
   Pn.ite (fun h9 =>
   Pn.bind (fun r1 h10 =>
   Pn.lo (fun s1 h11 =>
   Pn.ite (fun h17 =>
   Pn.bind (fun r2 h18 =>
   Pn.lo (fun s3 h19 =>
   Pn.some (Fn.of [.bit false, .bit false, .bit false, .bit false, .bit false, .bit false, .bit false, .bit false, .bit false, .nm 22 (V.sc (.int .i64 (o.Counts.length : Int))), .bit false, .bit false, .bit false, .nm 25 (V.sc (.int .i64 (o_.Counts.length : Int))), .bit false, .bit false, .bit false, .bit false, .bit false, .nm 31 (V.sc (.int .i64 (o.Sums.length : Int))), .bit false, .bit false, .bit false, .nm 34 (V.sc (.int .i64 (o_.Sums.length : Int))), .bit false, .bit false, .bit false, .wait 2, .nm 39 (V.sc (.int .i64 (o.Counts.length : Int))), .wait 2, .mask [2, 3, 39, 40], .ren [0, 1], .loop (X.out 0) (st 73 [(2, V.ptr 0 0), (3, V.ptr 1 0)] [Blk.box 25 [V.sc (.int .i64 o.Span), V.sc (.int .i64 o.Head), V.sl false 3 (List.map E3 o.Counts), V.sl false 3 (List.map E3 o.Sums)], Blk.box 25 [V.sc (.int .i64 o_.Span), V.sc (.int .i64 o_.Head), V.sl false 3 (List.map E3 o_.Counts), V.sl false 3 (List.map E3 o_.Sums)]] []), .wait 3, .nm 57 (V.sc (.int .i64 (o.Sums.length : Int))), .wait 2, .mask [2, 3, 57, 58], .ren [0, 1], .loop (X.out 2) (st 73 [] [] [])] (p := [(o.Span != o_.Span) = false,
    (o.Span != o_.Span) = false,
    (o.Span != o_.Span) = false,
    (o.Span != o_.Span) = false,
    (o.Span != o_.Span) = false,
    (o.Span != o_.Span) = false,
    (o.Head != o_.Head) = false,
    (o.Head != o_.Head) = false,
    (o.Head != o_.Head) = false,
    V.sc (.int .i64 ((List.map E3 o.Counts).length : Int)) = V.sc (.int .i64 (o.Counts.length : Int)),
    (o.Head != o_.Head) = false,
    (o.Head != o_.Head) = false,
    (o.Head != o_.Head) = false,
    V.sc (.int .i64 ((List.map E3 o_.Counts).length : Int)) = V.sc (.int .i64 (o_.Counts.length : Int)),
    (o.Head != o_.Head) = false,
    (o.Head != o_.Head) = false,
    ((o.Counts.length : Int) != (o_.Counts.length : Int)) = false,
    ((o.Counts.length : Int) != (o_.Counts.length : Int)) = false,
    ((o.Counts.length : Int) != (o_.Counts.length : Int)) = false,
    V.sc (.int .i64 ((List.map E3 o.Sums).length : Int)) = V.sc (.int .i64 (o.Sums.length : Int)),
    ((o.Counts.length : Int) != (o_.Counts.length : Int)) = false,
    ((o.Counts.length : Int) != (o_.Counts.length : Int)) = false,
    ((o.Counts.length : Int) != (o_.Counts.length : Int)) = false,
    V.sc (.int .i64 ((List.map E3 o_.Sums).length : Int)) = V.sc (.int .i64 (o_.Sums.length : Int)),
    ((o.Counts.length : Int) != (o_.Counts.length : Int)) = false,
    ((o.Counts.length : Int) != (o_.Counts.length : Int)) = false,
    ((o.Sums.length : Int) != (o_.Sums.length : Int)) = false,
    V.sc (.int .i64 ((List.map E3 o.Counts).length : Int)) = V.sc (.int .i64 (o.Counts.length : Int)),
    Loop Tryz.prog (sub (codeOf Tryz.prog 56) [1, 1, 0, 1, 0, 0]) (st 73 [(2, V.ptr 0 0), (3, V.ptr 1 0), (39, V.sc (.int .i64 (o.Counts.length : Int))), (40, V.sc (.int .i64 0))] [Blk.box 25 [V.sc (.int .i64 o.Span), V.sc (.int .i64 o.Head), V.sl false 3 (List.map E3 o.Counts), V.sl false 3 (List.map E3 o.Sums)], Blk.box 25 [V.sc (.int .i64 o_.Span), V.sc (.int .i64 o_.Head), V.sl false 3 (List.map E3 o_.Counts), V.sl false 3 (List.map E3 o_.Sums)]] []) (X.out 0) (st 73 [(2, V.ptr 0 0), (3, V.ptr 1 0)] [Blk.box 25 [V.sc (.int .i64 o.Span), V.sc (.int .i64 o.Head), V.sl false 3 (List.map E3 o.Counts), V.sl false 3 (List.map E3 o.Sums)], Blk.box 25 [V.sc (.int .i64 o_.Span), V.sc (.int .i64 o_.Head), V.sl false 3 (List.map E3 o_.Counts), V.sl false 3 (List.map E3 o_.Sums)]] []),
    V.sc (.int .i64 ((List.map E3 o.Sums).length : Int)) = V.sc (.int .i64 (o.Sums.length : Int)),
    Loop Tryz.prog (sub (codeOf Tryz.prog 56) [1, 1, 1, 0, 1, 0, 0]) (st 73 [(2, V.ptr 0 0), (3, V.ptr 1 0), (57, V.sc (.int .i64 (o.Sums.length : Int))), (58, V.sc (.int .i64 0))] [Blk.box 25 [V.sc (.int .i64 o.Span), V.sc (.int .i64 o.Head), V.sl false 3 (List.map E3 o.Counts), V.sl false 3 (List.map E3 o.Sums)], Blk.box 25 [V.sc (.int .i64 o_.Span), V.sc (.int .i64 o_.Head), V.sl false 3 (List.map E3 o_.Counts), V.sl false 3 (List.map E3 o_.Sums)]] []) (X.out 2) (st 73 [] [] [])]) (by kernel_rfl) (cj h1 (cj h1 (cj h1 (cj h1 (cj h1 (cj h1 (cj h2 (cj h2 (cj h2 (cj (len_nm _ _) (cj h2 (cj h2 (cj h2 (cj (len_nm _ _) (cj h2 (cj h2 (cj h3 (cj h3 (cj h3 (cj (len_nm _ _) (cj h3 (cj h3 (cj h3 (cj (len_nm _ _) (cj h3 (cj h3 (cj h4 (cj (len_nm _ _) (cj ((spec_l06Same_l0_ok o o_ h9 o.Counts [] rfl r1 h10).at h11 :) (cj (len_nm _ _) (cj1 ((spec_l06Same_l1_ok o o_ h17 o.Sums [] rfl r2 h18).at h19 :)))))))))))))))))))))))))))))))))) (fun s4 h20 =>
   Pn.some (Fn.of [.bit false, .bit false, .bit false, .bit false, .bit false, .bit false, .bit false, .bit false, .bit false, .nm 22 (V.sc (.int .i64 (o.Counts.length : Int))), .bit false, .bit false, .bit false, .nm 25 (V.sc (.int .i64 (o_.Counts.length : Int))), .bit false, .bit false, .bit false, .bit false, .bit false, .nm 31 (V.sc (.int .i64 (o.Sums.length : Int))), .bit false, .bit false, .bit false, .nm 34 (V.sc (.int .i64 (o_.Sums.length : Int))), .bit false, .bit false, .bit false, .wait 2, .nm 39 (V.sc (.int .i64 (o.Counts.length : Int))), .wait 2, .mask [2, 3, 39, 40], .ren [0, 1], .loop (X.out 0) (st 73 [(2, V.ptr 0 0), (3, V.ptr 1 0)] [Blk.box 25 [V.sc (.int .i64 o.Span), V.sc (.int .i64 o.Head), V.sl false 3 (List.map E3 o.Counts), V.sl false 3 (List.map E3 o.Sums)], Blk.box 25 [V.sc (.int .i64 o_.Span), V.sc (.int .i64 o_.Head), V.sl false 3 (List.map E3 o_.Counts), V.sl false 3 (List.map E3 o_.Sums)]] []), .wait 3, .nm 57 (V.sc (.int .i64 (o.Sums.length : Int))), .wait 2, .mask [2, 3, 57, 58], .ren [0, 1], .loop (X.ret) (st 73 [(4, V.sc (.bool false))] [] [])] (p := [(o.Span != o_.Span) = false,
    (o.Span != o_.Span) = false,
    (o.Span != o_.Span) = false,
    (o.Span != o_.Span) = false,
    (o.Span != o_.Span) = false,
    (o.Span != o_.Span) = false,
    (o.Head != o_.Head) = false,
    (o.Head != o_.Head) = false,
    (o.Head != o_.Head) = false,
    V.sc (.int .i64 ((List.map E3 o.Counts).length : Int)) = V.sc (.int .i64 (o.Counts.length : Int)),
    (o.Head != o_.Head) = false,
    (o.Head != o_.Head) = false,
    (o.Head != o_.Head) = false,
    V.sc (.int .i64 ((List.map E3 o_.Counts).length : Int)) = V.sc (.int .i64 (o_.Counts.length : Int)),
    (o.Head != o_.Head) = false,
    (o.Head != o_.Head) = false,
    ((o.Counts.length : Int) != (o_.Counts.length : Int)) = false,
    ((o.Counts.length : Int) != (o_.Counts.length : Int)) = false,
    ((o.Counts.length : Int) != (o_.Counts.length : Int)) = false,
    V.sc (.int .i64 ((List.map E3 o.Sums).length : Int)) = V.sc (.int .i64 (o.Sums.length : Int)),
    ((o.Counts.length : Int) != (o_.Counts.length : Int)) = false,
    ((o.Counts.length : Int) != (o_.Counts.length : Int)) = false,
    ((o.Counts.length : Int) != (o_.Counts.length : Int)) = false,
    V.sc (.int .i64 ((List.map E3 o_.Sums).length : Int)) = V.sc (.int .i64 (o_.Sums.length : Int)),
    ((o.Counts.length : Int) != (o_.Counts.length : Int)) = false,
    ((o.Counts.length : Int) != (o_.Counts.length : Int)) = false,
    ((o.Sums.length : Int) != (o_.Sums.length : Int)) = false,
    V.sc (.int .i64 ((List.map E3 o.Counts).length : Int)) = V.sc (.int .i64 (o.Counts.length : Int)),
    Loop Tryz.prog (sub (codeOf Tryz.prog 56) [1, 1, 0, 1, 0, 0]) (st 73 [(2, V.ptr 0 0), (3, V.ptr 1 0), (39, V.sc (.int .i64 (o.Counts.length : Int))), (40, V.sc (.int .i64 0))] [Blk.box 25 [V.sc (.int .i64 o.Span), V.sc (.int .i64 o.Head), V.sl false 3 (List.map E3 o.Counts), V.sl false 3 (List.map E3 o.Sums)], Blk.box 25 [V.sc (.int .i64 o_.Span), V.sc (.int .i64 o_.Head), V.sl false 3 (List.map E3 o_.Counts), V.sl false 3 (List.map E3 o_.Sums)]] []) (X.out 0) (st 73 [(2, V.ptr 0 0), (3, V.ptr 1 0)] [Blk.box 25 [V.sc (.int .i64 o.Span), V.sc (.int .i64 o.Head), V.sl false 3 (List.map E3 o.Counts), V.sl false 3 (List.map E3 o.Sums)], Blk.box 25 [V.sc (.int .i64 o_.Span), V.sc (.int .i64 o_.Head), V.sl false 3 (List.map E3 o_.Counts), V.sl false 3 (List.map E3 o_.Sums)]] []),
    V.sc (.int .i64 ((List.map E3 o.Sums).length : Int)) = V.sc (.int .i64 (o.Sums.length : Int)),
    Loop Tryz.prog (sub (codeOf Tryz.prog 56) [1, 1, 1, 0, 1, 0, 0]) (st 73 [(2, V.ptr 0 0), (3, V.ptr 1 0), (57, V.sc (.int .i64 (o.Sums.length : Int))), (58, V.sc (.int .i64 0))] [Blk.box 25 [V.sc (.int .i64 o.Span), V.sc (.int .i64 o.Head), V.sl false 3 (List.map E3 o.Counts), V.sl false 3 (List.map E3 o.Sums)], Blk.box 25 [V.sc (.int .i64 o_.Span), V.sc (.int .i64 o_.Head), V.sl false 3 (List.map E3 o_.Counts), V.sl false 3 (List.map E3 o_.Sums)]] []) (X.ret) (st 73 [(4, V.sc (.bool false))] [] [])]) (by kernel_rfl) (cj h1 (cj h1 (cj h1 (cj h1 (cj h1 (cj h1 (cj h2 (cj h2 (cj h2 (cj (len_nm _ _) (cj h2 (cj h2 (cj h2 (cj (len_nm _ _) (cj h2 (cj h2 (cj h3 (cj h3 (cj h3 (cj (len_nm _ _) (cj h3 (cj h3 (cj h3 (cj (len_nm _ _) (cj h3 (cj h3 (cj h4 (cj (len_nm _ _) (cj ((spec_l06Same_l0_ok o o_ h9 o.Counts [] rfl r1 h10).at h11 :) (cj (len_nm _ _) (cj1 ((spec_l06Same_l1_ok o o_ h17 o.Sums [] rfl r2 h18).at h20 :)))))))))))))))))))))))))))))))))))) (fun h17 =>
   Pn.none)) (fun s2 h12 =>
   Pn.some (Fn.of [.bit false, .bit false, .bit false, .bit false, .bit false, .bit false, .bit false, .bit false, .bit false, .nm 22 (V.sc (.int .i64 (o.Counts.length : Int))), .bit false, .bit false, .bit false, .nm 25 (V.sc (.int .i64 (o_.Counts.length : Int))), .bit false, .bit false, .bit false, .bit false, .bit false, .nm 31 (V.sc (.int .i64 (o.Sums.length : Int))), .bit false, .bit false, .bit false, .nm 34 (V.sc (.int .i64 (o_.Sums.length : Int))), .bit false, .bit false, .bit false, .wait 2, .nm 39 (V.sc (.int .i64 (o.Counts.length : Int))), .wait 2, .mask [2, 3, 39, 40], .ren [0, 1], .loop (X.ret) (st 73 [(4, V.sc (.bool false))] [] [])] (p := [(o.Span != o_.Span) = false,
    (o.Span != o_.Span) = false,
    (o.Span != o_.Span) = false,
    (o.Span != o_.Span) = false,
    (o.Span != o_.Span) = false,
    (o.Span != o_.Span) = false,
    (o.Head != o_.Head) = false,
    (o.Head != o_.Head) = false,
    (o.Head != o_.Head) = false,
    V.sc (.int .i64 ((List.map E3 o.Counts).length : Int)) = V.sc (.int .i64 (o.Counts.length : Int)),
    (o.Head != o_.Head) = false,
    (o.Head != o_.Head) = false,
    (o.Head != o_.Head) = false,
    V.sc (.int .i64 ((List.map E3 o_.Counts).length : Int)) = V.sc (.int .i64 (o_.Counts.length : Int)),
    (o.Head != o_.Head) = false,
    (o.Head != o_.Head) = false,
    ((o.Counts.length : Int) != (o_.Counts.length : Int)) = false,
    ((o.Counts.length : Int) != (o_.Counts.length : Int)) = false,
    ((o.Counts.length : Int) != (o_.Counts.length : Int)) = false,
    V.sc (.int .i64 ((List.map E3 o.Sums).length : Int)) = V.sc (.int .i64 (o.Sums.length : Int)),
    ((o.Counts.length : Int) != (o_.Counts.length : Int)) = false,
    ((o.Counts.length : Int) != (o_.Counts.length : Int)) = false,
    ((o.Counts.length : Int) != (o_.Counts.length : Int)) = false,
    V.sc (.int .i64 ((List.map E3 o_.Sums).length : Int)) = V.sc (.int .i64 (o_.Sums.length : Int)),
    ((o.Counts.length : Int) != (o_.Counts.length : Int)) = false,
    ((o.Counts.length : Int) != (o_.Counts.length : Int)) = false,
    ((o.Sums.length : Int) != (o_.Sums.length : Int)) = false,
    V.sc (.int .i64 ((List.map E3 o.Counts).length : Int)) = V.sc (.int .i64 (o.Counts.length : Int)),
    Loop Tryz.prog (sub (codeOf Tryz.prog 56) [1, 1, 0, 1, 0, 0]) (st 73 [(2, V.ptr 0 0), (3, V.ptr 1 0), (39, V.sc (.int .i64 (o.Counts.length : Int))), (40, V.sc (.int .i64 0))] [Blk.box 25 [V.sc (.int .i64 o.Span), V.sc (.int .i64 o.Head), V.sl false 3 (List.map E3 o.Counts), V.sl false 3 (List.map E3 o.Sums)], Blk.box 25 [V.sc (.int .i64 o_.Span), V.sc (.int .i64 o_.Head), V.sl false 3 (List.map E3 o_.Counts), V.sl false 3 (List.map E3 o_.Sums)]] []) (X.ret) (st 73 [(4, V.sc (.bool false))] [] [])]) (by kernel_rfl) (cj h1 (cj h1 (cj h1 (cj h1 (cj h1 (cj h1 (cj h2 (cj h2 (cj h2 (cj (len_nm _ _) (cj h2 (cj h2 (cj h2 (cj (len_nm _ _) (cj h2 (cj h2 (cj h3 (cj h3 (cj h3 (cj (len_nm _ _) (cj h3 (cj h3 (cj h3 (cj (len_nm _ _) (cj h3 (cj h3 (cj h4 (cj (len_nm _ _) (cj1 ((spec_l06Same_l0_ok o o_ h9 o.Counts [] rfl r1 h10).at h12 :)))))))))))))))))))))))))))))))))) (fun h9 =>
   Pn.none)))))
def spec_SlotsSame_l0 (a : List Slot) (b : List Slot) : List Slot → List Slot → Option (Lo Unit Unit)
  | [], p1 =>
   some (.out ())
  | x1 :: t1, p1 =>
   (b[(p1.length : Int).toNat]?).bind fun x2 =>
   if (x1.Trace == x2.Trace) = true then
   if (x1.Mti == x2.Mti) = true then
   if ((bstr x1.Reply) == (bstr x2.Reply)) = true then
   spec_SlotsSame_l0 a b t1 (p1 ++ [x1])
   else
   some (.ret ())
   else
   some (.ret ())
   else
   some (.ret ())
theorem spec_SlotsSame_l0_ok (a : List Slot) (b : List Slot) (h3 : capOk a.length = true) : ∀ (t1 p1 : List Slot) (_ : a = p1 ++ t1) , Pn (LpO Tryz.prog (sub (codeOf Tryz.prog 57) [1, 1, 0, 1, 0, 0]) (st 50 [(1, V.sl false 66 (List.map E66 b)), (12, V.sl false 66 (List.map E66 a)), (13, V.sc (.int .i64 (a.length : Int))), (14, V.sc (.int .i64 (p1.length : Int)))] [] []) (fun (y : Lo Unit Unit) => Lo.elim y (fun s => (X.out 0, st 50 [] [] [])) (fun s => (X.ret, st 50 [(4, V.sc (.bool false))] [] [])))) (spec_SlotsSame_l0 a b t1 p1)
  | [], p1, h2 => by
    unfold spec_SlotsSame_l0
    exact
     Pn.some (LpO.out [.bit false, .mask [], .ren []] (p := [(decide ((p1.length : Int) < (a.length : Int))) = false]) (by kernel_rfl) (show X.out 0 ≠ X.go from nofun) (cj1 (rng_end h2)))
  | x1 :: t1, p1, h2 => by
    unfold spec_SlotsSame_l0
    exact
     Pn.bind (fun x2 h4 =>
     Pn.ite (fun h5 =>
     Pn.ite (fun h6 =>
     Pn.ite (fun h7 =>
     LpO.go [.bit true, .el (E66 x1), .draw [], .el (E66 x2), .bit false, .bit false, .bit false, .bit false, .bit false, .el (E66 x2), .bit false, .bit false, .bit false, .bit false, .bit false, .bit false, .bit false, .ints x1.Reply, .bit false, .bit false, .bit false, .el (E66 x2), .bit false, .bit false, .bit false, .ints x2.Reply, .bit false, .bit false, .bit false, .wait 2, .mask [1, 12, 13, 14], .ren [], .nm 14 (V.sc (.int .i64 ((p1 ++ [x1]).length : Int)))] (p := [(decide ((p1.length : Int) < (a.length : Int))) = true,
      (0 : Int) ≤ (p1.length : Int),
      (List.map E66 a)[(p1.length : Int).toNat]? = some (E66 x1),
      (0 : Int) ≤ (p1.length : Int),
      (List.map E66 b)[(p1.length : Int).toNat]? = some (E66 x2),
      (!(x1.Trace == x2.Trace)) = false,
      (!(x1.Trace == x2.Trace)) = false,
      (!(x1.Trace == x2.Trace)) = false,
      (!(x1.Trace == x2.Trace)) = false,
      (!(x1.Trace == x2.Trace)) = false,
      (0 : Int) ≤ (p1.length : Int),
      (List.map E66 b)[(p1.length : Int).toNat]? = some (E66 x2),
      (!(x1.Trace == x2.Trace)) = false,
      (!(x1.Trace == x2.Trace)) = false,
      (!(x1.Trace == x2.Trace)) = false,
      (!(x1.Trace == x2.Trace)) = false,
      (!(x1.Mti == x2.Mti)) = false,
      (!(x1.Mti == x2.Mti)) = false,
      (!(x1.Mti == x2.Mti)) = false,
      (List.map E5 x1.Reply) = x1.Reply.map fun n => V.sc (.int .u8 n),
      (!(x1.Mti == x2.Mti)) = false,
      (!(x1.Mti == x2.Mti)) = false,
      (!(x1.Mti == x2.Mti)) = false,
      (0 : Int) ≤ (p1.length : Int),
      (List.map E66 b)[(p1.length : Int).toNat]? = some (E66 x2),
      (!(x1.Mti == x2.Mti)) = false,
      (!(x1.Mti == x2.Mti)) = false,
      (!(x1.Mti == x2.Mti)) = false,
      (List.map E5 x2.Reply) = x2.Reply.map fun n => V.sc (.int .u8 n),
      (!(x1.Mti == x2.Mti)) = false,
      (!(x1.Mti == x2.Mti)) = false,
      (!((bstr x1.Reply) == (bstr x2.Reply))) = false,
      V.sc (.int .i64 (i64 ((p1.length : Int) + 1))) = V.sc (.int .i64 ((p1 ++ [x1]).length : Int))]) (by kernel_rfl) (cj (rng_lt h2) (cj (by omega) (cj (rng_get _ h2) (cj (by omega) (cj (map_get h4) (cj (nf h5) (cj (nf h5) (cj (nf h5) (cj (nf h5) (cj (nf h5) (cj (by omega) (cj (map_get h4) (cj (nf h5) (cj (nf h5) (cj (nf h5) (cj (nf h5) (cj (nf h6) (cj (nf h6) (cj (nf h6) (cj rfl (cj (nf h6) (cj (nf h6) (cj (nf h6) (cj (by omega) (cj (map_get h4) (cj (nf h6) (cj (nf h6) (cj (nf h6) (cj rfl (cj (nf h6) (cj (nf h6) (cj (nf h7) (cj1 (rng_next h2 h3)))))))))))))))))))))))))))))))))) (spec_SlotsSame_l0_ok a b h3 t1 (p1 ++ [x1]) (rng_step h2))) (fun h7 =>
     Pn.some (LpO.out [.bit true, .el (E66 x1), .draw [], .el (E66 x2), .bit false, .bit false, .bit false, .bit false, .bit false, .el (E66 x2), .bit false, .bit false, .bit false, .bit false, .bit false, .bit false, .bit false, .ints x1.Reply, .bit false, .bit false, .bit false, .el (E66 x2), .bit false, .bit false, .bit false, .ints x2.Reply, .bit false, .bit false, .bit true, .wait 1, .mask [4], .ren []] (p := [(decide ((p1.length : Int) < (a.length : Int))) = true,
      (0 : Int) ≤ (p1.length : Int),
      (List.map E66 a)[(p1.length : Int).toNat]? = some (E66 x1),
      (0 : Int) ≤ (p1.length : Int),
      (List.map E66 b)[(p1.length : Int).toNat]? = some (E66 x2),
      (!(x1.Trace == x2.Trace)) = false,
      (!(x1.Trace == x2.Trace)) = false,
      (!(x1.Trace == x2.Trace)) = false,
      (!(x1.Trace == x2.Trace)) = false,
      (!(x1.Trace == x2.Trace)) = false,
      (0 : Int) ≤ (p1.length : Int),
      (List.map E66 b)[(p1.length : Int).toNat]? = some (E66 x2),
      (!(x1.Trace == x2.Trace)) = false,
      (!(x1.Trace == x2.Trace)) = false,
      (!(x1.Trace == x2.Trace)) = false,
      (!(x1.Trace == x2.Trace)) = false,
      (!(x1.Mti == x2.Mti)) = false,
      (!(x1.Mti == x2.Mti)) = false,
      (!(x1.Mti == x2.Mti)) = false,
      (List.map E5 x1.Reply) = x1.Reply.map fun n => V.sc (.int .u8 n),
      (!(x1.Mti == x2.Mti)) = false,
      (!(x1.Mti == x2.Mti)) = false,
      (!(x1.Mti == x2.Mti)) = false,
      (0 : Int) ≤ (p1.length : Int),
      (List.map E66 b)[(p1.length : Int).toNat]? = some (E66 x2),
      (!(x1.Mti == x2.Mti)) = false,
      (!(x1.Mti == x2.Mti)) = false,
      (!(x1.Mti == x2.Mti)) = false,
      (List.map E5 x2.Reply) = x2.Reply.map fun n => V.sc (.int .u8 n),
      (!(x1.Mti == x2.Mti)) = false,
      (!(x1.Mti == x2.Mti)) = false,
      (!((bstr x1.Reply) == (bstr x2.Reply))) = true]) (by kernel_rfl) (show X.ret ≠ X.go from nofun) (cj (rng_lt h2) (cj (by omega) (cj (rng_get _ h2) (cj (by omega) (cj (map_get h4) (cj (nf h5) (cj (nf h5) (cj (nf h5) (cj (nf h5) (cj (nf h5) (cj (by omega) (cj (map_get h4) (cj (nf h5) (cj (nf h5) (cj (nf h5) (cj (nf h5) (cj (nf h6) (cj (nf h6) (cj (nf h6) (cj rfl (cj (nf h6) (cj (nf h6) (cj (nf h6) (cj (by omega) (cj (map_get h4) (cj (nf h6) (cj (nf h6) (cj (nf h6) (cj rfl (cj (nf h6) (cj (nf h6) (cj1 (nt h7)))))))))))))))))))))))))))))))))))) (fun h6 =>
     Pn.some (LpO.out [.bit true, .el (E66 x1), .draw [], .el (E66 x2), .bit false, .bit false, .bit false, .bit false, .bit false, .el (E66 x2), .bit false, .bit false, .bit false, .bit false, .bit true, .bit true, .bit true, .bit true, .bit true, .bit true, .bit true, .bit true, .bit true, .bit true, .bit true, .bit true, .wait 1, .mask [4], .ren []] (p := [(decide ((p1.length : Int) < (a.length : Int))) = true,
      (0 : Int) ≤ (p1.length : Int),
      (List.map E66 a)[(p1.length : Int).toNat]? = some (E66 x1),
      (0 : Int) ≤ (p1.length : Int),
      (List.map E66 b)[(p1.length : Int).toNat]? = some (E66 x2),
      (!(x1.Trace == x2.Trace)) = false,
      (!(x1.Trace == x2.Trace)) = false,
      (!(x1.Trace == x2.Trace)) = false,
      (!(x1.Trace == x2.Trace)) = false,
      (!(x1.Trace == x2.Trace)) = false,
      (0 : Int) ≤ (p1.length : Int),
      (List.map E66 b)[(p1.length : Int).toNat]? = some (E66 x2),
      (!(x1.Trace == x2.Trace)) = false,
      (!(x1.Trace == x2.Trace)) = false,
      (!(x1.Trace == x2.Trace)) = false,
      (!(x1.Trace == x2.Trace)) = false,
      (!(x1.Mti == x2.Mti)) = true,
      (!(x1.Mti == x2.Mti)) = true,
      (!(x1.Mti == x2.Mti)) = true,
      (!(x1.Mti == x2.Mti)) = true,
      (!(x1.Mti == x2.Mti)) = true,
      (!(x1.Mti == x2.Mti)) = true,
      (!(x1.Mti == x2.Mti)) = true,
      (!(x1.Mti == x2.Mti)) = true,
      (!(x1.Mti == x2.Mti)) = true,
      (!(x1.Mti == x2.Mti)) = true,
      (!(x1.Mti == x2.Mti)) = true,
      true = true]) (by kernel_rfl) (show X.ret ≠ X.go from nofun) (cj (rng_lt h2) (cj (by omega) (cj (rng_get _ h2) (cj (by omega) (cj (map_get h4) (cj (nf h5) (cj (nf h5) (cj (nf h5) (cj (nf h5) (cj (nf h5) (cj (by omega) (cj (map_get h4) (cj (nf h5) (cj (nf h5) (cj (nf h5) (cj (nf h5) (cj (nt h6) (cj (nt h6) (cj (nt h6) (cj (nt h6) (cj (nt h6) (cj (nt h6) (cj (nt h6) (cj (nt h6) (cj (nt h6) (cj (nt h6) (cj (nt h6) (cj1 rfl))))))))))))))))))))))))))))))) (fun h5 =>
     Pn.some (LpO.out [.bit true, .el (E66 x1), .draw [], .el (E66 x2), .bit true, .bit true, .bit true, .bit true, .bit true, .bit true, .bit true, .bit true, .bit true, .bit true, .bit true, .bit true, .bit true, .bit true, .bit true, .bit true, .bit true, .bit true, .bit true, .bit true, .bit true, .wait 1, .mask [4], .ren []] (p := [(decide ((p1.length : Int) < (a.length : Int))) = true,
      (0 : Int) ≤ (p1.length : Int),
      (List.map E66 a)[(p1.length : Int).toNat]? = some (E66 x1),
      (0 : Int) ≤ (p1.length : Int),
      (List.map E66 b)[(p1.length : Int).toNat]? = some (E66 x2),
      (!(x1.Trace == x2.Trace)) = true,
      (!(x1.Trace == x2.Trace)) = true,
      (!(x1.Trace == x2.Trace)) = true,
      (!(x1.Trace == x2.Trace)) = true,
      (!(x1.Trace == x2.Trace)) = true,
      (!(x1.Trace == x2.Trace)) = true,
      (!(x1.Trace == x2.Trace)) = true,
      (!(x1.Trace == x2.Trace)) = true,
      (!(x1.Trace == x2.Trace)) = true,
      true = true,
      true = true,
      true = true,
      true = true,
      true = true,
      true = true,
      true = true,
      true = true,
      true = true,
      true = true,
      true = true,
      true = true]) (by kernel_rfl) (show X.ret ≠ X.go from nofun) (cj (rng_lt h2) (cj (by omega) (cj (rng_get _ h2) (cj (by omega) (cj (map_get h4) (cj (nt h5) (cj (nt h5) (cj (nt h5) (cj (nt h5) (cj (nt h5) (cj (nt h5) (cj (nt h5) (cj (nt h5) (cj (nt h5) (cj rfl (cj rfl (cj rfl (cj rfl (cj rfl (cj rfl (cj rfl (cj rfl (cj rfl (cj rfl (cj rfl (cj1 rfl)))))))))))))))))))))))))))))
def spec_SlotsSame (a : List Slot) (b : List Slot) : Option (Bool) :=
 if ((a.length : Int) != (b.length : Int)) = true then
 some false
 else
 if (capOk a.length) = true then
 (spec_SlotsSame_l0 a b a []).bind fun r1 =>
 Lo.elim r1 (fun s1 =>
 some true) (fun s2 =>
 some false)
 else none
theorem spec_SlotsSame_ok (a : List Slot) (b : List Slot) : Pn (fun y => Fn Tryz.prog 57 [(false, E26 a), (false, E26 b)] (E4 y) []) (spec_SlotsSame a b) := by
  unfold spec_SlotsSame
  exact
   Pn.ite (fun h1 =>
   Pn.some (Fn.of [.wait 3, .nm 8 (V.sc (.int .i64 (a.length : Int))), .wait 2, .nm 10 (V.sc (.int .i64 (b.length : Int))), .bit true] (p := [V.sc (.int .i64 ((List.map E66 a).length : Int)) = V.sc (.int .i64 (a.length : Int)),
    V.sc (.int .i64 ((List.map E66 b).length : Int)) = V.sc (.int .i64 (b.length : Int)),
    ((a.length : Int) != (b.length : Int)) = true]) (by kernel_rfl) (cj (len_nm _ _) (cj (len_nm _ _) (cj1 h1))))) (fun h1 =>
   Pn.ite (fun h8 =>
   Pn.bind (fun r1 h9 =>
   Pn.lo (fun s1 h10 =>
   Pn.some (Fn.of [.wait 3, .nm 8 (V.sc (.int .i64 (a.length : Int))), .wait 2, .nm 10 (V.sc (.int .i64 (b.length : Int))), .bit false, .wait 1, .nm 13 (V.sc (.int .i64 (a.length : Int))), .wait 2, .mask [1, 12, 13, 14], .ren [], .loop (X.out 0) (st 50 [] [] [])] (p := [V.sc (.int .i64 ((List.map E66 a).length : Int)) = V.sc (.int .i64 (a.length : Int)),
    V.sc (.int .i64 ((List.map E66 b).length : Int)) = V.sc (.int .i64 (b.length : Int)),
    ((a.length : Int) != (b.length : Int)) = false,
    V.sc (.int .i64 ((List.map E66 a).length : Int)) = V.sc (.int .i64 (a.length : Int)),
    Loop Tryz.prog (sub (codeOf Tryz.prog 57) [1, 1, 0, 1, 0, 0]) (st 50 [(1, V.sl false 66 (List.map E66 b)), (12, V.sl false 66 (List.map E66 a)), (13, V.sc (.int .i64 (a.length : Int))), (14, V.sc (.int .i64 0))] [] []) (X.out 0) (st 50 [] [] [])]) (by kernel_rfl) (cj (len_nm _ _) (cj (len_nm _ _) (cj h1 (cj (len_nm _ _) (cj1 ((spec_SlotsSame_l0_ok a b h8 a [] rfl r1 h9).at h10 :)))))))) (fun s2 h11 =>
   Pn.some (Fn.of [.wait 3, .nm 8 (V.sc (.int .i64 (a.length : Int))), .wait 2, .nm 10 (V.sc (.int .i64 (b.length : Int))), .bit false, .wait 1, .nm 13 (V.sc (.int .i64 (a.length : Int))), .wait 2, .mask [1, 12, 13, 14], .ren [], .loop (X.ret) (st 50 [(4, V.sc (.bool false))] [] [])] (p := [V.sc (.int .i64 ((List.map E66 a).length : Int)) = V.sc (.int .i64 (a.length : Int)),
    V.sc (.int .i64 ((List.map E66 b).length : Int)) = V.sc (.int .i64 (b.length : Int)),
    ((a.length : Int) != (b.length : Int)) = false,
    V.sc (.int .i64 ((List.map E66 a).length : Int)) = V.sc (.int .i64 (a.length : Int)),
    Loop Tryz.prog (sub (codeOf Tryz.prog 57) [1, 1, 0, 1, 0, 0]) (st 50 [(1, V.sl false 66 (List.map E66 b)), (12, V.sl false 66 (List.map E66 a)), (13, V.sc (.int .i64 (a.length : Int))), (14, V.sc (.int .i64 0))] [] []) (X.ret) (st 50 [(4, V.sc (.bool false))] [] [])]) (by kernel_rfl) (cj (len_nm _ _) (cj (len_nm _ _) (cj h1 (cj (len_nm _ _) (cj1 ((spec_SlotsSame_l0_ok a b h8 a [] rfl r1 h9).at h11 :)))))))))) (fun h8 =>
   Pn.none))
def spec_AcctSame_l0 (o : Acct) (o_ : Acct) : List Hold → List Hold → Option (Lo Unit Unit)
  | [], p1 =>
   some (.out ())
  | x1 :: t1, p1 =>
   (o_.Holds[(p1.length : Int).toNat]?).bind fun x2 =>
   if ((x1.Id == x2.Id) && ((x1.Amount == x2.Amount) && ((x1.Due == x2.Due) && true))) = true then
   spec_AcctSame_l0 o o_ t1 (p1 ++ [x1])
   else
   some (.ret ())
theorem spec_AcctSame_l0_ok (o : Acct) (o_ : Acct) (h8 : capOk o.Holds.length = true) : ∀ (t1 p1 : List Hold) (_ : o.Holds = p1 ++ t1) , Pn (LpO Tryz.prog (sub (codeOf Tryz.prog 31) [1, 1, 0, 1, 0, 0]) (st 77 [(2, V.ptr 0 0), (3, V.ptr 1 0), (50, V.sl false 61 (List.map E61 o.Holds)), (51, V.sc (.int .i64 (o.Holds.length : Int))), (52, V.sc (.int .i64 (p1.length : Int)))] [Blk.box 28 [V.sc (.string o.Id), V.sc (.int .i64 o.Limit), V.sc (.int .i64 o.Posted), V.sc (.int .i64 o.Most), V.sc (.int .i64 o.MostSum), V.sl false 61 (List.map E61 o.Holds), V.sc (.int .i64 o.Ring.Span), V.sc (.int .i64 o.Ring.Head), V.sl false 3 (List.map E3 o.Ring.Counts), V.sl false 3 (List.map E3 o.Ring.Sums), V.sl false 66 (List.map E66 o.Slots)], Blk.box 28 [V.sc (.string o_.Id), V.sc (.int .i64 o_.Limit), V.sc (.int .i64 o_.Posted), V.sc (.int .i64 o_.Most), V.sc (.int .i64 o_.MostSum), V.sl false 61 (List.map E61 o_.Holds), V.sc (.int .i64 o_.Ring.Span), V.sc (.int .i64 o_.Ring.Head), V.sl false 3 (List.map E3 o_.Ring.Counts), V.sl false 3 (List.map E3 o_.Ring.Sums), V.sl false 66 (List.map E66 o_.Slots)]] []) (fun (y : Lo Unit Unit) => Lo.elim y (fun s => (X.out 0, st 77 [(2, V.ptr 0 0), (3, V.ptr 1 0)] [Blk.box 28 [V.sc (.string o.Id), V.sc (.int .i64 o.Limit), V.sc (.int .i64 o.Posted), V.sc (.int .i64 o.Most), V.sc (.int .i64 o.MostSum), V.sl false 61 (List.map E61 o.Holds), V.sc (.int .i64 o.Ring.Span), V.sc (.int .i64 o.Ring.Head), V.sl false 3 (List.map E3 o.Ring.Counts), V.sl false 3 (List.map E3 o.Ring.Sums), V.sl false 66 (List.map E66 o.Slots)], Blk.box 28 [V.sc (.string o_.Id), V.sc (.int .i64 o_.Limit), V.sc (.int .i64 o_.Posted), V.sc (.int .i64 o_.Most), V.sc (.int .i64 o_.MostSum), V.sl false 61 (List.map E61 o_.Holds), V.sc (.int .i64 o_.Ring.Span), V.sc (.int .i64 o_.Ring.Head), V.sl false 3 (List.map E3 o_.Ring.Counts), V.sl false 3 (List.map E3 o_.Ring.Sums), V.sl false 66 (List.map E66 o_.Slots)]] [])) (fun s => (X.ret, st 77 [(4, V.sc (.bool false))] [] [])))) (spec_AcctSame_l0 o o_ t1 p1)
  | [], p1, h7 => by
    unfold spec_AcctSame_l0
    exact
     Pn.some (LpO.out [.bit false, .mask [2, 3], .ren [0, 1]] (p := [(decide ((p1.length : Int) < (o.Holds.length : Int))) = false]) (by kernel_rfl) (show X.out 0 ≠ X.go from nofun) (cj1 (rng_end h7)))
  | x1 :: t1, p1, h7 => by
    unfold spec_AcctSame_l0
    exact
     Pn.bind (fun x2 h9 =>
     Pn.ite (fun h10 =>
     LpO.go [.bit true, .el (E61 x1), .draw [], .el (E61 x2), .bit false, .wait 2, .mask [2, 3, 50, 51, 52], .ren [0, 1], .nm 52 (V.sc (.int .i64 ((p1 ++ [x1]).length : Int)))] (p := [(decide ((p1.length : Int) < (o.Holds.length : Int))) = true,
      (0 : Int) ≤ (p1.length : Int),
      (List.map E61 o.Holds)[(p1.length : Int).toNat]? = some (E61 x1),
      (0 : Int) ≤ (p1.length : Int),
      (List.map E61 o_.Holds)[(p1.length : Int).toNat]? = some (E61 x2),
      (!((x1.Id == x2.Id) && ((x1.Amount == x2.Amount) && ((x1.Due == x2.Due) && true)))) = false,
      V.sc (.int .i64 (i64 ((p1.length : Int) + 1))) = V.sc (.int .i64 ((p1 ++ [x1]).length : Int))]) (by kernel_rfl) (cj (rng_lt h7) (cj (by omega) (cj (rng_get _ h7) (cj (by omega) (cj (map_get h9) (cj (nf h10) (cj1 (rng_next h7 h8)))))))) (spec_AcctSame_l0_ok o o_ h8 t1 (p1 ++ [x1]) (rng_step h7))) (fun h10 =>
     Pn.some (LpO.out [.bit true, .el (E61 x1), .draw [], .el (E61 x2), .bit true, .wait 1, .mask [4], .ren []] (p := [(decide ((p1.length : Int) < (o.Holds.length : Int))) = true,
      (0 : Int) ≤ (p1.length : Int),
      (List.map E61 o.Holds)[(p1.length : Int).toNat]? = some (E61 x1),
      (0 : Int) ≤ (p1.length : Int),
      (List.map E61 o_.Holds)[(p1.length : Int).toNat]? = some (E61 x2),
      (!((x1.Id == x2.Id) && ((x1.Amount == x2.Amount) && ((x1.Due == x2.Due) && true)))) = true]) (by kernel_rfl) (show X.ret ≠ X.go from nofun) (cj (rng_lt h7) (cj (by omega) (cj (rng_get _ h7) (cj (by omega) (cj (map_get h9) (cj1 (nt h10))))))))))
def spec_AcctSame (o : Acct) (o_ : Acct) : Option (Bool) :=
 if (o.Id == o_.Id) = true then
 if (o.Limit != o_.Limit) = true then
 some false
 else
 if (o.Posted != o_.Posted) = true then
 some false
 else
 if (o.Most != o_.Most) = true then
 some false
 else
 if (o.MostSum != o_.MostSum) = true then
 some false
 else
 if ((o.Holds.length : Int) != (o_.Holds.length : Int)) = true then
 some false
 else
 if (capOk o.Holds.length) = true then
 (spec_AcctSame_l0 o o_ o.Holds []).bind fun r1 =>
 Lo.elim r1 (fun s1 =>
 (spec_l06Same o.Ring o_.Ring).bind fun r2 =>
 if r2 = true then
 (spec_SlotsSame o.Slots o_.Slots).bind fun r3 =>
 some r3
 else
 some false) (fun s2 =>
 some false)
 else none
 else
 some false
theorem spec_AcctSame_ok (o : Acct) (o_ : Acct) : Pn (fun y => Fn Tryz.prog 31 [(false, E28 o), (false, E28 o_)] (E4 y) []) (spec_AcctSame o o_) := by
  unfold spec_AcctSame
  exact
   Pn.ite (fun h1 =>
   Pn.ite (fun h2 =>
   Pn.some (Fn.of [.bit false, .bit false, .bit false, .bit false, .bit false, .bit false, .bit true, .bit true, .bit true, .bit true, .bit true, .bit true, .bit true, .bit true, .bit true, .bit true, .bit true, .bit true, .bit true, .bit true, .bit true, .bit true, .bit true, .bit true, .bit true, .bit true, .bit true, .bit true, .bit true, .bit true, .bit true, .bit true, .bit true] (p := [(!(o.Id == o_.Id)) = false,
    (!(o.Id == o_.Id)) = false,
    (!(o.Id == o_.Id)) = false,
    (!(o.Id == o_.Id)) = false,
    (!(o.Id == o_.Id)) = false,
    (!(o.Id == o_.Id)) = false,
    (o.Limit != o_.Limit) = true,
    (o.Limit != o_.Limit) = true,
    (o.Limit != o_.Limit) = true,
    (o.Limit != o_.Limit) = true,
    (o.Limit != o_.Limit) = true,
    (o.Limit != o_.Limit) = true,
    true = true,
    true = true,
    true = true,
    true = true,
    true = true,
    true = true,
    true = true,
    true = true,
    true = true,
    true = true,
    true = true,
    true = true,
    true = true,
    true = true,
    true = true,
    true = true,
    true = true,
    true = true,
    true = true,
    true = true,
    true = true]) (by kernel_rfl) (cj (nf h1) (cj (nf h1) (cj (nf h1) (cj (nf h1) (cj (nf h1) (cj (nf h1) (cj h2 (cj h2 (cj h2 (cj h2 (cj h2 (cj h2 (cj rfl (cj rfl (cj rfl (cj rfl (cj rfl (cj rfl (cj rfl (cj rfl (cj rfl (cj rfl (cj rfl (cj rfl (cj rfl (cj rfl (cj rfl (cj rfl (cj rfl (cj rfl (cj rfl (cj rfl (cj1 rfl))))))))))))))))))))))))))))))))))) (fun h2 =>
   Pn.ite (fun h3 =>
   Pn.some (Fn.of [.bit false, .bit false, .bit false, .bit false, .bit false, .bit false, .bit false, .bit false, .bit false, .bit false, .bit false, .bit false, .bit true, .bit true, .bit true, .bit true, .bit true, .bit true, .bit true, .bit true, .bit true, .bit true, .bit true, .bit true, .bit true, .bit true, .bit true, .bit true, .bit true, .bit true, .bit true, .bit true, .bit true] (p := [(!(o.Id == o_.Id)) = false,
    (!(o.Id == o_.Id)) = false,
    (!(o.Id == o_.Id)) = false,
    (!(o.Id == o_.Id)) = false,
    (!(o.Id == o_.Id)) = false,
    (!(o.Id == o_.Id)) = false,
    (o.Limit != o_.Limit) = false,
    (o.Limit != o_.Limit) = false,
    (o.Limit != o_.Limit) = false,
    (o.Limit != o_.Limit) = false,
    (o.Limit != o_.Limit) = false,
    (o.Limit != o_.Limit) = false,
    (o.Posted != o_.Posted) = true,
    (o.Posted != o_.Posted) = true,
    (o.Posted != o_.Posted) = true,
    (o.Posted != o_.Posted) = true,
    (o.Posted != o_.Posted) = true,
    (o.Posted != o_.Posted) = true,
    true = true,
    true = true,
    true = true,
    true = true,
    true = true,
    true = true,
    true = true,
    true = true,
    true = true,
    true = true,
    true = true,
    true = true,
    true = true,
    true = true,
    true = true]) (by kernel_rfl) (cj (nf h1) (cj (nf h1) (cj (nf h1) (cj (nf h1) (cj (nf h1) (cj (nf h1) (cj h2 (cj h2 (cj h2 (cj h2 (cj h2 (cj h2 (cj h3 (cj h3 (cj h3 (cj h3 (cj h3 (cj h3 (cj rfl (cj rfl (cj rfl (cj rfl (cj rfl (cj rfl (cj rfl (cj rfl (cj rfl (cj rfl (cj rfl (cj rfl (cj rfl (cj rfl (cj1 rfl))))))))))))))))))))))))))))))))))) (fun h3 =>
   Pn.ite (fun h4 =>
   Pn.some (Fn.of [.bit false, .bit false, .bit false, .bit false, .bit false, .bit false, .bit false, .bit false, .bit false, .bit false, .bit false, .bit false, .bit false, .bit false, .bit false, .bit false, .bit false, .bit false, .bit true, .bit true, .bit true, .bit true, .bit true, .bit true, .bit true, .bit true, .bit true, .bit true, .bit true, .bit true, .bit true, .bit true, .bit true] (p := [(!(o.Id == o_.Id)) = false,
    (!(o.Id == o_.Id)) = false,
    (!(o.Id == o_.Id)) = false,
    (!(o.Id == o_.Id)) = false,
    (!(o.Id == o_.Id)) = false,
    (!(o.Id == o_.Id)) = false,
    (o.Limit != o_.Limit) = false,
    (o.Limit != o_.Limit) = false,
    (o.Limit != o_.Limit) = false,
    (o.Limit != o_.Limit) = false,
    (o.Limit != o_.Limit) = false,
    (o.Limit != o_.Limit) = false,
    (o.Posted != o_.Posted) = false,
    (o.Posted != o_.Posted) = false,
    (o.Posted != o_.Posted) = false,
    (o.Posted != o_.Posted) = false,
    (o.Posted != o_.Posted) = false,
    (o.Posted != o_.Posted) = false,
    (o.Most != o_.Most) = true,
    (o.Most != o_.Most) = true,
    (o.Most != o_.Most) = true,
    (o.Most != o_.Most) = true,
    (o.Most != o_.Most) = true,
    (o.Most != o_.Most) = true,
    true = true,
    true = true,
    true = true,
    true = true,
    true = true,
    true = true,
    true = true,
    true = true,
    true = true]) (by kernel_rfl) (cj (nf h1) (cj (nf h1) (cj (nf h1) (cj (nf h1) (cj (nf h1) (cj (nf h1) (cj h2 (cj h2 (cj h2 (cj h2 (cj h2 (cj h2 (cj h3 (cj h3 (cj h3 (cj h3 (cj h3 (cj h3 (cj h4 (cj h4 (cj h4 (cj h4 (cj h4 (cj h4 (cj rfl (cj rfl (cj rfl (cj rfl (cj rfl (cj rfl (cj rfl (cj rfl (cj1 rfl))))))))))))))))))))))))))))))))))) (fun h4 =>
   Pn.ite (fun h5 =>
   Pn.some (Fn.of [.bit false, .bit false, .bit false, .bit false, .bit false, .bit false, .bit false, .bit false, .bit false, .bit false, .bit false, .bit false, .bit false, .bit false, .bit false, .bit false, .bit false, .bit false, .bit false, .bit false, .bit false, .bit false, .bit false, .bit false, .bit true, .bit true, .bit true, .bit true, .bit true, .bit true, .bit true, .bit true, .bit true] (p := [(!(o.Id == o_.Id)) = false,
    (!(o.Id == o_.Id)) = false,
    (!(o.Id == o_.Id)) = false,
    (!(o.Id == o_.Id)) = false,
    (!(o.Id == o_.Id)) = false,
    (!(o.Id == o_.Id)) = false,
    (o.Limit != o_.Limit) = false,
    (o.Limit != o_.Limit) = false,
    (o.Limit != o_.Limit) = false,
    (o.Limit != o_.Limit) = false,
    (o.Limit != o_.Limit) = false,
    (o.Limit != o_.Limit) = false,
    (o.Posted != o_.Posted) = false,
    (o.Posted != o_.Posted) = false,
    (o.Posted != o_.Posted) = false,
    (o.Posted != o_.Posted) = false,
    (o.Posted != o_.Posted) = false,
    (o.Posted != o_.Posted) = false,
    (o.Most != o_.Most) = false,
    (o.Most != o_.Most) = false,
    (o.Most != o_.Most) = false,
    (o.Most != o_.Most) = false,
    (o.Most != o_.Most) = false,
    (o.Most != o_.Most) = false,
    (o.MostSum != o_.MostSum) = true,
    (o.MostSum != o_.MostSum) = true,
    (o.MostSum != o_.MostSum) = true,
    (o.MostSum != o_.MostSum) = true,
    (o.MostSum != o_.MostSum) = true,
    (o.MostSum != o_.MostSum) = true,
    (o.MostSum != o_.MostSum) = true,
    (o.MostSum != o_.MostSum) = true,
    true = true]) (by kernel_rfl) (cj (nf h1) (cj (nf h1) (cj (nf h1) (cj (nf h1) (cj (nf h1) (cj (nf h1) (cj h2 (cj h2 (cj h2 (cj h2 (cj h2 (cj h2 (cj h3 (cj h3 (cj h3 (cj h3 (cj h3 (cj h3 (cj h4 (cj h4 (cj h4 (cj h4 (cj h4 (cj h4 (cj h5 (cj h5 (cj h5 (cj h5 (cj h5 (cj h5 (cj h5 (cj h5 (cj1 rfl))))))))))))))))))))))))))))))))))) (fun h5 =>
   Pn.ite (fun h6 =>
   Pn.some (Fn.of [.bit false, .bit false, .bit false, .bit false, .bit false, .bit false, .bit false, .bit false, .bit false, .bit false, .bit false, .bit false, .bit false, .bit false, .bit false, .bit false, .bit false, .bit false, .bit false, .bit false, .bit false, .bit false, .bit false, .bit false, .bit false, .bit false, .bit false, .nm 43 (V.sc (.int .i64 (o.Holds.length : Int))), .bit false, .bit false, .bit false, .nm 46 (V.sc (.int .i64 (o_.Holds.length : Int))), .bit false, .bit false, .bit true] (p := [(!(o.Id == o_.Id)) = false,
    (!(o.Id == o_.Id)) = false,
    (!(o.Id == o_.Id)) = false,
    (!(o.Id == o_.Id)) = false,
    (!(o.Id == o_.Id)) = false,
    (!(o.Id == o_.Id)) = false,
    (o.Limit != o_.Limit) = false,
    (o.Limit != o_.Limit) = false,
    (o.Limit != o_.Limit) = false,
    (o.Limit != o_.Limit) = false,
    (o.Limit != o_.Limit) = false,
    (o.Limit != o_.Limit) = false,
    (o.Posted != o_.Posted) = false,
    (o.Posted != o_.Posted) = false,
    (o.Posted != o_.Posted) = false,
    (o.Posted != o_.Posted) = false,
    (o.Posted != o_.Posted) = false,
    (o.Posted != o_.Posted) = false,
    (o.Most != o_.Most) = false,
    (o.Most != o_.Most) = false,
    (o.Most != o_.Most) = false,
    (o.Most != o_.Most) = false,
    (o.Most != o_.Most) = false,
    (o.Most != o_.Most) = false,
    (o.MostSum != o_.MostSum) = false,
    (o.MostSum != o_.MostSum) = false,
    (o.MostSum != o_.MostSum) = false,
    V.sc (.int .i64 ((List.map E61 o.Holds).length : Int)) = V.sc (.int .i64 (o.Holds.length : Int)),
    (o.MostSum != o_.MostSum) = false,
    (o.MostSum != o_.MostSum) = false,
    (o.MostSum != o_.MostSum) = false,
    V.sc (.int .i64 ((List.map E61 o_.Holds).length : Int)) = V.sc (.int .i64 (o_.Holds.length : Int)),
    (o.MostSum != o_.MostSum) = false,
    (o.MostSum != o_.MostSum) = false,
    ((o.Holds.length : Int) != (o_.Holds.length : Int)) = true]) (by kernel_rfl) (cj (nf h1) (cj (nf h1) (cj (nf h1) (cj (nf h1) (cj (nf h1) (cj (nf h1) (cj h2 (cj h2 (cj h2 (cj h2 (cj h2 (cj h2 (cj h3 (cj h3 (cj h3 (cj h3 (cj h3 (cj h3 (cj h4 (cj h4 (cj h4 (cj h4 (cj h4 (cj h4 (cj h5 (cj h5 (cj h5 (cj (len_nm _ _) (cj h5 (cj h5 (cj h5 (cj (len_nm _ _) (cj h5 (cj h5 (cj1 h6))))))))))))))))))))))))))))))))))))) (fun h6 =>
   Pn.ite (fun h11 =>
   Pn.bind (fun r1 h12 =>
   Pn.lo (fun s1 h13 =>
   Pn.bind (fun r2 h15 =>
   Pn.ite (fun h16 =>
   Pn.bind (fun r3 h17 =>
   Pn.some (Fn.of [.bit false, .bit false, .bit false, .bit false, .bit false, .bit false, .bit false, .bit false, .bit false, .bit false, .bit false, .bit false, .bit false, .bit false, .bit false, .bit false, .bit false, .bit false, .bit false, .bit false, .bit false, .bit false, .bit false, .bit false, .bit false, .bit false, .bit false, .nm 43 (V.sc (.int .i64 (o.Holds.length : Int))), .bit false, .bit false, .bit false, .nm 46 (V.sc (.int .i64 (o_.Holds.length : Int))), .bit false, .bit false, .bit false, .wait 2, .nm 51 (V.sc (.int .i64 (o.Holds.length : Int))), .wait 2, .mask [2, 3, 50, 51, 52], .ren [0, 1], .loop (X.out 0) (st 77 [(2, V.ptr 0 0), (3, V.ptr 1 0)] [Blk.box 28 [V.sc (.string o.Id), V.sc (.int .i64 o.Limit), V.sc (.int .i64 o.Posted), V.sc (.int .i64 o.Most), V.sc (.int .i64 o.MostSum), V.sl false 61 (List.map E61 o.Holds), V.sc (.int .i64 o.Ring.Span), V.sc (.int .i64 o.Ring.Head), V.sl false 3 (List.map E3 o.Ring.Counts), V.sl false 3 (List.map E3 o.Ring.Sums), V.sl false 66 (List.map E66 o.Slots)], Blk.box 28 [V.sc (.string o_.Id), V.sc (.int .i64 o_.Limit), V.sc (.int .i64 o_.Posted), V.sc (.int .i64 o_.Most), V.sc (.int .i64 o_.MostSum), V.sl false 61 (List.map E61 o_.Holds), V.sc (.int .i64 o_.Ring.Span), V.sc (.int .i64 o_.Ring.Head), V.sl false 3 (List.map E3 o_.Ring.Counts), V.sl false 3 (List.map E3 o_.Ring.Sums), V.sl false 66 (List.map E66 o_.Slots)]] []), .call [] (E4 r2) [], .bit true, .bit true, .bit true, .bit true, .bit true, .call [] (E4 r3) [], .bit true] (p := [(!(o.Id == o_.Id)) = false,
    (!(o.Id == o_.Id)) = false,
    (!(o.Id == o_.Id)) = false,
    (!(o.Id == o_.Id)) = false,
    (!(o.Id == o_.Id)) = false,
    (!(o.Id == o_.Id)) = false,
    (o.Limit != o_.Limit) = false,
    (o.Limit != o_.Limit) = false,
    (o.Limit != o_.Limit) = false,
    (o.Limit != o_.Limit) = false,
    (o.Limit != o_.Limit) = false,
    (o.Limit != o_.Limit) = false,
    (o.Posted != o_.Posted) = false,
    (o.Posted != o_.Posted) = false,
    (o.Posted != o_.Posted) = false,
    (o.Posted != o_.Posted) = false,
    (o.Posted != o_.Posted) = false,
    (o.Posted != o_.Posted) = false,
    (o.Most != o_.Most) = false,
    (o.Most != o_.Most) = false,
    (o.Most != o_.Most) = false,
    (o.Most != o_.Most) = false,
    (o.Most != o_.Most) = false,
    (o.Most != o_.Most) = false,
    (o.MostSum != o_.MostSum) = false,
    (o.MostSum != o_.MostSum) = false,
    (o.MostSum != o_.MostSum) = false,
    V.sc (.int .i64 ((List.map E61 o.Holds).length : Int)) = V.sc (.int .i64 (o.Holds.length : Int)),
    (o.MostSum != o_.MostSum) = false,
    (o.MostSum != o_.MostSum) = false,
    (o.MostSum != o_.MostSum) = false,
    V.sc (.int .i64 ((List.map E61 o_.Holds).length : Int)) = V.sc (.int .i64 (o_.Holds.length : Int)),
    (o.MostSum != o_.MostSum) = false,
    (o.MostSum != o_.MostSum) = false,
    ((o.Holds.length : Int) != (o_.Holds.length : Int)) = false,
    V.sc (.int .i64 ((List.map E61 o.Holds).length : Int)) = V.sc (.int .i64 (o.Holds.length : Int)),
    Loop Tryz.prog (sub (codeOf Tryz.prog 31) [1, 1, 0, 1, 0, 0]) (st 77 [(2, V.ptr 0 0), (3, V.ptr 1 0), (50, V.sl false 61 (List.map E61 o.Holds)), (51, V.sc (.int .i64 (o.Holds.length : Int))), (52, V.sc (.int .i64 0))] [Blk.box 28 [V.sc (.string o.Id), V.sc (.int .i64 o.Limit), V.sc (.int .i64 o.Posted), V.sc (.int .i64 o.Most), V.sc (.int .i64 o.MostSum), V.sl false 61 (List.map E61 o.Holds), V.sc (.int .i64 o.Ring.Span), V.sc (.int .i64 o.Ring.Head), V.sl false 3 (List.map E3 o.Ring.Counts), V.sl false 3 (List.map E3 o.Ring.Sums), V.sl false 66 (List.map E66 o.Slots)], Blk.box 28 [V.sc (.string o_.Id), V.sc (.int .i64 o_.Limit), V.sc (.int .i64 o_.Posted), V.sc (.int .i64 o_.Most), V.sc (.int .i64 o_.MostSum), V.sl false 61 (List.map E61 o_.Holds), V.sc (.int .i64 o_.Ring.Span), V.sc (.int .i64 o_.Ring.Head), V.sl false 3 (List.map E3 o_.Ring.Counts), V.sl false 3 (List.map E3 o_.Ring.Sums), V.sl false 66 (List.map E66 o_.Slots)]] []) (X.out 0) (st 77 [(2, V.ptr 0 0), (3, V.ptr 1 0)] [Blk.box 28 [V.sc (.string o.Id), V.sc (.int .i64 o.Limit), V.sc (.int .i64 o.Posted), V.sc (.int .i64 o.Most), V.sc (.int .i64 o.MostSum), V.sl false 61 (List.map E61 o.Holds), V.sc (.int .i64 o.Ring.Span), V.sc (.int .i64 o.Ring.Head), V.sl false 3 (List.map E3 o.Ring.Counts), V.sl false 3 (List.map E3 o.Ring.Sums), V.sl false 66 (List.map E66 o.Slots)], Blk.box 28 [V.sc (.string o_.Id), V.sc (.int .i64 o_.Limit), V.sc (.int .i64 o_.Posted), V.sc (.int .i64 o_.Most), V.sc (.int .i64 o_.MostSum), V.sl false 61 (List.map E61 o_.Holds), V.sc (.int .i64 o_.Ring.Span), V.sc (.int .i64 o_.Ring.Head), V.sl false 3 (List.map E3 o_.Ring.Counts), V.sl false 3 (List.map E3 o_.Ring.Sums), V.sl false 66 (List.map E66 o_.Slots)]] []),
    Fn Tryz.prog 56 [(false, E25 o.Ring), (false, E25 o_.Ring)] (E4 r2) [],
    (true || ((E4 r2).nv && nvL [])) = true,
    r2 = true,
    r2 = true,
    r2 = true,
    r2 = true,
    r2 = true,
    Fn Tryz.prog 57 [(false, E26 o.Slots), (false, E26 o_.Slots)] (E4 r3) [],
    (true || ((E4 r3).nv && nvL [])) = true,
    r2 = true]) (by kernel_rfl) (cj (nf h1) (cj (nf h1) (cj (nf h1) (cj (nf h1) (cj (nf h1) (cj (nf h1) (cj h2 (cj h2 (cj h2 (cj h2 (cj h2 (cj h2 (cj h3 (cj h3 (cj h3 (cj h3 (cj h3 (cj h3 (cj h4 (cj h4 (cj h4 (cj h4 (cj h4 (cj h4 (cj h5 (cj h5 (cj h5 (cj (len_nm _ _) (cj h5 (cj h5 (cj h5 (cj (len_nm _ _) (cj h5 (cj h5 (cj h6 (cj (len_nm _ _) (cj ((spec_AcctSame_l0_ok o o_ h11 o.Holds [] rfl r1 h12).at h13 :) (cj (spec_l06Same_ok o.Ring o_.Ring r2 h15) (cj rfl (cj h16 (cj h16 (cj h16 (cj h16 (cj h16 (cj (spec_SlotsSame_ok o.Slots o_.Slots r3 h17) (cj rfl (cj1 h16)))))))))))))))))))))))))))))))))))))))))))))))))) (fun h16 =>
   Pn.some (Fn.of [.bit false, .bit false, .bit false, .bit false, .bit false, .bit false, .bit false, .bit false, .bit false, .bit false, .bit false, .bit false, .bit false, .bit false, .bit false, .bit false, .bit false, .bit false, .bit false, .bit false, .bit false, .bit false, .bit false, .bit false, .bit false, .bit false, .bit false, .nm 43 (V.sc (.int .i64 (o.Holds.length : Int))), .bit false, .bit false, .bit false, .nm 46 (V.sc (.int .i64 (o_.Holds.length : Int))), .bit false, .bit false, .bit false, .wait 2, .nm 51 (V.sc (.int .i64 (o.Holds.length : Int))), .wait 2, .mask [2, 3, 50, 51, 52], .ren [0, 1], .loop (X.out 0) (st 77 [(2, V.ptr 0 0), (3, V.ptr 1 0)] [Blk.box 28 [V.sc (.string o.Id), V.sc (.int .i64 o.Limit), V.sc (.int .i64 o.Posted), V.sc (.int .i64 o.Most), V.sc (.int .i64 o.MostSum), V.sl false 61 (List.map E61 o.Holds), V.sc (.int .i64 o.Ring.Span), V.sc (.int .i64 o.Ring.Head), V.sl false 3 (List.map E3 o.Ring.Counts), V.sl false 3 (List.map E3 o.Ring.Sums), V.sl false 66 (List.map E66 o.Slots)], Blk.box 28 [V.sc (.string o_.Id), V.sc (.int .i64 o_.Limit), V.sc (.int .i64 o_.Posted), V.sc (.int .i64 o_.Most), V.sc (.int .i64 o_.MostSum), V.sl false 61 (List.map E61 o_.Holds), V.sc (.int .i64 o_.Ring.Span), V.sc (.int .i64 o_.Ring.Head), V.sl false 3 (List.map E3 o_.Ring.Counts), V.sl false 3 (List.map E3 o_.Ring.Sums), V.sl false 66 (List.map E66 o_.Slots)]] []), .call [] (E4 r2) [], .bit false, .bit false, .bit false, .bit false, .bit false, .bit false] (p := [(!(o.Id == o_.Id)) = false,
    (!(o.Id == o_.Id)) = false,
    (!(o.Id == o_.Id)) = false,
    (!(o.Id == o_.Id)) = false,
    (!(o.Id == o_.Id)) = false,
    (!(o.Id == o_.Id)) = false,
    (o.Limit != o_.Limit) = false,
    (o.Limit != o_.Limit) = false,
    (o.Limit != o_.Limit) = false,
    (o.Limit != o_.Limit) = false,
    (o.Limit != o_.Limit) = false,
    (o.Limit != o_.Limit) = false,
    (o.Posted != o_.Posted) = false,
    (o.Posted != o_.Posted) = false,
    (o.Posted != o_.Posted) = false,
    (o.Posted != o_.Posted) = false,
    (o.Posted != o_.Posted) = false,
    (o.Posted != o_.Posted) = false,
    (o.Most != o_.Most) = false,
    (o.Most != o_.Most) = false,
    (o.Most != o_.Most) = false,
    (o.Most != o_.Most) = false,
    (o.Most != o_.Most) = false,
    (o.Most != o_.Most) = false,
    (o.MostSum != o_.MostSum) = false,
    (o.MostSum != o_.MostSum) = false,
    (o.MostSum != o_.MostSum) = false,
    V.sc (.int .i64 ((List.map E61 o.Holds).length : Int)) = V.sc (.int .i64 (o.Holds.length : Int)),
    (o.MostSum != o_.MostSum) = false,
    (o.MostSum != o_.MostSum) = false,
    (o.MostSum != o_.MostSum) = false,
    V.sc (.int .i64 ((List.map E61 o_.Holds).length : Int)) = V.sc (.int .i64 (o_.Holds.length : Int)),
    (o.MostSum != o_.MostSum) = false,
    (o.MostSum != o_.MostSum) = false,
    ((o.Holds.length : Int) != (o_.Holds.length : Int)) = false,
    V.sc (.int .i64 ((List.map E61 o.Holds).length : Int)) = V.sc (.int .i64 (o.Holds.length : Int)),
    Loop Tryz.prog (sub (codeOf Tryz.prog 31) [1, 1, 0, 1, 0, 0]) (st 77 [(2, V.ptr 0 0), (3, V.ptr 1 0), (50, V.sl false 61 (List.map E61 o.Holds)), (51, V.sc (.int .i64 (o.Holds.length : Int))), (52, V.sc (.int .i64 0))] [Blk.box 28 [V.sc (.string o.Id), V.sc (.int .i64 o.Limit), V.sc (.int .i64 o.Posted), V.sc (.int .i64 o.Most), V.sc (.int .i64 o.MostSum), V.sl false 61 (List.map E61 o.Holds), V.sc (.int .i64 o.Ring.Span), V.sc (.int .i64 o.Ring.Head), V.sl false 3 (List.map E3 o.Ring.Counts), V.sl false 3 (List.map E3 o.Ring.Sums), V.sl false 66 (List.map E66 o.Slots)], Blk.box 28 [V.sc (.string o_.Id), V.sc (.int .i64 o_.Limit), V.sc (.int .i64 o_.Posted), V.sc (.int .i64 o_.Most), V.sc (.int .i64 o_.MostSum), V.sl false 61 (List.map E61 o_.Holds), V.sc (.int .i64 o_.Ring.Span), V.sc (.int .i64 o_.Ring.Head), V.sl false 3 (List.map E3 o_.Ring.Counts), V.sl false 3 (List.map E3 o_.Ring.Sums), V.sl false 66 (List.map E66 o_.Slots)]] []) (X.out 0) (st 77 [(2, V.ptr 0 0), (3, V.ptr 1 0)] [Blk.box 28 [V.sc (.string o.Id), V.sc (.int .i64 o.Limit), V.sc (.int .i64 o.Posted), V.sc (.int .i64 o.Most), V.sc (.int .i64 o.MostSum), V.sl false 61 (List.map E61 o.Holds), V.sc (.int .i64 o.Ring.Span), V.sc (.int .i64 o.Ring.Head), V.sl false 3 (List.map E3 o.Ring.Counts), V.sl false 3 (List.map E3 o.Ring.Sums), V.sl false 66 (List.map E66 o.Slots)], Blk.box 28 [V.sc (.string o_.Id), V.sc (.int .i64 o_.Limit), V.sc (.int .i64 o_.Posted), V.sc (.int .i64 o_.Most), V.sc (.int .i64 o_.MostSum), V.sl false 61 (List.map E61 o_.Holds), V.sc (.int .i64 o_.Ring.Span), V.sc (.int .i64 o_.Ring.Head), V.sl false 3 (List.map E3 o_.Ring.Counts), V.sl false 3 (List.map E3 o_.Ring.Sums), V.sl false 66 (List.map E66 o_.Slots)]] []),
    Fn Tryz.prog 56 [(false, E25 o.Ring), (false, E25 o_.Ring)] (E4 r2) [],
    (true || ((E4 r2).nv && nvL [])) = true,
    r2 = false,
    r2 = false,
    r2 = false,
    r2 = false,
    r2 = false,
    r2 = false]) (by kernel_rfl) (cj (nf h1) (cj (nf h1) (cj (nf h1) (cj (nf h1) (cj (nf h1) (cj (nf h1) (cj h2 (cj h2 (cj h2 (cj h2 (cj h2 (cj h2 (cj h3 (cj h3 (cj h3 (cj h3 (cj h3 (cj h3 (cj h4 (cj h4 (cj h4 (cj h4 (cj h4 (cj h4 (cj h5 (cj h5 (cj h5 (cj (len_nm _ _) (cj h5 (cj h5 (cj h5 (cj (len_nm _ _) (cj h5 (cj h5 (cj h6 (cj (len_nm _ _) (cj ((spec_AcctSame_l0_ok o o_ h11 o.Holds [] rfl r1 h12).at h13 :) (cj (spec_l06Same_ok o.Ring o_.Ring r2 h15) (cj rfl (cj h16 (cj h16 (cj h16 (cj h16 (cj h16 (cj1 h16))))))))))))))))))))))))))))))))))))))))))))))))) (fun s2 h14 =>
   Pn.some (Fn.of [.bit false, .bit false, .bit false, .bit false, .bit false, .bit false, .bit false, .bit false, .bit false, .bit false, .bit false, .bit false, .bit false, .bit false, .bit false, .bit false, .bit false, .bit false, .bit false, .bit false, .bit false, .bit false, .bit false, .bit false, .bit false, .bit false, .bit false, .nm 43 (V.sc (.int .i64 (o.Holds.length : Int))), .bit false, .bit false, .bit false, .nm 46 (V.sc (.int .i64 (o_.Holds.length : Int))), .bit false, .bit false, .bit false, .wait 2, .nm 51 (V.sc (.int .i64 (o.Holds.length : Int))), .wait 2, .mask [2, 3, 50, 51, 52], .ren [0, 1], .loop (X.ret) (st 77 [(4, V.sc (.bool false))] [] [])] (p := [(!(o.Id == o_.Id)) = false,
    (!(o.Id == o_.Id)) = false,
    (!(o.Id == o_.Id)) = false,
    (!(o.Id == o_.Id)) = false,
    (!(o.Id == o_.Id)) = false,
    (!(o.Id == o_.Id)) = false,
    (o.Limit != o_.Limit) = false,
    (o.Limit != o_.Limit) = false,
    (o.Limit != o_.Limit) = false,
    (o.Limit != o_.Limit) = false,
    (o.Limit != o_.Limit) = false,
    (o.Limit != o_.Limit) = false,
    (o.Posted != o_.Posted) = false,
    (o.Posted != o_.Posted) = false,
    (o.Posted != o_.Posted) = false,
    (o.Posted != o_.Posted) = false,
    (o.Posted != o_.Posted) = false,
    (o.Posted != o_.Posted) = false,
    (o.Most != o_.Most) = false,
    (o.Most != o_.Most) = false,
    (o.Most != o_.Most) = false,
    (o.Most != o_.Most) = false,
    (o.Most != o_.Most) = false,
    (o.Most != o_.Most) = false,
    (o.MostSum != o_.MostSum) = false,
    (o.MostSum != o_.MostSum) = false,
    (o.MostSum != o_.MostSum) = false,
    V.sc (.int .i64 ((List.map E61 o.Holds).length : Int)) = V.sc (.int .i64 (o.Holds.length : Int)),
    (o.MostSum != o_.MostSum) = false,
    (o.MostSum != o_.MostSum) = false,
    (o.MostSum != o_.MostSum) = false,
    V.sc (.int .i64 ((List.map E61 o_.Holds).length : Int)) = V.sc (.int .i64 (o_.Holds.length : Int)),
    (o.MostSum != o_.MostSum) = false,
    (o.MostSum != o_.MostSum) = false,
    ((o.Holds.length : Int) != (o_.Holds.length : Int)) = false,
    V.sc (.int .i64 ((List.map E61 o.Holds).length : Int)) = V.sc (.int .i64 (o.Holds.length : Int)),
    Loop Tryz.prog (sub (codeOf Tryz.prog 31) [1, 1, 0, 1, 0, 0]) (st 77 [(2, V.ptr 0 0), (3, V.ptr 1 0), (50, V.sl false 61 (List.map E61 o.Holds)), (51, V.sc (.int .i64 (o.Holds.length : Int))), (52, V.sc (.int .i64 0))] [Blk.box 28 [V.sc (.string o.Id), V.sc (.int .i64 o.Limit), V.sc (.int .i64 o.Posted), V.sc (.int .i64 o.Most), V.sc (.int .i64 o.MostSum), V.sl false 61 (List.map E61 o.Holds), V.sc (.int .i64 o.Ring.Span), V.sc (.int .i64 o.Ring.Head), V.sl false 3 (List.map E3 o.Ring.Counts), V.sl false 3 (List.map E3 o.Ring.Sums), V.sl false 66 (List.map E66 o.Slots)], Blk.box 28 [V.sc (.string o_.Id), V.sc (.int .i64 o_.Limit), V.sc (.int .i64 o_.Posted), V.sc (.int .i64 o_.Most), V.sc (.int .i64 o_.MostSum), V.sl false 61 (List.map E61 o_.Holds), V.sc (.int .i64 o_.Ring.Span), V.sc (.int .i64 o_.Ring.Head), V.sl false 3 (List.map E3 o_.Ring.Counts), V.sl false 3 (List.map E3 o_.Ring.Sums), V.sl false 66 (List.map E66 o_.Slots)]] []) (X.ret) (st 77 [(4, V.sc (.bool false))] [] [])]) (by kernel_rfl) (cj (nf h1) (cj (nf h1) (cj (nf h1) (cj (nf h1) (cj (nf h1) (cj (nf h1) (cj h2 (cj h2 (cj h2 (cj h2 (cj h2 (cj h2 (cj h3 (cj h3 (cj h3 (cj h3 (cj h3 (cj h3 (cj h4 (cj h4 (cj h4 (cj h4 (cj h4 (cj h4 (cj h5 (cj h5 (cj h5 (cj (len_nm _ _) (cj h5 (cj h5 (cj h5 (cj (len_nm _ _) (cj h5 (cj h5 (cj h6 (cj (len_nm _ _) (cj1 ((spec_AcctSame_l0_ok o o_ h11 o.Holds [] rfl r1 h12).at h14 :)))))))))))))))))))))))))))))))))))))))))) (fun h11 =>
   Pn.none))))))) (fun h1 =>
   Pn.some (Fn.of [.bit true, .bit true, .bit true, .bit true, .bit true, .bit true, .bit true, .bit true, .bit true, .bit true, .bit true, .bit true, .bit true, .bit true, .bit true, .bit true, .bit true, .bit true, .bit true, .bit true, .bit true, .bit true, .bit true, .bit true, .bit true, .bit true, .bit true, .bit true, .bit true, .bit true, .bit true, .bit true, .bit true] (p := [(!(o.Id == o_.Id)) = true,
    (!(o.Id == o_.Id)) = true,
    (!(o.Id == o_.Id)) = true,
    (!(o.Id == o_.Id)) = true,
    (!(o.Id == o_.Id)) = true,
    (!(o.Id == o_.Id)) = true,
    true = true,
    true = true,
    true = true,
    true = true,
    true = true,
    true = true,
    true = true,
    true = true,
    true = true,
    true = true,
    true = true,
    true = true,
    true = true,
    true = true,
    true = true,
    true = true,
    true = true,
    true = true,
    true = true,
    true = true,
    true = true,
    true = true,
    true = true,
    true = true,
    true = true,
    true = true,
    true = true]) (by kernel_rfl) (cj (nt h1) (cj (nt h1) (cj (nt h1) (cj (nt h1) (cj (nt h1) (cj (nt h1) (cj rfl (cj rfl (cj rfl (cj rfl (cj rfl (cj rfl (cj rfl (cj rfl (cj rfl (cj rfl (cj rfl (cj rfl (cj rfl (cj rfl (cj rfl (cj rfl (cj rfl (cj rfl (cj rfl (cj rfl (cj rfl (cj rfl (cj rfl (cj rfl (cj rfl (cj rfl (cj1 rfl)))))))))))))))))))))))))))))))))))
def spec_SetupText_l0 (a : Acct) : Nat → ByteArray → Int → Option (ByteArray)
  | 0, _, _ => none
  | fuel + 1, v3, v4 =>
   if (decide (v4 < 5)) = true then
   if (decide (0 ≤ v4)) = true then
   ([a.Limit, a.Most, a.MostSum, (a.Ring.Counts.length : Int), a.Ring.Span][v4.toNat]?).bind fun x1 =>
   if (decide (v3.size + (bs [32]).size ≤ 9223372036854775807)) = true then
   (spec_NumText x1).bind fun r3 =>
   if (decide ((v3 ++ (bs [32])).size + r3.size ≤ 9223372036854775807)) = true then
   spec_SetupText_l0 a fuel ((v3 ++ (bs [32])) ++ r3) (i64 (v4 + 1))
   else none
   else none
   else none
   else
   some v3
theorem spec_SetupText_l0_ok (a : Acct) : ∀ (fuel : Nat) (v3 : ByteArray) (v4 : Int), Pn (LpO Tryz.prog (sub (codeOf Tryz.prog 12) [1, 1, 1, 1, 0, 1, 0, 0]) (st 64 [(5, V.sc (.string v3)), (51, V.ow 0), (52, V.sc (.int .i64 5)), (53, V.sc (.int .i64 v4))] [Blk.row 3 (List.map E3 [a.Limit, a.Most, a.MostSum, (a.Ring.Counts.length : Int), a.Ring.Span]) []] []) (fun (y : ByteArray) => (X.out 0, st 64 [(5, V.sc (.string y))] [] []))) (spec_SetupText_l0 a fuel v3 v4)
  | 0, _, _ => Pn.none
  | fuel + 1, v3, v4 => by
    unfold spec_SetupText_l0
    exact
     Pn.ite (fun h8 =>
     Pn.ite (fun h9 =>
     Pn.bind (fun x1 h10 =>
     Pn.ite (fun h11 =>
     Pn.bind (fun r3 h12 =>
     Pn.ite (fun h13 =>
     LpO.go [.bit true, .el (E3 x1), .call [] (E9 r3) [], .wait 5, .mask [5, 51, 52, 53], .ren [0]] (p := [(decide (v4 < 5)) = true,
      (0 : Int) ≤ v4,
      (v4 : Int) < ((List.map E3 [a.Limit, a.Most, a.MostSum, (a.Ring.Counts.length : Int), a.Ring.Span]).length : Int),
      look [] v4.toNat = none,
      (List.map E3 [a.Limit, a.Most, a.MostSum, (a.Ring.Counts.length : Int), a.Ring.Span])[v4.toNat]? = some (E3 x1),
      v3.size + (bs [32]).size ≤ 9223372036854775807,
      Fn Tryz.prog 28 [(false, E3 x1)] (E9 r3) [],
      (true || ((E9 r3).nv && nvL [])) = true,
      (v3 ++ (bs [32])).size + r3.size ≤ 9223372036854775807]) (by kernel_rfl) (cj h8 (cj (od h9) (cj (map_ltN (od h9) h10) (cj rfl (cj (map_get h10) (cj (od h11) (cj (spec_NumText_ok x1 r3 h12) (cj rfl (cj1 (od h13)))))))))) (spec_SetupText_l0_ok a fuel ((v3 ++ (bs [32])) ++ r3) (i64 (v4 + 1)))) (fun h13 =>
     Pn.none))) (fun h11 =>
     Pn.none))) (fun h9 =>
     Pn.none)) (fun h8 =>
     Pn.some (LpO.out [.bit false, .mask [5], .ren []] (p := [(decide (v4 < 5)) = false]) (by kernel_rfl) (show X.out 0 ≠ X.go from nofun) (cj1 h8)))
def spec_SetupText (a : Acct) : Option (ByteArray) :=
 (spec_AcctNew a.Id a.Limit a.Most a.MostSum (a.Ring.Counts.length : Int) a.Ring.Span).bind fun r1 =>
 if r1.2 = true then
 (spec_AcctSame a r1.1).bind fun r2 =>
 if r2 = true then
 if (decide ((bs [97, 99, 99, 111, 117, 110, 116, 32]).size + a.Id.size ≤ 9223372036854775807)) = true then
 (spec_SetupText_l0 a FUEL ((bs [97, 99, 99, 111, 117, 110, 116, 32]) ++ a.Id) 0).bind fun r4 =>
 some r4
 else none
 else
 some (bs [])
 else
 some (bs [])
theorem spec_SetupText_ok (a : Acct) : Pn (fun y => Fn Tryz.prog 12 [(false, E28 a)] (E9 y) []) (spec_SetupText a) := by
  unfold spec_SetupText
  exact
   Pn.bind (fun r1 h1 =>
   Pn.ite (fun h2 =>
   Pn.bind (fun r2 h3 =>
   Pn.ite (fun h4 =>
   Pn.ite (fun h5 =>
   Pn.bind (fun r4 h14 =>
   Pn.some (Fn.of [.wait 14, .nm 20 (V.sc (.int .i64 (a.Ring.Counts.length : Int))), .call [] (V.tup [E28 r1.1, E4 r1.2]) [], .bit false, .bit false, .bit false, .call [] (E4 r2) [], .bit false, .bit false, .bit false, .wait 13, .nm 47 (V.sc (.int .i64 (a.Ring.Counts.length : Int))), .wait 7, .mask [5, 51, 52, 53], .ren [6], .nb 0 (.row 3 (List.map E3 [a.Limit, a.Most, a.MostSum, (a.Ring.Counts.length : Int), a.Ring.Span]) []), .mask [5, 51, 52, 53], .ren [0], .loop (X.out 0) (st 64 [(5, V.sc (.string r4))] [] [])] (p := [V.sc (.int .i64 ((List.map E3 a.Ring.Counts).length : Int)) = V.sc (.int .i64 (a.Ring.Counts.length : Int)),
    Fn Tryz.prog 11 [(false, E9 a.Id), (false, E3 a.Limit), (false, E3 a.Most), (false, E3 a.MostSum), (false, E3 (a.Ring.Counts.length : Int)), (false, E3 a.Ring.Span)] (V.tup [E28 r1.1, E4 r1.2]) [],
    (true || ((V.tup [E28 r1.1, E4 r1.2]).nv && nvL [])) = true,
    (!r1.2) = false,
    (!r1.2) = false,
    (!r1.2) = false,
    Fn Tryz.prog 31 [(false, E28 a), (false, E28 r1.1)] (E4 r2) [],
    (false || ((E4 r2).nv && nvL [])) = true,
    (!r1.2) = false,
    (!r1.2) = false,
    (!r2) = false,
    (bs [97, 99, 99, 111, 117, 110, 116, 32]).size + a.Id.size ≤ 9223372036854775807,
    V.sc (.int .i64 ((List.map E3 a.Ring.Counts).length : Int)) = V.sc (.int .i64 (a.Ring.Counts.length : Int)),
    Blk.row 3 [V.sc (.int .i64 a.Limit), V.sc (.int .i64 a.Most), V.sc (.int .i64 a.MostSum), V.sc (.int .i64 (a.Ring.Counts.length : Int)), V.sc (.int .i64 a.Ring.Span)] [] = Blk.row 3 (List.map E3 [a.Limit, a.Most, a.MostSum, (a.Ring.Counts.length : Int), a.Ring.Span]) [],
    Loop Tryz.prog (sub (codeOf Tryz.prog 12) [1, 1, 1, 1, 0, 1, 0, 0]) (st 64 [(5, V.sc (.string ((bs [97, 99, 99, 111, 117, 110, 116, 32]) ++ a.Id))), (51, V.ow 0), (52, V.sc (.int .i64 5)), (53, V.sc (.int .i64 0))] [Blk.row 3 (List.map E3 [a.Limit, a.Most, a.MostSum, (a.Ring.Counts.length : Int), a.Ring.Span]) []] []) (X.out 0) (st 64 [(5, V.sc (.string r4))] [] [])]) (by kernel_rfl) (cj (len_nm _ _) (cj (spec_AcctNew_ok a.Id a.Limit a.Most a.MostSum (a.Ring.Counts.length : Int) a.Ring.Span r1 h1) (cj rfl (cj (nf h2) (cj (nf h2) (cj (nf h2) (cj (spec_AcctSame_ok a r1.1 r2 h3) (cj (by simp [V.nv, nvL, nvL_all, nv_E4]) (cj (nf h2) (cj (nf h2) (cj (nf h4) (cj (od h5) (cj (len_nm _ _) (cj rfl (cj1 (spec_SetupText_l0_ok a FUEL ((bs [97, 99, 99, 111, 117, 110, 116, 32]) ++ a.Id) 0 r4 h14))))))))))))))))))) (fun h5 =>
   Pn.none)) (fun h4 =>
   Pn.some (Fn.of [.wait 14, .nm 20 (V.sc (.int .i64 (a.Ring.Counts.length : Int))), .call [] (V.tup [E28 r1.1, E4 r1.2]) [], .bit false, .bit false, .bit false, .call [] (E4 r2) [], .bit false, .bit false, .bit true] (p := [V.sc (.int .i64 ((List.map E3 a.Ring.Counts).length : Int)) = V.sc (.int .i64 (a.Ring.Counts.length : Int)),
    Fn Tryz.prog 11 [(false, E9 a.Id), (false, E3 a.Limit), (false, E3 a.Most), (false, E3 a.MostSum), (false, E3 (a.Ring.Counts.length : Int)), (false, E3 a.Ring.Span)] (V.tup [E28 r1.1, E4 r1.2]) [],
    (true || ((V.tup [E28 r1.1, E4 r1.2]).nv && nvL [])) = true,
    (!r1.2) = false,
    (!r1.2) = false,
    (!r1.2) = false,
    Fn Tryz.prog 31 [(false, E28 a), (false, E28 r1.1)] (E4 r2) [],
    (false || ((E4 r2).nv && nvL [])) = true,
    (!r1.2) = false,
    (!r1.2) = false,
    (!r2) = true]) (by kernel_rfl) (cj (len_nm _ _) (cj (spec_AcctNew_ok a.Id a.Limit a.Most a.MostSum (a.Ring.Counts.length : Int) a.Ring.Span r1 h1) (cj rfl (cj (nf h2) (cj (nf h2) (cj (nf h2) (cj (spec_AcctSame_ok a r1.1 r2 h3) (cj (by simp [V.nv, nvL, nvL_all, nv_E4]) (cj (nf h2) (cj (nf h2) (cj1 (nt h4)))))))))))))))) (fun h2 =>
   Pn.some (Fn.of [.wait 14, .nm 20 (V.sc (.int .i64 (a.Ring.Counts.length : Int))), .call [] (V.tup [E28 r1.1, E4 r1.2]) [], .bit true, .bit true, .bit true, .bit true, .bit true, .bit true] (p := [V.sc (.int .i64 ((List.map E3 a.Ring.Counts).length : Int)) = V.sc (.int .i64 (a.Ring.Counts.length : Int)),
    Fn Tryz.prog 11 [(false, E9 a.Id), (false, E3 a.Limit), (false, E3 a.Most), (false, E3 a.MostSum), (false, E3 (a.Ring.Counts.length : Int)), (false, E3 a.Ring.Span)] (V.tup [E28 r1.1, E4 r1.2]) [],
    (true || ((V.tup [E28 r1.1, E4 r1.2]).nv && nvL [])) = true,
    (!r1.2) = true,
    (!r1.2) = true,
    (!r1.2) = true,
    (!r1.2) = true,
    (!r1.2) = true,
    true = true]) (by kernel_rfl) (cj (len_nm _ _) (cj (spec_AcctNew_ok a.Id a.Limit a.Most a.MostSum (a.Ring.Counts.length : Int) a.Ring.Span r1 h1) (cj rfl (cj (nt h2) (cj (nt h2) (cj (nt h2) (cj (nt h2) (cj (nt h2) (cj1 rfl))))))))))))
def spec_TextSetup_s1 (o : ByteArray) (r4 : Acct × Bool) (x2 : ByteArray) (x3 : Int) (x4 : Int) (x5 : Int) (x6 : Int) (x7 : Int) (r1 : (List ByteArray)) (r3 : (List Int)) : St := st 68 [(0, V.sc (.string o)), (2, V.ptr 0 0), (4, V.ow 1), (5, V.ow 2), (10, V.ptr 3 0), (11, V.sc (.bool r4.2)), (36, V.tup [V.agg [V.sc (.string r4.1.Id), V.sc (.int .i64 r4.1.Limit), V.sc (.int .i64 r4.1.Posted), V.sc (.int .i64 r4.1.Most), V.sc (.int .i64 r4.1.MostSum), V.ow 4, V.sc (.int .i64 r4.1.Ring.Span), V.sc (.int .i64 r4.1.Ring.Head), V.ow 5, V.ow 6, V.ow 7], V.sc (.bool r4.2)]), (37, V.ow 1), (38, V.ep 1 1 1 0), (39, V.sc (.string x2)), (40, V.ow 2), (41, V.ep 2 1 0 0), (42, V.sc (.int .i64 x3)), (43, V.ow 2), (44, V.ep 2 1 1 0), (45, V.sc (.int .i64 x4)), (46, V.ow 2), (47, V.ep 2 1 2 0), (48, V.sc (.int .i64 x5)), (49, V.ow 2), (50, V.ep 2 1 3 0), (51, V.sc (.int .i64 x6)), (52, V.ow 2), (53, V.ep 2 1 4 0), (54, V.sc (.int .i64 x7)), (55, V.tup [V.agg [V.sc (.string r4.1.Id), V.sc (.int .i64 r4.1.Limit), V.sc (.int .i64 r4.1.Posted), V.sc (.int .i64 r4.1.Most), V.sc (.int .i64 r4.1.MostSum), V.ow 4, V.sc (.int .i64 r4.1.Ring.Span), V.sc (.int .i64 r4.1.Ring.Head), V.ow 5, V.ow 6, V.ow 7], V.sc (.bool r4.2)]), (56, V.agg [V.sc (.string r4.1.Id), V.sc (.int .i64 r4.1.Limit), V.sc (.int .i64 r4.1.Posted), V.sc (.int .i64 r4.1.Most), V.sc (.int .i64 r4.1.MostSum), V.ow 4, V.sc (.int .i64 r4.1.Ring.Span), V.sc (.int .i64 r4.1.Ring.Head), V.ow 5, V.ow 6, V.ow 7]), (57, V.sc (.bool r4.2))] [Blk.box 28 [V.sc (.string ByteArray.empty), V.sc (.int .i64 0), V.sc (.int .i64 0), V.sc (.int .i64 0), V.sc (.int .i64 0), V.nl 61, V.sc (.int .i64 0), V.sc (.int .i64 0), V.nl 3, V.nl 3, V.nl 66], Blk.row 9 (List.map E9 r1) [], Blk.row 3 (List.map E3 r3) [], Blk.box 28 [V.sc (.string r4.1.Id), V.sc (.int .i64 r4.1.Limit), V.sc (.int .i64 r4.1.Posted), V.sc (.int .i64 r4.1.Most), V.sc (.int .i64 r4.1.MostSum), V.ow 4, V.sc (.int .i64 r4.1.Ring.Span), V.sc (.int .i64 r4.1.Ring.Head), V.ow 5, V.ow 6, V.ow 7], Blk.row 61 (List.map E61 r4.1.Holds) [], Blk.row 3 (List.map E3 r4.1.Ring.Counts) [], Blk.row 3 (List.map E3 r4.1.Ring.Sums) [], Blk.row 66 (List.map E66 r4.1.Slots) []] []
def spec_TextSetup_l0 (o : ByteArray) (r1 : (List ByteArray)) : Nat → Int → (List Int) → Option ((List Int))
  | 0, _, _ => none
  | fuel + 1, v1, v2 =>
   if (decide (v1 < (((r1.length - 2) : Nat) : Int))) = true then
   if (decide (0 ≤ v1)) = true then
   if (decide ((v1 : Int) < (((r1.length - 2) : Nat) : Int))) = true then
   (r1[2 + v1.toNat]?).bind fun x1 =>
   (spec_TextNum x1).bind fun r2 =>
   if (capOk (v2.length + 1)) = true then
   spec_TextSetup_l0 o r1 fuel (i64 (v1 + 1)) (v2 ++ [r2.1])
   else none
   else none
   else none
   else
   some v2
theorem spec_TextSetup_l0_ok (o : ByteArray) (r1 : (List ByteArray)) : ∀ (fuel : Nat) (v1 : Int) (v2 : List Int), Pn (LpO Tryz.prog (sub (codeOf Tryz.prog 4) [1, 1, 1, 1, 0, 1, 0, 0]) (st 68 [(0, V.sc (.string o)), (2, V.ptr 0 0), (4, V.ow 1), (5, V.ow 2), (20, V.sb 1 1 2 (r1.length - 2)), (21, V.sc (.int .i64 (((r1.length - 2) : Nat) : Int))), (22, V.sc (.int .i64 v1))] [Blk.box 28 [V.sc (.string ByteArray.empty), V.sc (.int .i64 0), V.sc (.int .i64 0), V.sc (.int .i64 0), V.sc (.int .i64 0), V.nl 61, V.sc (.int .i64 0), V.sc (.int .i64 0), V.nl 3, V.nl 3, V.nl 66], Blk.row 9 (List.map E9 r1) [], Blk.row 3 (List.map E3 v2) []] []) (fun (y : (List Int)) => (X.out 0, st 68 [(0, V.sc (.string o)), (2, V.ptr 0 0), (4, V.ow 1), (5, V.ow 2)] [Blk.box 28 [V.sc (.string ByteArray.empty), V.sc (.int .i64 0), V.sc (.int .i64 0), V.sc (.int .i64 0), V.sc (.int .i64 0), V.nl 61, V.sc (.int .i64 0), V.sc (.int .i64 0), V.nl 3, V.nl 3, V.nl 66], Blk.row 9 (List.map E9 r1) [], Blk.row 3 (List.map E3 y) []] []))) (spec_TextSetup_l0 o r1 fuel v1 v2)
  | 0, _, _ => Pn.none
  | fuel + 1, v1, v2 => by
    unfold spec_TextSetup_l0
    exact
     Pn.ite (fun h4 =>
     Pn.ite (fun h5 =>
     Pn.ite (fun h6 =>
     Pn.bind (fun x1 h7 =>
     Pn.bind (fun r2 h8 =>
     Pn.ite (fun h9 =>
     LpO.go [.bit true, .el (E9 x1), .call [] (V.tup [E3 r2.1, E4 r2.2]) [], .cp [V.sc (.int .i64 r2.1)], .nb 4 (.row 3 (List.map E3 (v2 ++ [r2.1])) []), .wait 4, .mask [0, 2, 4, 5, 20, 21, 22], .ren [0, 1, 4]] (p := [(decide (v1 < (((r1.length - 2) : Nat) : Int))) = true,
      (0 : Int) ≤ v1,
      (v1 : Int) < (((r1.length - 2) : Nat) : Int),
      look [] (2 + v1.toNat) = none,
      (List.map E9 r1)[2 + v1.toNat]? = some (E9 x1),
      Fn Tryz.prog 10 [(false, E9 x1)] (V.tup [E3 r2.1, E4 r2.2]) [],
      (true || ((V.tup [E3 r2.1, E4 r2.2]).nv && nvL [])) = true,
      [V.sc (.int .i64 r2.1)] = [V.sc (.int .i64 r2.1)],
      [V.sc (.int .i64 r2.1)].all V.flatE = true,
      (List.map E3 v2).length + [V.sc (.int .i64 r2.1)].length ≤ 9223372036854775807,
      ((List.map E3 v2).length + [V.sc (.int .i64 r2.1)].length) * 8 ≤ 140737488355328,
      Blk.row 3 ((List.map E3 v2) ++ [V.sc (.int .i64 r2.1)]) [] = Blk.row 3 (List.map E3 (v2 ++ [r2.1])) []]) (by kernel_rfl) (cj h4 (cj (od h5) (cj (od h6) (cj rfl (cj (map_get h7) (cj (spec_TextNum_ok x1 r2 h8) (cj rfl (cj rfl (cj rfl (cj (cap1 (capN (by simp) h9)) (cj (cap2 (capN (by simp) h9) (by decide)) (cj1 (nb_app E3 v2 [r2.1]))))))))))))) (spec_TextSetup_l0_ok o r1 fuel (i64 (v1 + 1)) (v2 ++ [r2.1]))) (fun h9 =>
     Pn.none)))) (fun h6 =>
     Pn.none)) (fun h5 =>
     Pn.none)) (fun h4 =>
     Pn.some (LpO.out [.bit false, .mask [0, 2, 4, 5], .ren [0, 1, 2]] (p := [(decide (v1 < (((r1.length - 2) : Nat) : Int))) = false]) (by kernel_rfl) (show X.out 0 ≠ X.go from nofun) (cj1 h4)))
def spec_TextSetup (o : ByteArray) : Option (Acct × Bool) :=
 (spec_Cut o).bind fun r1 =>
 if ((r1.length : Int) != 7) = true then
 some ((Acct.mk ByteArray.empty 0 0 0 0 [] (Ring.mk 0 0 [] []) []), false)
 else
 if (decide (2 ≤ (r1.length : Int))) = true then
 (spec_TextSetup_l0 o r1 FUEL 0 []).bind fun r3 =>
 (r1[1]?).bind fun x2 =>
 (r3[0]?).bind fun x3 =>
 (r3[1]?).bind fun x4 =>
 (r3[2]?).bind fun x5 =>
 (r3[3]?).bind fun x6 =>
 (r3[4]?).bind fun x7 =>
 (spec_AcctNew x2 x3 x4 x5 x6 x7).bind fun r4 =>
 if r4.2 = true then
 (spec_SetupText r4.1).bind fun r5 =>
 if (r5 == o) = true then
 some (r4.1, true)
 else
 some ((Acct.mk ByteArray.empty 0 0 0 0 [] (Ring.mk 0 0 [] []) []), false)
 else
 some ((Acct.mk ByteArray.empty 0 0 0 0 [] (Ring.mk 0 0 [] []) []), false)
 else none
theorem spec_TextSetup_ok (o : ByteArray) : Pn (fun y => Fn Tryz.prog 4 [(false, E9 o)] (V.tup [E28 y.1, E4 y.2]) []) (spec_TextSetup o) := by
  unfold spec_TextSetup
  exact
   Pn.bind (fun r1 h1 =>
   Pn.ite (fun h2 =>
   Pn.some (Fn.of [.call [] (E34 r1) [], .wait 3, .nm 15 (V.sc (.int .i64 (r1.length : Int))), .bit true] (p := [Fn Tryz.prog 9 [(false, E9 o)] (E34 r1) [],
    (true || ((E34 r1).nv && nvL [])) = true,
    V.sc (.int .i64 ((List.map E9 r1).length : Int)) = V.sc (.int .i64 (r1.length : Int)),
    ((r1.length : Int) != 7) = true]) (by kernel_rfl) (cj (spec_Cut_ok o r1 h1) (cj rfl (cj (len_nm _ _) (cj1 h2)))))) (fun h2 =>
   Pn.ite (fun h3 =>
   Pn.bind (fun r3 h10 =>
   Pn.bind (fun x2 h11 =>
   Pn.bind (fun x3 h12 =>
   Pn.bind (fun x4 h13 =>
   Pn.bind (fun x5 h14 =>
   Pn.bind (fun x6 h15 =>
   Pn.bind (fun x7 h16 =>
   Pn.bind (fun r4 h17 =>
   Pn.ite (fun h18 =>
   Pn.bind (fun r5 h19 =>
   Pn.ite (fun h20 =>
   Pn.some (Fn.of [.call [] (E34 r1) [], .wait 3, .nm 15 (V.sc (.int .i64 (r1.length : Int))), .bit false, .wait 3, .nm 20 (V.sb 1 1 2 (r1.length - 2)), .wait 3, .mask [0, 2, 4, 5, 20, 21, 22], .ren [0, 1, 2], .loop (X.out 0) (st 68 [(0, V.sc (.string o)), (2, V.ptr 0 0), (4, V.ow 1), (5, V.ow 2)] [Blk.box 28 [V.sc (.string ByteArray.empty), V.sc (.int .i64 0), V.sc (.int .i64 0), V.sc (.int .i64 0), V.sc (.int .i64 0), V.nl 61, V.sc (.int .i64 0), V.sc (.int .i64 0), V.nl 3, V.nl 3, V.nl 66], Blk.row 9 (List.map E9 r1) [], Blk.row 3 (List.map E3 r3) []] []), .draw [23], .el (E9 x2), .el (E3 x3), .el (E3 x4), .el (E3 x5), .el (E3 x6), .el (E3 x7), .loop .go ((spec_TextSetup_s1 o r4 x2 x3 x4 x5 x6 x7 r1 r3)), .call [] (V.tup [E28 r4.1, E4 r4.2]) [], .loop .go ((spec_TextSetup_s1 o r4 x2 x3 x4 x5 x6 x7 r1 r3)), .wait 3, .ren [0, 1, 2, 7, 3, 4, 5, 6], .loop .go ((spec_TextSetup_s1 o r4 x2 x3 x4 x5 x6 x7 r1 r3)), .wait 2, .ren [0, 1, 2, 7, 3, 4, 5, 6], .wait 3, .ren [0, 1, 2, 7, 3, 4, 5, 6], .ren [0, 1, 2, 3, 4, 5, 6, 7], .ren [0, 1, 2, 3, 4, 5, 6, 7], .call [] (V.tup [E28 r4.1, E4 r4.2]) [], .loop .go ((spec_TextSetup_s1 o r4 x2 x3 x4 x5 x6 x7 r1 r3)), .wait 2, .ren [0, 1, 2, 3, 4, 5, 6, 7], .wait 3, .ren [0, 1, 2, 3, 4, 5, 6, 7], .ren [0, 1, 2, 3, 4, 5, 6, 7], .bit false, .bit false, .call [] (E9 r5) [], .bit false, .bit false, .bit false, .bit false] (p := [Fn Tryz.prog 9 [(false, E9 o)] (E34 r1) [],
    (true || ((E34 r1).nv && nvL [])) = true,
    V.sc (.int .i64 ((List.map E9 r1).length : Int)) = V.sc (.int .i64 (r1.length : Int)),
    ((r1.length : Int) != 7) = false,
    (0 : Int) ≤ 2,
    (2 : Int) ≤ ((List.map E9 r1).length : Int),
    (((List.map E9 r1).length : Int) : Int) ≤ ((List.map E9 r1).length : Int),
    V.sb 1 1 2 ((((List.map E9 r1).length : Int).toNat) - (2)) = V.sb 1 1 2 (r1.length - 2),
    Loop Tryz.prog (sub (codeOf Tryz.prog 4) [1, 1, 1, 1, 0, 1, 0, 0]) (st 68 [(0, V.sc (.string o)), (2, V.ptr 0 0), (4, V.ow 1), (5, V.ow 2), (20, V.sb 1 1 2 (r1.length - 2)), (21, V.sc (.int .i64 (((r1.length - 2) : Nat) : Int))), (22, V.sc (.int .i64 0))] [Blk.box 28 [V.sc (.string ByteArray.empty), V.sc (.int .i64 0), V.sc (.int .i64 0), V.sc (.int .i64 0), V.sc (.int .i64 0), V.nl 61, V.sc (.int .i64 0), V.sc (.int .i64 0), V.nl 3, V.nl 3, V.nl 66], Blk.row 9 (List.map E9 r1) [], Blk.row 3 ([] : List V) []] []) (X.out 0) (st 68 [(0, V.sc (.string o)), (2, V.ptr 0 0), (4, V.ow 1), (5, V.ow 2)] [Blk.box 28 [V.sc (.string ByteArray.empty), V.sc (.int .i64 0), V.sc (.int .i64 0), V.sc (.int .i64 0), V.sc (.int .i64 0), V.nl 61, V.sc (.int .i64 0), V.sc (.int .i64 0), V.nl 3, V.nl 3, V.nl 66], Blk.row 9 (List.map E9 r1) [], Blk.row 3 (List.map E3 r3) []] []),
    (0 : Int) ≤ 1,
    (1 : Int) < ((List.map E9 r1).length : Int),
    look [] 1 = none,
    (List.map E9 r1)[1]? = some (E9 x2),
    (0 : Int) ≤ 0,
    (0 : Int) < ((List.map E3 r3).length : Int),
    look [] 0 = none,
    (List.map E3 r3)[0]? = some (E3 x3),
    (0 : Int) ≤ 1,
    (1 : Int) < ((List.map E3 r3).length : Int),
    look [] 1 = none,
    (List.map E3 r3)[1]? = some (E3 x4),
    (0 : Int) ≤ 2,
    (2 : Int) < ((List.map E3 r3).length : Int),
    look [] 2 = none,
    (List.map E3 r3)[2]? = some (E3 x5),
    (0 : Int) ≤ 3,
    (3 : Int) < ((List.map E3 r3).length : Int),
    look [] 3 = none,
    (List.map E3 r3)[3]? = some (E3 x6),
    (0 : Int) ≤ 4,
    (4 : Int) < ((List.map E3 r3).length : Int),
    look [] 4 = none,
    (List.map E3 r3)[4]? = some (E3 x7),
    Fn Tryz.prog 11 [(false, E9 x2), (false, E3 x3), (false, E3 x4), (false, E3 x5), (false, E3 x6), (false, E3 x7)] (V.tup [E28 r4.1, E4 r4.2]) [],
    (true || ((V.tup [E28 r4.1, E4 r4.2]).nv && nvL [])) = true,
    (spec_TextSetup_s1 o r4 x2 x3 x4 x5 x6 x7 r1 r3) = (spec_TextSetup_s1 o r4 x2 x3 x4 x5 x6 x7 r1 r3),
    (spec_TextSetup_s1 o r4 x2 x3 x4 x5 x6 x7 r1 r3) = (spec_TextSetup_s1 o r4 x2 x3 x4 x5 x6 x7 r1 r3),
    (spec_TextSetup_s1 o r4 x2 x3 x4 x5 x6 x7 r1 r3) = (spec_TextSetup_s1 o r4 x2 x3 x4 x5 x6 x7 r1 r3),
    (spec_TextSetup_s1 o r4 x2 x3 x4 x5 x6 x7 r1 r3) = (spec_TextSetup_s1 o r4 x2 x3 x4 x5 x6 x7 r1 r3),
    (spec_TextSetup_s1 o r4 x2 x3 x4 x5 x6 x7 r1 r3) = (spec_TextSetup_s1 o r4 x2 x3 x4 x5 x6 x7 r1 r3),
    Fn Tryz.prog 11 [(false, E9 x2), (false, E3 x3), (false, E3 x4), (false, E3 x5), (false, E3 x6), (false, E3 x7)] (V.tup [E28 r4.1, E4 r4.2]) [],
    (true || ((V.tup [E28 r4.1, E4 r4.2]).nv && nvL [])) = true,
    (spec_TextSetup_s1 o r4 x2 x3 x4 x5 x6 x7 r1 r3) = (spec_TextSetup_s1 o r4 x2 x3 x4 x5 x6 x7 r1 r3),
    (spec_TextSetup_s1 o r4 x2 x3 x4 x5 x6 x7 r1 r3) = (spec_TextSetup_s1 o r4 x2 x3 x4 x5 x6 x7 r1 r3),
    (spec_TextSetup_s1 o r4 x2 x3 x4 x5 x6 x7 r1 r3) = (spec_TextSetup_s1 o r4 x2 x3 x4 x5 x6 x7 r1 r3),
    (!r4.2) = false,
    (!r4.2) = false,
    Fn Tryz.prog 12 [(false, E28 r4.1)] (E9 r5) [],
    (false || ((E9 r5).nv && nvL [])) = true,
    (!r4.2) = false,
    (!r4.2) = false,
    (!r4.2) = false,
    (!(r5 == o)) = false]) (by kernel_rfl) (cj (spec_Cut_ok o r1 h1) (cj rfl (cj (len_nm _ _) (cj h2 (cj (by decide) (cj (by rw [List.length_map]; exact (od h3)) (cj (Int.le_refl _) (cj (by simp) (cj (spec_TextSetup_l0_ok o r1 FUEL 0 [] r3 h10) (cj (by decide) (cj (map_ltN (by decide) h11) (cj rfl (cj (map_get h11) (cj (by decide) (cj (map_ltN (by decide) h12) (cj rfl (cj (map_get h12) (cj (by decide) (cj (map_ltN (by decide) h13) (cj rfl (cj (map_get h13) (cj (by decide) (cj (map_ltN (by decide) h14) (cj rfl (cj (map_get h14) (cj (by decide) (cj (map_ltN (by decide) h15) (cj rfl (cj (map_get h15) (cj (by decide) (cj (map_ltN (by decide) h16) (cj rfl (cj (map_get h16) (cj (spec_AcctNew_ok x2 x3 x4 x5 x6 x7 r4 h17) (cj rfl (cj rfl (cj rfl (cj rfl (cj rfl (cj rfl (cj (spec_AcctNew_ok x2 x3 x4 x5 x6 x7 r4 h17) (cj rfl (cj rfl (cj rfl (cj rfl (cj (nf h18) (cj (nf h18) (cj (spec_SetupText_ok r4.1 r5 h19) (cj (by simp [V.nv, nvL, nvL_all, nv_E9]) (cj (nf h18) (cj (nf h18) (cj (nf h18) (cj1 (nf h20)))))))))))))))))))))))))))))))))))))))))))))))))))))))) (fun h20 =>
   Pn.some (Fn.of [.call [] (E34 r1) [], .wait 3, .nm 15 (V.sc (.int .i64 (r1.length : Int))), .bit false, .wait 3, .nm 20 (V.sb 1 1 2 (r1.length - 2)), .wait 3, .mask [0, 2, 4, 5, 20, 21, 22], .ren [0, 1, 2], .loop (X.out 0) (st 68 [(0, V.sc (.string o)), (2, V.ptr 0 0), (4, V.ow 1), (5, V.ow 2)] [Blk.box 28 [V.sc (.string ByteArray.empty), V.sc (.int .i64 0), V.sc (.int .i64 0), V.sc (.int .i64 0), V.sc (.int .i64 0), V.nl 61, V.sc (.int .i64 0), V.sc (.int .i64 0), V.nl 3, V.nl 3, V.nl 66], Blk.row 9 (List.map E9 r1) [], Blk.row 3 (List.map E3 r3) []] []), .draw [23], .el (E9 x2), .el (E3 x3), .el (E3 x4), .el (E3 x5), .el (E3 x6), .el (E3 x7), .loop .go ((spec_TextSetup_s1 o r4 x2 x3 x4 x5 x6 x7 r1 r3)), .call [] (V.tup [E28 r4.1, E4 r4.2]) [], .loop .go ((spec_TextSetup_s1 o r4 x2 x3 x4 x5 x6 x7 r1 r3)), .wait 3, .ren [0, 1, 2, 7, 3, 4, 5, 6], .loop .go ((spec_TextSetup_s1 o r4 x2 x3 x4 x5 x6 x7 r1 r3)), .wait 2, .ren [0, 1, 2, 7, 3, 4, 5, 6], .wait 3, .ren [0, 1, 2, 7, 3, 4, 5, 6], .ren [0, 1, 2, 3, 4, 5, 6, 7], .ren [0, 1, 2, 3, 4, 5, 6, 7], .call [] (V.tup [E28 r4.1, E4 r4.2]) [], .loop .go ((spec_TextSetup_s1 o r4 x2 x3 x4 x5 x6 x7 r1 r3)), .wait 2, .ren [0, 1, 2, 3, 4, 5, 6, 7], .wait 3, .ren [0, 1, 2, 3, 4, 5, 6, 7], .ren [0, 1, 2, 3, 4, 5, 6, 7], .bit false, .bit false, .call [] (E9 r5) [], .bit false, .bit false, .bit false, .bit true] (p := [Fn Tryz.prog 9 [(false, E9 o)] (E34 r1) [],
    (true || ((E34 r1).nv && nvL [])) = true,
    V.sc (.int .i64 ((List.map E9 r1).length : Int)) = V.sc (.int .i64 (r1.length : Int)),
    ((r1.length : Int) != 7) = false,
    (0 : Int) ≤ 2,
    (2 : Int) ≤ ((List.map E9 r1).length : Int),
    (((List.map E9 r1).length : Int) : Int) ≤ ((List.map E9 r1).length : Int),
    V.sb 1 1 2 ((((List.map E9 r1).length : Int).toNat) - (2)) = V.sb 1 1 2 (r1.length - 2),
    Loop Tryz.prog (sub (codeOf Tryz.prog 4) [1, 1, 1, 1, 0, 1, 0, 0]) (st 68 [(0, V.sc (.string o)), (2, V.ptr 0 0), (4, V.ow 1), (5, V.ow 2), (20, V.sb 1 1 2 (r1.length - 2)), (21, V.sc (.int .i64 (((r1.length - 2) : Nat) : Int))), (22, V.sc (.int .i64 0))] [Blk.box 28 [V.sc (.string ByteArray.empty), V.sc (.int .i64 0), V.sc (.int .i64 0), V.sc (.int .i64 0), V.sc (.int .i64 0), V.nl 61, V.sc (.int .i64 0), V.sc (.int .i64 0), V.nl 3, V.nl 3, V.nl 66], Blk.row 9 (List.map E9 r1) [], Blk.row 3 ([] : List V) []] []) (X.out 0) (st 68 [(0, V.sc (.string o)), (2, V.ptr 0 0), (4, V.ow 1), (5, V.ow 2)] [Blk.box 28 [V.sc (.string ByteArray.empty), V.sc (.int .i64 0), V.sc (.int .i64 0), V.sc (.int .i64 0), V.sc (.int .i64 0), V.nl 61, V.sc (.int .i64 0), V.sc (.int .i64 0), V.nl 3, V.nl 3, V.nl 66], Blk.row 9 (List.map E9 r1) [], Blk.row 3 (List.map E3 r3) []] []),
    (0 : Int) ≤ 1,
    (1 : Int) < ((List.map E9 r1).length : Int),
    look [] 1 = none,
    (List.map E9 r1)[1]? = some (E9 x2),
    (0 : Int) ≤ 0,
    (0 : Int) < ((List.map E3 r3).length : Int),
    look [] 0 = none,
    (List.map E3 r3)[0]? = some (E3 x3),
    (0 : Int) ≤ 1,
    (1 : Int) < ((List.map E3 r3).length : Int),
    look [] 1 = none,
    (List.map E3 r3)[1]? = some (E3 x4),
    (0 : Int) ≤ 2,
    (2 : Int) < ((List.map E3 r3).length : Int),
    look [] 2 = none,
    (List.map E3 r3)[2]? = some (E3 x5),
    (0 : Int) ≤ 3,
    (3 : Int) < ((List.map E3 r3).length : Int),
    look [] 3 = none,
    (List.map E3 r3)[3]? = some (E3 x6),
    (0 : Int) ≤ 4,
    (4 : Int) < ((List.map E3 r3).length : Int),
    look [] 4 = none,
    (List.map E3 r3)[4]? = some (E3 x7),
    Fn Tryz.prog 11 [(false, E9 x2), (false, E3 x3), (false, E3 x4), (false, E3 x5), (false, E3 x6), (false, E3 x7)] (V.tup [E28 r4.1, E4 r4.2]) [],
    (true || ((V.tup [E28 r4.1, E4 r4.2]).nv && nvL [])) = true,
    (spec_TextSetup_s1 o r4 x2 x3 x4 x5 x6 x7 r1 r3) = (spec_TextSetup_s1 o r4 x2 x3 x4 x5 x6 x7 r1 r3),
    (spec_TextSetup_s1 o r4 x2 x3 x4 x5 x6 x7 r1 r3) = (spec_TextSetup_s1 o r4 x2 x3 x4 x5 x6 x7 r1 r3),
    (spec_TextSetup_s1 o r4 x2 x3 x4 x5 x6 x7 r1 r3) = (spec_TextSetup_s1 o r4 x2 x3 x4 x5 x6 x7 r1 r3),
    (spec_TextSetup_s1 o r4 x2 x3 x4 x5 x6 x7 r1 r3) = (spec_TextSetup_s1 o r4 x2 x3 x4 x5 x6 x7 r1 r3),
    (spec_TextSetup_s1 o r4 x2 x3 x4 x5 x6 x7 r1 r3) = (spec_TextSetup_s1 o r4 x2 x3 x4 x5 x6 x7 r1 r3),
    Fn Tryz.prog 11 [(false, E9 x2), (false, E3 x3), (false, E3 x4), (false, E3 x5), (false, E3 x6), (false, E3 x7)] (V.tup [E28 r4.1, E4 r4.2]) [],
    (true || ((V.tup [E28 r4.1, E4 r4.2]).nv && nvL [])) = true,
    (spec_TextSetup_s1 o r4 x2 x3 x4 x5 x6 x7 r1 r3) = (spec_TextSetup_s1 o r4 x2 x3 x4 x5 x6 x7 r1 r3),
    (spec_TextSetup_s1 o r4 x2 x3 x4 x5 x6 x7 r1 r3) = (spec_TextSetup_s1 o r4 x2 x3 x4 x5 x6 x7 r1 r3),
    (spec_TextSetup_s1 o r4 x2 x3 x4 x5 x6 x7 r1 r3) = (spec_TextSetup_s1 o r4 x2 x3 x4 x5 x6 x7 r1 r3),
    (!r4.2) = false,
    (!r4.2) = false,
    Fn Tryz.prog 12 [(false, E28 r4.1)] (E9 r5) [],
    (false || ((E9 r5).nv && nvL [])) = true,
    (!r4.2) = false,
    (!r4.2) = false,
    (!r4.2) = false,
    (!(r5 == o)) = true]) (by kernel_rfl) (cj (spec_Cut_ok o r1 h1) (cj rfl (cj (len_nm _ _) (cj h2 (cj (by decide) (cj (by rw [List.length_map]; exact (od h3)) (cj (Int.le_refl _) (cj (by simp) (cj (spec_TextSetup_l0_ok o r1 FUEL 0 [] r3 h10) (cj (by decide) (cj (map_ltN (by decide) h11) (cj rfl (cj (map_get h11) (cj (by decide) (cj (map_ltN (by decide) h12) (cj rfl (cj (map_get h12) (cj (by decide) (cj (map_ltN (by decide) h13) (cj rfl (cj (map_get h13) (cj (by decide) (cj (map_ltN (by decide) h14) (cj rfl (cj (map_get h14) (cj (by decide) (cj (map_ltN (by decide) h15) (cj rfl (cj (map_get h15) (cj (by decide) (cj (map_ltN (by decide) h16) (cj rfl (cj (map_get h16) (cj (spec_AcctNew_ok x2 x3 x4 x5 x6 x7 r4 h17) (cj rfl (cj rfl (cj rfl (cj rfl (cj rfl (cj rfl (cj (spec_AcctNew_ok x2 x3 x4 x5 x6 x7 r4 h17) (cj rfl (cj rfl (cj rfl (cj rfl (cj (nf h18) (cj (nf h18) (cj (spec_SetupText_ok r4.1 r5 h19) (cj (by simp [V.nv, nvL, nvL_all, nv_E9]) (cj (nf h18) (cj (nf h18) (cj (nf h18) (cj1 (nt h20)))))))))))))))))))))))))))))))))))))))))))))))))))))))))) (fun h18 =>
   Pn.some (Fn.of [.call [] (E34 r1) [], .wait 3, .nm 15 (V.sc (.int .i64 (r1.length : Int))), .bit false, .wait 3, .nm 20 (V.sb 1 1 2 (r1.length - 2)), .wait 3, .mask [0, 2, 4, 5, 20, 21, 22], .ren [0, 1, 2], .loop (X.out 0) (st 68 [(0, V.sc (.string o)), (2, V.ptr 0 0), (4, V.ow 1), (5, V.ow 2)] [Blk.box 28 [V.sc (.string ByteArray.empty), V.sc (.int .i64 0), V.sc (.int .i64 0), V.sc (.int .i64 0), V.sc (.int .i64 0), V.nl 61, V.sc (.int .i64 0), V.sc (.int .i64 0), V.nl 3, V.nl 3, V.nl 66], Blk.row 9 (List.map E9 r1) [], Blk.row 3 (List.map E3 r3) []] []), .draw [23], .el (E9 x2), .el (E3 x3), .el (E3 x4), .el (E3 x5), .el (E3 x6), .el (E3 x7), .loop .go ((spec_TextSetup_s1 o r4 x2 x3 x4 x5 x6 x7 r1 r3)), .call [] (V.tup [E28 r4.1, E4 r4.2]) [], .loop .go ((spec_TextSetup_s1 o r4 x2 x3 x4 x5 x6 x7 r1 r3)), .wait 3, .ren [0, 1, 2, 7, 3, 4, 5, 6], .loop .go ((spec_TextSetup_s1 o r4 x2 x3 x4 x5 x6 x7 r1 r3)), .wait 2, .ren [0, 1, 2, 7, 3, 4, 5, 6], .wait 3, .ren [0, 1, 2, 7, 3, 4, 5, 6], .ren [0, 1, 2, 3, 4, 5, 6, 7], .ren [0, 1, 2, 3, 4, 5, 6, 7], .call [] (V.tup [E28 r4.1, E4 r4.2]) [], .loop .go ((spec_TextSetup_s1 o r4 x2 x3 x4 x5 x6 x7 r1 r3)), .wait 2, .ren [0, 1, 2, 3, 4, 5, 6, 7], .wait 3, .ren [0, 1, 2, 3, 4, 5, 6, 7], .ren [0, 1, 2, 3, 4, 5, 6, 7], .bit true, .bit true, .bit true, .bit true, .bit true, .bit true] (p := [Fn Tryz.prog 9 [(false, E9 o)] (E34 r1) [],
    (true || ((E34 r1).nv && nvL [])) = true,
    V.sc (.int .i64 ((List.map E9 r1).length : Int)) = V.sc (.int .i64 (r1.length : Int)),
    ((r1.length : Int) != 7) = false,
    (0 : Int) ≤ 2,
    (2 : Int) ≤ ((List.map E9 r1).length : Int),
    (((List.map E9 r1).length : Int) : Int) ≤ ((List.map E9 r1).length : Int),
    V.sb 1 1 2 ((((List.map E9 r1).length : Int).toNat) - (2)) = V.sb 1 1 2 (r1.length - 2),
    Loop Tryz.prog (sub (codeOf Tryz.prog 4) [1, 1, 1, 1, 0, 1, 0, 0]) (st 68 [(0, V.sc (.string o)), (2, V.ptr 0 0), (4, V.ow 1), (5, V.ow 2), (20, V.sb 1 1 2 (r1.length - 2)), (21, V.sc (.int .i64 (((r1.length - 2) : Nat) : Int))), (22, V.sc (.int .i64 0))] [Blk.box 28 [V.sc (.string ByteArray.empty), V.sc (.int .i64 0), V.sc (.int .i64 0), V.sc (.int .i64 0), V.sc (.int .i64 0), V.nl 61, V.sc (.int .i64 0), V.sc (.int .i64 0), V.nl 3, V.nl 3, V.nl 66], Blk.row 9 (List.map E9 r1) [], Blk.row 3 ([] : List V) []] []) (X.out 0) (st 68 [(0, V.sc (.string o)), (2, V.ptr 0 0), (4, V.ow 1), (5, V.ow 2)] [Blk.box 28 [V.sc (.string ByteArray.empty), V.sc (.int .i64 0), V.sc (.int .i64 0), V.sc (.int .i64 0), V.sc (.int .i64 0), V.nl 61, V.sc (.int .i64 0), V.sc (.int .i64 0), V.nl 3, V.nl 3, V.nl 66], Blk.row 9 (List.map E9 r1) [], Blk.row 3 (List.map E3 r3) []] []),
    (0 : Int) ≤ 1,
    (1 : Int) < ((List.map E9 r1).length : Int),
    look [] 1 = none,
    (List.map E9 r1)[1]? = some (E9 x2),
    (0 : Int) ≤ 0,
    (0 : Int) < ((List.map E3 r3).length : Int),
    look [] 0 = none,
    (List.map E3 r3)[0]? = some (E3 x3),
    (0 : Int) ≤ 1,
    (1 : Int) < ((List.map E3 r3).length : Int),
    look [] 1 = none,
    (List.map E3 r3)[1]? = some (E3 x4),
    (0 : Int) ≤ 2,
    (2 : Int) < ((List.map E3 r3).length : Int),
    look [] 2 = none,
    (List.map E3 r3)[2]? = some (E3 x5),
    (0 : Int) ≤ 3,
    (3 : Int) < ((List.map E3 r3).length : Int),
    look [] 3 = none,
    (List.map E3 r3)[3]? = some (E3 x6),
    (0 : Int) ≤ 4,
    (4 : Int) < ((List.map E3 r3).length : Int),
    look [] 4 = none,
    (List.map E3 r3)[4]? = some (E3 x7),
    Fn Tryz.prog 11 [(false, E9 x2), (false, E3 x3), (false, E3 x4), (false, E3 x5), (false, E3 x6), (false, E3 x7)] (V.tup [E28 r4.1, E4 r4.2]) [],
    (true || ((V.tup [E28 r4.1, E4 r4.2]).nv && nvL [])) = true,
    (spec_TextSetup_s1 o r4 x2 x3 x4 x5 x6 x7 r1 r3) = (spec_TextSetup_s1 o r4 x2 x3 x4 x5 x6 x7 r1 r3),
    (spec_TextSetup_s1 o r4 x2 x3 x4 x5 x6 x7 r1 r3) = (spec_TextSetup_s1 o r4 x2 x3 x4 x5 x6 x7 r1 r3),
    (spec_TextSetup_s1 o r4 x2 x3 x4 x5 x6 x7 r1 r3) = (spec_TextSetup_s1 o r4 x2 x3 x4 x5 x6 x7 r1 r3),
    (spec_TextSetup_s1 o r4 x2 x3 x4 x5 x6 x7 r1 r3) = (spec_TextSetup_s1 o r4 x2 x3 x4 x5 x6 x7 r1 r3),
    (spec_TextSetup_s1 o r4 x2 x3 x4 x5 x6 x7 r1 r3) = (spec_TextSetup_s1 o r4 x2 x3 x4 x5 x6 x7 r1 r3),
    Fn Tryz.prog 11 [(false, E9 x2), (false, E3 x3), (false, E3 x4), (false, E3 x5), (false, E3 x6), (false, E3 x7)] (V.tup [E28 r4.1, E4 r4.2]) [],
    (true || ((V.tup [E28 r4.1, E4 r4.2]).nv && nvL [])) = true,
    (spec_TextSetup_s1 o r4 x2 x3 x4 x5 x6 x7 r1 r3) = (spec_TextSetup_s1 o r4 x2 x3 x4 x5 x6 x7 r1 r3),
    (spec_TextSetup_s1 o r4 x2 x3 x4 x5 x6 x7 r1 r3) = (spec_TextSetup_s1 o r4 x2 x3 x4 x5 x6 x7 r1 r3),
    (spec_TextSetup_s1 o r4 x2 x3 x4 x5 x6 x7 r1 r3) = (spec_TextSetup_s1 o r4 x2 x3 x4 x5 x6 x7 r1 r3),
    (!r4.2) = true,
    (!r4.2) = true,
    (!r4.2) = true,
    (!r4.2) = true,
    (!r4.2) = true,
    true = true]) (by kernel_rfl) (cj (spec_Cut_ok o r1 h1) (cj rfl (cj (len_nm _ _) (cj h2 (cj (by decide) (cj (by rw [List.length_map]; exact (od h3)) (cj (Int.le_refl _) (cj (by simp) (cj (spec_TextSetup_l0_ok o r1 FUEL 0 [] r3 h10) (cj (by decide) (cj (map_ltN (by decide) h11) (cj rfl (cj (map_get h11) (cj (by decide) (cj (map_ltN (by decide) h12) (cj rfl (cj (map_get h12) (cj (by decide) (cj (map_ltN (by decide) h13) (cj rfl (cj (map_get h13) (cj (by decide) (cj (map_ltN (by decide) h14) (cj rfl (cj (map_get h14) (cj (by decide) (cj (map_ltN (by decide) h15) (cj rfl (cj (map_get h15) (cj (by decide) (cj (map_ltN (by decide) h16) (cj rfl (cj (map_get h16) (cj (spec_AcctNew_ok x2 x3 x4 x5 x6 x7 r4 h17) (cj rfl (cj rfl (cj rfl (cj rfl (cj rfl (cj rfl (cj (spec_AcctNew_ok x2 x3 x4 x5 x6 x7 r4 h17) (cj rfl (cj rfl (cj rfl (cj rfl (cj (nt h18) (cj (nt h18) (cj (nt h18) (cj (nt h18) (cj (nt h18) (cj1 rfl)))))))))))))))))))))))))))))))))))))))))))))))))))))))))))))) (fun h3 =>
   Pn.none)))
def strings_Split (s_ : ByteArray) (sep : ByteArray) : Option (List ByteArray) := if (decide (s_.size < 4294967281) && decide (1 ≤ sep.size) && decide ((splitP s_ sep).length ≤ 9223372036854775807)) = true then some (splitP s_ sep) else none
theorem strings_Split_ok (s_ : ByteArray) (sep : ByteArray) : Pn (fun y => Fn Tryz.prog 32 [(false, E9 s_), (false, E9 sep)] (E34 y) []) (strings_Split s_ sep) := by
  unfold strings_Split
  exact Pn.ite (fun h => Pn.some (by
    simp only [Bool.and_eq_true, decide_eq_true_eq] at h
    exact Fn.strs (e := 9) [(.string s_), (.string sep)] (by kernel_rfl) (by kernel_rfl) h.2 (fun w hw => by
      obtain ⟨mv, hm, mz, rfl⟩ := glob_cell hw (b := 2) (List.Mem.tail _ (List.Mem.head _)) (v := fun u => ∃ z, u = Value.int .i64 z) (fun cs ⟨z, hz⟩ => ⟨_, hz, z, rfl⟩)
      have hl : Lib.countB s_ sep + 1 = (splitP s_ sep).length := (Lib.splitB_all sep h.1.2 0 _ s_ rfl).symm
      rw [← hl]
      exact Go.Proofs.Any.strings_Split Tryz.lays146 (by kernel_rfl) s_ sep mz w (by omega) hm h.1.2))) (fun _ => Pn.none)
def impl_Cut (s_ : ByteArray) : Option ((List ByteArray)) :=
 (strings_Split s_ (bs [32])).bind fun r1 =>
 some r1
theorem impl_Cut_ok (s_ : ByteArray) : Pn (fun y => Fn Tryz.prog 13 [(false, E9 s_)] (E34 y) []) (impl_Cut s_) := by
  unfold impl_Cut
  exact
   Pn.bind (fun r1 h1 =>
   Pn.some (Fn.of [.call [] (E34 r1) []] (p := [Fn Tryz.prog 32 [(false, E9 s_), (false, E9 (bs [32]))] (E34 r1) [],
    (true || ((E34 r1).nv && nvL [])) = true]) (by kernel_rfl) (cj (strings_Split_ok s_ (bs [32]) r1 h1) (cj1 rfl))))
def impl_within (n : Int) (low : Int) (high : Int) : Option (Bool) :=
 if (decide (low ≤ n)) = true then
 some (decide (n ≤ high))
 else
 some false
theorem impl_within_ok (n : Int) (low : Int) (high : Int) : Pn (fun y => Fn Tryz.prog 61 [(false, E3 n), (false, E3 low), (false, E3 high)] (E4 y) []) (impl_within n low high) := by
  unfold impl_within
  exact
   Pn.ite (fun h1 =>
   Pn.some (Fn.of [.bit true, .bit true, .bit true, .bit true] (p := [(decide (low ≤ n)) = true,
    (decide (low ≤ n)) = true,
    (decide (low ≤ n)) = true,
    (decide (low ≤ n)) = true]) (by kernel_rfl) (cj h1 (cj h1 (cj h1 (cj1 h1)))))) (fun h1 =>
   Pn.some (Fn.of [.bit false, .bit false, .bit false, .bit false] (p := [(decide (low ≤ n)) = false,
    (decide (low ≤ n)) = false,
    (decide (low ≤ n)) = false,
    (decide (low ≤ n)) = false]) (by kernel_rfl) (cj h1 (cj h1 (cj h1 (cj1 h1))))))
def impl_isMoney (n : Int) : Option (Bool) :=
 (impl_within n 0 4611686018427387904).bind fun r1 =>
 some r1
theorem impl_isMoney_ok (n : Int) : Pn (fun y => Fn Tryz.prog 34 [(false, E3 n)] (E4 y) []) (impl_isMoney n) := by
  unfold impl_isMoney
  exact
   Pn.bind (fun r1 h1 =>
   Pn.some (Fn.of [.call [] (E4 r1) []] (p := [Fn Tryz.prog 61 [(false, E3 n), (false, E3 0), (false, E3 4611686018427387904)] (E4 r1) [],
    (true || ((E4 r1).nv && nvL [])) = true]) (by kernel_rfl) (cj (impl_within_ok n 0 4611686018427387904 r1 h1) (cj1 rfl))))
def strconv_Itoa (i : Int) : Option ByteArray := if (decide (-9223372036854775808 ≤ i) && decide (i ≤ 9223372036854775807)) = true then some ⟨(Lib.itoa i).toArray⟩ else none
theorem strconv_Itoa_ok (i : Int) : Pn (fun y => Fn Tryz.prog 62 [(false, E3 i)] (E9 y) []) (strconv_Itoa i) := by
  unfold strconv_Itoa
  exact Pn.ite (fun h => Pn.some (Fn.flat [.int .i64 i] (by kernel_rfl) rfl fun w hw => by
    simp only [Bool.and_eq_true, decide_eq_true_eq] at h
    obtain ⟨cs, t, z, e1, e2⟩ := hw _ (List.Mem.head _)
    exact (Go.Proofs.Any.strconv_Itoa Tryz.laysM171 i h.1 h.2 w (tab_of (by kernel_rfl) e1 e2)).mono fun e w2 ⟨h1, k, os, h2⟩ => ⟨h1, h2 ▸ Lib.below_grow _ w (Nat.le_refl _) k os⟩)) (fun _ => Pn.none)
def impl_NumText (n : Int) : Option (ByteArray) :=
 (impl_isMoney n).bind fun r1 =>
 if r1 = true then
 (strconv_Itoa n).bind fun r2 =>
 some r2
 else
 some (bs [])
theorem impl_NumText_ok (n : Int) : Pn (fun y => Fn Tryz.prog 35 [(false, E3 n)] (E9 y) []) (impl_NumText n) := by
  unfold impl_NumText
  exact
   Pn.bind (fun r1 h1 =>
   Pn.ite (fun h2 =>
   Pn.bind (fun r2 h3 =>
   Pn.some (Fn.of [.call [] (E4 r1) [], .bit false, .call [] (E9 r2) []] (p := [Fn Tryz.prog 34 [(false, E3 n)] (E4 r1) [],
    (true || ((E4 r1).nv && nvL [])) = true,
    (!r1) = false,
    Fn Tryz.prog 62 [(false, E3 n)] (E9 r2) [],
    (true || ((E9 r2).nv && nvL [])) = true]) (by kernel_rfl) (cj (impl_isMoney_ok n r1 h1) (cj rfl (cj (nf h2) (cj (strconv_Itoa_ok n r2 h3) (cj1 rfl)))))))) (fun h2 =>
   Pn.some (Fn.of [.call [] (E4 r1) [], .bit true] (p := [Fn Tryz.prog 34 [(false, E3 n)] (E4 r1) [],
    (true || ((E4 r1).nv && nvL [])) = true,
    (!r1) = true]) (by kernel_rfl) (cj (impl_isMoney_ok n r1 h1) (cj rfl (cj1 (nt h2)))))))
def impl_TextNum (s_ : ByteArray) : Option (Int × Bool) := if (decide (s_.size ≤ 281474976710656)) = true then (match Lib.atoiAll s_.data.toList with | .ok v => (impl_isMoney v).bind fun r1 => if r1 = true then (impl_NumText v).bind fun r2 => (if (r2 == s_) = true then some (v, true) else some (0, false)) else some (0, false) | _ => some (0, false)) else none
set_option maxHeartbeats 4000000 in
theorem impl_TextNum_ok (s_ : ByteArray) : Pn (fun y => Fn Tryz.prog 14 [(false, E9 s_)] (V.tup [E3 y.1, E4 y.2]) []) (impl_TextNum s_) := by
  unfold impl_TextNum
  refine Pn.ite (fun hz => ?_) (fun _ => Pn.none)
  have hz := of_decide_eq_true hz
  cases hv : Lib.atoiAll s_.data.toList with
  | ok v =>
    refine Pn.bind (fun r1 h1 => ?_)
    have hD := fun w hw => Fn.calls [.int .i64 v] (impl_isMoney_ok v r1 h1) (r := .bool r1) rfl w hw
    have hA := fun w => Go.Proofs.Any.strconv_Atoi_ok Tryz.laysC172 s_ (by omega) v hv w
    refine Pn.ite (fun hr => ?_) (fun hr => ?_)
    · subst hr
      refine Pn.bind (fun r2 h2 => ?_)
      have hK := fun w hw => Fn.calls [.int .i64 v] (impl_NumText_ok v r2 h2) (r := .string r2) rfl w hw
      refine Pn.ite (fun hq => Pn.some (Fn.flats [.string s_] (by kernel_rfl) rfl (rs := [.int .i64 v, .bool true]) (fun w hw => ?_))) (fun hq => Pn.some (Fn.flats [.string s_] (by kernel_rfl) rfl (rs := [.int .i64 0, .bool false]) (fun w hw => ?_)))
      · have hq2 : r2 = s_ := ba_of_beq hq
        subst hq2
        go_enter Tryz.func14, Tryz.ntmps14
        go_wp2_with (go_at_call 33; refine (hA _).mono ?_; rintro e w1 ⟨rfl, hb1⟩)
        have hb1 := below_bytes hb1
        go_wp2_with (go_at_call 34; refine (hD _ (hw.below hb1)).mono ?_; rintro e w2 ⟨rfl, hb2⟩)
        have hb2 := below_then hb1 hb2
        go_wp2_with (go_at_call 35; refine (hK _ (hw.below hb2)).mono ?_; rintro e w3 ⟨rfl, hb3⟩)
        go_wp2
        go_ret2
        exact ⟨rfl, below_then hb2 hb3⟩
      · have hq3 : (r2.toList == s_.toList) = false := by rw [← beq_toListBytes]; exact hq
        go_enter Tryz.func14, Tryz.ntmps14
        go_wp2_with (go_at_call 33; refine (hA _).mono ?_; rintro e w1 ⟨rfl, hb1⟩)
        have hb1 := below_bytes hb1
        go_wp2_with (go_at_call 34; refine (hD _ (hw.below hb1)).mono ?_; rintro e w2 ⟨rfl, hb2⟩)
        have hb2 := below_then hb1 hb2
        go_wp2_with (go_at_call 35; refine (hK _ (hw.below hb2)).mono ?_; rintro e w3 ⟨rfl, hb3⟩)
        go_wp2
        go_ret2
        exact ⟨rfl, below_then hb2 hb3⟩
    · subst hr
      refine Pn.some (Fn.flats [.string s_] (by kernel_rfl) rfl (rs := [.int .i64 0, .bool false]) (fun w hw => ?_))
      go_enter Tryz.func14, Tryz.ntmps14
      go_wp2_with (go_at_call 33; refine (hA _).mono ?_; rintro e w1 ⟨rfl, hb1⟩)
      have hb1 := below_bytes hb1
      go_wp2_with (go_at_call 34; refine (hD _ (hw.below hb1)).mono ?_; rintro e w2 ⟨rfl, hb2⟩)
      go_wp2
      go_ret2
      exact ⟨rfl, below_then hb1 hb2⟩
  | «syntax» =>
    refine Pn.some (Fn.flats [.string s_] (by kernel_rfl) rfl (rs := [.int .i64 0, .bool false]) (fun w hw => ?_))
    obtain ⟨ev, hc, he⟩ := glob_cell hw (b := 0) (List.Mem.tail _ (List.Mem.tail _ (List.Mem.head _))) (v := fun ev => ev = .nilIface ∨ ∃ te pe, ev = .iface te pe) (fun cs h => h)
    have hA := Go.Proofs.Any.strconv_Atoi_syntax Tryz.laysC172 s_ hz hv ev w hc he
    go_enter Tryz.func14, Tryz.ntmps14
    go_wp2_with (go_at_call 33; refine hA.mono ?_; rintro e w1 ⟨M, rfl, _, _, hb1⟩)
    go_wp2
    go_ret2
    exact ⟨rfl, hb1⟩
  | range =>
    refine Pn.some (Fn.flats [.string s_] (by kernel_rfl) rfl (rs := [.int .i64 0, .bool false]) (fun w hw => ?_))
    obtain ⟨ev, hc, he⟩ := glob_cell hw (b := 1) (List.Mem.tail _ (List.Mem.tail _ (List.Mem.tail _ (List.Mem.head _)))) (v := fun ev => ev = .nilIface ∨ ∃ te pe, ev = .iface te pe) (fun cs h => h)
    have hA := Go.Proofs.Any.strconv_Atoi_range Tryz.laysC172 s_ hz hv ev w hc he
    go_enter Tryz.func14, Tryz.ntmps14
    go_wp2_with (go_at_call 33; refine hA.mono ?_; rintro e w1 ⟨M, rfl, _, _, hb1⟩)
    go_wp2
    go_ret2
    exact ⟨rfl, hb1⟩
def impl_RingNew_s1 (buckets : Int) (span : Int) (r1 : Bool) (r2 : Bool) : St := st 21 [(0, V.sc (.int .i64 buckets)), (1, V.sc (.int .i64 span)), (4, V.ptr 0 0), (5, V.sc (.bool true)), (6, V.sc (.int .i64 buckets)), (7, V.sc (.bool r1)), (8, V.sc (.bool (!r1))), (9, V.sc (.bool (!r1))), (10, V.sc (.int .i64 span)), (11, V.sc (.bool r2)), (12, V.sc (.bool (!r2))), (13, V.sc (.bool (!r2))), (15, V.sc (.int .i64 span)), (16, V.sc (.int .i64 buckets)), (17, V.ow 1), (18, V.sc (.int .i64 buckets)), (19, V.ow 2), (20, V.agg [V.sc (.int .i64 span), V.sc (.int .i64 0), V.ow 1, V.ow 2])] [Blk.box 25 [V.sc (.int .i64 span), V.sc (.int .i64 0), V.ow 1, V.ow 2], Blk.row 3 (List.map E3 (List.replicate buckets.toNat 0)) [], Blk.row 3 (List.map E3 (List.replicate buckets.toNat 0)) []] []
def impl_RingNew (buckets : Int) (span : Int) : Option (Ring × Bool) :=
 (impl_within buckets 1 8).bind fun r1 =>
 if r1 = true then
 (impl_within span 1 1000).bind fun r2 =>
 if r2 = true then
 if (decide (0 ≤ buckets)) = true then
 if (capOk buckets.toNat) = true then
 some ((Ring.mk span 0 (List.replicate buckets.toNat 0) (List.replicate buckets.toNat 0)), true)
 else none
 else none
 else
 some ((Ring.mk 0 0 [] []), false)
 else
 some ((Ring.mk 0 0 [] []), false)
theorem impl_RingNew_ok (buckets : Int) (span : Int) : Pn (fun y => Fn Tryz.prog 36 [(false, E3 buckets), (false, E3 span)] (V.tup [E25 y.1, E4 y.2]) []) (impl_RingNew buckets span) := by
  unfold impl_RingNew
  exact
   Pn.bind (fun r1 h1 =>
   Pn.ite (fun h2 =>
   Pn.bind (fun r2 h3 =>
   Pn.ite (fun h4 =>
   Pn.ite (fun h5 =>
   Pn.ite (fun h6 =>
   Pn.some (Fn.of [.call [] (E4 r1) [], .bit false, .bit false, .call [] (E4 r2) [], .bit false, .bit false, .bit false, .draw [6], .loop .go ((impl_RingNew_s1 buckets span r1 r2)), .nb 1 (.row 3 (List.map E3 (List.replicate buckets.toNat 0)) []), .wait 1, .nb 2 (.row 3 (List.map E3 (List.replicate buckets.toNat 0)) []), .wait 3, .ren [0, 1, 2], .wait 1, .nb 1 (.row 3 (List.map E3 (List.replicate buckets.toNat 0)) []), .wait 1, .nb 2 (.row 3 (List.map E3 (List.replicate buckets.toNat 0)) []), .wait 3, .ren [0, 2, 1]] (p := [Fn Tryz.prog 61 [(false, E3 buckets), (false, E3 1), (false, E3 8)] (E4 r1) [],
    (true || ((E4 r1).nv && nvL [])) = true,
    (!r1) = false,
    (!r1) = false,
    Fn Tryz.prog 61 [(false, E3 span), (false, E3 1), (false, E3 1000)] (E4 r2) [],
    (true || ((E4 r2).nv && nvL [])) = true,
    (!r1) = false,
    (!r1) = false,
    (!r2) = false,
    (buckets : Int) = buckets,
    (0 : Int) ≤ buckets,
    (buckets : Int) ≤ 9223372036854775807,
    8 * buckets.toNat ≤ 281474976710656,
    Blk.row 3 (List.replicate buckets.toNat (V.sc (.int .i64 0))) [] = Blk.row 3 (List.map E3 (List.replicate buckets.toNat 0)) [],
    (buckets : Int) = buckets,
    (0 : Int) ≤ buckets,
    (buckets : Int) ≤ 9223372036854775807,
    8 * buckets.toNat ≤ 281474976710656,
    Blk.row 3 (List.replicate buckets.toNat (V.sc (.int .i64 0))) [] = Blk.row 3 (List.map E3 (List.replicate buckets.toNat 0)) [],
    (impl_RingNew_s1 buckets span r1 r2) = (impl_RingNew_s1 buckets span r1 r2),
    (buckets : Int) = buckets,
    (0 : Int) ≤ buckets,
    (buckets : Int) ≤ 9223372036854775807,
    8 * buckets.toNat ≤ 281474976710656,
    Blk.row 3 (List.replicate buckets.toNat (V.sc (.int .i64 0))) [] = Blk.row 3 (List.map E3 (List.replicate buckets.toNat 0)) [],
    (buckets : Int) = buckets,
    (0 : Int) ≤ buckets,
    (buckets : Int) ≤ 9223372036854775807,
    8 * buckets.toNat ≤ 281474976710656,
    Blk.row 3 (List.replicate buckets.toNat (V.sc (.int .i64 0))) [] = Blk.row 3 (List.map E3 (List.replicate buckets.toNat 0)) [],
    (impl_RingNew_s1 buckets span r1 r2) = (impl_RingNew_s1 buckets span r1 r2)]) (by kernel_rfl) (cj (impl_within_ok buckets 1 8 r1 h1) (cj rfl (cj (nf h2) (cj (nf h2) (cj (impl_within_ok span 1 1000 r2 h3) (cj rfl (cj (nf h2) (cj (nf h2) (cj (nf h4) (cj rfl (cj (od h5) (cj (cap3 h5 h6) (cj (cap4 h6 (by decide)) (cj (nb_rep E3 _ 0) (cj rfl (cj (od h5) (cj (cap3 h5 h6) (cj (cap4 h6 (by decide)) (cj (nb_rep E3 _ 0) (cj rfl (cj rfl (cj (od h5) (cj (cap3 h5 h6) (cj (cap4 h6 (by decide)) (cj (nb_rep E3 _ 0) (cj rfl (cj (od h5) (cj (cap3 h5 h6) (cj (cap4 h6 (by decide)) (cj (nb_rep E3 _ 0) (cj1 rfl))))))))))))))))))))))))))))))))) (fun h6 =>
   Pn.none)) (fun h5 =>
   Pn.none)) (fun h4 =>
   Pn.some (Fn.of [.call [] (E4 r1) [], .bit false, .bit false, .call [] (E4 r2) [], .bit false, .bit false, .bit true] (p := [Fn Tryz.prog 61 [(false, E3 buckets), (false, E3 1), (false, E3 8)] (E4 r1) [],
    (true || ((E4 r1).nv && nvL [])) = true,
    (!r1) = false,
    (!r1) = false,
    Fn Tryz.prog 61 [(false, E3 span), (false, E3 1), (false, E3 1000)] (E4 r2) [],
    (true || ((E4 r2).nv && nvL [])) = true,
    (!r1) = false,
    (!r1) = false,
    (!r2) = true]) (by kernel_rfl) (cj (impl_within_ok buckets 1 8 r1 h1) (cj rfl (cj (nf h2) (cj (nf h2) (cj (impl_within_ok span 1 1000 r2 h3) (cj rfl (cj (nf h2) (cj (nf h2) (cj1 (nt h4)))))))))))))) (fun h2 =>
   Pn.some (Fn.of [.call [] (E4 r1) [], .bit true, .bit true, .bit true, .bit true, .bit true] (p := [Fn Tryz.prog 61 [(false, E3 buckets), (false, E3 1), (false, E3 8)] (E4 r1) [],
    (true || ((E4 r1).nv && nvL [])) = true,
    (!r1) = true,
    (!r1) = true,
    (!r1) = true,
    (!r1) = true,
    true = true]) (by kernel_rfl) (cj (impl_within_ok buckets 1 8 r1 h1) (cj rfl (cj (nt h2) (cj (nt h2) (cj (nt h2) (cj (nt h2) (cj1 rfl))))))))))
def impl_Digits_l0 (s_ : ByteArray) : Nat → Int → Option (Lo Unit Unit)
  | 0, _ => none
  | fuel + 1, v1 =>
   if (decide (v1 < (s_.size : Int))) = true then
   if (decide (0 ≤ v1)) = true then
   if (decide ((v1 : Int) < (s_.size : Int))) = true then
   if (decide ((sAt s_ v1) < 48)) = true then
   some (.ret ())
   else
   if (decide (57 < (sAt s_ v1))) = true then
   some (.ret ())
   else
   impl_Digits_l0 s_ fuel (i64 (v1 + 1))
   else none
   else none
   else
   some (.out ())
theorem impl_Digits_l0_ok (s_ : ByteArray) : ∀ (fuel : Nat) (v1 : Int), Pn (LpO Tryz.prog (sub (codeOf Tryz.prog 113) [1, 0, 1, 0, 0]) (st 22 [(0, V.sc (.string s_)), (5, V.sc (.int .i64 (s_.size : Int))), (6, V.sc (.int .i64 v1))] [] []) (fun (y : Lo Unit Unit) => Lo.elim y (fun s => (X.out 0, st 22 [(0, V.sc (.string s_))] [] [])) (fun s => (X.ret, st 22 [(2, V.sc (.bool false))] [] [])))) (impl_Digits_l0 s_ fuel v1)
  | 0, _ => Pn.none
  | fuel + 1, v1 => by
    unfold impl_Digits_l0
    exact
     Pn.ite (fun h1 =>
     Pn.ite (fun h2 =>
     Pn.ite (fun h3 =>
     Pn.ite (fun h4 =>
     Pn.some (LpO.out [.bit true, .bit true, .bit true, .bit true, .bit true, .bit true, .bit true, .wait 1, .mask [2], .ren []] (p := [(decide (v1 < (s_.size : Int))) = true,
      (0 : Int) ≤ v1,
      (v1 : Int) < s_.size,
      (decide ((sAt s_ v1) < 48)) = true,
      (decide ((sAt s_ v1) < 48)) = true,
      (decide ((sAt s_ v1) < 48)) = true,
      (decide ((sAt s_ v1) < 48)) = true,
      (decide ((sAt s_ v1) < 48)) = true,
      true = true]) (by kernel_rfl) (show X.ret ≠ X.go from nofun) (cj h1 (cj (od h2) (cj (od h3) (cj h4 (cj h4 (cj h4 (cj h4 (cj h4 (cj1 rfl))))))))))) (fun h4 =>
     Pn.ite (fun h5 =>
     Pn.some (LpO.out [.bit true, .bit false, .bit false, .bit false, .bit false, .bit false, .bit true, .wait 1, .mask [2], .ren []] (p := [(decide (v1 < (s_.size : Int))) = true,
      (0 : Int) ≤ v1,
      (v1 : Int) < s_.size,
      (decide ((sAt s_ v1) < 48)) = false,
      (decide ((sAt s_ v1) < 48)) = false,
      (decide ((sAt s_ v1) < 48)) = false,
      (0 : Int) ≤ v1,
      (v1 : Int) < s_.size,
      (decide ((sAt s_ v1) < 48)) = false,
      (decide ((sAt s_ v1) < 48)) = false,
      (decide (57 < (sAt s_ v1))) = true]) (by kernel_rfl) (show X.ret ≠ X.go from nofun) (cj h1 (cj (od h2) (cj (od h3) (cj h4 (cj h4 (cj h4 (cj (od h2) (cj (od h3) (cj h4 (cj h4 (cj1 h5))))))))))))) (fun h5 =>
     LpO.go [.bit true, .bit false, .bit false, .bit false, .bit false, .bit false, .bit false, .wait 2, .mask [0, 5, 6], .ren []] (p := [(decide (v1 < (s_.size : Int))) = true,
      (0 : Int) ≤ v1,
      (v1 : Int) < s_.size,
      (decide ((sAt s_ v1) < 48)) = false,
      (decide ((sAt s_ v1) < 48)) = false,
      (decide ((sAt s_ v1) < 48)) = false,
      (0 : Int) ≤ v1,
      (v1 : Int) < s_.size,
      (decide ((sAt s_ v1) < 48)) = false,
      (decide ((sAt s_ v1) < 48)) = false,
      (decide (57 < (sAt s_ v1))) = false]) (by kernel_rfl) (cj h1 (cj (od h2) (cj (od h3) (cj h4 (cj h4 (cj h4 (cj (od h2) (cj (od h3) (cj h4 (cj h4 (cj1 h5))))))))))) (impl_Digits_l0_ok s_ fuel (i64 (v1 + 1)))))) (fun h3 =>
     Pn.none)) (fun h2 =>
     Pn.none)) (fun h1 =>
     Pn.some (LpO.out [.bit false, .mask [0], .ren []] (p := [(decide (v1 < (s_.size : Int))) = false]) (by kernel_rfl) (show X.out 0 ≠ X.go from nofun) (cj1 h1)))
def impl_Digits (s_ : ByteArray) : Option (Bool) :=
 (impl_Digits_l0 s_ FUEL 0).bind fun r1 =>
 Lo.elim r1 (fun s1 =>
 some (!(s_ == (bs [])))) (fun s2 =>
 some false)
theorem impl_Digits_ok (s_ : ByteArray) : Pn (fun y => Fn Tryz.prog 113 [(false, E9 s_)] (E4 y) []) (impl_Digits s_) := by
  unfold impl_Digits
  exact
   Pn.bind (fun r1 h6 =>
   Pn.lo (fun s1 h7 =>
   Pn.some (Fn.of [.wait 5, .mask [0, 5, 6], .ren [], .loop (X.out 0) (st 22 [(0, V.sc (.string s_))] [] [])] (p := [Loop Tryz.prog (sub (codeOf Tryz.prog 113) [1, 0, 1, 0, 0]) (st 22 [(0, V.sc (.string s_)), (5, V.sc (.int .i64 (s_.size : Int))), (6, V.sc (.int .i64 0))] [] []) (X.out 0) (st 22 [(0, V.sc (.string s_))] [] [])]) (by kernel_rfl) (cj1 ((impl_Digits_l0_ok s_ FUEL 0 r1 h6).at h7 :)))) (fun s2 h8 =>
   Pn.some (Fn.of [.wait 5, .mask [0, 5, 6], .ren [], .loop (X.ret) (st 22 [(2, V.sc (.bool false))] [] [])] (p := [Loop Tryz.prog (sub (codeOf Tryz.prog 113) [1, 0, 1, 0, 0]) (st 22 [(0, V.sc (.string s_)), (5, V.sc (.int .i64 (s_.size : Int))), (6, V.sc (.int .i64 0))] [] []) (X.ret) (st 22 [(2, V.sc (.bool false))] [] [])]) (by kernel_rfl) (cj1 ((impl_Digits_l0_ok s_ FUEL 0 r1 h6).at h8 :)))))
def impl_Luhn_l0 (s_ : ByteArray) : Nat → Int → Bool → Int → Option (Int)
  | 0, _, _, _ => none
  | fuel + 1, v1, v2, v3 =>
   if (decide (0 ≤ v3)) = true then
   if (decide ((v3 : Int) < (s_.size : Int))) = true then
   if v2 = true then
   if (decide (9 < (i64 ((i64 (u8 ((sAt s_ v3) - 48))) * 2)))) = true then
   impl_Luhn_l0 s_ fuel (i64 (v1 + (i64 ((i64 ((i64 (u8 ((sAt s_ v3) - 48))) * 2)) - 9)))) (!v2) (i64 (v3 - 1))
   else
   impl_Luhn_l0 s_ fuel (i64 (v1 + (i64 ((i64 (u8 ((sAt s_ v3) - 48))) * 2)))) (!v2) (i64 (v3 - 1))
   else
   impl_Luhn_l0 s_ fuel (i64 (v1 + (i64 (u8 ((sAt s_ v3) - 48))))) (!v2) (i64 (v3 - 1))
   else none
   else
   some v1
theorem impl_Luhn_l0_ok (s_ : ByteArray) : ∀ (fuel : Nat) (v1 : Int) (v2 : Bool) (v3 : Int), Pn (LpO Tryz.prog (sub (codeOf Tryz.prog 114) [1, 1, 1, 0, 1, 0, 0]) (st 38 [(0, V.sc (.string s_)), (3, V.sc (.int .i64 v1)), (4, V.sc (.bool v2)), (5, V.sc (.int .i64 v3))] [] []) (fun (y : Int) => (X.out 0, st 38 [(3, V.sc (.int .i64 y))] [] []))) (impl_Luhn_l0 s_ fuel v1 v2 v3)
  | 0, _, _, _ => Pn.none
  | fuel + 1, v1, v2, v3 => by
    unfold impl_Luhn_l0
    exact
     Pn.ite (fun h3 =>
     Pn.ite (fun h4 =>
     Pn.ite (fun h5 =>
     Pn.ite (fun h6 =>
     LpO.go [.bit true, .bit true, .bit true, .wait 13, .mask [0, 3, 4, 5], .ren []] (p := [(decide (0 ≤ v3)) = true,
      (0 : Int) ≤ v3,
      (v3 : Int) < s_.size,
      v2 = true,
      (decide (9 < (i64 ((i64 (u8 ((sAt s_ v3) - 48))) * 2)))) = true]) (by kernel_rfl) (cj h3 (cj (od h3) (cj (od h4) (cj h5 (cj1 h6))))) (impl_Luhn_l0_ok s_ fuel (i64 (v1 + (i64 ((i64 ((i64 (u8 ((sAt s_ v3) - 48))) * 2)) - 9)))) (!v2) (i64 (v3 - 1)))) (fun h6 =>
     LpO.go [.bit true, .bit true, .bit false, .wait 10, .mask [0, 3, 4, 5], .ren []] (p := [(decide (0 ≤ v3)) = true,
      (0 : Int) ≤ v3,
      (v3 : Int) < s_.size,
      v2 = true,
      (decide (9 < (i64 ((i64 (u8 ((sAt s_ v3) - 48))) * 2)))) = false]) (by kernel_rfl) (cj h3 (cj (od h3) (cj (od h4) (cj h5 (cj1 h6))))) (impl_Luhn_l0_ok s_ fuel (i64 (v1 + (i64 ((i64 (u8 ((sAt s_ v3) - 48))) * 2)))) (!v2) (i64 (v3 - 1))))) (fun h5 =>
     LpO.go [.bit true, .bit false, .wait 10, .mask [0, 3, 4, 5], .ren []] (p := [(decide (0 ≤ v3)) = true,
      (0 : Int) ≤ v3,
      (v3 : Int) < s_.size,
      v2 = false]) (by kernel_rfl) (cj h3 (cj (od h3) (cj (od h4) (cj1 h5)))) (impl_Luhn_l0_ok s_ fuel (i64 (v1 + (i64 (u8 ((sAt s_ v3) - 48))))) (!v2) (i64 (v3 - 1))))) (fun h4 =>
     Pn.none)) (fun h3 =>
     Pn.some (LpO.out [.bit false, .mask [3], .ren []] (p := [(decide (0 ≤ v3)) = false]) (by kernel_rfl) (show X.out 0 ≠ X.go from nofun) (cj1 h3)))
def impl_Luhn (s_ : ByteArray) : Option (Int) :=
 (impl_Digits s_).bind fun r1 =>
 if r1 = true then
 (impl_Luhn_l0 s_ FUEL 0 true (i64 ((s_.size : Int) - 1))).bind fun r2 =>
 some (Int.tmod (i64 (10 - (Int.tmod r2 10))) 10)
 else
 some (-1)
theorem impl_Luhn_ok (s_ : ByteArray) : Pn (fun y => Fn Tryz.prog 114 [(false, E9 s_)] (E3 y) []) (impl_Luhn s_) := by
  unfold impl_Luhn
  exact
   Pn.bind (fun r1 h1 =>
   Pn.ite (fun h2 =>
   Pn.bind (fun r2 h7 =>
   Pn.some (Fn.of [.call [] (E4 r1) [], .bit false, .wait 6, .mask [0, 3, 4, 5], .ren [], .loop (X.out 0) (st 38 [(3, V.sc (.int .i64 r2))] [] [])] (p := [Fn Tryz.prog 113 [(false, E9 s_)] (E4 r1) [],
    (true || ((E4 r1).nv && nvL [])) = true,
    (!r1) = false,
    Loop Tryz.prog (sub (codeOf Tryz.prog 114) [1, 1, 1, 0, 1, 0, 0]) (st 38 [(0, V.sc (.string s_)), (3, V.sc (.int .i64 0)), (4, V.sc (.bool true)), (5, V.sc (.int .i64 (i64 ((s_.size : Int) - 1))))] [] []) (X.out 0) (st 38 [(3, V.sc (.int .i64 r2))] [] []),
    (10 : Int) ≠ 0,
    (10 : Int) ≠ 0]) (by kernel_rfl) (cj (impl_Digits_ok s_ r1 h1) (cj rfl (cj (nf h2) (cj (impl_Luhn_l0_ok s_ FUEL 0 true (i64 ((s_.size : Int) - 1)) r2 h7) (cj (by decide) (cj1 (by decide)))))))))) (fun h2 =>
   Pn.some (Fn.of [.call [] (E4 r1) [], .bit true] (p := [Fn Tryz.prog 113 [(false, E9 s_)] (E4 r1) [],
    (true || ((E4 r1).nv && nvL [])) = true,
    (!r1) = true]) (by kernel_rfl) (cj (impl_Digits_ok s_ r1 h1) (cj rfl (cj1 (nt h2)))))))
def impl_LuhnOk (s_ : ByteArray) : Option (Bool) :=
 if (decide (1 ≤ (i64 ((s_.size : Int) - 1)))) = true then
 (impl_Digits s_).bind fun r1 =>
 if r1 = true then
 if (decide (0 ≤ (i64 ((s_.size : Int) - 1)))) = true then
 if (decide ((i64 ((s_.size : Int) - 1)) ≤ (s_.size : Int))) = true then
 if (decide (0 ≤ i64 ((s_.size : Int) - 1))) = true then
 if (decide ((i64 ((s_.size : Int) - 1) : Int) < (s_.size : Int))) = true then
 (impl_Luhn (s_.extract 0 (i64 ((s_.size : Int) - 1)).toNat)).bind fun r2 =>
 some (r2 == (i64 (u8 ((sAt s_ (i64 ((s_.size : Int) - 1))) - 48))))
 else none
 else none
 else none
 else none
 else
 some false
 else
 some false
theorem impl_LuhnOk_ok (s_ : ByteArray) : Pn (fun y => Fn Tryz.prog 91 [(false, E9 s_)] (E4 y) []) (impl_LuhnOk s_) := by
  unfold impl_LuhnOk
  exact
   Pn.ite (fun h1 =>
   Pn.bind (fun r1 h2 =>
   Pn.ite (fun h3 =>
   Pn.ite (fun h4 =>
   Pn.ite (fun h5 =>
   Pn.ite (fun h6 =>
   Pn.ite (fun h7 =>
   Pn.bind (fun r2 h8 =>
   Pn.some (Fn.of [.draw [], .bit true, .bit true, .call [] (E4 r1) [], .bit true, .bit true, .bit true, .bit true, .bit true, .bit true, .bit true, .bit true, .bit true, .bit true, .call [] (E3 r2) [], .bit true, .bit true] (p := [(decide (1 ≤ (i64 ((s_.size : Int) - 1)))) = true,
    (decide (1 ≤ (i64 ((s_.size : Int) - 1)))) = true,
    Fn Tryz.prog 113 [(false, E9 s_)] (E4 r1) [],
    (true || ((E4 r1).nv && nvL [])) = true,
    (decide (1 ≤ (i64 ((s_.size : Int) - 1)))) = true,
    r1 = true,
    r1 = true,
    r1 = true,
    (0 : Int) ≤ 0,
    (0 : Int) ≤ (i64 ((s_.size : Int) - 1)),
    ((i64 ((s_.size : Int) - 1)) : Int) ≤ (s_.size : Int),
    r1 = true,
    r1 = true,
    r1 = true,
    (0 : Int) ≤ i64 ((s_.size : Int) - 1),
    (i64 ((s_.size : Int) - 1) : Int) < s_.size,
    r1 = true,
    r1 = true,
    r1 = true,
    Fn Tryz.prog 114 [(false, E9 (s_.extract 0 (i64 ((s_.size : Int) - 1)).toNat))] (E3 r2) [],
    (true || ((E3 r2).nv && nvL [])) = true,
    r1 = true,
    r1 = true]) (by kernel_rfl) (cj h1 (cj h1 (cj (impl_Digits_ok s_ r1 h2) (cj rfl (cj h1 (cj h3 (cj h3 (cj h3 (cj (by decide) (cj (od h4) (cj (od h5) (cj h3 (cj h3 (cj h3 (cj (od h6) (cj (od h7) (cj h3 (cj h3 (cj h3 (cj (impl_Luhn_ok (s_.extract 0 (i64 ((s_.size : Int) - 1)).toNat) r2 h8) (cj rfl (cj h3 (cj1 h3)))))))))))))))))))))))))) (fun h7 =>
   Pn.none)) (fun h6 =>
   Pn.none)) (fun h5 =>
   Pn.none)) (fun h4 =>
   Pn.none)) (fun h3 =>
   Pn.some (Fn.of [.draw [], .bit true, .bit true, .call [] (E4 r1) [], .bit true, .bit false, .bit false, .bit false, .bit false, .bit false, .bit false, .bit false, .bit false, .bit false, .bit false, .bit false] (p := [(decide (1 ≤ (i64 ((s_.size : Int) - 1)))) = true,
    (decide (1 ≤ (i64 ((s_.size : Int) - 1)))) = true,
    Fn Tryz.prog 113 [(false, E9 s_)] (E4 r1) [],
    (true || ((E4 r1).nv && nvL [])) = true,
    (decide (1 ≤ (i64 ((s_.size : Int) - 1)))) = true,
    r1 = false,
    r1 = false,
    r1 = false,
    r1 = false,
    r1 = false,
    r1 = false,
    r1 = false,
    r1 = false,
    r1 = false,
    r1 = false,
    r1 = false]) (by kernel_rfl) (cj h1 (cj h1 (cj (impl_Digits_ok s_ r1 h2) (cj rfl (cj h1 (cj h3 (cj h3 (cj h3 (cj h3 (cj h3 (cj h3 (cj h3 (cj h3 (cj h3 (cj h3 (cj1 h3)))))))))))))))))))) (fun h1 =>
   Pn.some (Fn.of [.draw [], .bit false, .bit false, .bit false, .bit false, .bit false, .bit false, .bit false, .bit false, .bit false, .bit false, .bit false, .bit false, .bit false, .bit false] (p := [(decide (1 ≤ (i64 ((s_.size : Int) - 1)))) = false,
    (decide (1 ≤ (i64 ((s_.size : Int) - 1)))) = false,
    (decide (1 ≤ (i64 ((s_.size : Int) - 1)))) = false,
    false = false,
    false = false,
    false = false,
    false = false,
    false = false,
    false = false,
    false = false,
    false = false,
    false = false,
    false = false,
    false = false]) (by kernel_rfl) (cj h1 (cj h1 (cj h1 (cj rfl (cj rfl (cj rfl (cj rfl (cj rfl (cj rfl (cj rfl (cj rfl (cj rfl (cj rfl (cj1 rfl))))))))))))))))
def impl_AcctIdOk (s_ : ByteArray) : Option (Bool) :=
 if (decide ((s_.size : Int) ≤ 19)) = true then
 (impl_LuhnOk s_).bind fun r1 =>
 some r1
 else
 some false
theorem impl_AcctIdOk_ok (s_ : ByteArray) : Pn (fun y => Fn Tryz.prog 63 [(false, E9 s_)] (E4 y) []) (impl_AcctIdOk s_) := by
  unfold impl_AcctIdOk
  exact
   Pn.ite (fun h1 =>
   Pn.bind (fun r1 h2 =>
   Pn.some (Fn.of [.bit true, .bit true, .call [] (E4 r1) [], .bit true] (p := [(decide ((s_.size : Int) ≤ 19)) = true,
    (decide ((s_.size : Int) ≤ 19)) = true,
    Fn Tryz.prog 91 [(false, E9 s_)] (E4 r1) [],
    (true || ((E4 r1).nv && nvL [])) = true,
    (decide ((s_.size : Int) ≤ 19)) = true]) (by kernel_rfl) (cj h1 (cj h1 (cj (impl_LuhnOk_ok s_ r1 h2) (cj rfl (cj1 h1)))))))) (fun h1 =>
   Pn.some (Fn.of [.bit false, .bit false, .bit false] (p := [(decide ((s_.size : Int) ≤ 19)) = false,
    (decide ((s_.size : Int) ≤ 19)) = false,
    (decide ((s_.size : Int) ≤ 19)) = false]) (by kernel_rfl) (cj h1 (cj h1 (cj1 h1)))))
end Go.Proofs.YtobmabejfbmmfaaGreatDoorM
