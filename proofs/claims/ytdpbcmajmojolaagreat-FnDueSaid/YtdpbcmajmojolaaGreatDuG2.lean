/- Printed by gen.py: functions on plain data, and that the program computes them. No condition. -/
import Derived.Test.YtdpbcmajmojolaaGreatDuG1
namespace Go.Proofs.YtdpbcmajmojolaaGreatM
set_option linter.unusedVariables false
set_option linter.unusedSimpArgs false
open Go.RowKit
set_option maxRecDepth 100000

def slices_DeleteFunc_impl_Hold_impl_HoldDrop_1_l0 (del0_0 : ByteArray) : Nat → Int → Int → (List Hold) → Option (Int × (List Hold))
  | 0, _, _, _ => none
  | n + 1, v1, v2, v3 =>
   if (decide (v2 < (v3.length : Int))) = true then
    if (decide (0 ≤ v2)) = true then
     (v3[v2.toNat]?).bind fun x1 =>
     (impl_HoldDrop_1 x1 del0_0).bind fun r2 =>
     if r2 = true then
      slices_DeleteFunc_impl_Hold_impl_HoldDrop_1_l0 del0_0 n v1 (i64 (v2 + 1)) v3
     else
      if (decide (0 ≤ v1)) = true then
       (v3[v1.toNat]?).bind fun x2 =>
       slices_DeleteFunc_impl_Hold_impl_HoldDrop_1_l0 del0_0 n (i64 (v1 + 1)) (i64 (v2 + 1)) (v3.set v1.toNat x1)
      else none
    else none
   else
    some (v1, v3)
theorem slices_DeleteFunc_impl_Hold_impl_HoldDrop_1_l0_ok (del0_0 : ByteArray) : ∀ (n : Nat) (v1 : Int) (v2 : Int) (v3 : List Hold), Pn (LpO Tryz.prog (sub (codeOf Tryz.prog 45) [1, 1, 1, 0, 1, 0, 0]) (st 42 [(0, V.ow 0), (1, V.fn 47 [V.cp [V.sc (.string del0_0)]]), (5, V.sc (.int .i64 v1)), (6, V.sc (.int .i64 v2))] [Blk.row 33 (List.map E33 v3) []] [some 0]) (fun (y : Int × (List Hold)) => (X.out 0, st 42 [(0, V.ow 0), (5, V.sc (.int .i64 y.1))] [Blk.row 33 (List.map E33 y.2) []] [some 0]))) (slices_DeleteFunc_impl_Hold_impl_HoldDrop_1_l0 del0_0 n v1 v2 v3)
  | 0, _, _, _ => Pn.none
  | n + 1, v1, v2, v3 => by
    unfold slices_DeleteFunc_impl_Hold_impl_HoldDrop_1_l0
    exact
     Pn.ite (fun h3 =>
      Pn.ite (fun h4 =>
       Pn.bind (fun x1 h5 =>
        Pn.bind (fun r2 h6 =>
         Pn.ite (fun h7 =>
          LpO.go [.wait 3, .nm 18 (V.sc (.int .i64 (v3.length : Int))), .bit true, .el (E33 x1), .call [] (E4 r2) [], .bit false, .wait 3, .mask [0, 1, 5, 6], .ren [0]] (p := [V.sc (.int .i64 ((List.map E33 v3).length : Int)) = V.sc (.int .i64 (v3.length : Int)),
           (decide (v2 < (v3.length : Int))) = true,
           (0 : Int) ≤ v2,
           (v2 : Int) < ((List.map E33 v3).length : Int),
           look [] v2.toNat = none,
           (List.map E33 v3)[v2.toNat]? = some (E33 x1),
           Fn Tryz.prog 47 [(false, E33 x1), (false, V.cp [V.sc (.string del0_0)])] (E4 r2) [],
           (true || ((E4 r2).nv && nvL [])) = true,
           (!r2) = false]) (by kernel_rfl) (cj (len_nm _ _) (cj h3 (cj (od h4) (cj (map_ltN (od h4) h5) (cj rfl (cj (map_get h5) (cj (impl_HoldDrop_1_ok x1 del0_0 r2 h6) (cj rfl (cj1 (nf h7)))))))))) (slices_DeleteFunc_impl_Hold_impl_HoldDrop_1_l0_ok del0_0 n v1 (i64 (v2 + 1)) v3)) (fun h7 =>
          Pn.ite (fun h8 =>
           Pn.bind (fun x2 h9 =>
            LpO.go [.wait 3, .nm 18 (V.sc (.int .i64 (v3.length : Int))), .bit true, .el (E33 x1), .call [] (E4 r2) [], .bit true, .el (E33 x2), .nb 0 (.row 33 (List.map E33 (v3.set v1.toNat x1)) []), .wait 7, .mask [0, 1, 5, 6], .ren [0]] (p := [V.sc (.int .i64 ((List.map E33 v3).length : Int)) = V.sc (.int .i64 (v3.length : Int)),
             (decide (v2 < (v3.length : Int))) = true,
             (0 : Int) ≤ v2,
             (v2 : Int) < ((List.map E33 v3).length : Int),
             look [] v2.toNat = none,
             (List.map E33 v3)[v2.toNat]? = some (E33 x1),
             Fn Tryz.prog 47 [(false, E33 x1), (false, V.cp [V.sc (.string del0_0)])] (E4 r2) [],
             (true || ((E4 r2).nv && nvL [])) = true,
             (!r2) = true,
             (0 : Int) ≤ v1,
             (v1 : Int) < ((List.map E33 v3).length : Int),
             look [] v1.toNat = none,
             (List.map E33 v3)[v1.toNat]? = some (E33 x2),
             Blk.row 33 ((List.map E33 v3).set v1.toNat (V.agg [V.sc (.string x1.Id), V.sc (.int .i64 x1.Amount), V.sc (.int .i64 x1.Due)])) [] = Blk.row 33 (List.map E33 (v3.set v1.toNat x1)) []]) (by kernel_rfl) (cj (len_nm _ _) (cj h3 (cj (od h4) (cj (map_ltN (od h4) h5) (cj rfl (cj (map_get h5) (cj (impl_HoldDrop_1_ok x1 del0_0 r2 h6) (cj rfl (cj (nt h7) (cj (od h8) (cj (map_ltN (od h8) h9) (cj rfl (cj (map_get h9) (cj1 (nb_set E33 _ _ x1))))))))))))))) (slices_DeleteFunc_impl_Hold_impl_HoldDrop_1_l0_ok del0_0 n (i64 (v1 + 1)) (i64 (v2 + 1)) (v3.set v1.toNat x1)))) (fun h8 =>
           Pn.none))))) (fun h4 =>
       Pn.none)) (fun h3 =>
      Pn.some (LpO.out [.wait 3, .nm 18 (V.sc (.int .i64 (v3.length : Int))), .bit false, .mask [0, 5], .ren [0]] (p := [V.sc (.int .i64 ((List.map E33 v3).length : Int)) = V.sc (.int .i64 (v3.length : Int)),
       (decide (v2 < (v3.length : Int))) = false]) (by kernel_rfl) (show X.out 0 ≠ X.go from nofun) (cj (len_nm _ _) (cj1 h3))))
def slices_DeleteFunc_impl_Hold_impl_HoldDrop_1 (s_ : List Hold) (del0_0 : ByteArray) : Option ((List Hold)) :=
 (slices_IndexFunc_impl_Hold_impl_HoldDrop_1 s_ del0_0).bind fun r1 =>
 if (r1 == (-1)) = true then
  some s_
 else
  (slices_DeleteFunc_impl_Hold_impl_HoldDrop_1_l0 del0_0 FUEL r1 (i64 (r1 + 1)) s_).bind fun r3 =>
  if (decide (0 ≤ r3.1)) = true then
   if (decide (r3.1 ≤ (r3.2.length : Int))) = true then
    if (decide (r3.1 ≤ ((r3.2.take r3.1.toNat ++ (List.replicate (r3.2.length - r3.1.toNat) (Hold.mk ByteArray.empty 0 0) ++ r3.2.drop (r3.1.toNat + (r3.2.length - r3.1.toNat)))).length : Int))) = true then
     some ((r3.2.take r3.1.toNat ++ (List.replicate (r3.2.length - r3.1.toNat) (Hold.mk ByteArray.empty 0 0) ++ r3.2.drop (r3.1.toNat + (r3.2.length - r3.1.toNat)))).take r3.1.toNat)
    else none
   else none
  else none
theorem slices_DeleteFunc_impl_Hold_impl_HoldDrop_1_ok (s_ : List Hold) (del0_0 : ByteArray) : Pn (fun y => Fn Tryz.prog 45 [(true, E23 s_), (false, V.fn 47 [V.cp [V.sc (.string del0_0)]])] (E23 y) [V.un]) (slices_DeleteFunc_impl_Hold_impl_HoldDrop_1 s_ del0_0) := by
  unfold slices_DeleteFunc_impl_Hold_impl_HoldDrop_1
  exact
   Pn.bind (fun r1 h1 =>
    Pn.ite (fun h2 =>
     Pn.some (Fn.of [.call [] (E3 r1) [], .bit true] (p := [Fn Tryz.prog 72 [(false, E23 s_), (false, V.fn 47 [V.cp [V.sc (.string del0_0)]])] (E3 r1) [],
      (false || ((E3 r1).nv && nvL [])) = true,
      (r1 == (-1)) = true]) (by kernel_rfl) (cj (slices_IndexFunc_impl_Hold_impl_HoldDrop_1_ok s_ del0_0 r1 h1) (cj (by simp [V.nv, nvL, nvL_all, nv_E3]) (cj1 h2))))) (fun h2 =>
     Pn.bind (fun r3 h10 =>
      Pn.ite (fun h11 =>
       Pn.ite (fun h12 =>
        Pn.ite (fun h13 =>
         Pn.some (Fn.as (res := V.sl true 33 ((List.map E33 (r3.2.take r3.1.toNat ++ (List.replicate (r3.2.length - r3.1.toNat) (Hold.mk ByteArray.empty 0 0) ++ r3.2.drop (r3.1.toNat + (r3.2.length - r3.1.toNat))))).take r3.1.toNat)) (sb_take _ _ _) rfl (Fn.of [.call [] (E3 r1) [], .bit false, .wait 3, .mask [0, 1, 5, 6], .ren [0], .loop (X.out 0) (st 42 [(0, V.ow 0), (5, V.sc (.int .i64 r3.1))] [Blk.row 33 (List.map E33 r3.2) []] [some 0]), .wait 3, .nm 38 (V.sb 0 3 r3.1.toNat (r3.2.length - r3.1.toNat)), .wait 1, .nb 0 (.row 33 (List.map E33 (r3.2.take r3.1.toNat ++ (List.replicate (r3.2.length - r3.1.toNat) (Hold.mk ByteArray.empty 0 0) ++ r3.2.drop (r3.1.toNat + (r3.2.length - r3.1.toNat))))) [])] (p := [Fn Tryz.prog 72 [(false, E23 s_), (false, V.fn 47 [V.cp [V.sc (.string del0_0)]])] (E3 r1) [],
          (false || ((E3 r1).nv && nvL [])) = true,
          (r1 == (-1)) = false,
          Loop Tryz.prog (sub (codeOf Tryz.prog 45) [1, 1, 1, 0, 1, 0, 0]) (st 42 [(0, V.ow 0), (1, V.fn 47 [V.cp [V.sc (.string del0_0)]]), (5, V.sc (.int .i64 r1)), (6, V.sc (.int .i64 (i64 (r1 + 1))))] [Blk.row 33 (List.map E33 s_) []] [some 0]) (X.out 0) (st 42 [(0, V.ow 0), (5, V.sc (.int .i64 r3.1))] [Blk.row 33 (List.map E33 r3.2) []] [some 0]),
          (0 : Int) ≤ r3.1,
          (r3.1 : Int) ≤ ((List.map E33 r3.2).length : Int),
          (((List.map E33 r3.2).length : Int) : Int) ≤ ((List.map E33 r3.2).length : Int),
          V.sb 0 3 r3.1.toNat ((((List.map E33 r3.2).length : Int).toNat) - (r3.1.toNat)) = V.sb 0 3 r3.1.toNat (r3.2.length - r3.1.toNat),
          Blk.row 33 ((List.map E33 r3.2).take r3.1.toNat ++ (List.replicate (r3.2.length - r3.1.toNat) (V.agg [V.sc (.string ByteArray.empty), V.sc (.int .i64 0), V.sc (.int .i64 0)]) ++ (List.map E33 r3.2).drop (r3.1.toNat + (r3.2.length - r3.1.toNat)))) [] = Blk.row 33 (List.map E33 (r3.2.take r3.1.toNat ++ (List.replicate (r3.2.length - r3.1.toNat) (Hold.mk ByteArray.empty 0 0) ++ r3.2.drop (r3.1.toNat + (r3.2.length - r3.1.toNat))))) [],
          (0 : Int) ≤ 0,
          (0 : Int) ≤ r3.1,
          (r3.1 : Int) ≤ ((List.map E33 (r3.2.take r3.1.toNat ++ (List.replicate (r3.2.length - r3.1.toNat) (Hold.mk ByteArray.empty 0 0) ++ r3.2.drop (r3.1.toNat + (r3.2.length - r3.1.toNat))))).length : Int)]) (by kernel_rfl) (cj (slices_IndexFunc_impl_Hold_impl_HoldDrop_1_ok s_ del0_0 r1 h1) (cj (by simp [V.nv, nvL, nvL_all, nv_E3]) (cj h2 (cj (slices_DeleteFunc_impl_Hold_impl_HoldDrop_1_l0_ok del0_0 FUEL r1 (i64 (r1 + 1)) s_ r3 h10) (cj (od h11) (cj (by rw [List.length_map]; exact (od h12)) (cj (Int.le_refl _) (cj (by simp) (cj (nb_clr E33 _ _ _ (Hold.mk ByteArray.empty 0 0)) (cj (by decide) (cj (od h11) (cj1 (by rw [List.length_map]; exact (od h13))))))))))))))))) (fun h13 =>
         Pn.none)) (fun h12 =>
        Pn.none)) (fun h11 =>
       Pn.none))))
def impl_HoldDrop (l : List Hold) (id : ByteArray) : Option ((List Hold)) :=
 (slices_Clone_impl_Hold l).bind fun r1 =>
 (slices_DeleteFunc_impl_Hold_impl_HoldDrop_1 r1 id).bind fun r2 =>
 some r2
theorem impl_HoldDrop_ok (l : List Hold) (id : ByteArray) : Pn (fun y => Fn Tryz.prog 20 [(false, E23 l), (false, E9 id)] (E23 y) []) (impl_HoldDrop l id) := by
  unfold impl_HoldDrop
  exact
   Pn.bind (fun r1 h1 =>
    Pn.bind (fun r2 h2 =>
     Pn.some (Fn.of [.call [] (E23 r1) [], .call [true, false] (E23 r2) [V.un]] (p := [Fn Tryz.prog 46 [(false, E23 l)] (E23 r1) [],
      (true || ((E23 r1).nv && nvL [])) = true,
      Fn Tryz.prog 45 [(true, E23 r1), (false, V.fn 47 [V.cp [V.sc (.string id)]])] (E23 r2) [V.un],
      (false || ((E23 r2).nv && nvL [V.un])) = true]) (by kernel_rfl) (cj (slices_Clone_impl_Hold_ok l r1 h1) (cj rfl (cj (slices_DeleteFunc_impl_Hold_impl_HoldDrop_1_ok r1 id r2 h2) (cj1 (by simp [V.nv, nvL, nvL_all, nv_E3, nv_E9, nv_E23, nv_E33]))))))))
def impl_Capture (o : Acct) (o_ : ByteArray) (a2 : Int) (a3 : Bool) (a4 : Int) : Option (Acct × Int) :=
 (impl_holdOf o o_ a2 a4).bind fun r1 =>
 if (r1.2.2 == 0) = true then
  if (decide (0 ≤ r1.2.1)) = true then
   (r1.1.Holds[r1.2.1.toNat]?).bind fun x1 =>
   if (decide (x1.Amount < a2)) = true then
    some ((Acct.mk ByteArray.empty 0 0 0 0 [] (Ring.mk 0 0 [] []) []), 7)
   else
    if (r1.2.2 != 0) = true then
     some ((Acct.mk ByteArray.empty 0 0 0 0 [] (Ring.mk 0 0 [] []) []), r1.2.2)
    else
     ((r1.1.Holds.set r1.2.1.toNat (Hold.mk x1.Id (i64 (x1.Amount - a2)) x1.Due))[r1.2.1.toNat]?).bind fun x2 =>
     if (x2.Amount == 0) = true then
      (impl_HoldDrop (r1.1.Holds.set r1.2.1.toNat (Hold.mk x1.Id (i64 (x1.Amount - a2)) x1.Due)) o_).bind fun r2 =>
      some ((Acct.mk r1.1.Id r1.1.Limit (i64 (r1.1.Posted + a2)) r1.1.Most r1.1.MostSum r2 r1.1.Ring r1.1.Slots), 0)
     else
      if a3 = true then
       (impl_HoldDrop (r1.1.Holds.set r1.2.1.toNat (Hold.mk x1.Id (i64 (x1.Amount - a2)) x1.Due)) o_).bind fun r3 =>
       some ((Acct.mk r1.1.Id r1.1.Limit (i64 (r1.1.Posted + a2)) r1.1.Most r1.1.MostSum r3 r1.1.Ring r1.1.Slots), 0)
      else
       some ((Acct.mk r1.1.Id r1.1.Limit (i64 (r1.1.Posted + a2)) r1.1.Most r1.1.MostSum (r1.1.Holds.set r1.2.1.toNat (Hold.mk x1.Id (i64 (x1.Amount - a2)) x1.Due)) r1.1.Ring r1.1.Slots), 0)
  else none
 else
  if (r1.2.2 != 0) = true then
   some ((Acct.mk ByteArray.empty 0 0 0 0 [] (Ring.mk 0 0 [] []) []), r1.2.2)
  else
   if (decide (0 ≤ r1.2.1)) = true then
    (r1.1.Holds[r1.2.1.toNat]?).bind fun x3 =>
    ((r1.1.Holds.set r1.2.1.toNat (Hold.mk x3.Id (i64 (x3.Amount - a2)) x3.Due))[r1.2.1.toNat]?).bind fun x4 =>
    if (x4.Amount == 0) = true then
     (impl_HoldDrop (r1.1.Holds.set r1.2.1.toNat (Hold.mk x3.Id (i64 (x3.Amount - a2)) x3.Due)) o_).bind fun r4 =>
     some ((Acct.mk r1.1.Id r1.1.Limit (i64 (r1.1.Posted + a2)) r1.1.Most r1.1.MostSum r4 r1.1.Ring r1.1.Slots), 0)
    else
     if a3 = true then
      (impl_HoldDrop (r1.1.Holds.set r1.2.1.toNat (Hold.mk x3.Id (i64 (x3.Amount - a2)) x3.Due)) o_).bind fun r5 =>
      some ((Acct.mk r1.1.Id r1.1.Limit (i64 (r1.1.Posted + a2)) r1.1.Most r1.1.MostSum r5 r1.1.Ring r1.1.Slots), 0)
     else
      some ((Acct.mk r1.1.Id r1.1.Limit (i64 (r1.1.Posted + a2)) r1.1.Most r1.1.MostSum (r1.1.Holds.set r1.2.1.toNat (Hold.mk x3.Id (i64 (x3.Amount - a2)) x3.Due)) r1.1.Ring r1.1.Slots), 0)
   else none
theorem impl_Capture_ok (o : Acct) (o_ : ByteArray) (a2 : Int) (a3 : Bool) (a4 : Int) : Pn (fun y => Fn Tryz.prog 6 [(false, E29 o), (false, E9 o_), (false, E3 a2), (false, E4 a3), (false, E3 a4)] (V.tup [E29 y.1, E3 y.2]) []) (impl_Capture o o_ a2 a3 a4) := by
  unfold impl_Capture
  exact
   Pn.bind (fun r1 h1 =>
    Pn.ite (fun h2 =>
     Pn.ite (fun h3 =>
      Pn.bind (fun x1 h4 =>
       Pn.ite (fun h5 =>
        Pn.some (Fn.of [.call [] (V.tup [E29 r1.1, E3 r1.2.1, E3 r1.2.2]) [], .bit true, .bit true, .bit true, .bit true, .bit true, .bit true, .bit true, .el (E33 x1), .bit true, .bit true, .bit true, .bit true] (p := [Fn Tryz.prog 19 [(false, E29 o), (false, E9 o_), (false, E3 a2), (false, E3 a4)] (V.tup [E29 r1.1, E3 r1.2.1, E3 r1.2.2]) [],
         (true || ((V.tup [E29 r1.1, E3 r1.2.1, E3 r1.2.2]).nv && nvL [])) = true,
         (r1.2.2 == 0) = true,
         (r1.2.2 == 0) = true,
         (r1.2.2 == 0) = true,
         (r1.2.2 == 0) = true,
         (r1.2.2 == 0) = true,
         (0 : Int) ≤ r1.2.1,
         (r1.2.1 : Int) < ((List.map E33 r1.1.Holds).length : Int),
         (r1.2.2 == 0) = true,
         (r1.2.2 == 0) = true,
         look [] r1.2.1.toNat = none,
         (List.map E33 r1.1.Holds)[r1.2.1.toNat]? = some (E33 x1),
         (r1.2.2 == 0) = true,
         (r1.2.2 == 0) = true,
         (decide (x1.Amount < a2)) = true,
         true = true]) (by kernel_rfl) (cj (impl_holdOf_ok o o_ a2 a4 r1 h1) (cj rfl (cj h2 (cj h2 (cj h2 (cj h2 (cj h2 (cj (od h3) (cj (map_ltN (od h3) h4) (cj h2 (cj h2 (cj rfl (cj (map_get h4) (cj h2 (cj h2 (cj h5 (cj1 rfl))))))))))))))))))) (fun h5 =>
        Pn.ite (fun h6 =>
         Pn.some (Fn.of [.call [] (V.tup [E29 r1.1, E3 r1.2.1, E3 r1.2.2]) [], .bit true, .bit true, .bit true, .bit true, .bit true, .bit true, .bit true, .el (E33 x1), .bit true, .bit true, .bit false, .bit true] (p := [Fn Tryz.prog 19 [(false, E29 o), (false, E9 o_), (false, E3 a2), (false, E3 a4)] (V.tup [E29 r1.1, E3 r1.2.1, E3 r1.2.2]) [],
          (true || ((V.tup [E29 r1.1, E3 r1.2.1, E3 r1.2.2]).nv && nvL [])) = true,
          (r1.2.2 == 0) = true,
          (r1.2.2 == 0) = true,
          (r1.2.2 == 0) = true,
          (r1.2.2 == 0) = true,
          (r1.2.2 == 0) = true,
          (0 : Int) ≤ r1.2.1,
          (r1.2.1 : Int) < ((List.map E33 r1.1.Holds).length : Int),
          (r1.2.2 == 0) = true,
          (r1.2.2 == 0) = true,
          look [] r1.2.1.toNat = none,
          (List.map E33 r1.1.Holds)[r1.2.1.toNat]? = some (E33 x1),
          (r1.2.2 == 0) = true,
          (r1.2.2 == 0) = true,
          (decide (x1.Amount < a2)) = false,
          (r1.2.2 != 0) = true]) (by kernel_rfl) (cj (impl_holdOf_ok o o_ a2 a4 r1 h1) (cj rfl (cj h2 (cj h2 (cj h2 (cj h2 (cj h2 (cj (od h3) (cj (map_ltN (od h3) h4) (cj h2 (cj h2 (cj rfl (cj (map_get h4) (cj h2 (cj h2 (cj h5 (cj1 h6))))))))))))))))))) (fun h6 =>
         Pn.bind (fun x2 h7 =>
          Pn.ite (fun h8 =>
           Pn.bind (fun r2 h9 =>
            Pn.some (Fn.of [.call [] (V.tup [E29 r1.1, E3 r1.2.1, E3 r1.2.2]) [], .bit true, .bit true, .bit true, .bit true, .bit true, .bit true, .bit true, .el (E33 x1), .bit true, .bit true, .bit false, .bit false, .el (E33 x1), .el (E33 x1), .nb 2 (.row 33 (List.map E33 (r1.1.Holds.set r1.2.1.toNat (Hold.mk x1.Id (i64 (x1.Amount - a2)) x1.Due))) []), .el (E33 x2), .bit true, .bit true, .bit true, .call [] (E23 r2) []] (p := [Fn Tryz.prog 19 [(false, E29 o), (false, E9 o_), (false, E3 a2), (false, E3 a4)] (V.tup [E29 r1.1, E3 r1.2.1, E3 r1.2.2]) [],
             (true || ((V.tup [E29 r1.1, E3 r1.2.1, E3 r1.2.2]).nv && nvL [])) = true,
             (r1.2.2 == 0) = true,
             (r1.2.2 == 0) = true,
             (r1.2.2 == 0) = true,
             (r1.2.2 == 0) = true,
             (r1.2.2 == 0) = true,
             (0 : Int) ≤ r1.2.1,
             (r1.2.1 : Int) < ((List.map E33 r1.1.Holds).length : Int),
             (r1.2.2 == 0) = true,
             (r1.2.2 == 0) = true,
             look [] r1.2.1.toNat = none,
             (List.map E33 r1.1.Holds)[r1.2.1.toNat]? = some (E33 x1),
             (r1.2.2 == 0) = true,
             (r1.2.2 == 0) = true,
             (decide (x1.Amount < a2)) = false,
             (r1.2.2 != 0) = false,
             (0 : Int) ≤ r1.2.1,
             (r1.2.1 : Int) < ((List.map E33 r1.1.Holds).length : Int),
             look [] r1.2.1.toNat = none,
             (List.map E33 r1.1.Holds)[r1.2.1.toNat]? = some (E33 x1),
             (0 : Int) ≤ r1.2.1,
             (r1.2.1 : Int) < ((List.map E33 r1.1.Holds).length : Int),
             look [] r1.2.1.toNat = none,
             (List.map E33 r1.1.Holds)[r1.2.1.toNat]? = some (E33 x1),
             Blk.row 33 ((List.map E33 r1.1.Holds).set r1.2.1.toNat (V.agg [V.sc (.string x1.Id), V.sc (.int .i64 (i64 (x1.Amount - a2))), V.sc (.int .i64 x1.Due)])) [] = Blk.row 33 (List.map E33 (r1.1.Holds.set r1.2.1.toNat (Hold.mk x1.Id (i64 (x1.Amount - a2)) x1.Due))) [],
             (0 : Int) ≤ r1.2.1,
             (r1.2.1 : Int) < ((List.map E33 (r1.1.Holds.set r1.2.1.toNat (Hold.mk x1.Id (i64 (x1.Amount - a2)) x1.Due))).length : Int),
             look [] r1.2.1.toNat = none,
             (List.map E33 (r1.1.Holds.set r1.2.1.toNat (Hold.mk x1.Id (i64 (x1.Amount - a2)) x1.Due)))[r1.2.1.toNat]? = some (E33 x2),
             (x2.Amount == 0) = true,
             (x2.Amount == 0) = true,
             true = true,
             Fn Tryz.prog 20 [(false, E23 (r1.1.Holds.set r1.2.1.toNat (Hold.mk x1.Id (i64 (x1.Amount - a2)) x1.Due))), (false, E9 o_)] (E23 r2) [],
             (false || ((E23 r2).nv && nvL [])) = true]) (by kernel_rfl) (cj (impl_holdOf_ok o o_ a2 a4 r1 h1) (cj rfl (cj h2 (cj h2 (cj h2 (cj h2 (cj h2 (cj (od h3) (cj (map_ltN (od h3) h4) (cj h2 (cj h2 (cj rfl (cj (map_get h4) (cj h2 (cj h2 (cj h5 (cj h6 (cj (od h3) (cj (map_ltN (od h3) h4) (cj rfl (cj (map_get h4) (cj (od h3) (cj (map_ltN (od h3) h4) (cj rfl (cj (map_get h4) (cj (nb_set E33 _ _ (Hold.mk x1.Id (i64 (x1.Amount - a2)) x1.Due)) (cj (od h3) (cj (map_ltN (od h3) h7) (cj rfl (cj (map_get h7) (cj h8 (cj h8 (cj rfl (cj (impl_HoldDrop_ok (r1.1.Holds.set r1.2.1.toNat (Hold.mk x1.Id (i64 (x1.Amount - a2)) x1.Due)) o_ r2 h9) (cj1 (by simp [V.nv, nvL, nvL_all, nv_E3, nv_E9, nv_E23, nv_E33]))))))))))))))))))))))))))))))))))))))) (fun h8 =>
           Pn.ite (fun h10 =>
            Pn.bind (fun r3 h11 =>
             Pn.some (Fn.of [.call [] (V.tup [E29 r1.1, E3 r1.2.1, E3 r1.2.2]) [], .bit true, .bit true, .bit true, .bit true, .bit true, .bit true, .bit true, .el (E33 x1), .bit true, .bit true, .bit false, .bit false, .el (E33 x1), .el (E33 x1), .nb 2 (.row 33 (List.map E33 (r1.1.Holds.set r1.2.1.toNat (Hold.mk x1.Id (i64 (x1.Amount - a2)) x1.Due))) []), .el (E33 x2), .bit false, .bit false, .bit true, .call [] (E23 r3) []] (p := [Fn Tryz.prog 19 [(false, E29 o), (false, E9 o_), (false, E3 a2), (false, E3 a4)] (V.tup [E29 r1.1, E3 r1.2.1, E3 r1.2.2]) [],
              (true || ((V.tup [E29 r1.1, E3 r1.2.1, E3 r1.2.2]).nv && nvL [])) = true,
              (r1.2.2 == 0) = true,
              (r1.2.2 == 0) = true,
              (r1.2.2 == 0) = true,
              (r1.2.2 == 0) = true,
              (r1.2.2 == 0) = true,
              (0 : Int) ≤ r1.2.1,
              (r1.2.1 : Int) < ((List.map E33 r1.1.Holds).length : Int),
              (r1.2.2 == 0) = true,
              (r1.2.2 == 0) = true,
              look [] r1.2.1.toNat = none,
              (List.map E33 r1.1.Holds)[r1.2.1.toNat]? = some (E33 x1),
              (r1.2.2 == 0) = true,
              (r1.2.2 == 0) = true,
              (decide (x1.Amount < a2)) = false,
              (r1.2.2 != 0) = false,
              (0 : Int) ≤ r1.2.1,
              (r1.2.1 : Int) < ((List.map E33 r1.1.Holds).length : Int),
              look [] r1.2.1.toNat = none,
              (List.map E33 r1.1.Holds)[r1.2.1.toNat]? = some (E33 x1),
              (0 : Int) ≤ r1.2.1,
              (r1.2.1 : Int) < ((List.map E33 r1.1.Holds).length : Int),
              look [] r1.2.1.toNat = none,
              (List.map E33 r1.1.Holds)[r1.2.1.toNat]? = some (E33 x1),
              Blk.row 33 ((List.map E33 r1.1.Holds).set r1.2.1.toNat (V.agg [V.sc (.string x1.Id), V.sc (.int .i64 (i64 (x1.Amount - a2))), V.sc (.int .i64 x1.Due)])) [] = Blk.row 33 (List.map E33 (r1.1.Holds.set r1.2.1.toNat (Hold.mk x1.Id (i64 (x1.Amount - a2)) x1.Due))) [],
              (0 : Int) ≤ r1.2.1,
              (r1.2.1 : Int) < ((List.map E33 (r1.1.Holds.set r1.2.1.toNat (Hold.mk x1.Id (i64 (x1.Amount - a2)) x1.Due))).length : Int),
              look [] r1.2.1.toNat = none,
              (List.map E33 (r1.1.Holds.set r1.2.1.toNat (Hold.mk x1.Id (i64 (x1.Amount - a2)) x1.Due)))[r1.2.1.toNat]? = some (E33 x2),
              (x2.Amount == 0) = false,
              (x2.Amount == 0) = false,
              a3 = true,
              Fn Tryz.prog 20 [(false, E23 (r1.1.Holds.set r1.2.1.toNat (Hold.mk x1.Id (i64 (x1.Amount - a2)) x1.Due))), (false, E9 o_)] (E23 r3) [],
              (false || ((E23 r3).nv && nvL [])) = true]) (by kernel_rfl) (cj (impl_holdOf_ok o o_ a2 a4 r1 h1) (cj rfl (cj h2 (cj h2 (cj h2 (cj h2 (cj h2 (cj (od h3) (cj (map_ltN (od h3) h4) (cj h2 (cj h2 (cj rfl (cj (map_get h4) (cj h2 (cj h2 (cj h5 (cj h6 (cj (od h3) (cj (map_ltN (od h3) h4) (cj rfl (cj (map_get h4) (cj (od h3) (cj (map_ltN (od h3) h4) (cj rfl (cj (map_get h4) (cj (nb_set E33 _ _ (Hold.mk x1.Id (i64 (x1.Amount - a2)) x1.Due)) (cj (od h3) (cj (map_ltN (od h3) h7) (cj rfl (cj (map_get h7) (cj h8 (cj h8 (cj h10 (cj (impl_HoldDrop_ok (r1.1.Holds.set r1.2.1.toNat (Hold.mk x1.Id (i64 (x1.Amount - a2)) x1.Due)) o_ r3 h11) (cj1 (by simp [V.nv, nvL, nvL_all, nv_E3, nv_E9, nv_E23, nv_E33]))))))))))))))))))))))))))))))))))))))) (fun h10 =>
            Pn.some (Fn.of [.call [] (V.tup [E29 r1.1, E3 r1.2.1, E3 r1.2.2]) [], .bit true, .bit true, .bit true, .bit true, .bit true, .bit true, .bit true, .el (E33 x1), .bit true, .bit true, .bit false, .bit false, .el (E33 x1), .el (E33 x1), .nb 2 (.row 33 (List.map E33 (r1.1.Holds.set r1.2.1.toNat (Hold.mk x1.Id (i64 (x1.Amount - a2)) x1.Due))) []), .el (E33 x2), .bit false, .bit false, .bit false] (p := [Fn Tryz.prog 19 [(false, E29 o), (false, E9 o_), (false, E3 a2), (false, E3 a4)] (V.tup [E29 r1.1, E3 r1.2.1, E3 r1.2.2]) [],
             (true || ((V.tup [E29 r1.1, E3 r1.2.1, E3 r1.2.2]).nv && nvL [])) = true,
             (r1.2.2 == 0) = true,
             (r1.2.2 == 0) = true,
             (r1.2.2 == 0) = true,
             (r1.2.2 == 0) = true,
             (r1.2.2 == 0) = true,
             (0 : Int) ≤ r1.2.1,
             (r1.2.1 : Int) < ((List.map E33 r1.1.Holds).length : Int),
             (r1.2.2 == 0) = true,
             (r1.2.2 == 0) = true,
             look [] r1.2.1.toNat = none,
             (List.map E33 r1.1.Holds)[r1.2.1.toNat]? = some (E33 x1),
             (r1.2.2 == 0) = true,
             (r1.2.2 == 0) = true,
             (decide (x1.Amount < a2)) = false,
             (r1.2.2 != 0) = false,
             (0 : Int) ≤ r1.2.1,
             (r1.2.1 : Int) < ((List.map E33 r1.1.Holds).length : Int),
             look [] r1.2.1.toNat = none,
             (List.map E33 r1.1.Holds)[r1.2.1.toNat]? = some (E33 x1),
             (0 : Int) ≤ r1.2.1,
             (r1.2.1 : Int) < ((List.map E33 r1.1.Holds).length : Int),
             look [] r1.2.1.toNat = none,
             (List.map E33 r1.1.Holds)[r1.2.1.toNat]? = some (E33 x1),
             Blk.row 33 ((List.map E33 r1.1.Holds).set r1.2.1.toNat (V.agg [V.sc (.string x1.Id), V.sc (.int .i64 (i64 (x1.Amount - a2))), V.sc (.int .i64 x1.Due)])) [] = Blk.row 33 (List.map E33 (r1.1.Holds.set r1.2.1.toNat (Hold.mk x1.Id (i64 (x1.Amount - a2)) x1.Due))) [],
             (0 : Int) ≤ r1.2.1,
             (r1.2.1 : Int) < ((List.map E33 (r1.1.Holds.set r1.2.1.toNat (Hold.mk x1.Id (i64 (x1.Amount - a2)) x1.Due))).length : Int),
             look [] r1.2.1.toNat = none,
             (List.map E33 (r1.1.Holds.set r1.2.1.toNat (Hold.mk x1.Id (i64 (x1.Amount - a2)) x1.Due)))[r1.2.1.toNat]? = some (E33 x2),
             (x2.Amount == 0) = false,
             (x2.Amount == 0) = false,
             a3 = false]) (by kernel_rfl) (cj (impl_holdOf_ok o o_ a2 a4 r1 h1) (cj rfl (cj h2 (cj h2 (cj h2 (cj h2 (cj h2 (cj (od h3) (cj (map_ltN (od h3) h4) (cj h2 (cj h2 (cj rfl (cj (map_get h4) (cj h2 (cj h2 (cj h5 (cj h6 (cj (od h3) (cj (map_ltN (od h3) h4) (cj rfl (cj (map_get h4) (cj (od h3) (cj (map_ltN (od h3) h4) (cj rfl (cj (map_get h4) (cj (nb_set E33 _ _ (Hold.mk x1.Id (i64 (x1.Amount - a2)) x1.Due)) (cj (od h3) (cj (map_ltN (od h3) h7) (cj rfl (cj (map_get h7) (cj h8 (cj h8 (cj1 h10))))))))))))))))))))))))))))))))))))))))) (fun h3 =>
      Pn.none)) (fun h2 =>
     Pn.ite (fun h12 =>
      Pn.some (Fn.of [.call [] (V.tup [E29 r1.1, E3 r1.2.1, E3 r1.2.2]) [], .bit false, .bit false, .bit false, .bit false, .bit false, .bit false, .bit false, .bit false, .bit false, .bit false, .bit true] (p := [Fn Tryz.prog 19 [(false, E29 o), (false, E9 o_), (false, E3 a2), (false, E3 a4)] (V.tup [E29 r1.1, E3 r1.2.1, E3 r1.2.2]) [],
       (true || ((V.tup [E29 r1.1, E3 r1.2.1, E3 r1.2.2]).nv && nvL [])) = true,
       (r1.2.2 == 0) = false,
       (r1.2.2 == 0) = false,
       (r1.2.2 == 0) = false,
       (r1.2.2 == 0) = false,
       (r1.2.2 == 0) = false,
       (r1.2.2 == 0) = false,
       (r1.2.2 == 0) = false,
       (r1.2.2 == 0) = false,
       (r1.2.2 == 0) = false,
       false = false,
       (r1.2.2 != 0) = true]) (by kernel_rfl) (cj (impl_holdOf_ok o o_ a2 a4 r1 h1) (cj rfl (cj h2 (cj h2 (cj h2 (cj h2 (cj h2 (cj h2 (cj h2 (cj h2 (cj h2 (cj rfl (cj1 h12))))))))))))))) (fun h12 =>
      Pn.ite (fun h13 =>
       Pn.bind (fun x3 h14 =>
        Pn.bind (fun x4 h15 =>
         Pn.ite (fun h16 =>
          Pn.bind (fun r4 h17 =>
           Pn.some (Fn.of [.call [] (V.tup [E29 r1.1, E3 r1.2.1, E3 r1.2.2]) [], .bit false, .bit false, .bit false, .bit false, .bit false, .bit false, .bit false, .bit false, .bit false, .bit false, .bit false, .el (E33 x3), .el (E33 x3), .nb 2 (.row 33 (List.map E33 (r1.1.Holds.set r1.2.1.toNat (Hold.mk x3.Id (i64 (x3.Amount - a2)) x3.Due))) []), .el (E33 x4), .bit true, .bit true, .bit true, .call [] (E23 r4) []] (p := [Fn Tryz.prog 19 [(false, E29 o), (false, E9 o_), (false, E3 a2), (false, E3 a4)] (V.tup [E29 r1.1, E3 r1.2.1, E3 r1.2.2]) [],
            (true || ((V.tup [E29 r1.1, E3 r1.2.1, E3 r1.2.2]).nv && nvL [])) = true,
            (r1.2.2 == 0) = false,
            (r1.2.2 == 0) = false,
            (r1.2.2 == 0) = false,
            (r1.2.2 == 0) = false,
            (r1.2.2 == 0) = false,
            (r1.2.2 == 0) = false,
            (r1.2.2 == 0) = false,
            (r1.2.2 == 0) = false,
            (r1.2.2 == 0) = false,
            false = false,
            (r1.2.2 != 0) = false,
            (0 : Int) ≤ r1.2.1,
            (r1.2.1 : Int) < ((List.map E33 r1.1.Holds).length : Int),
            look [] r1.2.1.toNat = none,
            (List.map E33 r1.1.Holds)[r1.2.1.toNat]? = some (E33 x3),
            (0 : Int) ≤ r1.2.1,
            (r1.2.1 : Int) < ((List.map E33 r1.1.Holds).length : Int),
            look [] r1.2.1.toNat = none,
            (List.map E33 r1.1.Holds)[r1.2.1.toNat]? = some (E33 x3),
            Blk.row 33 ((List.map E33 r1.1.Holds).set r1.2.1.toNat (V.agg [V.sc (.string x3.Id), V.sc (.int .i64 (i64 (x3.Amount - a2))), V.sc (.int .i64 x3.Due)])) [] = Blk.row 33 (List.map E33 (r1.1.Holds.set r1.2.1.toNat (Hold.mk x3.Id (i64 (x3.Amount - a2)) x3.Due))) [],
            (0 : Int) ≤ r1.2.1,
            (r1.2.1 : Int) < ((List.map E33 (r1.1.Holds.set r1.2.1.toNat (Hold.mk x3.Id (i64 (x3.Amount - a2)) x3.Due))).length : Int),
            look [] r1.2.1.toNat = none,
            (List.map E33 (r1.1.Holds.set r1.2.1.toNat (Hold.mk x3.Id (i64 (x3.Amount - a2)) x3.Due)))[r1.2.1.toNat]? = some (E33 x4),
            (x4.Amount == 0) = true,
            (x4.Amount == 0) = true,
            true = true,
            Fn Tryz.prog 20 [(false, E23 (r1.1.Holds.set r1.2.1.toNat (Hold.mk x3.Id (i64 (x3.Amount - a2)) x3.Due))), (false, E9 o_)] (E23 r4) [],
            (false || ((E23 r4).nv && nvL [])) = true]) (by kernel_rfl) (cj (impl_holdOf_ok o o_ a2 a4 r1 h1) (cj rfl (cj h2 (cj h2 (cj h2 (cj h2 (cj h2 (cj h2 (cj h2 (cj h2 (cj h2 (cj rfl (cj h12 (cj (od h13) (cj (map_ltN (od h13) h14) (cj rfl (cj (map_get h14) (cj (od h13) (cj (map_ltN (od h13) h14) (cj rfl (cj (map_get h14) (cj (nb_set E33 _ _ (Hold.mk x3.Id (i64 (x3.Amount - a2)) x3.Due)) (cj (od h13) (cj (map_ltN (od h13) h15) (cj rfl (cj (map_get h15) (cj h16 (cj h16 (cj rfl (cj (impl_HoldDrop_ok (r1.1.Holds.set r1.2.1.toNat (Hold.mk x3.Id (i64 (x3.Amount - a2)) x3.Due)) o_ r4 h17) (cj1 (by simp [V.nv, nvL, nvL_all, nv_E3, nv_E9, nv_E23, nv_E33]))))))))))))))))))))))))))))))))))) (fun h16 =>
          Pn.ite (fun h18 =>
           Pn.bind (fun r5 h19 =>
            Pn.some (Fn.of [.call [] (V.tup [E29 r1.1, E3 r1.2.1, E3 r1.2.2]) [], .bit false, .bit false, .bit false, .bit false, .bit false, .bit false, .bit false, .bit false, .bit false, .bit false, .bit false, .el (E33 x3), .el (E33 x3), .nb 2 (.row 33 (List.map E33 (r1.1.Holds.set r1.2.1.toNat (Hold.mk x3.Id (i64 (x3.Amount - a2)) x3.Due))) []), .el (E33 x4), .bit false, .bit false, .bit true, .call [] (E23 r5) []] (p := [Fn Tryz.prog 19 [(false, E29 o), (false, E9 o_), (false, E3 a2), (false, E3 a4)] (V.tup [E29 r1.1, E3 r1.2.1, E3 r1.2.2]) [],
             (true || ((V.tup [E29 r1.1, E3 r1.2.1, E3 r1.2.2]).nv && nvL [])) = true,
             (r1.2.2 == 0) = false,
             (r1.2.2 == 0) = false,
             (r1.2.2 == 0) = false,
             (r1.2.2 == 0) = false,
             (r1.2.2 == 0) = false,
             (r1.2.2 == 0) = false,
             (r1.2.2 == 0) = false,
             (r1.2.2 == 0) = false,
             (r1.2.2 == 0) = false,
             false = false,
             (r1.2.2 != 0) = false,
             (0 : Int) ≤ r1.2.1,
             (r1.2.1 : Int) < ((List.map E33 r1.1.Holds).length : Int),
             look [] r1.2.1.toNat = none,
             (List.map E33 r1.1.Holds)[r1.2.1.toNat]? = some (E33 x3),
             (0 : Int) ≤ r1.2.1,
             (r1.2.1 : Int) < ((List.map E33 r1.1.Holds).length : Int),
             look [] r1.2.1.toNat = none,
             (List.map E33 r1.1.Holds)[r1.2.1.toNat]? = some (E33 x3),
             Blk.row 33 ((List.map E33 r1.1.Holds).set r1.2.1.toNat (V.agg [V.sc (.string x3.Id), V.sc (.int .i64 (i64 (x3.Amount - a2))), V.sc (.int .i64 x3.Due)])) [] = Blk.row 33 (List.map E33 (r1.1.Holds.set r1.2.1.toNat (Hold.mk x3.Id (i64 (x3.Amount - a2)) x3.Due))) [],
             (0 : Int) ≤ r1.2.1,
             (r1.2.1 : Int) < ((List.map E33 (r1.1.Holds.set r1.2.1.toNat (Hold.mk x3.Id (i64 (x3.Amount - a2)) x3.Due))).length : Int),
             look [] r1.2.1.toNat = none,
             (List.map E33 (r1.1.Holds.set r1.2.1.toNat (Hold.mk x3.Id (i64 (x3.Amount - a2)) x3.Due)))[r1.2.1.toNat]? = some (E33 x4),
             (x4.Amount == 0) = false,
             (x4.Amount == 0) = false,
             a3 = true,
             Fn Tryz.prog 20 [(false, E23 (r1.1.Holds.set r1.2.1.toNat (Hold.mk x3.Id (i64 (x3.Amount - a2)) x3.Due))), (false, E9 o_)] (E23 r5) [],
             (false || ((E23 r5).nv && nvL [])) = true]) (by kernel_rfl) (cj (impl_holdOf_ok o o_ a2 a4 r1 h1) (cj rfl (cj h2 (cj h2 (cj h2 (cj h2 (cj h2 (cj h2 (cj h2 (cj h2 (cj h2 (cj rfl (cj h12 (cj (od h13) (cj (map_ltN (od h13) h14) (cj rfl (cj (map_get h14) (cj (od h13) (cj (map_ltN (od h13) h14) (cj rfl (cj (map_get h14) (cj (nb_set E33 _ _ (Hold.mk x3.Id (i64 (x3.Amount - a2)) x3.Due)) (cj (od h13) (cj (map_ltN (od h13) h15) (cj rfl (cj (map_get h15) (cj h16 (cj h16 (cj h18 (cj (impl_HoldDrop_ok (r1.1.Holds.set r1.2.1.toNat (Hold.mk x3.Id (i64 (x3.Amount - a2)) x3.Due)) o_ r5 h19) (cj1 (by simp [V.nv, nvL, nvL_all, nv_E3, nv_E9, nv_E23, nv_E33]))))))))))))))))))))))))))))))))))) (fun h18 =>
           Pn.some (Fn.of [.call [] (V.tup [E29 r1.1, E3 r1.2.1, E3 r1.2.2]) [], .bit false, .bit false, .bit false, .bit false, .bit false, .bit false, .bit false, .bit false, .bit false, .bit false, .bit false, .el (E33 x3), .el (E33 x3), .nb 2 (.row 33 (List.map E33 (r1.1.Holds.set r1.2.1.toNat (Hold.mk x3.Id (i64 (x3.Amount - a2)) x3.Due))) []), .el (E33 x4), .bit false, .bit false, .bit false] (p := [Fn Tryz.prog 19 [(false, E29 o), (false, E9 o_), (false, E3 a2), (false, E3 a4)] (V.tup [E29 r1.1, E3 r1.2.1, E3 r1.2.2]) [],
            (true || ((V.tup [E29 r1.1, E3 r1.2.1, E3 r1.2.2]).nv && nvL [])) = true,
            (r1.2.2 == 0) = false,
            (r1.2.2 == 0) = false,
            (r1.2.2 == 0) = false,
            (r1.2.2 == 0) = false,
            (r1.2.2 == 0) = false,
            (r1.2.2 == 0) = false,
            (r1.2.2 == 0) = false,
            (r1.2.2 == 0) = false,
            (r1.2.2 == 0) = false,
            false = false,
            (r1.2.2 != 0) = false,
            (0 : Int) ≤ r1.2.1,
            (r1.2.1 : Int) < ((List.map E33 r1.1.Holds).length : Int),
            look [] r1.2.1.toNat = none,
            (List.map E33 r1.1.Holds)[r1.2.1.toNat]? = some (E33 x3),
            (0 : Int) ≤ r1.2.1,
            (r1.2.1 : Int) < ((List.map E33 r1.1.Holds).length : Int),
            look [] r1.2.1.toNat = none,
            (List.map E33 r1.1.Holds)[r1.2.1.toNat]? = some (E33 x3),
            Blk.row 33 ((List.map E33 r1.1.Holds).set r1.2.1.toNat (V.agg [V.sc (.string x3.Id), V.sc (.int .i64 (i64 (x3.Amount - a2))), V.sc (.int .i64 x3.Due)])) [] = Blk.row 33 (List.map E33 (r1.1.Holds.set r1.2.1.toNat (Hold.mk x3.Id (i64 (x3.Amount - a2)) x3.Due))) [],
            (0 : Int) ≤ r1.2.1,
            (r1.2.1 : Int) < ((List.map E33 (r1.1.Holds.set r1.2.1.toNat (Hold.mk x3.Id (i64 (x3.Amount - a2)) x3.Due))).length : Int),
            look [] r1.2.1.toNat = none,
            (List.map E33 (r1.1.Holds.set r1.2.1.toNat (Hold.mk x3.Id (i64 (x3.Amount - a2)) x3.Due)))[r1.2.1.toNat]? = some (E33 x4),
            (x4.Amount == 0) = false,
            (x4.Amount == 0) = false,
            a3 = false]) (by kernel_rfl) (cj (impl_holdOf_ok o o_ a2 a4 r1 h1) (cj rfl (cj h2 (cj h2 (cj h2 (cj h2 (cj h2 (cj h2 (cj h2 (cj h2 (cj h2 (cj rfl (cj h12 (cj (od h13) (cj (map_ltN (od h13) h14) (cj rfl (cj (map_get h14) (cj (od h13) (cj (map_ltN (od h13) h14) (cj rfl (cj (map_get h14) (cj (nb_set E33 _ _ (Hold.mk x3.Id (i64 (x3.Amount - a2)) x3.Due)) (cj (od h13) (cj (map_ltN (od h13) h15) (cj rfl (cj (map_get h15) (cj h16 (cj h16 (cj1 h18))))))))))))))))))))))))))))))))))) (fun h13 =>
       Pn.none))))
def impl_Free (a : Acct) (id : ByteArray) (now : Int) : Option (Acct × Int) :=
 (impl_holdOf a id 1 now).bind fun r1 =>
 if (r1.2.2 != 0) = true then
  some ((Acct.mk ByteArray.empty 0 0 0 0 [] (Ring.mk 0 0 [] []) []), r1.2.2)
 else
  (impl_HoldDrop r1.1.Holds id).bind fun r2 =>
  some ((Acct.mk r1.1.Id r1.1.Limit r1.1.Posted r1.1.Most r1.1.MostSum r2 r1.1.Ring r1.1.Slots), 0)
theorem impl_Free_ok (a : Acct) (id : ByteArray) (now : Int) : Pn (fun y => Fn Tryz.prog 7 [(false, E29 a), (false, E9 id), (false, E3 now)] (V.tup [E29 y.1, E3 y.2]) []) (impl_Free a id now) := by
  unfold impl_Free
  exact
   Pn.bind (fun r1 h1 =>
    Pn.ite (fun h2 =>
     Pn.some (Fn.of [.call [] (V.tup [E29 r1.1, E3 r1.2.1, E3 r1.2.2]) [], .bit true] (p := [Fn Tryz.prog 19 [(false, E29 a), (false, E9 id), (false, E3 1), (false, E3 now)] (V.tup [E29 r1.1, E3 r1.2.1, E3 r1.2.2]) [],
      (true || ((V.tup [E29 r1.1, E3 r1.2.1, E3 r1.2.2]).nv && nvL [])) = true,
      (r1.2.2 != 0) = true]) (by kernel_rfl) (cj (impl_holdOf_ok a id 1 now r1 h1) (cj rfl (cj1 h2))))) (fun h2 =>
     Pn.bind (fun r2 h3 =>
      Pn.some (Fn.of [.call [] (V.tup [E29 r1.1, E3 r1.2.1, E3 r1.2.2]) [], .bit false, .call [] (E23 r2) []] (p := [Fn Tryz.prog 19 [(false, E29 a), (false, E9 id), (false, E3 1), (false, E3 now)] (V.tup [E29 r1.1, E3 r1.2.1, E3 r1.2.2]) [],
       (true || ((V.tup [E29 r1.1, E3 r1.2.1, E3 r1.2.2]).nv && nvL [])) = true,
       (r1.2.2 != 0) = false,
       Fn Tryz.prog 20 [(false, E23 r1.1.Holds), (false, E9 id)] (E23 r2) [],
       (false || ((E23 r2).nv && nvL [])) = true]) (by kernel_rfl) (cj (impl_holdOf_ok a id 1 now r1 h1) (cj rfl (cj h2 (cj (impl_HoldDrop_ok r1.1.Holds id r2 h3) (cj1 (by simp [V.nv, nvL, nvL_all, nv_E3, nv_E9, nv_E23, nv_E33]))))))))))
def impl_LiveSum (l : List Hold) (now : Int) : Option (Int) :=
 (impl_LiveOnes l now).bind fun r1 =>
 (impl_Stored r1).bind fun r2 =>
 some r2
theorem impl_LiveSum_ok (l : List Hold) (now : Int) : Pn (fun y => Fn Tryz.prog 12 [(false, E23 l), (false, E3 now)] (E3 y) []) (impl_LiveSum l now) := by
  unfold impl_LiveSum
  exact
   Pn.bind (fun r1 h1 =>
    Pn.bind (fun r2 h2 =>
     Pn.some (Fn.of [.call [] (E23 r1) [], .call [] (E3 r2) []] (p := [Fn Tryz.prog 26 [(false, E23 l), (false, E3 now)] (E23 r1) [],
      (true || ((E23 r1).nv && nvL [])) = true,
      Fn Tryz.prog 13 [(false, E23 r1)] (E3 r2) [],
      (false || ((E3 r2).nv && nvL [])) = true]) (by kernel_rfl) (cj (impl_LiveOnes_ok l now r1 h1) (cj rfl (cj (impl_Stored_ok r1 r2 h2) (cj1 (by simp [V.nv, nvL, nvL_all, nv_E3]))))))))
def impl_Room (a : Acct) (now : Int) : Option (Int) :=
 (impl_AcctOk a).bind fun r1 =>
 if r1 = true then
  (impl_isTime now).bind fun r2 =>
  if r2 = true then
   (impl_LiveSum a.Holds now).bind fun r3 =>
   some (i64 ((i64 (a.Limit - a.Posted)) - r3))
  else
   some 0
 else
  some 0
theorem impl_Room_ok (a : Acct) (now : Int) : Pn (fun y => Fn Tryz.prog 11 [(false, E29 a), (false, E3 now)] (E3 y) []) (impl_Room a now) := by
  unfold impl_Room
  exact
   Pn.bind (fun r1 h1 =>
    Pn.ite (fun h2 =>
     Pn.bind (fun r2 h3 =>
      Pn.ite (fun h4 =>
       Pn.bind (fun r3 h5 =>
        Pn.some (Fn.of [.call [] (E4 r1) [], .bit false, .bit false, .call [] (E4 r2) [], .bit false, .bit false, .bit false, .draw [], .call [] (E3 r3) []] (p := [Fn Tryz.prog 24 [(false, E29 a)] (E4 r1) [],
         (true || ((E4 r1).nv && nvL [])) = true,
         (!r1) = false,
         (!r1) = false,
         Fn Tryz.prog 25 [(false, E3 now)] (E4 r2) [],
         (true || ((E4 r2).nv && nvL [])) = true,
         (!r1) = false,
         (!r1) = false,
         (!r2) = false,
         Fn Tryz.prog 12 [(false, E23 a.Holds), (false, E3 now)] (E3 r3) [],
         (true || ((E3 r3).nv && nvL [])) = true]) (by kernel_rfl) (cj (impl_AcctOk_ok a r1 h1) (cj rfl (cj (nf h2) (cj (nf h2) (cj (impl_isTime_ok now r2 h3) (cj rfl (cj (nf h2) (cj (nf h2) (cj (nf h4) (cj (impl_LiveSum_ok a.Holds now r3 h5) (cj1 rfl)))))))))))))) (fun h4 =>
       Pn.some (Fn.of [.call [] (E4 r1) [], .bit false, .bit false, .call [] (E4 r2) [], .bit false, .bit false, .bit true] (p := [Fn Tryz.prog 24 [(false, E29 a)] (E4 r1) [],
        (true || ((E4 r1).nv && nvL [])) = true,
        (!r1) = false,
        (!r1) = false,
        Fn Tryz.prog 25 [(false, E3 now)] (E4 r2) [],
        (true || ((E4 r2).nv && nvL [])) = true,
        (!r1) = false,
        (!r1) = false,
        (!r2) = true]) (by kernel_rfl) (cj (impl_AcctOk_ok a r1 h1) (cj rfl (cj (nf h2) (cj (nf h2) (cj (impl_isTime_ok now r2 h3) (cj rfl (cj (nf h2) (cj (nf h2) (cj1 (nt h4)))))))))))))) (fun h2 =>
     Pn.some (Fn.of [.call [] (E4 r1) [], .bit true, .bit true, .bit true, .bit true, .bit true] (p := [Fn Tryz.prog 24 [(false, E29 a)] (E4 r1) [],
      (true || ((E4 r1).nv && nvL [])) = true,
      (!r1) = true,
      (!r1) = true,
      (!r1) = true,
      (!r1) = true,
      true = true]) (by kernel_rfl) (cj (impl_AcctOk_ok a r1 h1) (cj rfl (cj (nt h2) (cj (nt h2) (cj (nt h2) (cj (nt h2) (cj1 rfl))))))))))
def impl_shifted_l0 (l : List Int) (by_ : Int) : List Int → List Int → (List Int) → Option ((List Int))
  | [], p1, v1 =>
   some v1
  | x1 :: t1, p1, v1 =>
   if (decide (by_ ≤ (p1.length : Int))) = true then
    if (decide (0 ≤ (i64 ((p1.length : Int) - by_)))) = true then
     (l[(i64 ((p1.length : Int) - by_)).toNat]?).bind fun x2 =>
     (v1[(p1.length : Int).toNat]?).bind fun x3 =>
     impl_shifted_l0 l by_ t1 (p1 ++ [x1]) (v1.set ((p1.length : Int).toNat) x2)
    else none
   else
    impl_shifted_l0 l by_ t1 (p1 ++ [x1]) v1
theorem impl_shifted_l0_ok (l : List Int) (by_ : Int) (h4 : capOk l.length = true) : ∀ (t1 p1 : List Int) (_ : l = p1 ++ t1) (v1 : List Int), Pn (LpO Tryz.prog (sub (codeOf Tryz.prog 77) [1, 1, 0, 1, 0, 0]) (st 29 [(0, V.sl false 3 (List.map E3 l)), (1, V.sc (.int .i64 by_)), (5, V.ow 0), (11, V.sc (.int .i64 (l.length : Int))), (12, V.sc (.int .i64 (p1.length : Int)))] [Blk.row 3 (List.map E3 v1) []] []) (fun (y : (List Int)) => (X.out 0, st 29 [(5, V.ow 0)] [Blk.row 3 (List.map E3 y) []] []))) (impl_shifted_l0 l by_ t1 p1 v1)
  | [], p1, h3, v1 => by
    unfold impl_shifted_l0
    exact
     Pn.some (LpO.out [.bit false, .mask [5], .ren [0]] (p := [(decide ((p1.length : Int) < (l.length : Int))) = false]) (by kernel_rfl) (show X.out 0 ≠ X.go from nofun) (cj1 (rng_end h3)))
  | x1 :: t1, p1, h3, v1 => by
    unfold impl_shifted_l0
    exact
     Pn.ite (fun h5 =>
      Pn.ite (fun h6 =>
       Pn.bind (fun x2 h7 =>
        Pn.bind (fun x3 h8 =>
         LpO.go [.bit true, .bit true, .el (E3 x2), .el (E3 x3), .nb 0 (.row 3 (List.map E3 (v1.set ((p1.length : Int).toNat) x2)) []), .wait 3, .mask [0, 1, 5, 11, 12], .ren [0], .nm 12 (V.sc (.int .i64 ((p1 ++ [x1]).length : Int)))] (p := [(decide ((p1.length : Int) < (l.length : Int))) = true,
          (decide (by_ ≤ (p1.length : Int))) = true,
          (0 : Int) ≤ (i64 ((p1.length : Int) - by_)),
          (List.map E3 l)[(i64 ((p1.length : Int) - by_)).toNat]? = some (E3 x2),
          (0 : Int) ≤ (p1.length : Int),
          ((p1.length : Int) : Int) < ((List.map E3 v1).length : Int),
          look [] ((p1.length : Int).toNat) = none,
          (List.map E3 v1)[(p1.length : Int).toNat]? = some (E3 x3),
          Blk.row 3 ((List.map E3 v1).set ((p1.length : Int).toNat) (V.sc (.int .i64 x2))) [] = Blk.row 3 (List.map E3 (v1.set ((p1.length : Int).toNat) x2)) [],
          V.sc (.int .i64 (i64 ((p1.length : Int) + 1))) = V.sc (.int .i64 ((p1 ++ [x1]).length : Int))]) (by kernel_rfl) (cj (rng_lt h3) (cj h5 (cj (od h6) (cj (map_get h7) (cj (by omega) (cj (map_ltN (by omega) h8) (cj rfl (cj (map_get h8) (cj (nb_set E3 _ _ x2) (cj1 (rng_next h3 h4))))))))))) (impl_shifted_l0_ok l by_ h4 t1 (p1 ++ [x1]) (rng_step h3) (v1.set ((p1.length : Int).toNat) x2))))) (fun h6 =>
       Pn.none)) (fun h5 =>
      LpO.go [.bit true, .bit false, .wait 2, .mask [0, 1, 5, 11, 12], .ren [0], .nm 12 (V.sc (.int .i64 ((p1 ++ [x1]).length : Int)))] (p := [(decide ((p1.length : Int) < (l.length : Int))) = true,
       (decide (by_ ≤ (p1.length : Int))) = false,
       V.sc (.int .i64 (i64 ((p1.length : Int) + 1))) = V.sc (.int .i64 ((p1 ++ [x1]).length : Int))]) (by kernel_rfl) (cj (rng_lt h3) (cj h5 (cj1 (rng_next h3 h4)))) (impl_shifted_l0_ok l by_ h4 t1 (p1 ++ [x1]) (rng_step h3) v1))
def impl_shifted (l : List Int) (by_ : Int) : Option ((List Int)) :=
 if (decide (0 ≤ (l.length : Int))) = true then
  if (capOk (l.length : Int).toNat) = true then
   if (capOk l.length) = true then
    (impl_shifted_l0 l by_ l [] (List.replicate ((l.length : Int).toNat) 0)).bind fun r1 =>
    some r1
   else none
  else none
 else none
theorem impl_shifted_ok (l : List Int) (by_ : Int) : Pn (fun y => Fn Tryz.prog 77 [(false, E24 l), (false, E3 by_)] (E24 y) []) (impl_shifted l by_) := by
  unfold impl_shifted
  exact
   Pn.ite (fun h1 =>
    Pn.ite (fun h2 =>
     Pn.ite (fun h9 =>
      Pn.bind (fun r1 h10 =>
       Pn.some (Fn.of [.wait 3, .nm 8 (V.sc (.int .i64 (l.length : Int))), .wait 1, .nb 0 (.row 3 (List.map E3 (List.replicate ((l.length : Int).toNat) 0)) []), .wait 3, .nm 11 (V.sc (.int .i64 (l.length : Int))), .wait 2, .mask [0, 1, 5, 11, 12], .ren [0], .loop (X.out 0) (st 29 [(5, V.ow 0)] [Blk.row 3 (List.map E3 r1) []] [])] (p := [V.sc (.int .i64 ((List.map E3 l).length : Int)) = V.sc (.int .i64 (l.length : Int)),
        ((l.length : Int) : Int) = (l.length : Int),
        (0 : Int) ≤ (l.length : Int),
        ((l.length : Int) : Int) ≤ 9223372036854775807,
        8 * (l.length : Int).toNat ≤ 281474976710656,
        Blk.row 3 (List.replicate ((l.length : Int).toNat) (V.sc (.int .i64 0))) [] = Blk.row 3 (List.map E3 (List.replicate ((l.length : Int).toNat) 0)) [],
        V.sc (.int .i64 ((List.map E3 l).length : Int)) = V.sc (.int .i64 (l.length : Int)),
        Loop Tryz.prog (sub (codeOf Tryz.prog 77) [1, 1, 0, 1, 0, 0]) (st 29 [(0, V.sl false 3 (List.map E3 l)), (1, V.sc (.int .i64 by_)), (5, V.ow 0), (11, V.sc (.int .i64 (l.length : Int))), (12, V.sc (.int .i64 0))] [Blk.row 3 (List.map E3 (List.replicate ((l.length : Int).toNat) 0)) []] []) (X.out 0) (st 29 [(5, V.ow 0)] [Blk.row 3 (List.map E3 r1) []] [])]) (by kernel_rfl) (cj (len_nm _ _) (cj rfl (cj (od h1) (cj (cap3 h1 h2) (cj (cap4 h2 (by decide)) (cj (nb_rep E3 _ 0) (cj (len_nm _ _) (cj1 (impl_shifted_l0_ok l by_ h9 l [] rfl (List.replicate ((l.length : Int).toNat) 0) r1 h10)))))))))))) (fun h9 =>
      Pn.none)) (fun h2 =>
     Pn.none)) (fun h1 =>
    Pn.none)
def impl_RingRoll (r_ : Ring) (now : Int) : Option (Ring) :=
 (impl_Ring_copied r_).bind fun r1 =>
 (impl_RingOk r_).bind fun r2 =>
 if r2 = true then
  (impl_isTime now).bind fun r3 =>
  if r3 = true then
   if (decide (r_.Span ≠ 0)) = true then
    if (decide ((i64 (Int.tdiv now r_.Span)) ≤ r_.Head)) = true then
     some r1
    else
     (impl_shifted r_.Counts (i64 ((i64 (Int.tdiv now r_.Span)) - r_.Head))).bind fun r4 =>
     (impl_shifted r_.Sums (i64 ((i64 (Int.tdiv now r_.Span)) - r_.Head))).bind fun r5 =>
     some (Ring.mk r_.Span (i64 (Int.tdiv now r_.Span)) r4 r5)
   else none
  else
   some r1
 else
  some r1
theorem impl_RingRoll_ok (r_ : Ring) (now : Int) : Pn (fun y => Fn Tryz.prog 53 [(false, E26 r_), (false, E3 now)] (E26 y) []) (impl_RingRoll r_ now) := by
  unfold impl_RingRoll
  exact
   Pn.bind (fun r1 h1 =>
    Pn.bind (fun r2 h2 =>
     Pn.ite (fun h3 =>
      Pn.bind (fun r3 h4 =>
       Pn.ite (fun h5 =>
        Pn.ite (fun h6 =>
         Pn.ite (fun h7 =>
          Pn.some (Fn.of [.call [] (E26 r1) [], .draw [], .call [] (E4 r2) [], .bit false, .bit false, .call [] (E4 r3) [], .bit false, .bit false, .bit false, .bit false, .bit false, .bit false, .bit false, .bit false, .bit false, .bit false, .bit true] (p := [Fn Tryz.prog 52 [(false, E26 r_)] (E26 r1) [],
           (true || ((E26 r1).nv && nvL [])) = true,
           Fn Tryz.prog 50 [(false, E26 r_)] (E4 r2) [],
           (true || ((E4 r2).nv && nvL [])) = true,
           (!r2) = false,
           (!r2) = false,
           Fn Tryz.prog 25 [(false, E3 now)] (E4 r3) [],
           (true || ((E4 r3).nv && nvL [])) = true,
           (!r2) = false,
           (!r2) = false,
           (!r3) = false,
           (!r3) = false,
           (!r3) = false,
           (!r3) = false,
           (r_.Span : Int) ≠ 0,
           (!r3) = false,
           (!r3) = false,
           (!r3) = false,
           (!r3) = false,
           (decide ((i64 (Int.tdiv now r_.Span)) ≤ r_.Head)) = true]) (by kernel_rfl) (cj (impl_Ring_copied_ok r_ r1 h1) (cj rfl (cj (impl_RingOk_ok r_ r2 h2) (cj rfl (cj (nf h3) (cj (nf h3) (cj (impl_isTime_ok now r3 h4) (cj rfl (cj (nf h3) (cj (nf h3) (cj (nf h5) (cj (nf h5) (cj (nf h5) (cj (nf h5) (cj (od h6) (cj (nf h5) (cj (nf h5) (cj (nf h5) (cj (nf h5) (cj1 h7)))))))))))))))))))))) (fun h7 =>
          Pn.bind (fun r4 h8 =>
           Pn.bind (fun r5 h9 =>
            Pn.some (Fn.of [.call [] (E26 r1) [], .draw [], .call [] (E4 r2) [], .bit false, .bit false, .call [] (E4 r3) [], .bit false, .bit false, .bit false, .bit false, .bit false, .bit false, .bit false, .bit false, .bit false, .bit false, .bit false, .draw [], .draw [15], .call [] (E24 r4) [], .call [] (E24 r5) []] (p := [Fn Tryz.prog 52 [(false, E26 r_)] (E26 r1) [],
             (true || ((E26 r1).nv && nvL [])) = true,
             Fn Tryz.prog 50 [(false, E26 r_)] (E4 r2) [],
             (true || ((E4 r2).nv && nvL [])) = true,
             (!r2) = false,
             (!r2) = false,
             Fn Tryz.prog 25 [(false, E3 now)] (E4 r3) [],
             (true || ((E4 r3).nv && nvL [])) = true,
             (!r2) = false,
             (!r2) = false,
             (!r3) = false,
             (!r3) = false,
             (!r3) = false,
             (!r3) = false,
             (r_.Span : Int) ≠ 0,
             (!r3) = false,
             (!r3) = false,
             (!r3) = false,
             (!r3) = false,
             (decide ((i64 (Int.tdiv now r_.Span)) ≤ r_.Head)) = false,
             (r_.Span : Int) ≠ 0,
             (r_.Span : Int) ≠ 0,
             Fn Tryz.prog 77 [(false, E24 r_.Counts), (false, E3 (i64 ((i64 (Int.tdiv now r_.Span)) - r_.Head)))] (E24 r4) [],
             (true || ((E24 r4).nv && nvL [])) = true,
             Fn Tryz.prog 77 [(false, E24 r_.Sums), (false, E3 (i64 ((i64 (Int.tdiv now r_.Span)) - r_.Head)))] (E24 r5) [],
             (true || ((E24 r5).nv && nvL [])) = true]) (by kernel_rfl) (cj (impl_Ring_copied_ok r_ r1 h1) (cj rfl (cj (impl_RingOk_ok r_ r2 h2) (cj rfl (cj (nf h3) (cj (nf h3) (cj (impl_isTime_ok now r3 h4) (cj rfl (cj (nf h3) (cj (nf h3) (cj (nf h5) (cj (nf h5) (cj (nf h5) (cj (nf h5) (cj (od h6) (cj (nf h5) (cj (nf h5) (cj (nf h5) (cj (nf h5) (cj h7 (cj (od h6) (cj (od h6) (cj (impl_shifted_ok r_.Counts (i64 ((i64 (Int.tdiv now r_.Span)) - r_.Head)) r4 h8) (cj rfl (cj (impl_shifted_ok r_.Sums (i64 ((i64 (Int.tdiv now r_.Span)) - r_.Head)) r5 h9) (cj1 rfl))))))))))))))))))))))))))))))) (fun h6 =>
         Pn.none)) (fun h5 =>
        Pn.some (Fn.of [.call [] (E26 r1) [], .draw [], .call [] (E4 r2) [], .bit false, .bit false, .call [] (E4 r3) [], .bit false, .bit false, .bit true, .bit true, .bit true, .bit true, .bit true, .bit true, .bit true, .bit true, .bit true] (p := [Fn Tryz.prog 52 [(false, E26 r_)] (E26 r1) [],
         (true || ((E26 r1).nv && nvL [])) = true,
         Fn Tryz.prog 50 [(false, E26 r_)] (E4 r2) [],
         (true || ((E4 r2).nv && nvL [])) = true,
         (!r2) = false,
         (!r2) = false,
         Fn Tryz.prog 25 [(false, E3 now)] (E4 r3) [],
         (true || ((E4 r3).nv && nvL [])) = true,
         (!r2) = false,
         (!r2) = false,
         (!r3) = true,
         (!r3) = true,
         (!r3) = true,
         (!r3) = true,
         (!r3) = true,
         (!r3) = true,
         (!r3) = true,
         (!r3) = true,
         true = true]) (by kernel_rfl) (cj (impl_Ring_copied_ok r_ r1 h1) (cj rfl (cj (impl_RingOk_ok r_ r2 h2) (cj rfl (cj (nf h3) (cj (nf h3) (cj (impl_isTime_ok now r3 h4) (cj rfl (cj (nf h3) (cj (nf h3) (cj (nt h5) (cj (nt h5) (cj (nt h5) (cj (nt h5) (cj (nt h5) (cj (nt h5) (cj (nt h5) (cj (nt h5) (cj1 rfl))))))))))))))))))))))) (fun h3 =>
      Pn.some (Fn.of [.call [] (E26 r1) [], .draw [], .call [] (E4 r2) [], .bit true, .bit true, .bit true, .bit true, .bit true, .bit true, .bit true, .bit true, .bit true, .bit true, .bit true, .bit true, .bit true] (p := [Fn Tryz.prog 52 [(false, E26 r_)] (E26 r1) [],
       (true || ((E26 r1).nv && nvL [])) = true,
       Fn Tryz.prog 50 [(false, E26 r_)] (E4 r2) [],
       (true || ((E4 r2).nv && nvL [])) = true,
       (!r2) = true,
       (!r2) = true,
       (!r2) = true,
       (!r2) = true,
       true = true,
       true = true,
       true = true,
       true = true,
       true = true,
       true = true,
       true = true,
       true = true,
       true = true]) (by kernel_rfl) (cj (impl_Ring_copied_ok r_ r1 h1) (cj rfl (cj (impl_RingOk_ok r_ r2 h2) (cj rfl (cj (nt h3) (cj (nt h3) (cj (nt h3) (cj (nt h3) (cj rfl (cj rfl (cj rfl (cj rfl (cj rfl (cj rfl (cj rfl (cj rfl (cj1 rfl)))))))))))))))))))))
def impl_total_l0 (l : List Int) : List Int → Int → Option (Int)
  | [], v1 =>
   some v1
  | x1 :: t1, v1 =>
   (impl_AddSat v1 x1).bind fun r1 =>
   impl_total_l0 l t1 r1
theorem impl_total_l0_ok (l : List Int) (h2 : capOk l.length = true) : ∀ (t1 p1 : List Int) (_ : l = p1 ++ t1) (v1 : Int), Pn (LpO Tryz.prog (sub (codeOf Tryz.prog 74) [1, 1, 0, 1, 0, 0]) (st 17 [(3, V.sc (.int .i64 v1)), (6, V.sl false 3 (List.map E3 l)), (7, V.sc (.int .i64 (l.length : Int))), (8, V.sc (.int .i64 (p1.length : Int)))] [] []) (fun (y : Int) => (X.out 0, st 17 [(3, V.sc (.int .i64 y))] [] []))) (impl_total_l0 l t1 v1)
  | [], p1, h1, v1 => by
    unfold impl_total_l0
    exact
     Pn.some (LpO.out [.bit false, .mask [3], .ren []] (p := [(decide ((p1.length : Int) < (l.length : Int))) = false]) (by kernel_rfl) (show X.out 0 ≠ X.go from nofun) (cj1 (rng_end h1)))
  | x1 :: t1, p1, h1, v1 => by
    unfold impl_total_l0
    exact
     Pn.bind (fun r1 h3 =>
      LpO.go [.bit true, .el (E3 x1), .call [] (E3 r1) [], .wait 4, .mask [3, 6, 7, 8], .ren [], .nm 8 (V.sc (.int .i64 ((p1 ++ [x1]).length : Int)))] (p := [(decide ((p1.length : Int) < (l.length : Int))) = true,
       (0 : Int) ≤ (p1.length : Int),
       (List.map E3 l)[(p1.length : Int).toNat]? = some (E3 x1),
       Fn Tryz.prog 27 [(false, E3 v1), (false, E3 x1)] (E3 r1) [],
       (true || ((E3 r1).nv && nvL [])) = true,
       V.sc (.int .i64 (i64 ((p1.length : Int) + 1))) = V.sc (.int .i64 ((p1 ++ [x1]).length : Int))]) (by kernel_rfl) (cj (rng_lt h1) (cj (by omega) (cj (rng_get _ h1) (cj (impl_AddSat_ok v1 x1 r1 h3) (cj rfl (cj1 (rng_next h1 h2))))))) (impl_total_l0_ok l h2 t1 (p1 ++ [x1]) (rng_step h1) r1))
def impl_total (l : List Int) : Option (Int) :=
 if (capOk l.length) = true then
  (impl_total_l0 l l 0).bind fun r2 =>
  some r2
 else none
theorem impl_total_ok (l : List Int) : Pn (fun y => Fn Tryz.prog 74 [(false, E24 l)] (E3 y) []) (impl_total l) := by
  unfold impl_total
  exact
   Pn.ite (fun h4 =>
    Pn.bind (fun r2 h5 =>
     Pn.some (Fn.of [.wait 4, .nm 7 (V.sc (.int .i64 (l.length : Int))), .wait 2, .mask [3, 6, 7, 8], .ren [], .loop (X.out 0) (st 17 [(3, V.sc (.int .i64 r2))] [] [])] (p := [V.sc (.int .i64 ((List.map E3 l).length : Int)) = V.sc (.int .i64 (l.length : Int)),
      Loop Tryz.prog (sub (codeOf Tryz.prog 74) [1, 1, 0, 1, 0, 0]) (st 17 [(3, V.sc (.int .i64 0)), (6, V.sl false 3 (List.map E3 l)), (7, V.sc (.int .i64 (l.length : Int))), (8, V.sc (.int .i64 0))] [] []) (X.out 0) (st 17 [(3, V.sc (.int .i64 r2))] [] [])]) (by kernel_rfl) (cj (len_nm _ _) (cj1 (impl_total_l0_ok l h4 l [] rfl 0 r2 h5)))))) (fun h4 =>
    Pn.none)
def impl_RingCount (r_ : Ring) (now : Int) : Option (Int) :=
 (impl_RingOk r_).bind fun r1 =>
 if r1 = true then
  (impl_isTime now).bind fun r2 =>
  if r2 = true then
   (impl_RingRoll r_ now).bind fun r3 =>
   (impl_total r3.Counts).bind fun r4 =>
   some r4
  else
   some 0
 else
  some 0
theorem impl_RingCount_ok (r_ : Ring) (now : Int) : Pn (fun y => Fn Tryz.prog 48 [(false, E26 r_), (false, E3 now)] (E3 y) []) (impl_RingCount r_ now) := by
  unfold impl_RingCount
  exact
   Pn.bind (fun r1 h1 =>
    Pn.ite (fun h2 =>
     Pn.bind (fun r2 h3 =>
      Pn.ite (fun h4 =>
       Pn.bind (fun r3 h5 =>
        Pn.bind (fun r4 h6 =>
         Pn.some (Fn.of [.call [] (E4 r1) [], .bit false, .bit false, .call [] (E4 r2) [], .bit false, .bit false, .bit false, .call [] (E26 r3) [], .call [] (E3 r4) []] (p := [Fn Tryz.prog 50 [(false, E26 r_)] (E4 r1) [],
          (true || ((E4 r1).nv && nvL [])) = true,
          (!r1) = false,
          (!r1) = false,
          Fn Tryz.prog 25 [(false, E3 now)] (E4 r2) [],
          (true || ((E4 r2).nv && nvL [])) = true,
          (!r1) = false,
          (!r1) = false,
          (!r2) = false,
          Fn Tryz.prog 53 [(false, E26 r_), (false, E3 now)] (E26 r3) [],
          (true || ((E26 r3).nv && nvL [])) = true,
          Fn Tryz.prog 74 [(false, E24 r3.Counts)] (E3 r4) [],
          (false || ((E3 r4).nv && nvL [])) = true]) (by kernel_rfl) (cj (impl_RingOk_ok r_ r1 h1) (cj rfl (cj (nf h2) (cj (nf h2) (cj (impl_isTime_ok now r2 h3) (cj rfl (cj (nf h2) (cj (nf h2) (cj (nf h4) (cj (impl_RingRoll_ok r_ now r3 h5) (cj rfl (cj (impl_total_ok r3.Counts r4 h6) (cj1 (by simp [V.nv, nvL, nvL_all, nv_E3])))))))))))))))))) (fun h4 =>
       Pn.some (Fn.of [.call [] (E4 r1) [], .bit false, .bit false, .call [] (E4 r2) [], .bit false, .bit false, .bit true] (p := [Fn Tryz.prog 50 [(false, E26 r_)] (E4 r1) [],
        (true || ((E4 r1).nv && nvL [])) = true,
        (!r1) = false,
        (!r1) = false,
        Fn Tryz.prog 25 [(false, E3 now)] (E4 r2) [],
        (true || ((E4 r2).nv && nvL [])) = true,
        (!r1) = false,
        (!r1) = false,
        (!r2) = true]) (by kernel_rfl) (cj (impl_RingOk_ok r_ r1 h1) (cj rfl (cj (nf h2) (cj (nf h2) (cj (impl_isTime_ok now r2 h3) (cj rfl (cj (nf h2) (cj (nf h2) (cj1 (nt h4)))))))))))))) (fun h2 =>
     Pn.some (Fn.of [.call [] (E4 r1) [], .bit true, .bit true, .bit true, .bit true, .bit true] (p := [Fn Tryz.prog 50 [(false, E26 r_)] (E4 r1) [],
      (true || ((E4 r1).nv && nvL [])) = true,
      (!r1) = true,
      (!r1) = true,
      (!r1) = true,
      (!r1) = true,
      true = true]) (by kernel_rfl) (cj (impl_RingOk_ok r_ r1 h1) (cj rfl (cj (nt h2) (cj (nt h2) (cj (nt h2) (cj (nt h2) (cj1 rfl))))))))))
def impl_RingSum (r_ : Ring) (now : Int) : Option (Int) :=
 (impl_RingOk r_).bind fun r1 =>
 if r1 = true then
  (impl_isTime now).bind fun r2 =>
  if r2 = true then
   (impl_RingRoll r_ now).bind fun r3 =>
   (impl_total r3.Sums).bind fun r4 =>
   some r4
  else
   some 0
 else
  some 0
theorem impl_RingSum_ok (r_ : Ring) (now : Int) : Pn (fun y => Fn Tryz.prog 49 [(false, E26 r_), (false, E3 now)] (E3 y) []) (impl_RingSum r_ now) := by
  unfold impl_RingSum
  exact
   Pn.bind (fun r1 h1 =>
    Pn.ite (fun h2 =>
     Pn.bind (fun r2 h3 =>
      Pn.ite (fun h4 =>
       Pn.bind (fun r3 h5 =>
        Pn.bind (fun r4 h6 =>
         Pn.some (Fn.of [.call [] (E4 r1) [], .bit false, .bit false, .call [] (E4 r2) [], .bit false, .bit false, .bit false, .call [] (E26 r3) [], .call [] (E3 r4) []] (p := [Fn Tryz.prog 50 [(false, E26 r_)] (E4 r1) [],
          (true || ((E4 r1).nv && nvL [])) = true,
          (!r1) = false,
          (!r1) = false,
          Fn Tryz.prog 25 [(false, E3 now)] (E4 r2) [],
          (true || ((E4 r2).nv && nvL [])) = true,
          (!r1) = false,
          (!r1) = false,
          (!r2) = false,
          Fn Tryz.prog 53 [(false, E26 r_), (false, E3 now)] (E26 r3) [],
          (true || ((E26 r3).nv && nvL [])) = true,
          Fn Tryz.prog 74 [(false, E24 r3.Sums)] (E3 r4) [],
          (false || ((E3 r4).nv && nvL [])) = true]) (by kernel_rfl) (cj (impl_RingOk_ok r_ r1 h1) (cj rfl (cj (nf h2) (cj (nf h2) (cj (impl_isTime_ok now r2 h3) (cj rfl (cj (nf h2) (cj (nf h2) (cj (nf h4) (cj (impl_RingRoll_ok r_ now r3 h5) (cj rfl (cj (impl_total_ok r3.Sums r4 h6) (cj1 (by simp [V.nv, nvL, nvL_all, nv_E3])))))))))))))))))) (fun h4 =>
       Pn.some (Fn.of [.call [] (E4 r1) [], .bit false, .bit false, .call [] (E4 r2) [], .bit false, .bit false, .bit true] (p := [Fn Tryz.prog 50 [(false, E26 r_)] (E4 r1) [],
        (true || ((E4 r1).nv && nvL [])) = true,
        (!r1) = false,
        (!r1) = false,
        Fn Tryz.prog 25 [(false, E3 now)] (E4 r2) [],
        (true || ((E4 r2).nv && nvL [])) = true,
        (!r1) = false,
        (!r1) = false,
        (!r2) = true]) (by kernel_rfl) (cj (impl_RingOk_ok r_ r1 h1) (cj rfl (cj (nf h2) (cj (nf h2) (cj (impl_isTime_ok now r2 h3) (cj rfl (cj (nf h2) (cj (nf h2) (cj1 (nt h4)))))))))))))) (fun h2 =>
     Pn.some (Fn.of [.call [] (E4 r1) [], .bit true, .bit true, .bit true, .bit true, .bit true] (p := [Fn Tryz.prog 50 [(false, E26 r_)] (E4 r1) [],
      (true || ((E4 r1).nv && nvL [])) = true,
      (!r1) = true,
      (!r1) = true,
      (!r1) = true,
      (!r1) = true,
      true = true]) (by kernel_rfl) (cj (impl_RingOk_ok r_ r1 h1) (cj rfl (cj (nt h2) (cj (nt h2) (cj (nt h2) (cj (nt h2) (cj1 rfl))))))))))
def impl_checks (a : Acct) (amount : Int) (now : Int) : Option (Int) :=
 (impl_Room a now).bind fun r1 =>
 if (decide (r1 < amount)) = true then
  some 7
 else
  (impl_RingCount a.Ring now).bind fun r2 =>
  (impl_AddSat r2 1).bind fun r3 =>
  if (decide (a.Most < r3)) = true then
   some 8
  else
   (impl_RingSum a.Ring now).bind fun r4 =>
   (impl_AddSat r4 amount).bind fun r5 =>
   if (decide (a.MostSum < r5)) = true then
    some 9
   else
    some 0
theorem impl_checks_ok (a : Acct) (amount : Int) (now : Int) : Pn (fun y => Fn Tryz.prog 21 [(false, E29 a), (false, E3 amount), (false, E3 now)] (E3 y) []) (impl_checks a amount now) := by
  unfold impl_checks
  exact
   Pn.bind (fun r1 h1 =>
    Pn.ite (fun h2 =>
     Pn.some (Fn.of [.call [] (E3 r1) [], .bit true] (p := [Fn Tryz.prog 11 [(false, E29 a), (false, E3 now)] (E3 r1) [],
      (true || ((E3 r1).nv && nvL [])) = true,
      (decide (r1 < amount)) = true]) (by kernel_rfl) (cj (impl_Room_ok a now r1 h1) (cj rfl (cj1 h2))))) (fun h2 =>
     Pn.bind (fun r2 h3 =>
      Pn.bind (fun r3 h4 =>
       Pn.ite (fun h5 =>
        Pn.some (Fn.of [.call [] (E3 r1) [], .bit false, .draw [], .call [] (E3 r2) [], .call [] (E3 r3) [], .bit true] (p := [Fn Tryz.prog 11 [(false, E29 a), (false, E3 now)] (E3 r1) [],
         (true || ((E3 r1).nv && nvL [])) = true,
         (decide (r1 < amount)) = false,
         Fn Tryz.prog 48 [(false, E26 a.Ring), (false, E3 now)] (E3 r2) [],
         (true || ((E3 r2).nv && nvL [])) = true,
         Fn Tryz.prog 27 [(false, E3 r2), (false, E3 1)] (E3 r3) [],
         (true || ((E3 r3).nv && nvL [])) = true,
         (decide (a.Most < r3)) = true]) (by kernel_rfl) (cj (impl_Room_ok a now r1 h1) (cj rfl (cj h2 (cj (impl_RingCount_ok a.Ring now r2 h3) (cj rfl (cj (impl_AddSat_ok r2 1 r3 h4) (cj rfl (cj1 h5)))))))))) (fun h5 =>
        Pn.bind (fun r4 h6 =>
         Pn.bind (fun r5 h7 =>
          Pn.ite (fun h8 =>
           Pn.some (Fn.of [.call [] (E3 r1) [], .bit false, .draw [], .call [] (E3 r2) [], .call [] (E3 r3) [], .bit false, .draw [], .call [] (E3 r4) [], .call [] (E3 r5) [], .bit true] (p := [Fn Tryz.prog 11 [(false, E29 a), (false, E3 now)] (E3 r1) [],
            (true || ((E3 r1).nv && nvL [])) = true,
            (decide (r1 < amount)) = false,
            Fn Tryz.prog 48 [(false, E26 a.Ring), (false, E3 now)] (E3 r2) [],
            (true || ((E3 r2).nv && nvL [])) = true,
            Fn Tryz.prog 27 [(false, E3 r2), (false, E3 1)] (E3 r3) [],
            (true || ((E3 r3).nv && nvL [])) = true,
            (decide (a.Most < r3)) = false,
            Fn Tryz.prog 49 [(false, E26 a.Ring), (false, E3 now)] (E3 r4) [],
            (true || ((E3 r4).nv && nvL [])) = true,
            Fn Tryz.prog 27 [(false, E3 r4), (false, E3 amount)] (E3 r5) [],
            (true || ((E3 r5).nv && nvL [])) = true,
            (decide (a.MostSum < r5)) = true]) (by kernel_rfl) (cj (impl_Room_ok a now r1 h1) (cj rfl (cj h2 (cj (impl_RingCount_ok a.Ring now r2 h3) (cj rfl (cj (impl_AddSat_ok r2 1 r3 h4) (cj rfl (cj h5 (cj (impl_RingSum_ok a.Ring now r4 h6) (cj rfl (cj (impl_AddSat_ok r4 amount r5 h7) (cj rfl (cj1 h8))))))))))))))) (fun h8 =>
           Pn.some (Fn.of [.call [] (E3 r1) [], .bit false, .draw [], .call [] (E3 r2) [], .call [] (E3 r3) [], .bit false, .draw [], .call [] (E3 r4) [], .call [] (E3 r5) [], .bit false] (p := [Fn Tryz.prog 11 [(false, E29 a), (false, E3 now)] (E3 r1) [],
            (true || ((E3 r1).nv && nvL [])) = true,
            (decide (r1 < amount)) = false,
            Fn Tryz.prog 48 [(false, E26 a.Ring), (false, E3 now)] (E3 r2) [],
            (true || ((E3 r2).nv && nvL [])) = true,
            Fn Tryz.prog 27 [(false, E3 r2), (false, E3 1)] (E3 r3) [],
            (true || ((E3 r3).nv && nvL [])) = true,
            (decide (a.Most < r3)) = false,
            Fn Tryz.prog 49 [(false, E26 a.Ring), (false, E3 now)] (E3 r4) [],
            (true || ((E3 r4).nv && nvL [])) = true,
            Fn Tryz.prog 27 [(false, E3 r4), (false, E3 amount)] (E3 r5) [],
            (true || ((E3 r5).nv && nvL [])) = true,
            (decide (a.MostSum < r5)) = false]) (by kernel_rfl) (cj (impl_Room_ok a now r1 h1) (cj rfl (cj h2 (cj (impl_RingCount_ok a.Ring now r2 h3) (cj rfl (cj (impl_AddSat_ok r2 1 r3 h4) (cj rfl (cj h5 (cj (impl_RingSum_ok a.Ring now r4 h6) (cj rfl (cj (impl_AddSat_ok r4 amount r5 h7) (cj rfl (cj1 h8))))))))))))))))))))))
def impl_RingAdd (r_ : Ring) (now : Int) (amount : Int) : Option (Ring) :=
 (impl_RingOk r_).bind fun r1 =>
 if r1 = true then
  (impl_isTime now).bind fun r2 =>
  if r2 = true then
   (impl_isMoney amount).bind fun r3 =>
   if r3 = true then
    (impl_RingRoll r_ now).bind fun r4 =>
    (r4.Counts[0]?).bind fun x1 =>
    (r4.Sums[0]?).bind fun x2 =>
    (impl_AddSat x1 1).bind fun r5 =>
    (impl_AddSat x2 amount).bind fun r6 =>
    some (Ring.mk r4.Span r4.Head (r4.Counts.set 0 r5) (r4.Sums.set 0 r6))
   else
    (impl_Ring_copied r_).bind fun r7 =>
    some r7
  else
   (impl_Ring_copied r_).bind fun r8 =>
   some r8
 else
  (impl_Ring_copied r_).bind fun r9 =>
  some r9
theorem impl_RingAdd_ok (r_ : Ring) (now : Int) (amount : Int) : Pn (fun y => Fn Tryz.prog 22 [(false, E26 r_), (false, E3 now), (false, E3 amount)] (E26 y) []) (impl_RingAdd r_ now amount) := by
  unfold impl_RingAdd
  exact
   Pn.bind (fun r1 h1 =>
    Pn.ite (fun h2 =>
     Pn.bind (fun r2 h3 =>
      Pn.ite (fun h4 =>
       Pn.bind (fun r3 h5 =>
        Pn.ite (fun h6 =>
         Pn.bind (fun r4 h7 =>
          Pn.bind (fun x1 h8 =>
           Pn.bind (fun x2 h9 =>
            Pn.bind (fun r5 h10 =>
             Pn.bind (fun r6 h11 =>
              Pn.some (Fn.of [.call [] (E4 r1) [], .bit false, .bit false, .call [] (E4 r2) [], .bit false, .bit false, .bit false, .bit false, .call [] (E4 r3) [], .bit false, .bit false, .bit false, .call [] (E26 r4) [], .draw [16, 18], .el (E3 x1), .el (E3 x2), .loop .go (st 44 [(0, V.agg [V.sc (.int .i64 r_.Span), V.sc (.int .i64 r_.Head), V.sl false 3 (List.map E3 r_.Counts), V.sl false 3 (List.map E3 r_.Sums)]), (1, V.sc (.int .i64 now)), (2, V.sc (.int .i64 amount)), (3, V.ptr 0 0), (6, V.ptr 1 0), (7, V.ptr 2 0), (8, V.agg [V.sc (.int .i64 r_.Span), V.sc (.int .i64 r_.Head), V.sl false 3 (List.map E3 r_.Counts), V.sl false 3 (List.map E3 r_.Sums)]), (9, V.sc (.bool r1)), (10, V.sc (.bool (!r1))), (11, V.sc (.bool (!r1))), (12, V.sc (.int .i64 now)), (13, V.sc (.bool r2)), (14, V.sc (.bool (!r2))), (15, V.sc (.bool (!r2))), (16, V.sc (.bool (!r2))), (17, V.sc (.int .i64 amount)), (18, V.sc (.bool r3)), (19, V.sc (.bool (!r3))), (20, V.sc (.bool (!r3))), (23, V.agg [V.sc (.int .i64 r_.Span), V.sc (.int .i64 r_.Head), V.sl false 3 (List.map E3 r_.Counts), V.sl false 3 (List.map E3 r_.Sums)]), (24, V.sc (.int .i64 now)), (25, V.agg [V.sc (.int .i64 r4.Span), V.sc (.int .i64 r4.Head), V.ow 3, V.ow 4]), (26, V.ptr 2 2), (27, V.ow 3), (28, V.ptr 2 3), (29, V.ow 4), (30, V.ptr 2 2), (31, V.ow 3), (32, V.ep 3 1 0 0), (33, V.sc (.int .i64 x1)), (34, V.sc (.int .i64 r5)), (35, V.ptr 2 3), (36, V.ow 4), (37, V.ep 4 1 0 0), (38, V.sc (.int .i64 x2)), (39, V.sc (.int .i64 amount)), (40, V.sc (.int .i64 r6)), (41, V.ep 3 1 0 0), (42, V.ep 4 1 0 0)] [Blk.box 26 [V.sc (.int .i64 r_.Span), V.sc (.int .i64 r_.Head), V.sl false 3 (List.map E3 r_.Counts), V.sl false 3 (List.map E3 r_.Sums)], Blk.box 26 [V.sc (.int .i64 0), V.sc (.int .i64 0), V.nl 3, V.nl 3], Blk.box 26 [V.sc (.int .i64 r4.Span), V.sc (.int .i64 r4.Head), V.ow 3, V.ow 4], Blk.row 3 (List.map E3 (r4.Counts.set 0 r5)) [], Blk.row 3 (List.map E3 (r4.Sums.set 0 r6)) []] []), .loop .go (st 44 [(0, V.agg [V.sc (.int .i64 r_.Span), V.sc (.int .i64 r_.Head), V.sl false 3 (List.map E3 r_.Counts), V.sl false 3 (List.map E3 r_.Sums)]), (1, V.sc (.int .i64 now)), (2, V.sc (.int .i64 amount)), (3, V.ptr 0 0), (6, V.ptr 1 0), (7, V.ptr 2 0), (8, V.agg [V.sc (.int .i64 r_.Span), V.sc (.int .i64 r_.Head), V.sl false 3 (List.map E3 r_.Counts), V.sl false 3 (List.map E3 r_.Sums)]), (9, V.sc (.bool r1)), (10, V.sc (.bool (!r1))), (11, V.sc (.bool (!r1))), (12, V.sc (.int .i64 now)), (13, V.sc (.bool r2)), (14, V.sc (.bool (!r2))), (15, V.sc (.bool (!r2))), (16, V.sc (.bool (!r2))), (17, V.sc (.int .i64 amount)), (18, V.sc (.bool r3)), (19, V.sc (.bool (!r3))), (20, V.sc (.bool (!r3))), (23, V.agg [V.sc (.int .i64 r_.Span), V.sc (.int .i64 r_.Head), V.sl false 3 (List.map E3 r_.Counts), V.sl false 3 (List.map E3 r_.Sums)]), (24, V.sc (.int .i64 now)), (25, V.agg [V.sc (.int .i64 r4.Span), V.sc (.int .i64 r4.Head), V.ow 3, V.ow 4]), (26, V.ptr 2 2), (27, V.ow 3), (28, V.ptr 2 3), (29, V.ow 4), (30, V.ptr 2 2), (31, V.ow 3), (32, V.ep 3 1 0 0), (33, V.sc (.int .i64 x1)), (34, V.sc (.int .i64 r5)), (35, V.ptr 2 3), (36, V.ow 4), (37, V.ep 4 1 0 0), (38, V.sc (.int .i64 x2)), (39, V.sc (.int .i64 amount)), (40, V.sc (.int .i64 r6)), (41, V.ep 3 1 0 0), (42, V.ep 4 1 0 0)] [Blk.box 26 [V.sc (.int .i64 r_.Span), V.sc (.int .i64 r_.Head), V.sl false 3 (List.map E3 r_.Counts), V.sl false 3 (List.map E3 r_.Sums)], Blk.box 26 [V.sc (.int .i64 0), V.sc (.int .i64 0), V.nl 3, V.nl 3], Blk.box 26 [V.sc (.int .i64 r4.Span), V.sc (.int .i64 r4.Head), V.ow 3, V.ow 4], Blk.row 3 (List.map E3 (r4.Counts.set 0 r5)) [], Blk.row 3 (List.map E3 (r4.Sums.set 0 r6)) []] []), .call [] (E3 r5) [], .call [] (E3 r6) [], .el (E3 x1), .nb 2 (.row 3 (List.map E3 (r4.Counts.set 0 r5)) []), .el (E3 x2), .nb 3 (.row 3 (List.map E3 (r4.Sums.set 0 r6)) []), .ren [0, 1, 4, 2, 3], .call [] (E3 r5) [], .loop .go (st 44 [(0, V.agg [V.sc (.int .i64 r_.Span), V.sc (.int .i64 r_.Head), V.sl false 3 (List.map E3 r_.Counts), V.sl false 3 (List.map E3 r_.Sums)]), (1, V.sc (.int .i64 now)), (2, V.sc (.int .i64 amount)), (3, V.ptr 0 0), (6, V.ptr 1 0), (7, V.ptr 2 0), (8, V.agg [V.sc (.int .i64 r_.Span), V.sc (.int .i64 r_.Head), V.sl false 3 (List.map E3 r_.Counts), V.sl false 3 (List.map E3 r_.Sums)]), (9, V.sc (.bool r1)), (10, V.sc (.bool (!r1))), (11, V.sc (.bool (!r1))), (12, V.sc (.int .i64 now)), (13, V.sc (.bool r2)), (14, V.sc (.bool (!r2))), (15, V.sc (.bool (!r2))), (16, V.sc (.bool (!r2))), (17, V.sc (.int .i64 amount)), (18, V.sc (.bool r3)), (19, V.sc (.bool (!r3))), (20, V.sc (.bool (!r3))), (23, V.agg [V.sc (.int .i64 r_.Span), V.sc (.int .i64 r_.Head), V.sl false 3 (List.map E3 r_.Counts), V.sl false 3 (List.map E3 r_.Sums)]), (24, V.sc (.int .i64 now)), (25, V.agg [V.sc (.int .i64 r4.Span), V.sc (.int .i64 r4.Head), V.ow 3, V.ow 4]), (26, V.ptr 2 2), (27, V.ow 3), (28, V.ptr 2 3), (29, V.ow 4), (30, V.ptr 2 2), (31, V.ow 3), (32, V.ep 3 1 0 0), (33, V.sc (.int .i64 x1)), (34, V.sc (.int .i64 r5)), (35, V.ptr 2 3), (36, V.ow 4), (37, V.ep 4 1 0 0), (38, V.sc (.int .i64 x2)), (39, V.sc (.int .i64 amount)), (40, V.sc (.int .i64 r6)), (41, V.ep 3 1 0 0), (42, V.ep 4 1 0 0)] [Blk.box 26 [V.sc (.int .i64 r_.Span), V.sc (.int .i64 r_.Head), V.sl false 3 (List.map E3 r_.Counts), V.sl false 3 (List.map E3 r_.Sums)], Blk.box 26 [V.sc (.int .i64 0), V.sc (.int .i64 0), V.nl 3, V.nl 3], Blk.box 26 [V.sc (.int .i64 r4.Span), V.sc (.int .i64 r4.Head), V.ow 3, V.ow 4], Blk.row 3 (List.map E3 (r4.Counts.set 0 r5)) [], Blk.row 3 (List.map E3 (r4.Sums.set 0 r6)) []] []), .call [] (E3 r6) [], .el (E3 x1), .nb 2 (.row 3 (List.map E3 (r4.Counts.set 0 r5)) []), .el (E3 x2), .nb 3 (.row 3 (List.map E3 (r4.Sums.set 0 r6)) []), .ren [0, 1, 4, 2, 3], .call [] (E3 r6) [], .loop .go (st 44 [(0, V.agg [V.sc (.int .i64 r_.Span), V.sc (.int .i64 r_.Head), V.sl false 3 (List.map E3 r_.Counts), V.sl false 3 (List.map E3 r_.Sums)]), (1, V.sc (.int .i64 now)), (2, V.sc (.int .i64 amount)), (3, V.ptr 0 0), (6, V.ptr 1 0), (7, V.ptr 2 0), (8, V.agg [V.sc (.int .i64 r_.Span), V.sc (.int .i64 r_.Head), V.sl false 3 (List.map E3 r_.Counts), V.sl false 3 (List.map E3 r_.Sums)]), (9, V.sc (.bool r1)), (10, V.sc (.bool (!r1))), (11, V.sc (.bool (!r1))), (12, V.sc (.int .i64 now)), (13, V.sc (.bool r2)), (14, V.sc (.bool (!r2))), (15, V.sc (.bool (!r2))), (16, V.sc (.bool (!r2))), (17, V.sc (.int .i64 amount)), (18, V.sc (.bool r3)), (19, V.sc (.bool (!r3))), (20, V.sc (.bool (!r3))), (23, V.agg [V.sc (.int .i64 r_.Span), V.sc (.int .i64 r_.Head), V.sl false 3 (List.map E3 r_.Counts), V.sl false 3 (List.map E3 r_.Sums)]), (24, V.sc (.int .i64 now)), (25, V.agg [V.sc (.int .i64 r4.Span), V.sc (.int .i64 r4.Head), V.ow 3, V.ow 4]), (26, V.ptr 2 2), (27, V.ow 3), (28, V.ptr 2 3), (29, V.ow 4), (30, V.ptr 2 2), (31, V.ow 3), (32, V.ep 3 1 0 0), (33, V.sc (.int .i64 x1)), (34, V.sc (.int .i64 r5)), (35, V.ptr 2 3), (36, V.ow 4), (37, V.ep 4 1 0 0), (38, V.sc (.int .i64 x2)), (39, V.sc (.int .i64 amount)), (40, V.sc (.int .i64 r6)), (41, V.ep 3 1 0 0), (42, V.ep 4 1 0 0)] [Blk.box 26 [V.sc (.int .i64 r_.Span), V.sc (.int .i64 r_.Head), V.sl false 3 (List.map E3 r_.Counts), V.sl false 3 (List.map E3 r_.Sums)], Blk.box 26 [V.sc (.int .i64 0), V.sc (.int .i64 0), V.nl 3, V.nl 3], Blk.box 26 [V.sc (.int .i64 r4.Span), V.sc (.int .i64 r4.Head), V.ow 3, V.ow 4], Blk.row 3 (List.map E3 (r4.Counts.set 0 r5)) [], Blk.row 3 (List.map E3 (r4.Sums.set 0 r6)) []] []), .el (E3 x1), .nb 2 (.row 3 (List.map E3 (r4.Counts.set 0 r5)) []), .el (E3 x2), .nb 3 (.row 3 (List.map E3 (r4.Sums.set 0 r6)) []), .ren [0, 1, 4, 2, 3], .el (E3 x1), .nb 2 (.row 3 (List.map E3 (r4.Counts.set 0 r5)) []), .el (E3 x2), .nb 3 (.row 3 (List.map E3 (r4.Sums.set 0 r6)) []), .ren [0, 1, 4, 2, 3], .ren [0, 1, 2, 3, 4], .ren [0, 1, 2, 3, 4], .ren [0, 1, 2, 3, 4], .call [] (E3 r5) [], .loop .go (st 44 [(0, V.agg [V.sc (.int .i64 r_.Span), V.sc (.int .i64 r_.Head), V.sl false 3 (List.map E3 r_.Counts), V.sl false 3 (List.map E3 r_.Sums)]), (1, V.sc (.int .i64 now)), (2, V.sc (.int .i64 amount)), (3, V.ptr 0 0), (6, V.ptr 1 0), (7, V.ptr 2 0), (8, V.agg [V.sc (.int .i64 r_.Span), V.sc (.int .i64 r_.Head), V.sl false 3 (List.map E3 r_.Counts), V.sl false 3 (List.map E3 r_.Sums)]), (9, V.sc (.bool r1)), (10, V.sc (.bool (!r1))), (11, V.sc (.bool (!r1))), (12, V.sc (.int .i64 now)), (13, V.sc (.bool r2)), (14, V.sc (.bool (!r2))), (15, V.sc (.bool (!r2))), (16, V.sc (.bool (!r2))), (17, V.sc (.int .i64 amount)), (18, V.sc (.bool r3)), (19, V.sc (.bool (!r3))), (20, V.sc (.bool (!r3))), (23, V.agg [V.sc (.int .i64 r_.Span), V.sc (.int .i64 r_.Head), V.sl false 3 (List.map E3 r_.Counts), V.sl false 3 (List.map E3 r_.Sums)]), (24, V.sc (.int .i64 now)), (25, V.agg [V.sc (.int .i64 r4.Span), V.sc (.int .i64 r4.Head), V.ow 3, V.ow 4]), (26, V.ptr 2 2), (27, V.ow 3), (28, V.ptr 2 3), (29, V.ow 4), (30, V.ptr 2 2), (31, V.ow 3), (32, V.ep 3 1 0 0), (33, V.sc (.int .i64 x1)), (34, V.sc (.int .i64 r5)), (35, V.ptr 2 3), (36, V.ow 4), (37, V.ep 4 1 0 0), (38, V.sc (.int .i64 x2)), (39, V.sc (.int .i64 amount)), (40, V.sc (.int .i64 r6)), (41, V.ep 3 1 0 0), (42, V.ep 4 1 0 0)] [Blk.box 26 [V.sc (.int .i64 r_.Span), V.sc (.int .i64 r_.Head), V.sl false 3 (List.map E3 r_.Counts), V.sl false 3 (List.map E3 r_.Sums)], Blk.box 26 [V.sc (.int .i64 0), V.sc (.int .i64 0), V.nl 3, V.nl 3], Blk.box 26 [V.sc (.int .i64 r4.Span), V.sc (.int .i64 r4.Head), V.ow 3, V.ow 4], Blk.row 3 (List.map E3 (r4.Counts.set 0 r5)) [], Blk.row 3 (List.map E3 (r4.Sums.set 0 r6)) []] []), .loop .go (st 44 [(0, V.agg [V.sc (.int .i64 r_.Span), V.sc (.int .i64 r_.Head), V.sl false 3 (List.map E3 r_.Counts), V.sl false 3 (List.map E3 r_.Sums)]), (1, V.sc (.int .i64 now)), (2, V.sc (.int .i64 amount)), (3, V.ptr 0 0), (6, V.ptr 1 0), (7, V.ptr 2 0), (8, V.agg [V.sc (.int .i64 r_.Span), V.sc (.int .i64 r_.Head), V.sl false 3 (List.map E3 r_.Counts), V.sl false 3 (List.map E3 r_.Sums)]), (9, V.sc (.bool r1)), (10, V.sc (.bool (!r1))), (11, V.sc (.bool (!r1))), (12, V.sc (.int .i64 now)), (13, V.sc (.bool r2)), (14, V.sc (.bool (!r2))), (15, V.sc (.bool (!r2))), (16, V.sc (.bool (!r2))), (17, V.sc (.int .i64 amount)), (18, V.sc (.bool r3)), (19, V.sc (.bool (!r3))), (20, V.sc (.bool (!r3))), (23, V.agg [V.sc (.int .i64 r_.Span), V.sc (.int .i64 r_.Head), V.sl false 3 (List.map E3 r_.Counts), V.sl false 3 (List.map E3 r_.Sums)]), (24, V.sc (.int .i64 now)), (25, V.agg [V.sc (.int .i64 r4.Span), V.sc (.int .i64 r4.Head), V.ow 3, V.ow 4]), (26, V.ptr 2 2), (27, V.ow 3), (28, V.ptr 2 3), (29, V.ow 4), (30, V.ptr 2 2), (31, V.ow 3), (32, V.ep 3 1 0 0), (33, V.sc (.int .i64 x1)), (34, V.sc (.int .i64 r5)), (35, V.ptr 2 3), (36, V.ow 4), (37, V.ep 4 1 0 0), (38, V.sc (.int .i64 x2)), (39, V.sc (.int .i64 amount)), (40, V.sc (.int .i64 r6)), (41, V.ep 3 1 0 0), (42, V.ep 4 1 0 0)] [Blk.box 26 [V.sc (.int .i64 r_.Span), V.sc (.int .i64 r_.Head), V.sl false 3 (List.map E3 r_.Counts), V.sl false 3 (List.map E3 r_.Sums)], Blk.box 26 [V.sc (.int .i64 0), V.sc (.int .i64 0), V.nl 3, V.nl 3], Blk.box 26 [V.sc (.int .i64 r4.Span), V.sc (.int .i64 r4.Head), V.ow 3, V.ow 4], Blk.row 3 (List.map E3 (r4.Counts.set 0 r5)) [], Blk.row 3 (List.map E3 (r4.Sums.set 0 r6)) []] []), .call [] (E3 r6) [], .el (E3 x1), .nb 2 (.row 3 (List.map E3 (r4.Counts.set 0 r5)) []), .el (E3 x2), .nb 3 (.row 3 (List.map E3 (r4.Sums.set 0 r6)) []), .ren [0, 1, 4, 2, 3], .call [] (E3 r6) [], .loop .go (st 44 [(0, V.agg [V.sc (.int .i64 r_.Span), V.sc (.int .i64 r_.Head), V.sl false 3 (List.map E3 r_.Counts), V.sl false 3 (List.map E3 r_.Sums)]), (1, V.sc (.int .i64 now)), (2, V.sc (.int .i64 amount)), (3, V.ptr 0 0), (6, V.ptr 1 0), (7, V.ptr 2 0), (8, V.agg [V.sc (.int .i64 r_.Span), V.sc (.int .i64 r_.Head), V.sl false 3 (List.map E3 r_.Counts), V.sl false 3 (List.map E3 r_.Sums)]), (9, V.sc (.bool r1)), (10, V.sc (.bool (!r1))), (11, V.sc (.bool (!r1))), (12, V.sc (.int .i64 now)), (13, V.sc (.bool r2)), (14, V.sc (.bool (!r2))), (15, V.sc (.bool (!r2))), (16, V.sc (.bool (!r2))), (17, V.sc (.int .i64 amount)), (18, V.sc (.bool r3)), (19, V.sc (.bool (!r3))), (20, V.sc (.bool (!r3))), (23, V.agg [V.sc (.int .i64 r_.Span), V.sc (.int .i64 r_.Head), V.sl false 3 (List.map E3 r_.Counts), V.sl false 3 (List.map E3 r_.Sums)]), (24, V.sc (.int .i64 now)), (25, V.agg [V.sc (.int .i64 r4.Span), V.sc (.int .i64 r4.Head), V.ow 3, V.ow 4]), (26, V.ptr 2 2), (27, V.ow 3), (28, V.ptr 2 3), (29, V.ow 4), (30, V.ptr 2 2), (31, V.ow 3), (32, V.ep 3 1 0 0), (33, V.sc (.int .i64 x1)), (34, V.sc (.int .i64 r5)), (35, V.ptr 2 3), (36, V.ow 4), (37, V.ep 4 1 0 0), (38, V.sc (.int .i64 x2)), (39, V.sc (.int .i64 amount)), (40, V.sc (.int .i64 r6)), (41, V.ep 3 1 0 0), (42, V.ep 4 1 0 0)] [Blk.box 26 [V.sc (.int .i64 r_.Span), V.sc (.int .i64 r_.Head), V.sl false 3 (List.map E3 r_.Counts), V.sl false 3 (List.map E3 r_.Sums)], Blk.box 26 [V.sc (.int .i64 0), V.sc (.int .i64 0), V.nl 3, V.nl 3], Blk.box 26 [V.sc (.int .i64 r4.Span), V.sc (.int .i64 r4.Head), V.ow 3, V.ow 4], Blk.row 3 (List.map E3 (r4.Counts.set 0 r5)) [], Blk.row 3 (List.map E3 (r4.Sums.set 0 r6)) []] []), .el (E3 x1), .nb 2 (.row 3 (List.map E3 (r4.Counts.set 0 r5)) []), .el (E3 x2), .nb 3 (.row 3 (List.map E3 (r4.Sums.set 0 r6)) []), .ren [0, 1, 4, 2, 3], .el (E3 x1), .nb 2 (.row 3 (List.map E3 (r4.Counts.set 0 r5)) []), .el (E3 x2), .nb 3 (.row 3 (List.map E3 (r4.Sums.set 0 r6)) []), .ren [0, 1, 4, 2, 3], .ren [0, 1, 2, 3, 4], .ren [0, 1, 2, 3, 4], .call [] (E3 r6) [], .loop .go (st 44 [(0, V.agg [V.sc (.int .i64 r_.Span), V.sc (.int .i64 r_.Head), V.sl false 3 (List.map E3 r_.Counts), V.sl false 3 (List.map E3 r_.Sums)]), (1, V.sc (.int .i64 now)), (2, V.sc (.int .i64 amount)), (3, V.ptr 0 0), (6, V.ptr 1 0), (7, V.ptr 2 0), (8, V.agg [V.sc (.int .i64 r_.Span), V.sc (.int .i64 r_.Head), V.sl false 3 (List.map E3 r_.Counts), V.sl false 3 (List.map E3 r_.Sums)]), (9, V.sc (.bool r1)), (10, V.sc (.bool (!r1))), (11, V.sc (.bool (!r1))), (12, V.sc (.int .i64 now)), (13, V.sc (.bool r2)), (14, V.sc (.bool (!r2))), (15, V.sc (.bool (!r2))), (16, V.sc (.bool (!r2))), (17, V.sc (.int .i64 amount)), (18, V.sc (.bool r3)), (19, V.sc (.bool (!r3))), (20, V.sc (.bool (!r3))), (23, V.agg [V.sc (.int .i64 r_.Span), V.sc (.int .i64 r_.Head), V.sl false 3 (List.map E3 r_.Counts), V.sl false 3 (List.map E3 r_.Sums)]), (24, V.sc (.int .i64 now)), (25, V.agg [V.sc (.int .i64 r4.Span), V.sc (.int .i64 r4.Head), V.ow 3, V.ow 4]), (26, V.ptr 2 2), (27, V.ow 3), (28, V.ptr 2 3), (29, V.ow 4), (30, V.ptr 2 2), (31, V.ow 3), (32, V.ep 3 1 0 0), (33, V.sc (.int .i64 x1)), (34, V.sc (.int .i64 r5)), (35, V.ptr 2 3), (36, V.ow 4), (37, V.ep 4 1 0 0), (38, V.sc (.int .i64 x2)), (39, V.sc (.int .i64 amount)), (40, V.sc (.int .i64 r6)), (41, V.ep 3 1 0 0), (42, V.ep 4 1 0 0)] [Blk.box 26 [V.sc (.int .i64 r_.Span), V.sc (.int .i64 r_.Head), V.sl false 3 (List.map E3 r_.Counts), V.sl false 3 (List.map E3 r_.Sums)], Blk.box 26 [V.sc (.int .i64 0), V.sc (.int .i64 0), V.nl 3, V.nl 3], Blk.box 26 [V.sc (.int .i64 r4.Span), V.sc (.int .i64 r4.Head), V.ow 3, V.ow 4], Blk.row 3 (List.map E3 (r4.Counts.set 0 r5)) [], Blk.row 3 (List.map E3 (r4.Sums.set 0 r6)) []] []), .loop .go (st 44 [(0, V.agg [V.sc (.int .i64 r_.Span), V.sc (.int .i64 r_.Head), V.sl false 3 (List.map E3 r_.Counts), V.sl false 3 (List.map E3 r_.Sums)]), (1, V.sc (.int .i64 now)), (2, V.sc (.int .i64 amount)), (3, V.ptr 0 0), (6, V.ptr 1 0), (7, V.ptr 2 0), (8, V.agg [V.sc (.int .i64 r_.Span), V.sc (.int .i64 r_.Head), V.sl false 3 (List.map E3 r_.Counts), V.sl false 3 (List.map E3 r_.Sums)]), (9, V.sc (.bool r1)), (10, V.sc (.bool (!r1))), (11, V.sc (.bool (!r1))), (12, V.sc (.int .i64 now)), (13, V.sc (.bool r2)), (14, V.sc (.bool (!r2))), (15, V.sc (.bool (!r2))), (16, V.sc (.bool (!r2))), (17, V.sc (.int .i64 amount)), (18, V.sc (.bool r3)), (19, V.sc (.bool (!r3))), (20, V.sc (.bool (!r3))), (23, V.agg [V.sc (.int .i64 r_.Span), V.sc (.int .i64 r_.Head), V.sl false 3 (List.map E3 r_.Counts), V.sl false 3 (List.map E3 r_.Sums)]), (24, V.sc (.int .i64 now)), (25, V.agg [V.sc (.int .i64 r4.Span), V.sc (.int .i64 r4.Head), V.ow 3, V.ow 4]), (26, V.ptr 2 2), (27, V.ow 3), (28, V.ptr 2 3), (29, V.ow 4), (30, V.ptr 2 2), (31, V.ow 3), (32, V.ep 3 1 0 0), (33, V.sc (.int .i64 x1)), (34, V.sc (.int .i64 r5)), (35, V.ptr 2 3), (36, V.ow 4), (37, V.ep 4 1 0 0), (38, V.sc (.int .i64 x2)), (39, V.sc (.int .i64 amount)), (40, V.sc (.int .i64 r6)), (41, V.ep 3 1 0 0), (42, V.ep 4 1 0 0)] [Blk.box 26 [V.sc (.int .i64 r_.Span), V.sc (.int .i64 r_.Head), V.sl false 3 (List.map E3 r_.Counts), V.sl false 3 (List.map E3 r_.Sums)], Blk.box 26 [V.sc (.int .i64 0), V.sc (.int .i64 0), V.nl 3, V.nl 3], Blk.box 26 [V.sc (.int .i64 r4.Span), V.sc (.int .i64 r4.Head), V.ow 3, V.ow 4], Blk.row 3 (List.map E3 (r4.Counts.set 0 r5)) [], Blk.row 3 (List.map E3 (r4.Sums.set 0 r6)) []] []), .el (E3 x1), .nb 2 (.row 3 (List.map E3 (r4.Counts.set 0 r5)) []), .el (E3 x2), .nb 3 (.row 3 (List.map E3 (r4.Sums.set 0 r6)) []), .ren [0, 1, 4, 2, 3], .el (E3 x1), .nb 2 (.row 3 (List.map E3 (r4.Counts.set 0 r5)) []), .el (E3 x2), .nb 3 (.row 3 (List.map E3 (r4.Sums.set 0 r6)) []), .ren [0, 1, 4, 2, 3], .ren [0, 1, 2, 3, 4], .el (E3 x1), .nb 2 (.row 3 (List.map E3 (r4.Counts.set 0 r5)) []), .el (E3 x2), .nb 3 (.row 3 (List.map E3 (r4.Sums.set 0 r6)) []), .ren [0, 1, 4, 2, 3], .ren [0, 1, 2, 3, 4], .ren [0, 1, 2, 3, 4]] (p := [Fn Tryz.prog 50 [(false, E26 r_)] (E4 r1) [],
               (true || ((E4 r1).nv && nvL [])) = true,
               (!r1) = false,
               (!r1) = false,
               Fn Tryz.prog 25 [(false, E3 now)] (E4 r2) [],
               (true || ((E4 r2).nv && nvL [])) = true,
               (!r1) = false,
               (!r1) = false,
               (!r2) = false,
               (!r2) = false,
               Fn Tryz.prog 51 [(false, E3 amount)] (E4 r3) [],
               (true || ((E4 r3).nv && nvL [])) = true,
               (!r2) = false,
               (!r2) = false,
               (!r3) = false,
               Fn Tryz.prog 53 [(false, E26 r_), (false, E3 now)] (E26 r4) [],
               (true || ((E26 r4).nv && nvL [])) = true,
               (0 : Int) ≤ 0,
               (0 : Int) < ((List.map E3 r4.Counts).length : Int),
               look [] 0 = none,
               (List.map E3 r4.Counts)[0]? = some (E3 x1),
               (0 : Int) ≤ 0,
               (0 : Int) < ((List.map E3 r4.Sums).length : Int),
               look [] 0 = none,
               (List.map E3 r4.Sums)[0]? = some (E3 x2),
               Fn Tryz.prog 27 [(false, E3 x1), (false, E3 1)] (E3 r5) [],
               (true || ((E3 r5).nv && nvL [])) = true,
               Fn Tryz.prog 27 [(false, E3 x2), (false, E3 amount)] (E3 r6) [],
               (true || ((E3 r6).nv && nvL [])) = true,
               (0 : Int) ≤ 0,
               (0 : Int) < ((List.map E3 r4.Counts).length : Int),
               look [] 0 = none,
               (List.map E3 r4.Counts)[0]? = some (E3 x1),
               Blk.row 3 ((List.map E3 r4.Counts).set 0 (V.sc (.int .i64 r5))) [] = Blk.row 3 (List.map E3 (r4.Counts.set 0 r5)) [],
               (0 : Int) ≤ 0,
               (0 : Int) < ((List.map E3 r4.Sums).length : Int),
               look [] 0 = none,
               (List.map E3 r4.Sums)[0]? = some (E3 x2),
               Blk.row 3 ((List.map E3 r4.Sums).set 0 (V.sc (.int .i64 r6))) [] = Blk.row 3 (List.map E3 (r4.Sums.set 0 r6)) [],
               st 44 [(0, V.agg [V.sc (.int .i64 r_.Span), V.sc (.int .i64 r_.Head), V.sl false 3 (List.map E3 r_.Counts), V.sl false 3 (List.map E3 r_.Sums)]), (1, V.sc (.int .i64 now)), (2, V.sc (.int .i64 amount)), (3, V.ptr 0 0), (6, V.ptr 1 0), (7, V.ptr 2 0), (8, V.agg [V.sc (.int .i64 r_.Span), V.sc (.int .i64 r_.Head), V.sl false 3 (List.map E3 r_.Counts), V.sl false 3 (List.map E3 r_.Sums)]), (9, V.sc (.bool r1)), (10, V.sc (.bool (!r1))), (11, V.sc (.bool (!r1))), (12, V.sc (.int .i64 now)), (13, V.sc (.bool r2)), (14, V.sc (.bool (!r2))), (15, V.sc (.bool (!r2))), (16, V.sc (.bool (!r2))), (17, V.sc (.int .i64 amount)), (18, V.sc (.bool r3)), (19, V.sc (.bool (!r3))), (20, V.sc (.bool (!r3))), (23, V.agg [V.sc (.int .i64 r_.Span), V.sc (.int .i64 r_.Head), V.sl false 3 (List.map E3 r_.Counts), V.sl false 3 (List.map E3 r_.Sums)]), (24, V.sc (.int .i64 now)), (25, V.agg [V.sc (.int .i64 r4.Span), V.sc (.int .i64 r4.Head), V.ow 3, V.ow 4]), (26, V.ptr 2 2), (27, V.ow 3), (28, V.ptr 2 3), (29, V.ow 4), (30, V.ptr 2 2), (31, V.ow 3), (32, V.ep 3 1 0 0), (33, V.sc (.int .i64 x1)), (34, V.sc (.int .i64 r5)), (35, V.ptr 2 3), (36, V.ow 4), (37, V.ep 4 1 0 0), (38, V.sc (.int .i64 x2)), (39, V.sc (.int .i64 amount)), (40, V.sc (.int .i64 r6)), (41, V.ep 3 1 0 0), (42, V.ep 4 1 0 0)] [Blk.box 26 [V.sc (.int .i64 r_.Span), V.sc (.int .i64 r_.Head), V.sl false 3 (List.map E3 r_.Counts), V.sl false 3 (List.map E3 r_.Sums)], Blk.box 26 [V.sc (.int .i64 0), V.sc (.int .i64 0), V.nl 3, V.nl 3], Blk.box 26 [V.sc (.int .i64 r4.Span), V.sc (.int .i64 r4.Head), V.ow 3, V.ow 4], Blk.row 3 (List.map E3 (r4.Counts.set 0 r5)) [], Blk.row 3 (List.map E3 (r4.Sums.set 0 r6)) []] [] = st 44 [(0, V.agg [V.sc (.int .i64 r_.Span), V.sc (.int .i64 r_.Head), V.sl false 3 (List.map E3 r_.Counts), V.sl false 3 (List.map E3 r_.Sums)]), (1, V.sc (.int .i64 now)), (2, V.sc (.int .i64 amount)), (3, V.ptr 0 0), (6, V.ptr 1 0), (7, V.ptr 2 0), (8, V.agg [V.sc (.int .i64 r_.Span), V.sc (.int .i64 r_.Head), V.sl false 3 (List.map E3 r_.Counts), V.sl false 3 (List.map E3 r_.Sums)]), (9, V.sc (.bool r1)), (10, V.sc (.bool (!r1))), (11, V.sc (.bool (!r1))), (12, V.sc (.int .i64 now)), (13, V.sc (.bool r2)), (14, V.sc (.bool (!r2))), (15, V.sc (.bool (!r2))), (16, V.sc (.bool (!r2))), (17, V.sc (.int .i64 amount)), (18, V.sc (.bool r3)), (19, V.sc (.bool (!r3))), (20, V.sc (.bool (!r3))), (23, V.agg [V.sc (.int .i64 r_.Span), V.sc (.int .i64 r_.Head), V.sl false 3 (List.map E3 r_.Counts), V.sl false 3 (List.map E3 r_.Sums)]), (24, V.sc (.int .i64 now)), (25, V.agg [V.sc (.int .i64 r4.Span), V.sc (.int .i64 r4.Head), V.ow 3, V.ow 4]), (26, V.ptr 2 2), (27, V.ow 3), (28, V.ptr 2 3), (29, V.ow 4), (30, V.ptr 2 2), (31, V.ow 3), (32, V.ep 3 1 0 0), (33, V.sc (.int .i64 x1)), (34, V.sc (.int .i64 r5)), (35, V.ptr 2 3), (36, V.ow 4), (37, V.ep 4 1 0 0), (38, V.sc (.int .i64 x2)), (39, V.sc (.int .i64 amount)), (40, V.sc (.int .i64 r6)), (41, V.ep 3 1 0 0), (42, V.ep 4 1 0 0)] [Blk.box 26 [V.sc (.int .i64 r_.Span), V.sc (.int .i64 r_.Head), V.sl false 3 (List.map E3 r_.Counts), V.sl false 3 (List.map E3 r_.Sums)], Blk.box 26 [V.sc (.int .i64 0), V.sc (.int .i64 0), V.nl 3, V.nl 3], Blk.box 26 [V.sc (.int .i64 r4.Span), V.sc (.int .i64 r4.Head), V.ow 3, V.ow 4], Blk.row 3 (List.map E3 (r4.Counts.set 0 r5)) [], Blk.row 3 (List.map E3 (r4.Sums.set 0 r6)) []] [],
               Fn Tryz.prog 27 [(false, E3 x1), (false, E3 1)] (E3 r5) [],
               (true || ((E3 r5).nv && nvL [])) = true,
               Fn Tryz.prog 27 [(false, E3 x2), (false, E3 amount)] (E3 r6) [],
               (true || ((E3 r6).nv && nvL [])) = true,
               (0 : Int) ≤ 0,
               (0 : Int) < ((List.map E3 r4.Counts).length : Int),
               look [] 0 = none,
               (List.map E3 r4.Counts)[0]? = some (E3 x1),
               Blk.row 3 ((List.map E3 r4.Counts).set 0 (V.sc (.int .i64 r5))) [] = Blk.row 3 (List.map E3 (r4.Counts.set 0 r5)) [],
               (0 : Int) ≤ 0,
               (0 : Int) < ((List.map E3 r4.Sums).length : Int),
               look [] 0 = none,
               (List.map E3 r4.Sums)[0]? = some (E3 x2),
               Blk.row 3 ((List.map E3 r4.Sums).set 0 (V.sc (.int .i64 r6))) [] = Blk.row 3 (List.map E3 (r4.Sums.set 0 r6)) [],
               st 44 [(0, V.agg [V.sc (.int .i64 r_.Span), V.sc (.int .i64 r_.Head), V.sl false 3 (List.map E3 r_.Counts), V.sl false 3 (List.map E3 r_.Sums)]), (1, V.sc (.int .i64 now)), (2, V.sc (.int .i64 amount)), (3, V.ptr 0 0), (6, V.ptr 1 0), (7, V.ptr 2 0), (8, V.agg [V.sc (.int .i64 r_.Span), V.sc (.int .i64 r_.Head), V.sl false 3 (List.map E3 r_.Counts), V.sl false 3 (List.map E3 r_.Sums)]), (9, V.sc (.bool r1)), (10, V.sc (.bool (!r1))), (11, V.sc (.bool (!r1))), (12, V.sc (.int .i64 now)), (13, V.sc (.bool r2)), (14, V.sc (.bool (!r2))), (15, V.sc (.bool (!r2))), (16, V.sc (.bool (!r2))), (17, V.sc (.int .i64 amount)), (18, V.sc (.bool r3)), (19, V.sc (.bool (!r3))), (20, V.sc (.bool (!r3))), (23, V.agg [V.sc (.int .i64 r_.Span), V.sc (.int .i64 r_.Head), V.sl false 3 (List.map E3 r_.Counts), V.sl false 3 (List.map E3 r_.Sums)]), (24, V.sc (.int .i64 now)), (25, V.agg [V.sc (.int .i64 r4.Span), V.sc (.int .i64 r4.Head), V.ow 3, V.ow 4]), (26, V.ptr 2 2), (27, V.ow 3), (28, V.ptr 2 3), (29, V.ow 4), (30, V.ptr 2 2), (31, V.ow 3), (32, V.ep 3 1 0 0), (33, V.sc (.int .i64 x1)), (34, V.sc (.int .i64 r5)), (35, V.ptr 2 3), (36, V.ow 4), (37, V.ep 4 1 0 0), (38, V.sc (.int .i64 x2)), (39, V.sc (.int .i64 amount)), (40, V.sc (.int .i64 r6)), (41, V.ep 3 1 0 0), (42, V.ep 4 1 0 0)] [Blk.box 26 [V.sc (.int .i64 r_.Span), V.sc (.int .i64 r_.Head), V.sl false 3 (List.map E3 r_.Counts), V.sl false 3 (List.map E3 r_.Sums)], Blk.box 26 [V.sc (.int .i64 0), V.sc (.int .i64 0), V.nl 3, V.nl 3], Blk.box 26 [V.sc (.int .i64 r4.Span), V.sc (.int .i64 r4.Head), V.ow 3, V.ow 4], Blk.row 3 (List.map E3 (r4.Counts.set 0 r5)) [], Blk.row 3 (List.map E3 (r4.Sums.set 0 r6)) []] [] = st 44 [(0, V.agg [V.sc (.int .i64 r_.Span), V.sc (.int .i64 r_.Head), V.sl false 3 (List.map E3 r_.Counts), V.sl false 3 (List.map E3 r_.Sums)]), (1, V.sc (.int .i64 now)), (2, V.sc (.int .i64 amount)), (3, V.ptr 0 0), (6, V.ptr 1 0), (7, V.ptr 2 0), (8, V.agg [V.sc (.int .i64 r_.Span), V.sc (.int .i64 r_.Head), V.sl false 3 (List.map E3 r_.Counts), V.sl false 3 (List.map E3 r_.Sums)]), (9, V.sc (.bool r1)), (10, V.sc (.bool (!r1))), (11, V.sc (.bool (!r1))), (12, V.sc (.int .i64 now)), (13, V.sc (.bool r2)), (14, V.sc (.bool (!r2))), (15, V.sc (.bool (!r2))), (16, V.sc (.bool (!r2))), (17, V.sc (.int .i64 amount)), (18, V.sc (.bool r3)), (19, V.sc (.bool (!r3))), (20, V.sc (.bool (!r3))), (23, V.agg [V.sc (.int .i64 r_.Span), V.sc (.int .i64 r_.Head), V.sl false 3 (List.map E3 r_.Counts), V.sl false 3 (List.map E3 r_.Sums)]), (24, V.sc (.int .i64 now)), (25, V.agg [V.sc (.int .i64 r4.Span), V.sc (.int .i64 r4.Head), V.ow 3, V.ow 4]), (26, V.ptr 2 2), (27, V.ow 3), (28, V.ptr 2 3), (29, V.ow 4), (30, V.ptr 2 2), (31, V.ow 3), (32, V.ep 3 1 0 0), (33, V.sc (.int .i64 x1)), (34, V.sc (.int .i64 r5)), (35, V.ptr 2 3), (36, V.ow 4), (37, V.ep 4 1 0 0), (38, V.sc (.int .i64 x2)), (39, V.sc (.int .i64 amount)), (40, V.sc (.int .i64 r6)), (41, V.ep 3 1 0 0), (42, V.ep 4 1 0 0)] [Blk.box 26 [V.sc (.int .i64 r_.Span), V.sc (.int .i64 r_.Head), V.sl false 3 (List.map E3 r_.Counts), V.sl false 3 (List.map E3 r_.Sums)], Blk.box 26 [V.sc (.int .i64 0), V.sc (.int .i64 0), V.nl 3, V.nl 3], Blk.box 26 [V.sc (.int .i64 r4.Span), V.sc (.int .i64 r4.Head), V.ow 3, V.ow 4], Blk.row 3 (List.map E3 (r4.Counts.set 0 r5)) [], Blk.row 3 (List.map E3 (r4.Sums.set 0 r6)) []] [],
               Fn Tryz.prog 27 [(false, E3 x2), (false, E3 amount)] (E3 r6) [],
               (true || ((E3 r6).nv && nvL [])) = true,
               (0 : Int) ≤ 0,
               (0 : Int) < ((List.map E3 r4.Counts).length : Int),
               look [] 0 = none,
               (List.map E3 r4.Counts)[0]? = some (E3 x1),
               Blk.row 3 ((List.map E3 r4.Counts).set 0 (V.sc (.int .i64 r5))) [] = Blk.row 3 (List.map E3 (r4.Counts.set 0 r5)) [],
               (0 : Int) ≤ 0,
               (0 : Int) < ((List.map E3 r4.Sums).length : Int),
               look [] 0 = none,
               (List.map E3 r4.Sums)[0]? = some (E3 x2),
               Blk.row 3 ((List.map E3 r4.Sums).set 0 (V.sc (.int .i64 r6))) [] = Blk.row 3 (List.map E3 (r4.Sums.set 0 r6)) [],
               st 44 [(0, V.agg [V.sc (.int .i64 r_.Span), V.sc (.int .i64 r_.Head), V.sl false 3 (List.map E3 r_.Counts), V.sl false 3 (List.map E3 r_.Sums)]), (1, V.sc (.int .i64 now)), (2, V.sc (.int .i64 amount)), (3, V.ptr 0 0), (6, V.ptr 1 0), (7, V.ptr 2 0), (8, V.agg [V.sc (.int .i64 r_.Span), V.sc (.int .i64 r_.Head), V.sl false 3 (List.map E3 r_.Counts), V.sl false 3 (List.map E3 r_.Sums)]), (9, V.sc (.bool r1)), (10, V.sc (.bool (!r1))), (11, V.sc (.bool (!r1))), (12, V.sc (.int .i64 now)), (13, V.sc (.bool r2)), (14, V.sc (.bool (!r2))), (15, V.sc (.bool (!r2))), (16, V.sc (.bool (!r2))), (17, V.sc (.int .i64 amount)), (18, V.sc (.bool r3)), (19, V.sc (.bool (!r3))), (20, V.sc (.bool (!r3))), (23, V.agg [V.sc (.int .i64 r_.Span), V.sc (.int .i64 r_.Head), V.sl false 3 (List.map E3 r_.Counts), V.sl false 3 (List.map E3 r_.Sums)]), (24, V.sc (.int .i64 now)), (25, V.agg [V.sc (.int .i64 r4.Span), V.sc (.int .i64 r4.Head), V.ow 3, V.ow 4]), (26, V.ptr 2 2), (27, V.ow 3), (28, V.ptr 2 3), (29, V.ow 4), (30, V.ptr 2 2), (31, V.ow 3), (32, V.ep 3 1 0 0), (33, V.sc (.int .i64 x1)), (34, V.sc (.int .i64 r5)), (35, V.ptr 2 3), (36, V.ow 4), (37, V.ep 4 1 0 0), (38, V.sc (.int .i64 x2)), (39, V.sc (.int .i64 amount)), (40, V.sc (.int .i64 r6)), (41, V.ep 3 1 0 0), (42, V.ep 4 1 0 0)] [Blk.box 26 [V.sc (.int .i64 r_.Span), V.sc (.int .i64 r_.Head), V.sl false 3 (List.map E3 r_.Counts), V.sl false 3 (List.map E3 r_.Sums)], Blk.box 26 [V.sc (.int .i64 0), V.sc (.int .i64 0), V.nl 3, V.nl 3], Blk.box 26 [V.sc (.int .i64 r4.Span), V.sc (.int .i64 r4.Head), V.ow 3, V.ow 4], Blk.row 3 (List.map E3 (r4.Counts.set 0 r5)) [], Blk.row 3 (List.map E3 (r4.Sums.set 0 r6)) []] [] = st 44 [(0, V.agg [V.sc (.int .i64 r_.Span), V.sc (.int .i64 r_.Head), V.sl false 3 (List.map E3 r_.Counts), V.sl false 3 (List.map E3 r_.Sums)]), (1, V.sc (.int .i64 now)), (2, V.sc (.int .i64 amount)), (3, V.ptr 0 0), (6, V.ptr 1 0), (7, V.ptr 2 0), (8, V.agg [V.sc (.int .i64 r_.Span), V.sc (.int .i64 r_.Head), V.sl false 3 (List.map E3 r_.Counts), V.sl false 3 (List.map E3 r_.Sums)]), (9, V.sc (.bool r1)), (10, V.sc (.bool (!r1))), (11, V.sc (.bool (!r1))), (12, V.sc (.int .i64 now)), (13, V.sc (.bool r2)), (14, V.sc (.bool (!r2))), (15, V.sc (.bool (!r2))), (16, V.sc (.bool (!r2))), (17, V.sc (.int .i64 amount)), (18, V.sc (.bool r3)), (19, V.sc (.bool (!r3))), (20, V.sc (.bool (!r3))), (23, V.agg [V.sc (.int .i64 r_.Span), V.sc (.int .i64 r_.Head), V.sl false 3 (List.map E3 r_.Counts), V.sl false 3 (List.map E3 r_.Sums)]), (24, V.sc (.int .i64 now)), (25, V.agg [V.sc (.int .i64 r4.Span), V.sc (.int .i64 r4.Head), V.ow 3, V.ow 4]), (26, V.ptr 2 2), (27, V.ow 3), (28, V.ptr 2 3), (29, V.ow 4), (30, V.ptr 2 2), (31, V.ow 3), (32, V.ep 3 1 0 0), (33, V.sc (.int .i64 x1)), (34, V.sc (.int .i64 r5)), (35, V.ptr 2 3), (36, V.ow 4), (37, V.ep 4 1 0 0), (38, V.sc (.int .i64 x2)), (39, V.sc (.int .i64 amount)), (40, V.sc (.int .i64 r6)), (41, V.ep 3 1 0 0), (42, V.ep 4 1 0 0)] [Blk.box 26 [V.sc (.int .i64 r_.Span), V.sc (.int .i64 r_.Head), V.sl false 3 (List.map E3 r_.Counts), V.sl false 3 (List.map E3 r_.Sums)], Blk.box 26 [V.sc (.int .i64 0), V.sc (.int .i64 0), V.nl 3, V.nl 3], Blk.box 26 [V.sc (.int .i64 r4.Span), V.sc (.int .i64 r4.Head), V.ow 3, V.ow 4], Blk.row 3 (List.map E3 (r4.Counts.set 0 r5)) [], Blk.row 3 (List.map E3 (r4.Sums.set 0 r6)) []] [],
               look [] 0 = none,
               (List.map E3 r4.Counts)[0]? = some (E3 x1),
               Blk.row 3 ((List.map E3 r4.Counts).set 0 (V.sc (.int .i64 r5))) [] = Blk.row 3 (List.map E3 (r4.Counts.set 0 r5)) [],
               (0 : Int) ≤ 0,
               (0 : Int) < ((List.map E3 r4.Sums).length : Int),
               look [] 0 = none,
               (List.map E3 r4.Sums)[0]? = some (E3 x2),
               Blk.row 3 ((List.map E3 r4.Sums).set 0 (V.sc (.int .i64 r6))) [] = Blk.row 3 (List.map E3 (r4.Sums.set 0 r6)) [],
               st 44 [(0, V.agg [V.sc (.int .i64 r_.Span), V.sc (.int .i64 r_.Head), V.sl false 3 (List.map E3 r_.Counts), V.sl false 3 (List.map E3 r_.Sums)]), (1, V.sc (.int .i64 now)), (2, V.sc (.int .i64 amount)), (3, V.ptr 0 0), (6, V.ptr 1 0), (7, V.ptr 2 0), (8, V.agg [V.sc (.int .i64 r_.Span), V.sc (.int .i64 r_.Head), V.sl false 3 (List.map E3 r_.Counts), V.sl false 3 (List.map E3 r_.Sums)]), (9, V.sc (.bool r1)), (10, V.sc (.bool (!r1))), (11, V.sc (.bool (!r1))), (12, V.sc (.int .i64 now)), (13, V.sc (.bool r2)), (14, V.sc (.bool (!r2))), (15, V.sc (.bool (!r2))), (16, V.sc (.bool (!r2))), (17, V.sc (.int .i64 amount)), (18, V.sc (.bool r3)), (19, V.sc (.bool (!r3))), (20, V.sc (.bool (!r3))), (23, V.agg [V.sc (.int .i64 r_.Span), V.sc (.int .i64 r_.Head), V.sl false 3 (List.map E3 r_.Counts), V.sl false 3 (List.map E3 r_.Sums)]), (24, V.sc (.int .i64 now)), (25, V.agg [V.sc (.int .i64 r4.Span), V.sc (.int .i64 r4.Head), V.ow 3, V.ow 4]), (26, V.ptr 2 2), (27, V.ow 3), (28, V.ptr 2 3), (29, V.ow 4), (30, V.ptr 2 2), (31, V.ow 3), (32, V.ep 3 1 0 0), (33, V.sc (.int .i64 x1)), (34, V.sc (.int .i64 r5)), (35, V.ptr 2 3), (36, V.ow 4), (37, V.ep 4 1 0 0), (38, V.sc (.int .i64 x2)), (39, V.sc (.int .i64 amount)), (40, V.sc (.int .i64 r6)), (41, V.ep 3 1 0 0), (42, V.ep 4 1 0 0)] [Blk.box 26 [V.sc (.int .i64 r_.Span), V.sc (.int .i64 r_.Head), V.sl false 3 (List.map E3 r_.Counts), V.sl false 3 (List.map E3 r_.Sums)], Blk.box 26 [V.sc (.int .i64 0), V.sc (.int .i64 0), V.nl 3, V.nl 3], Blk.box 26 [V.sc (.int .i64 r4.Span), V.sc (.int .i64 r4.Head), V.ow 3, V.ow 4], Blk.row 3 (List.map E3 (r4.Counts.set 0 r5)) [], Blk.row 3 (List.map E3 (r4.Sums.set 0 r6)) []] [] = st 44 [(0, V.agg [V.sc (.int .i64 r_.Span), V.sc (.int .i64 r_.Head), V.sl false 3 (List.map E3 r_.Counts), V.sl false 3 (List.map E3 r_.Sums)]), (1, V.sc (.int .i64 now)), (2, V.sc (.int .i64 amount)), (3, V.ptr 0 0), (6, V.ptr 1 0), (7, V.ptr 2 0), (8, V.agg [V.sc (.int .i64 r_.Span), V.sc (.int .i64 r_.Head), V.sl false 3 (List.map E3 r_.Counts), V.sl false 3 (List.map E3 r_.Sums)]), (9, V.sc (.bool r1)), (10, V.sc (.bool (!r1))), (11, V.sc (.bool (!r1))), (12, V.sc (.int .i64 now)), (13, V.sc (.bool r2)), (14, V.sc (.bool (!r2))), (15, V.sc (.bool (!r2))), (16, V.sc (.bool (!r2))), (17, V.sc (.int .i64 amount)), (18, V.sc (.bool r3)), (19, V.sc (.bool (!r3))), (20, V.sc (.bool (!r3))), (23, V.agg [V.sc (.int .i64 r_.Span), V.sc (.int .i64 r_.Head), V.sl false 3 (List.map E3 r_.Counts), V.sl false 3 (List.map E3 r_.Sums)]), (24, V.sc (.int .i64 now)), (25, V.agg [V.sc (.int .i64 r4.Span), V.sc (.int .i64 r4.Head), V.ow 3, V.ow 4]), (26, V.ptr 2 2), (27, V.ow 3), (28, V.ptr 2 3), (29, V.ow 4), (30, V.ptr 2 2), (31, V.ow 3), (32, V.ep 3 1 0 0), (33, V.sc (.int .i64 x1)), (34, V.sc (.int .i64 r5)), (35, V.ptr 2 3), (36, V.ow 4), (37, V.ep 4 1 0 0), (38, V.sc (.int .i64 x2)), (39, V.sc (.int .i64 amount)), (40, V.sc (.int .i64 r6)), (41, V.ep 3 1 0 0), (42, V.ep 4 1 0 0)] [Blk.box 26 [V.sc (.int .i64 r_.Span), V.sc (.int .i64 r_.Head), V.sl false 3 (List.map E3 r_.Counts), V.sl false 3 (List.map E3 r_.Sums)], Blk.box 26 [V.sc (.int .i64 0), V.sc (.int .i64 0), V.nl 3, V.nl 3], Blk.box 26 [V.sc (.int .i64 r4.Span), V.sc (.int .i64 r4.Head), V.ow 3, V.ow 4], Blk.row 3 (List.map E3 (r4.Counts.set 0 r5)) [], Blk.row 3 (List.map E3 (r4.Sums.set 0 r6)) []] [],
               st 44 [(0, V.agg [V.sc (.int .i64 r_.Span), V.sc (.int .i64 r_.Head), V.sl false 3 (List.map E3 r_.Counts), V.sl false 3 (List.map E3 r_.Sums)]), (1, V.sc (.int .i64 now)), (2, V.sc (.int .i64 amount)), (3, V.ptr 0 0), (6, V.ptr 1 0), (7, V.ptr 2 0), (8, V.agg [V.sc (.int .i64 r_.Span), V.sc (.int .i64 r_.Head), V.sl false 3 (List.map E3 r_.Counts), V.sl false 3 (List.map E3 r_.Sums)]), (9, V.sc (.bool r1)), (10, V.sc (.bool (!r1))), (11, V.sc (.bool (!r1))), (12, V.sc (.int .i64 now)), (13, V.sc (.bool r2)), (14, V.sc (.bool (!r2))), (15, V.sc (.bool (!r2))), (16, V.sc (.bool (!r2))), (17, V.sc (.int .i64 amount)), (18, V.sc (.bool r3)), (19, V.sc (.bool (!r3))), (20, V.sc (.bool (!r3))), (23, V.agg [V.sc (.int .i64 r_.Span), V.sc (.int .i64 r_.Head), V.sl false 3 (List.map E3 r_.Counts), V.sl false 3 (List.map E3 r_.Sums)]), (24, V.sc (.int .i64 now)), (25, V.agg [V.sc (.int .i64 r4.Span), V.sc (.int .i64 r4.Head), V.ow 3, V.ow 4]), (26, V.ptr 2 2), (27, V.ow 3), (28, V.ptr 2 3), (29, V.ow 4), (30, V.ptr 2 2), (31, V.ow 3), (32, V.ep 3 1 0 0), (33, V.sc (.int .i64 x1)), (34, V.sc (.int .i64 r5)), (35, V.ptr 2 3), (36, V.ow 4), (37, V.ep 4 1 0 0), (38, V.sc (.int .i64 x2)), (39, V.sc (.int .i64 amount)), (40, V.sc (.int .i64 r6)), (41, V.ep 3 1 0 0), (42, V.ep 4 1 0 0)] [Blk.box 26 [V.sc (.int .i64 r_.Span), V.sc (.int .i64 r_.Head), V.sl false 3 (List.map E3 r_.Counts), V.sl false 3 (List.map E3 r_.Sums)], Blk.box 26 [V.sc (.int .i64 0), V.sc (.int .i64 0), V.nl 3, V.nl 3], Blk.box 26 [V.sc (.int .i64 r4.Span), V.sc (.int .i64 r4.Head), V.ow 3, V.ow 4], Blk.row 3 (List.map E3 (r4.Counts.set 0 r5)) [], Blk.row 3 (List.map E3 (r4.Sums.set 0 r6)) []] [] = st 44 [(0, V.agg [V.sc (.int .i64 r_.Span), V.sc (.int .i64 r_.Head), V.sl false 3 (List.map E3 r_.Counts), V.sl false 3 (List.map E3 r_.Sums)]), (1, V.sc (.int .i64 now)), (2, V.sc (.int .i64 amount)), (3, V.ptr 0 0), (6, V.ptr 1 0), (7, V.ptr 2 0), (8, V.agg [V.sc (.int .i64 r_.Span), V.sc (.int .i64 r_.Head), V.sl false 3 (List.map E3 r_.Counts), V.sl false 3 (List.map E3 r_.Sums)]), (9, V.sc (.bool r1)), (10, V.sc (.bool (!r1))), (11, V.sc (.bool (!r1))), (12, V.sc (.int .i64 now)), (13, V.sc (.bool r2)), (14, V.sc (.bool (!r2))), (15, V.sc (.bool (!r2))), (16, V.sc (.bool (!r2))), (17, V.sc (.int .i64 amount)), (18, V.sc (.bool r3)), (19, V.sc (.bool (!r3))), (20, V.sc (.bool (!r3))), (23, V.agg [V.sc (.int .i64 r_.Span), V.sc (.int .i64 r_.Head), V.sl false 3 (List.map E3 r_.Counts), V.sl false 3 (List.map E3 r_.Sums)]), (24, V.sc (.int .i64 now)), (25, V.agg [V.sc (.int .i64 r4.Span), V.sc (.int .i64 r4.Head), V.ow 3, V.ow 4]), (26, V.ptr 2 2), (27, V.ow 3), (28, V.ptr 2 3), (29, V.ow 4), (30, V.ptr 2 2), (31, V.ow 3), (32, V.ep 3 1 0 0), (33, V.sc (.int .i64 x1)), (34, V.sc (.int .i64 r5)), (35, V.ptr 2 3), (36, V.ow 4), (37, V.ep 4 1 0 0), (38, V.sc (.int .i64 x2)), (39, V.sc (.int .i64 amount)), (40, V.sc (.int .i64 r6)), (41, V.ep 3 1 0 0), (42, V.ep 4 1 0 0)] [Blk.box 26 [V.sc (.int .i64 r_.Span), V.sc (.int .i64 r_.Head), V.sl false 3 (List.map E3 r_.Counts), V.sl false 3 (List.map E3 r_.Sums)], Blk.box 26 [V.sc (.int .i64 0), V.sc (.int .i64 0), V.nl 3, V.nl 3], Blk.box 26 [V.sc (.int .i64 r4.Span), V.sc (.int .i64 r4.Head), V.ow 3, V.ow 4], Blk.row 3 (List.map E3 (r4.Counts.set 0 r5)) [], Blk.row 3 (List.map E3 (r4.Sums.set 0 r6)) []] [],
               st 44 [(0, V.agg [V.sc (.int .i64 r_.Span), V.sc (.int .i64 r_.Head), V.sl false 3 (List.map E3 r_.Counts), V.sl false 3 (List.map E3 r_.Sums)]), (1, V.sc (.int .i64 now)), (2, V.sc (.int .i64 amount)), (3, V.ptr 0 0), (6, V.ptr 1 0), (7, V.ptr 2 0), (8, V.agg [V.sc (.int .i64 r_.Span), V.sc (.int .i64 r_.Head), V.sl false 3 (List.map E3 r_.Counts), V.sl false 3 (List.map E3 r_.Sums)]), (9, V.sc (.bool r1)), (10, V.sc (.bool (!r1))), (11, V.sc (.bool (!r1))), (12, V.sc (.int .i64 now)), (13, V.sc (.bool r2)), (14, V.sc (.bool (!r2))), (15, V.sc (.bool (!r2))), (16, V.sc (.bool (!r2))), (17, V.sc (.int .i64 amount)), (18, V.sc (.bool r3)), (19, V.sc (.bool (!r3))), (20, V.sc (.bool (!r3))), (23, V.agg [V.sc (.int .i64 r_.Span), V.sc (.int .i64 r_.Head), V.sl false 3 (List.map E3 r_.Counts), V.sl false 3 (List.map E3 r_.Sums)]), (24, V.sc (.int .i64 now)), (25, V.agg [V.sc (.int .i64 r4.Span), V.sc (.int .i64 r4.Head), V.ow 3, V.ow 4]), (26, V.ptr 2 2), (27, V.ow 3), (28, V.ptr 2 3), (29, V.ow 4), (30, V.ptr 2 2), (31, V.ow 3), (32, V.ep 3 1 0 0), (33, V.sc (.int .i64 x1)), (34, V.sc (.int .i64 r5)), (35, V.ptr 2 3), (36, V.ow 4), (37, V.ep 4 1 0 0), (38, V.sc (.int .i64 x2)), (39, V.sc (.int .i64 amount)), (40, V.sc (.int .i64 r6)), (41, V.ep 3 1 0 0), (42, V.ep 4 1 0 0)] [Blk.box 26 [V.sc (.int .i64 r_.Span), V.sc (.int .i64 r_.Head), V.sl false 3 (List.map E3 r_.Counts), V.sl false 3 (List.map E3 r_.Sums)], Blk.box 26 [V.sc (.int .i64 0), V.sc (.int .i64 0), V.nl 3, V.nl 3], Blk.box 26 [V.sc (.int .i64 r4.Span), V.sc (.int .i64 r4.Head), V.ow 3, V.ow 4], Blk.row 3 (List.map E3 (r4.Counts.set 0 r5)) [], Blk.row 3 (List.map E3 (r4.Sums.set 0 r6)) []] [] = st 44 [(0, V.agg [V.sc (.int .i64 r_.Span), V.sc (.int .i64 r_.Head), V.sl false 3 (List.map E3 r_.Counts), V.sl false 3 (List.map E3 r_.Sums)]), (1, V.sc (.int .i64 now)), (2, V.sc (.int .i64 amount)), (3, V.ptr 0 0), (6, V.ptr 1 0), (7, V.ptr 2 0), (8, V.agg [V.sc (.int .i64 r_.Span), V.sc (.int .i64 r_.Head), V.sl false 3 (List.map E3 r_.Counts), V.sl false 3 (List.map E3 r_.Sums)]), (9, V.sc (.bool r1)), (10, V.sc (.bool (!r1))), (11, V.sc (.bool (!r1))), (12, V.sc (.int .i64 now)), (13, V.sc (.bool r2)), (14, V.sc (.bool (!r2))), (15, V.sc (.bool (!r2))), (16, V.sc (.bool (!r2))), (17, V.sc (.int .i64 amount)), (18, V.sc (.bool r3)), (19, V.sc (.bool (!r3))), (20, V.sc (.bool (!r3))), (23, V.agg [V.sc (.int .i64 r_.Span), V.sc (.int .i64 r_.Head), V.sl false 3 (List.map E3 r_.Counts), V.sl false 3 (List.map E3 r_.Sums)]), (24, V.sc (.int .i64 now)), (25, V.agg [V.sc (.int .i64 r4.Span), V.sc (.int .i64 r4.Head), V.ow 3, V.ow 4]), (26, V.ptr 2 2), (27, V.ow 3), (28, V.ptr 2 3), (29, V.ow 4), (30, V.ptr 2 2), (31, V.ow 3), (32, V.ep 3 1 0 0), (33, V.sc (.int .i64 x1)), (34, V.sc (.int .i64 r5)), (35, V.ptr 2 3), (36, V.ow 4), (37, V.ep 4 1 0 0), (38, V.sc (.int .i64 x2)), (39, V.sc (.int .i64 amount)), (40, V.sc (.int .i64 r6)), (41, V.ep 3 1 0 0), (42, V.ep 4 1 0 0)] [Blk.box 26 [V.sc (.int .i64 r_.Span), V.sc (.int .i64 r_.Head), V.sl false 3 (List.map E3 r_.Counts), V.sl false 3 (List.map E3 r_.Sums)], Blk.box 26 [V.sc (.int .i64 0), V.sc (.int .i64 0), V.nl 3, V.nl 3], Blk.box 26 [V.sc (.int .i64 r4.Span), V.sc (.int .i64 r4.Head), V.ow 3, V.ow 4], Blk.row 3 (List.map E3 (r4.Counts.set 0 r5)) [], Blk.row 3 (List.map E3 (r4.Sums.set 0 r6)) []] [],
               st 44 [(0, V.agg [V.sc (.int .i64 r_.Span), V.sc (.int .i64 r_.Head), V.sl false 3 (List.map E3 r_.Counts), V.sl false 3 (List.map E3 r_.Sums)]), (1, V.sc (.int .i64 now)), (2, V.sc (.int .i64 amount)), (3, V.ptr 0 0), (6, V.ptr 1 0), (7, V.ptr 2 0), (8, V.agg [V.sc (.int .i64 r_.Span), V.sc (.int .i64 r_.Head), V.sl false 3 (List.map E3 r_.Counts), V.sl false 3 (List.map E3 r_.Sums)]), (9, V.sc (.bool r1)), (10, V.sc (.bool (!r1))), (11, V.sc (.bool (!r1))), (12, V.sc (.int .i64 now)), (13, V.sc (.bool r2)), (14, V.sc (.bool (!r2))), (15, V.sc (.bool (!r2))), (16, V.sc (.bool (!r2))), (17, V.sc (.int .i64 amount)), (18, V.sc (.bool r3)), (19, V.sc (.bool (!r3))), (20, V.sc (.bool (!r3))), (23, V.agg [V.sc (.int .i64 r_.Span), V.sc (.int .i64 r_.Head), V.sl false 3 (List.map E3 r_.Counts), V.sl false 3 (List.map E3 r_.Sums)]), (24, V.sc (.int .i64 now)), (25, V.agg [V.sc (.int .i64 r4.Span), V.sc (.int .i64 r4.Head), V.ow 3, V.ow 4]), (26, V.ptr 2 2), (27, V.ow 3), (28, V.ptr 2 3), (29, V.ow 4), (30, V.ptr 2 2), (31, V.ow 3), (32, V.ep 3 1 0 0), (33, V.sc (.int .i64 x1)), (34, V.sc (.int .i64 r5)), (35, V.ptr 2 3), (36, V.ow 4), (37, V.ep 4 1 0 0), (38, V.sc (.int .i64 x2)), (39, V.sc (.int .i64 amount)), (40, V.sc (.int .i64 r6)), (41, V.ep 3 1 0 0), (42, V.ep 4 1 0 0)] [Blk.box 26 [V.sc (.int .i64 r_.Span), V.sc (.int .i64 r_.Head), V.sl false 3 (List.map E3 r_.Counts), V.sl false 3 (List.map E3 r_.Sums)], Blk.box 26 [V.sc (.int .i64 0), V.sc (.int .i64 0), V.nl 3, V.nl 3], Blk.box 26 [V.sc (.int .i64 r4.Span), V.sc (.int .i64 r4.Head), V.ow 3, V.ow 4], Blk.row 3 (List.map E3 (r4.Counts.set 0 r5)) [], Blk.row 3 (List.map E3 (r4.Sums.set 0 r6)) []] [] = st 44 [(0, V.agg [V.sc (.int .i64 r_.Span), V.sc (.int .i64 r_.Head), V.sl false 3 (List.map E3 r_.Counts), V.sl false 3 (List.map E3 r_.Sums)]), (1, V.sc (.int .i64 now)), (2, V.sc (.int .i64 amount)), (3, V.ptr 0 0), (6, V.ptr 1 0), (7, V.ptr 2 0), (8, V.agg [V.sc (.int .i64 r_.Span), V.sc (.int .i64 r_.Head), V.sl false 3 (List.map E3 r_.Counts), V.sl false 3 (List.map E3 r_.Sums)]), (9, V.sc (.bool r1)), (10, V.sc (.bool (!r1))), (11, V.sc (.bool (!r1))), (12, V.sc (.int .i64 now)), (13, V.sc (.bool r2)), (14, V.sc (.bool (!r2))), (15, V.sc (.bool (!r2))), (16, V.sc (.bool (!r2))), (17, V.sc (.int .i64 amount)), (18, V.sc (.bool r3)), (19, V.sc (.bool (!r3))), (20, V.sc (.bool (!r3))), (23, V.agg [V.sc (.int .i64 r_.Span), V.sc (.int .i64 r_.Head), V.sl false 3 (List.map E3 r_.Counts), V.sl false 3 (List.map E3 r_.Sums)]), (24, V.sc (.int .i64 now)), (25, V.agg [V.sc (.int .i64 r4.Span), V.sc (.int .i64 r4.Head), V.ow 3, V.ow 4]), (26, V.ptr 2 2), (27, V.ow 3), (28, V.ptr 2 3), (29, V.ow 4), (30, V.ptr 2 2), (31, V.ow 3), (32, V.ep 3 1 0 0), (33, V.sc (.int .i64 x1)), (34, V.sc (.int .i64 r5)), (35, V.ptr 2 3), (36, V.ow 4), (37, V.ep 4 1 0 0), (38, V.sc (.int .i64 x2)), (39, V.sc (.int .i64 amount)), (40, V.sc (.int .i64 r6)), (41, V.ep 3 1 0 0), (42, V.ep 4 1 0 0)] [Blk.box 26 [V.sc (.int .i64 r_.Span), V.sc (.int .i64 r_.Head), V.sl false 3 (List.map E3 r_.Counts), V.sl false 3 (List.map E3 r_.Sums)], Blk.box 26 [V.sc (.int .i64 0), V.sc (.int .i64 0), V.nl 3, V.nl 3], Blk.box 26 [V.sc (.int .i64 r4.Span), V.sc (.int .i64 r4.Head), V.ow 3, V.ow 4], Blk.row 3 (List.map E3 (r4.Counts.set 0 r5)) [], Blk.row 3 (List.map E3 (r4.Sums.set 0 r6)) []] [],
               Fn Tryz.prog 27 [(false, E3 x1), (false, E3 1)] (E3 r5) [],
               (true || ((E3 r5).nv && nvL [])) = true,
               Fn Tryz.prog 27 [(false, E3 x2), (false, E3 amount)] (E3 r6) [],
               (true || ((E3 r6).nv && nvL [])) = true,
               (0 : Int) ≤ 0,
               (0 : Int) < ((List.map E3 r4.Counts).length : Int),
               look [] 0 = none,
               (List.map E3 r4.Counts)[0]? = some (E3 x1),
               Blk.row 3 ((List.map E3 r4.Counts).set 0 (V.sc (.int .i64 r5))) [] = Blk.row 3 (List.map E3 (r4.Counts.set 0 r5)) [],
               (0 : Int) ≤ 0,
               (0 : Int) < ((List.map E3 r4.Sums).length : Int),
               look [] 0 = none,
               (List.map E3 r4.Sums)[0]? = some (E3 x2),
               Blk.row 3 ((List.map E3 r4.Sums).set 0 (V.sc (.int .i64 r6))) [] = Blk.row 3 (List.map E3 (r4.Sums.set 0 r6)) [],
               st 44 [(0, V.agg [V.sc (.int .i64 r_.Span), V.sc (.int .i64 r_.Head), V.sl false 3 (List.map E3 r_.Counts), V.sl false 3 (List.map E3 r_.Sums)]), (1, V.sc (.int .i64 now)), (2, V.sc (.int .i64 amount)), (3, V.ptr 0 0), (6, V.ptr 1 0), (7, V.ptr 2 0), (8, V.agg [V.sc (.int .i64 r_.Span), V.sc (.int .i64 r_.Head), V.sl false 3 (List.map E3 r_.Counts), V.sl false 3 (List.map E3 r_.Sums)]), (9, V.sc (.bool r1)), (10, V.sc (.bool (!r1))), (11, V.sc (.bool (!r1))), (12, V.sc (.int .i64 now)), (13, V.sc (.bool r2)), (14, V.sc (.bool (!r2))), (15, V.sc (.bool (!r2))), (16, V.sc (.bool (!r2))), (17, V.sc (.int .i64 amount)), (18, V.sc (.bool r3)), (19, V.sc (.bool (!r3))), (20, V.sc (.bool (!r3))), (23, V.agg [V.sc (.int .i64 r_.Span), V.sc (.int .i64 r_.Head), V.sl false 3 (List.map E3 r_.Counts), V.sl false 3 (List.map E3 r_.Sums)]), (24, V.sc (.int .i64 now)), (25, V.agg [V.sc (.int .i64 r4.Span), V.sc (.int .i64 r4.Head), V.ow 3, V.ow 4]), (26, V.ptr 2 2), (27, V.ow 3), (28, V.ptr 2 3), (29, V.ow 4), (30, V.ptr 2 2), (31, V.ow 3), (32, V.ep 3 1 0 0), (33, V.sc (.int .i64 x1)), (34, V.sc (.int .i64 r5)), (35, V.ptr 2 3), (36, V.ow 4), (37, V.ep 4 1 0 0), (38, V.sc (.int .i64 x2)), (39, V.sc (.int .i64 amount)), (40, V.sc (.int .i64 r6)), (41, V.ep 3 1 0 0), (42, V.ep 4 1 0 0)] [Blk.box 26 [V.sc (.int .i64 r_.Span), V.sc (.int .i64 r_.Head), V.sl false 3 (List.map E3 r_.Counts), V.sl false 3 (List.map E3 r_.Sums)], Blk.box 26 [V.sc (.int .i64 0), V.sc (.int .i64 0), V.nl 3, V.nl 3], Blk.box 26 [V.sc (.int .i64 r4.Span), V.sc (.int .i64 r4.Head), V.ow 3, V.ow 4], Blk.row 3 (List.map E3 (r4.Counts.set 0 r5)) [], Blk.row 3 (List.map E3 (r4.Sums.set 0 r6)) []] [] = st 44 [(0, V.agg [V.sc (.int .i64 r_.Span), V.sc (.int .i64 r_.Head), V.sl false 3 (List.map E3 r_.Counts), V.sl false 3 (List.map E3 r_.Sums)]), (1, V.sc (.int .i64 now)), (2, V.sc (.int .i64 amount)), (3, V.ptr 0 0), (6, V.ptr 1 0), (7, V.ptr 2 0), (8, V.agg [V.sc (.int .i64 r_.Span), V.sc (.int .i64 r_.Head), V.sl false 3 (List.map E3 r_.Counts), V.sl false 3 (List.map E3 r_.Sums)]), (9, V.sc (.bool r1)), (10, V.sc (.bool (!r1))), (11, V.sc (.bool (!r1))), (12, V.sc (.int .i64 now)), (13, V.sc (.bool r2)), (14, V.sc (.bool (!r2))), (15, V.sc (.bool (!r2))), (16, V.sc (.bool (!r2))), (17, V.sc (.int .i64 amount)), (18, V.sc (.bool r3)), (19, V.sc (.bool (!r3))), (20, V.sc (.bool (!r3))), (23, V.agg [V.sc (.int .i64 r_.Span), V.sc (.int .i64 r_.Head), V.sl false 3 (List.map E3 r_.Counts), V.sl false 3 (List.map E3 r_.Sums)]), (24, V.sc (.int .i64 now)), (25, V.agg [V.sc (.int .i64 r4.Span), V.sc (.int .i64 r4.Head), V.ow 3, V.ow 4]), (26, V.ptr 2 2), (27, V.ow 3), (28, V.ptr 2 3), (29, V.ow 4), (30, V.ptr 2 2), (31, V.ow 3), (32, V.ep 3 1 0 0), (33, V.sc (.int .i64 x1)), (34, V.sc (.int .i64 r5)), (35, V.ptr 2 3), (36, V.ow 4), (37, V.ep 4 1 0 0), (38, V.sc (.int .i64 x2)), (39, V.sc (.int .i64 amount)), (40, V.sc (.int .i64 r6)), (41, V.ep 3 1 0 0), (42, V.ep 4 1 0 0)] [Blk.box 26 [V.sc (.int .i64 r_.Span), V.sc (.int .i64 r_.Head), V.sl false 3 (List.map E3 r_.Counts), V.sl false 3 (List.map E3 r_.Sums)], Blk.box 26 [V.sc (.int .i64 0), V.sc (.int .i64 0), V.nl 3, V.nl 3], Blk.box 26 [V.sc (.int .i64 r4.Span), V.sc (.int .i64 r4.Head), V.ow 3, V.ow 4], Blk.row 3 (List.map E3 (r4.Counts.set 0 r5)) [], Blk.row 3 (List.map E3 (r4.Sums.set 0 r6)) []] [],
               Fn Tryz.prog 27 [(false, E3 x2), (false, E3 amount)] (E3 r6) [],
               (true || ((E3 r6).nv && nvL [])) = true,
               (0 : Int) ≤ 0,
               (0 : Int) < ((List.map E3 r4.Counts).length : Int),
               look [] 0 = none,
               (List.map E3 r4.Counts)[0]? = some (E3 x1),
               Blk.row 3 ((List.map E3 r4.Counts).set 0 (V.sc (.int .i64 r5))) [] = Blk.row 3 (List.map E3 (r4.Counts.set 0 r5)) [],
               (0 : Int) ≤ 0,
               (0 : Int) < ((List.map E3 r4.Sums).length : Int),
               look [] 0 = none,
               (List.map E3 r4.Sums)[0]? = some (E3 x2),
               Blk.row 3 ((List.map E3 r4.Sums).set 0 (V.sc (.int .i64 r6))) [] = Blk.row 3 (List.map E3 (r4.Sums.set 0 r6)) [],
               st 44 [(0, V.agg [V.sc (.int .i64 r_.Span), V.sc (.int .i64 r_.Head), V.sl false 3 (List.map E3 r_.Counts), V.sl false 3 (List.map E3 r_.Sums)]), (1, V.sc (.int .i64 now)), (2, V.sc (.int .i64 amount)), (3, V.ptr 0 0), (6, V.ptr 1 0), (7, V.ptr 2 0), (8, V.agg [V.sc (.int .i64 r_.Span), V.sc (.int .i64 r_.Head), V.sl false 3 (List.map E3 r_.Counts), V.sl false 3 (List.map E3 r_.Sums)]), (9, V.sc (.bool r1)), (10, V.sc (.bool (!r1))), (11, V.sc (.bool (!r1))), (12, V.sc (.int .i64 now)), (13, V.sc (.bool r2)), (14, V.sc (.bool (!r2))), (15, V.sc (.bool (!r2))), (16, V.sc (.bool (!r2))), (17, V.sc (.int .i64 amount)), (18, V.sc (.bool r3)), (19, V.sc (.bool (!r3))), (20, V.sc (.bool (!r3))), (23, V.agg [V.sc (.int .i64 r_.Span), V.sc (.int .i64 r_.Head), V.sl false 3 (List.map E3 r_.Counts), V.sl false 3 (List.map E3 r_.Sums)]), (24, V.sc (.int .i64 now)), (25, V.agg [V.sc (.int .i64 r4.Span), V.sc (.int .i64 r4.Head), V.ow 3, V.ow 4]), (26, V.ptr 2 2), (27, V.ow 3), (28, V.ptr 2 3), (29, V.ow 4), (30, V.ptr 2 2), (31, V.ow 3), (32, V.ep 3 1 0 0), (33, V.sc (.int .i64 x1)), (34, V.sc (.int .i64 r5)), (35, V.ptr 2 3), (36, V.ow 4), (37, V.ep 4 1 0 0), (38, V.sc (.int .i64 x2)), (39, V.sc (.int .i64 amount)), (40, V.sc (.int .i64 r6)), (41, V.ep 3 1 0 0), (42, V.ep 4 1 0 0)] [Blk.box 26 [V.sc (.int .i64 r_.Span), V.sc (.int .i64 r_.Head), V.sl false 3 (List.map E3 r_.Counts), V.sl false 3 (List.map E3 r_.Sums)], Blk.box 26 [V.sc (.int .i64 0), V.sc (.int .i64 0), V.nl 3, V.nl 3], Blk.box 26 [V.sc (.int .i64 r4.Span), V.sc (.int .i64 r4.Head), V.ow 3, V.ow 4], Blk.row 3 (List.map E3 (r4.Counts.set 0 r5)) [], Blk.row 3 (List.map E3 (r4.Sums.set 0 r6)) []] [] = st 44 [(0, V.agg [V.sc (.int .i64 r_.Span), V.sc (.int .i64 r_.Head), V.sl false 3 (List.map E3 r_.Counts), V.sl false 3 (List.map E3 r_.Sums)]), (1, V.sc (.int .i64 now)), (2, V.sc (.int .i64 amount)), (3, V.ptr 0 0), (6, V.ptr 1 0), (7, V.ptr 2 0), (8, V.agg [V.sc (.int .i64 r_.Span), V.sc (.int .i64 r_.Head), V.sl false 3 (List.map E3 r_.Counts), V.sl false 3 (List.map E3 r_.Sums)]), (9, V.sc (.bool r1)), (10, V.sc (.bool (!r1))), (11, V.sc (.bool (!r1))), (12, V.sc (.int .i64 now)), (13, V.sc (.bool r2)), (14, V.sc (.bool (!r2))), (15, V.sc (.bool (!r2))), (16, V.sc (.bool (!r2))), (17, V.sc (.int .i64 amount)), (18, V.sc (.bool r3)), (19, V.sc (.bool (!r3))), (20, V.sc (.bool (!r3))), (23, V.agg [V.sc (.int .i64 r_.Span), V.sc (.int .i64 r_.Head), V.sl false 3 (List.map E3 r_.Counts), V.sl false 3 (List.map E3 r_.Sums)]), (24, V.sc (.int .i64 now)), (25, V.agg [V.sc (.int .i64 r4.Span), V.sc (.int .i64 r4.Head), V.ow 3, V.ow 4]), (26, V.ptr 2 2), (27, V.ow 3), (28, V.ptr 2 3), (29, V.ow 4), (30, V.ptr 2 2), (31, V.ow 3), (32, V.ep 3 1 0 0), (33, V.sc (.int .i64 x1)), (34, V.sc (.int .i64 r5)), (35, V.ptr 2 3), (36, V.ow 4), (37, V.ep 4 1 0 0), (38, V.sc (.int .i64 x2)), (39, V.sc (.int .i64 amount)), (40, V.sc (.int .i64 r6)), (41, V.ep 3 1 0 0), (42, V.ep 4 1 0 0)] [Blk.box 26 [V.sc (.int .i64 r_.Span), V.sc (.int .i64 r_.Head), V.sl false 3 (List.map E3 r_.Counts), V.sl false 3 (List.map E3 r_.Sums)], Blk.box 26 [V.sc (.int .i64 0), V.sc (.int .i64 0), V.nl 3, V.nl 3], Blk.box 26 [V.sc (.int .i64 r4.Span), V.sc (.int .i64 r4.Head), V.ow 3, V.ow 4], Blk.row 3 (List.map E3 (r4.Counts.set 0 r5)) [], Blk.row 3 (List.map E3 (r4.Sums.set 0 r6)) []] [],
               look [] 0 = none,
               (List.map E3 r4.Counts)[0]? = some (E3 x1),
               Blk.row 3 ((List.map E3 r4.Counts).set 0 (V.sc (.int .i64 r5))) [] = Blk.row 3 (List.map E3 (r4.Counts.set 0 r5)) [],
               (0 : Int) ≤ 0,
               (0 : Int) < ((List.map E3 r4.Sums).length : Int),
               look [] 0 = none,
               (List.map E3 r4.Sums)[0]? = some (E3 x2),
               Blk.row 3 ((List.map E3 r4.Sums).set 0 (V.sc (.int .i64 r6))) [] = Blk.row 3 (List.map E3 (r4.Sums.set 0 r6)) [],
               st 44 [(0, V.agg [V.sc (.int .i64 r_.Span), V.sc (.int .i64 r_.Head), V.sl false 3 (List.map E3 r_.Counts), V.sl false 3 (List.map E3 r_.Sums)]), (1, V.sc (.int .i64 now)), (2, V.sc (.int .i64 amount)), (3, V.ptr 0 0), (6, V.ptr 1 0), (7, V.ptr 2 0), (8, V.agg [V.sc (.int .i64 r_.Span), V.sc (.int .i64 r_.Head), V.sl false 3 (List.map E3 r_.Counts), V.sl false 3 (List.map E3 r_.Sums)]), (9, V.sc (.bool r1)), (10, V.sc (.bool (!r1))), (11, V.sc (.bool (!r1))), (12, V.sc (.int .i64 now)), (13, V.sc (.bool r2)), (14, V.sc (.bool (!r2))), (15, V.sc (.bool (!r2))), (16, V.sc (.bool (!r2))), (17, V.sc (.int .i64 amount)), (18, V.sc (.bool r3)), (19, V.sc (.bool (!r3))), (20, V.sc (.bool (!r3))), (23, V.agg [V.sc (.int .i64 r_.Span), V.sc (.int .i64 r_.Head), V.sl false 3 (List.map E3 r_.Counts), V.sl false 3 (List.map E3 r_.Sums)]), (24, V.sc (.int .i64 now)), (25, V.agg [V.sc (.int .i64 r4.Span), V.sc (.int .i64 r4.Head), V.ow 3, V.ow 4]), (26, V.ptr 2 2), (27, V.ow 3), (28, V.ptr 2 3), (29, V.ow 4), (30, V.ptr 2 2), (31, V.ow 3), (32, V.ep 3 1 0 0), (33, V.sc (.int .i64 x1)), (34, V.sc (.int .i64 r5)), (35, V.ptr 2 3), (36, V.ow 4), (37, V.ep 4 1 0 0), (38, V.sc (.int .i64 x2)), (39, V.sc (.int .i64 amount)), (40, V.sc (.int .i64 r6)), (41, V.ep 3 1 0 0), (42, V.ep 4 1 0 0)] [Blk.box 26 [V.sc (.int .i64 r_.Span), V.sc (.int .i64 r_.Head), V.sl false 3 (List.map E3 r_.Counts), V.sl false 3 (List.map E3 r_.Sums)], Blk.box 26 [V.sc (.int .i64 0), V.sc (.int .i64 0), V.nl 3, V.nl 3], Blk.box 26 [V.sc (.int .i64 r4.Span), V.sc (.int .i64 r4.Head), V.ow 3, V.ow 4], Blk.row 3 (List.map E3 (r4.Counts.set 0 r5)) [], Blk.row 3 (List.map E3 (r4.Sums.set 0 r6)) []] [] = st 44 [(0, V.agg [V.sc (.int .i64 r_.Span), V.sc (.int .i64 r_.Head), V.sl false 3 (List.map E3 r_.Counts), V.sl false 3 (List.map E3 r_.Sums)]), (1, V.sc (.int .i64 now)), (2, V.sc (.int .i64 amount)), (3, V.ptr 0 0), (6, V.ptr 1 0), (7, V.ptr 2 0), (8, V.agg [V.sc (.int .i64 r_.Span), V.sc (.int .i64 r_.Head), V.sl false 3 (List.map E3 r_.Counts), V.sl false 3 (List.map E3 r_.Sums)]), (9, V.sc (.bool r1)), (10, V.sc (.bool (!r1))), (11, V.sc (.bool (!r1))), (12, V.sc (.int .i64 now)), (13, V.sc (.bool r2)), (14, V.sc (.bool (!r2))), (15, V.sc (.bool (!r2))), (16, V.sc (.bool (!r2))), (17, V.sc (.int .i64 amount)), (18, V.sc (.bool r3)), (19, V.sc (.bool (!r3))), (20, V.sc (.bool (!r3))), (23, V.agg [V.sc (.int .i64 r_.Span), V.sc (.int .i64 r_.Head), V.sl false 3 (List.map E3 r_.Counts), V.sl false 3 (List.map E3 r_.Sums)]), (24, V.sc (.int .i64 now)), (25, V.agg [V.sc (.int .i64 r4.Span), V.sc (.int .i64 r4.Head), V.ow 3, V.ow 4]), (26, V.ptr 2 2), (27, V.ow 3), (28, V.ptr 2 3), (29, V.ow 4), (30, V.ptr 2 2), (31, V.ow 3), (32, V.ep 3 1 0 0), (33, V.sc (.int .i64 x1)), (34, V.sc (.int .i64 r5)), (35, V.ptr 2 3), (36, V.ow 4), (37, V.ep 4 1 0 0), (38, V.sc (.int .i64 x2)), (39, V.sc (.int .i64 amount)), (40, V.sc (.int .i64 r6)), (41, V.ep 3 1 0 0), (42, V.ep 4 1 0 0)] [Blk.box 26 [V.sc (.int .i64 r_.Span), V.sc (.int .i64 r_.Head), V.sl false 3 (List.map E3 r_.Counts), V.sl false 3 (List.map E3 r_.Sums)], Blk.box 26 [V.sc (.int .i64 0), V.sc (.int .i64 0), V.nl 3, V.nl 3], Blk.box 26 [V.sc (.int .i64 r4.Span), V.sc (.int .i64 r4.Head), V.ow 3, V.ow 4], Blk.row 3 (List.map E3 (r4.Counts.set 0 r5)) [], Blk.row 3 (List.map E3 (r4.Sums.set 0 r6)) []] [],
               st 44 [(0, V.agg [V.sc (.int .i64 r_.Span), V.sc (.int .i64 r_.Head), V.sl false 3 (List.map E3 r_.Counts), V.sl false 3 (List.map E3 r_.Sums)]), (1, V.sc (.int .i64 now)), (2, V.sc (.int .i64 amount)), (3, V.ptr 0 0), (6, V.ptr 1 0), (7, V.ptr 2 0), (8, V.agg [V.sc (.int .i64 r_.Span), V.sc (.int .i64 r_.Head), V.sl false 3 (List.map E3 r_.Counts), V.sl false 3 (List.map E3 r_.Sums)]), (9, V.sc (.bool r1)), (10, V.sc (.bool (!r1))), (11, V.sc (.bool (!r1))), (12, V.sc (.int .i64 now)), (13, V.sc (.bool r2)), (14, V.sc (.bool (!r2))), (15, V.sc (.bool (!r2))), (16, V.sc (.bool (!r2))), (17, V.sc (.int .i64 amount)), (18, V.sc (.bool r3)), (19, V.sc (.bool (!r3))), (20, V.sc (.bool (!r3))), (23, V.agg [V.sc (.int .i64 r_.Span), V.sc (.int .i64 r_.Head), V.sl false 3 (List.map E3 r_.Counts), V.sl false 3 (List.map E3 r_.Sums)]), (24, V.sc (.int .i64 now)), (25, V.agg [V.sc (.int .i64 r4.Span), V.sc (.int .i64 r4.Head), V.ow 3, V.ow 4]), (26, V.ptr 2 2), (27, V.ow 3), (28, V.ptr 2 3), (29, V.ow 4), (30, V.ptr 2 2), (31, V.ow 3), (32, V.ep 3 1 0 0), (33, V.sc (.int .i64 x1)), (34, V.sc (.int .i64 r5)), (35, V.ptr 2 3), (36, V.ow 4), (37, V.ep 4 1 0 0), (38, V.sc (.int .i64 x2)), (39, V.sc (.int .i64 amount)), (40, V.sc (.int .i64 r6)), (41, V.ep 3 1 0 0), (42, V.ep 4 1 0 0)] [Blk.box 26 [V.sc (.int .i64 r_.Span), V.sc (.int .i64 r_.Head), V.sl false 3 (List.map E3 r_.Counts), V.sl false 3 (List.map E3 r_.Sums)], Blk.box 26 [V.sc (.int .i64 0), V.sc (.int .i64 0), V.nl 3, V.nl 3], Blk.box 26 [V.sc (.int .i64 r4.Span), V.sc (.int .i64 r4.Head), V.ow 3, V.ow 4], Blk.row 3 (List.map E3 (r4.Counts.set 0 r5)) [], Blk.row 3 (List.map E3 (r4.Sums.set 0 r6)) []] [] = st 44 [(0, V.agg [V.sc (.int .i64 r_.Span), V.sc (.int .i64 r_.Head), V.sl false 3 (List.map E3 r_.Counts), V.sl false 3 (List.map E3 r_.Sums)]), (1, V.sc (.int .i64 now)), (2, V.sc (.int .i64 amount)), (3, V.ptr 0 0), (6, V.ptr 1 0), (7, V.ptr 2 0), (8, V.agg [V.sc (.int .i64 r_.Span), V.sc (.int .i64 r_.Head), V.sl false 3 (List.map E3 r_.Counts), V.sl false 3 (List.map E3 r_.Sums)]), (9, V.sc (.bool r1)), (10, V.sc (.bool (!r1))), (11, V.sc (.bool (!r1))), (12, V.sc (.int .i64 now)), (13, V.sc (.bool r2)), (14, V.sc (.bool (!r2))), (15, V.sc (.bool (!r2))), (16, V.sc (.bool (!r2))), (17, V.sc (.int .i64 amount)), (18, V.sc (.bool r3)), (19, V.sc (.bool (!r3))), (20, V.sc (.bool (!r3))), (23, V.agg [V.sc (.int .i64 r_.Span), V.sc (.int .i64 r_.Head), V.sl false 3 (List.map E3 r_.Counts), V.sl false 3 (List.map E3 r_.Sums)]), (24, V.sc (.int .i64 now)), (25, V.agg [V.sc (.int .i64 r4.Span), V.sc (.int .i64 r4.Head), V.ow 3, V.ow 4]), (26, V.ptr 2 2), (27, V.ow 3), (28, V.ptr 2 3), (29, V.ow 4), (30, V.ptr 2 2), (31, V.ow 3), (32, V.ep 3 1 0 0), (33, V.sc (.int .i64 x1)), (34, V.sc (.int .i64 r5)), (35, V.ptr 2 3), (36, V.ow 4), (37, V.ep 4 1 0 0), (38, V.sc (.int .i64 x2)), (39, V.sc (.int .i64 amount)), (40, V.sc (.int .i64 r6)), (41, V.ep 3 1 0 0), (42, V.ep 4 1 0 0)] [Blk.box 26 [V.sc (.int .i64 r_.Span), V.sc (.int .i64 r_.Head), V.sl false 3 (List.map E3 r_.Counts), V.sl false 3 (List.map E3 r_.Sums)], Blk.box 26 [V.sc (.int .i64 0), V.sc (.int .i64 0), V.nl 3, V.nl 3], Blk.box 26 [V.sc (.int .i64 r4.Span), V.sc (.int .i64 r4.Head), V.ow 3, V.ow 4], Blk.row 3 (List.map E3 (r4.Counts.set 0 r5)) [], Blk.row 3 (List.map E3 (r4.Sums.set 0 r6)) []] [],
               st 44 [(0, V.agg [V.sc (.int .i64 r_.Span), V.sc (.int .i64 r_.Head), V.sl false 3 (List.map E3 r_.Counts), V.sl false 3 (List.map E3 r_.Sums)]), (1, V.sc (.int .i64 now)), (2, V.sc (.int .i64 amount)), (3, V.ptr 0 0), (6, V.ptr 1 0), (7, V.ptr 2 0), (8, V.agg [V.sc (.int .i64 r_.Span), V.sc (.int .i64 r_.Head), V.sl false 3 (List.map E3 r_.Counts), V.sl false 3 (List.map E3 r_.Sums)]), (9, V.sc (.bool r1)), (10, V.sc (.bool (!r1))), (11, V.sc (.bool (!r1))), (12, V.sc (.int .i64 now)), (13, V.sc (.bool r2)), (14, V.sc (.bool (!r2))), (15, V.sc (.bool (!r2))), (16, V.sc (.bool (!r2))), (17, V.sc (.int .i64 amount)), (18, V.sc (.bool r3)), (19, V.sc (.bool (!r3))), (20, V.sc (.bool (!r3))), (23, V.agg [V.sc (.int .i64 r_.Span), V.sc (.int .i64 r_.Head), V.sl false 3 (List.map E3 r_.Counts), V.sl false 3 (List.map E3 r_.Sums)]), (24, V.sc (.int .i64 now)), (25, V.agg [V.sc (.int .i64 r4.Span), V.sc (.int .i64 r4.Head), V.ow 3, V.ow 4]), (26, V.ptr 2 2), (27, V.ow 3), (28, V.ptr 2 3), (29, V.ow 4), (30, V.ptr 2 2), (31, V.ow 3), (32, V.ep 3 1 0 0), (33, V.sc (.int .i64 x1)), (34, V.sc (.int .i64 r5)), (35, V.ptr 2 3), (36, V.ow 4), (37, V.ep 4 1 0 0), (38, V.sc (.int .i64 x2)), (39, V.sc (.int .i64 amount)), (40, V.sc (.int .i64 r6)), (41, V.ep 3 1 0 0), (42, V.ep 4 1 0 0)] [Blk.box 26 [V.sc (.int .i64 r_.Span), V.sc (.int .i64 r_.Head), V.sl false 3 (List.map E3 r_.Counts), V.sl false 3 (List.map E3 r_.Sums)], Blk.box 26 [V.sc (.int .i64 0), V.sc (.int .i64 0), V.nl 3, V.nl 3], Blk.box 26 [V.sc (.int .i64 r4.Span), V.sc (.int .i64 r4.Head), V.ow 3, V.ow 4], Blk.row 3 (List.map E3 (r4.Counts.set 0 r5)) [], Blk.row 3 (List.map E3 (r4.Sums.set 0 r6)) []] [] = st 44 [(0, V.agg [V.sc (.int .i64 r_.Span), V.sc (.int .i64 r_.Head), V.sl false 3 (List.map E3 r_.Counts), V.sl false 3 (List.map E3 r_.Sums)]), (1, V.sc (.int .i64 now)), (2, V.sc (.int .i64 amount)), (3, V.ptr 0 0), (6, V.ptr 1 0), (7, V.ptr 2 0), (8, V.agg [V.sc (.int .i64 r_.Span), V.sc (.int .i64 r_.Head), V.sl false 3 (List.map E3 r_.Counts), V.sl false 3 (List.map E3 r_.Sums)]), (9, V.sc (.bool r1)), (10, V.sc (.bool (!r1))), (11, V.sc (.bool (!r1))), (12, V.sc (.int .i64 now)), (13, V.sc (.bool r2)), (14, V.sc (.bool (!r2))), (15, V.sc (.bool (!r2))), (16, V.sc (.bool (!r2))), (17, V.sc (.int .i64 amount)), (18, V.sc (.bool r3)), (19, V.sc (.bool (!r3))), (20, V.sc (.bool (!r3))), (23, V.agg [V.sc (.int .i64 r_.Span), V.sc (.int .i64 r_.Head), V.sl false 3 (List.map E3 r_.Counts), V.sl false 3 (List.map E3 r_.Sums)]), (24, V.sc (.int .i64 now)), (25, V.agg [V.sc (.int .i64 r4.Span), V.sc (.int .i64 r4.Head), V.ow 3, V.ow 4]), (26, V.ptr 2 2), (27, V.ow 3), (28, V.ptr 2 3), (29, V.ow 4), (30, V.ptr 2 2), (31, V.ow 3), (32, V.ep 3 1 0 0), (33, V.sc (.int .i64 x1)), (34, V.sc (.int .i64 r5)), (35, V.ptr 2 3), (36, V.ow 4), (37, V.ep 4 1 0 0), (38, V.sc (.int .i64 x2)), (39, V.sc (.int .i64 amount)), (40, V.sc (.int .i64 r6)), (41, V.ep 3 1 0 0), (42, V.ep 4 1 0 0)] [Blk.box 26 [V.sc (.int .i64 r_.Span), V.sc (.int .i64 r_.Head), V.sl false 3 (List.map E3 r_.Counts), V.sl false 3 (List.map E3 r_.Sums)], Blk.box 26 [V.sc (.int .i64 0), V.sc (.int .i64 0), V.nl 3, V.nl 3], Blk.box 26 [V.sc (.int .i64 r4.Span), V.sc (.int .i64 r4.Head), V.ow 3, V.ow 4], Blk.row 3 (List.map E3 (r4.Counts.set 0 r5)) [], Blk.row 3 (List.map E3 (r4.Sums.set 0 r6)) []] [],
               Fn Tryz.prog 27 [(false, E3 x2), (false, E3 amount)] (E3 r6) [],
               (true || ((E3 r6).nv && nvL [])) = true,
               (0 : Int) ≤ 0,
               (0 : Int) < ((List.map E3 r4.Counts).length : Int),
               look [] 0 = none,
               (List.map E3 r4.Counts)[0]? = some (E3 x1),
               Blk.row 3 ((List.map E3 r4.Counts).set 0 (V.sc (.int .i64 r5))) [] = Blk.row 3 (List.map E3 (r4.Counts.set 0 r5)) [],
               (0 : Int) ≤ 0,
               (0 : Int) < ((List.map E3 r4.Sums).length : Int),
               look [] 0 = none,
               (List.map E3 r4.Sums)[0]? = some (E3 x2),
               Blk.row 3 ((List.map E3 r4.Sums).set 0 (V.sc (.int .i64 r6))) [] = Blk.row 3 (List.map E3 (r4.Sums.set 0 r6)) [],
               st 44 [(0, V.agg [V.sc (.int .i64 r_.Span), V.sc (.int .i64 r_.Head), V.sl false 3 (List.map E3 r_.Counts), V.sl false 3 (List.map E3 r_.Sums)]), (1, V.sc (.int .i64 now)), (2, V.sc (.int .i64 amount)), (3, V.ptr 0 0), (6, V.ptr 1 0), (7, V.ptr 2 0), (8, V.agg [V.sc (.int .i64 r_.Span), V.sc (.int .i64 r_.Head), V.sl false 3 (List.map E3 r_.Counts), V.sl false 3 (List.map E3 r_.Sums)]), (9, V.sc (.bool r1)), (10, V.sc (.bool (!r1))), (11, V.sc (.bool (!r1))), (12, V.sc (.int .i64 now)), (13, V.sc (.bool r2)), (14, V.sc (.bool (!r2))), (15, V.sc (.bool (!r2))), (16, V.sc (.bool (!r2))), (17, V.sc (.int .i64 amount)), (18, V.sc (.bool r3)), (19, V.sc (.bool (!r3))), (20, V.sc (.bool (!r3))), (23, V.agg [V.sc (.int .i64 r_.Span), V.sc (.int .i64 r_.Head), V.sl false 3 (List.map E3 r_.Counts), V.sl false 3 (List.map E3 r_.Sums)]), (24, V.sc (.int .i64 now)), (25, V.agg [V.sc (.int .i64 r4.Span), V.sc (.int .i64 r4.Head), V.ow 3, V.ow 4]), (26, V.ptr 2 2), (27, V.ow 3), (28, V.ptr 2 3), (29, V.ow 4), (30, V.ptr 2 2), (31, V.ow 3), (32, V.ep 3 1 0 0), (33, V.sc (.int .i64 x1)), (34, V.sc (.int .i64 r5)), (35, V.ptr 2 3), (36, V.ow 4), (37, V.ep 4 1 0 0), (38, V.sc (.int .i64 x2)), (39, V.sc (.int .i64 amount)), (40, V.sc (.int .i64 r6)), (41, V.ep 3 1 0 0), (42, V.ep 4 1 0 0)] [Blk.box 26 [V.sc (.int .i64 r_.Span), V.sc (.int .i64 r_.Head), V.sl false 3 (List.map E3 r_.Counts), V.sl false 3 (List.map E3 r_.Sums)], Blk.box 26 [V.sc (.int .i64 0), V.sc (.int .i64 0), V.nl 3, V.nl 3], Blk.box 26 [V.sc (.int .i64 r4.Span), V.sc (.int .i64 r4.Head), V.ow 3, V.ow 4], Blk.row 3 (List.map E3 (r4.Counts.set 0 r5)) [], Blk.row 3 (List.map E3 (r4.Sums.set 0 r6)) []] [] = st 44 [(0, V.agg [V.sc (.int .i64 r_.Span), V.sc (.int .i64 r_.Head), V.sl false 3 (List.map E3 r_.Counts), V.sl false 3 (List.map E3 r_.Sums)]), (1, V.sc (.int .i64 now)), (2, V.sc (.int .i64 amount)), (3, V.ptr 0 0), (6, V.ptr 1 0), (7, V.ptr 2 0), (8, V.agg [V.sc (.int .i64 r_.Span), V.sc (.int .i64 r_.Head), V.sl false 3 (List.map E3 r_.Counts), V.sl false 3 (List.map E3 r_.Sums)]), (9, V.sc (.bool r1)), (10, V.sc (.bool (!r1))), (11, V.sc (.bool (!r1))), (12, V.sc (.int .i64 now)), (13, V.sc (.bool r2)), (14, V.sc (.bool (!r2))), (15, V.sc (.bool (!r2))), (16, V.sc (.bool (!r2))), (17, V.sc (.int .i64 amount)), (18, V.sc (.bool r3)), (19, V.sc (.bool (!r3))), (20, V.sc (.bool (!r3))), (23, V.agg [V.sc (.int .i64 r_.Span), V.sc (.int .i64 r_.Head), V.sl false 3 (List.map E3 r_.Counts), V.sl false 3 (List.map E3 r_.Sums)]), (24, V.sc (.int .i64 now)), (25, V.agg [V.sc (.int .i64 r4.Span), V.sc (.int .i64 r4.Head), V.ow 3, V.ow 4]), (26, V.ptr 2 2), (27, V.ow 3), (28, V.ptr 2 3), (29, V.ow 4), (30, V.ptr 2 2), (31, V.ow 3), (32, V.ep 3 1 0 0), (33, V.sc (.int .i64 x1)), (34, V.sc (.int .i64 r5)), (35, V.ptr 2 3), (36, V.ow 4), (37, V.ep 4 1 0 0), (38, V.sc (.int .i64 x2)), (39, V.sc (.int .i64 amount)), (40, V.sc (.int .i64 r6)), (41, V.ep 3 1 0 0), (42, V.ep 4 1 0 0)] [Blk.box 26 [V.sc (.int .i64 r_.Span), V.sc (.int .i64 r_.Head), V.sl false 3 (List.map E3 r_.Counts), V.sl false 3 (List.map E3 r_.Sums)], Blk.box 26 [V.sc (.int .i64 0), V.sc (.int .i64 0), V.nl 3, V.nl 3], Blk.box 26 [V.sc (.int .i64 r4.Span), V.sc (.int .i64 r4.Head), V.ow 3, V.ow 4], Blk.row 3 (List.map E3 (r4.Counts.set 0 r5)) [], Blk.row 3 (List.map E3 (r4.Sums.set 0 r6)) []] [],
               look [] 0 = none,
               (List.map E3 r4.Counts)[0]? = some (E3 x1),
               Blk.row 3 ((List.map E3 r4.Counts).set 0 (V.sc (.int .i64 r5))) [] = Blk.row 3 (List.map E3 (r4.Counts.set 0 r5)) [],
               (0 : Int) ≤ 0,
               (0 : Int) < ((List.map E3 r4.Sums).length : Int),
               look [] 0 = none,
               (List.map E3 r4.Sums)[0]? = some (E3 x2),
               Blk.row 3 ((List.map E3 r4.Sums).set 0 (V.sc (.int .i64 r6))) [] = Blk.row 3 (List.map E3 (r4.Sums.set 0 r6)) [],
               st 44 [(0, V.agg [V.sc (.int .i64 r_.Span), V.sc (.int .i64 r_.Head), V.sl false 3 (List.map E3 r_.Counts), V.sl false 3 (List.map E3 r_.Sums)]), (1, V.sc (.int .i64 now)), (2, V.sc (.int .i64 amount)), (3, V.ptr 0 0), (6, V.ptr 1 0), (7, V.ptr 2 0), (8, V.agg [V.sc (.int .i64 r_.Span), V.sc (.int .i64 r_.Head), V.sl false 3 (List.map E3 r_.Counts), V.sl false 3 (List.map E3 r_.Sums)]), (9, V.sc (.bool r1)), (10, V.sc (.bool (!r1))), (11, V.sc (.bool (!r1))), (12, V.sc (.int .i64 now)), (13, V.sc (.bool r2)), (14, V.sc (.bool (!r2))), (15, V.sc (.bool (!r2))), (16, V.sc (.bool (!r2))), (17, V.sc (.int .i64 amount)), (18, V.sc (.bool r3)), (19, V.sc (.bool (!r3))), (20, V.sc (.bool (!r3))), (23, V.agg [V.sc (.int .i64 r_.Span), V.sc (.int .i64 r_.Head), V.sl false 3 (List.map E3 r_.Counts), V.sl false 3 (List.map E3 r_.Sums)]), (24, V.sc (.int .i64 now)), (25, V.agg [V.sc (.int .i64 r4.Span), V.sc (.int .i64 r4.Head), V.ow 3, V.ow 4]), (26, V.ptr 2 2), (27, V.ow 3), (28, V.ptr 2 3), (29, V.ow 4), (30, V.ptr 2 2), (31, V.ow 3), (32, V.ep 3 1 0 0), (33, V.sc (.int .i64 x1)), (34, V.sc (.int .i64 r5)), (35, V.ptr 2 3), (36, V.ow 4), (37, V.ep 4 1 0 0), (38, V.sc (.int .i64 x2)), (39, V.sc (.int .i64 amount)), (40, V.sc (.int .i64 r6)), (41, V.ep 3 1 0 0), (42, V.ep 4 1 0 0)] [Blk.box 26 [V.sc (.int .i64 r_.Span), V.sc (.int .i64 r_.Head), V.sl false 3 (List.map E3 r_.Counts), V.sl false 3 (List.map E3 r_.Sums)], Blk.box 26 [V.sc (.int .i64 0), V.sc (.int .i64 0), V.nl 3, V.nl 3], Blk.box 26 [V.sc (.int .i64 r4.Span), V.sc (.int .i64 r4.Head), V.ow 3, V.ow 4], Blk.row 3 (List.map E3 (r4.Counts.set 0 r5)) [], Blk.row 3 (List.map E3 (r4.Sums.set 0 r6)) []] [] = st 44 [(0, V.agg [V.sc (.int .i64 r_.Span), V.sc (.int .i64 r_.Head), V.sl false 3 (List.map E3 r_.Counts), V.sl false 3 (List.map E3 r_.Sums)]), (1, V.sc (.int .i64 now)), (2, V.sc (.int .i64 amount)), (3, V.ptr 0 0), (6, V.ptr 1 0), (7, V.ptr 2 0), (8, V.agg [V.sc (.int .i64 r_.Span), V.sc (.int .i64 r_.Head), V.sl false 3 (List.map E3 r_.Counts), V.sl false 3 (List.map E3 r_.Sums)]), (9, V.sc (.bool r1)), (10, V.sc (.bool (!r1))), (11, V.sc (.bool (!r1))), (12, V.sc (.int .i64 now)), (13, V.sc (.bool r2)), (14, V.sc (.bool (!r2))), (15, V.sc (.bool (!r2))), (16, V.sc (.bool (!r2))), (17, V.sc (.int .i64 amount)), (18, V.sc (.bool r3)), (19, V.sc (.bool (!r3))), (20, V.sc (.bool (!r3))), (23, V.agg [V.sc (.int .i64 r_.Span), V.sc (.int .i64 r_.Head), V.sl false 3 (List.map E3 r_.Counts), V.sl false 3 (List.map E3 r_.Sums)]), (24, V.sc (.int .i64 now)), (25, V.agg [V.sc (.int .i64 r4.Span), V.sc (.int .i64 r4.Head), V.ow 3, V.ow 4]), (26, V.ptr 2 2), (27, V.ow 3), (28, V.ptr 2 3), (29, V.ow 4), (30, V.ptr 2 2), (31, V.ow 3), (32, V.ep 3 1 0 0), (33, V.sc (.int .i64 x1)), (34, V.sc (.int .i64 r5)), (35, V.ptr 2 3), (36, V.ow 4), (37, V.ep 4 1 0 0), (38, V.sc (.int .i64 x2)), (39, V.sc (.int .i64 amount)), (40, V.sc (.int .i64 r6)), (41, V.ep 3 1 0 0), (42, V.ep 4 1 0 0)] [Blk.box 26 [V.sc (.int .i64 r_.Span), V.sc (.int .i64 r_.Head), V.sl false 3 (List.map E3 r_.Counts), V.sl false 3 (List.map E3 r_.Sums)], Blk.box 26 [V.sc (.int .i64 0), V.sc (.int .i64 0), V.nl 3, V.nl 3], Blk.box 26 [V.sc (.int .i64 r4.Span), V.sc (.int .i64 r4.Head), V.ow 3, V.ow 4], Blk.row 3 (List.map E3 (r4.Counts.set 0 r5)) [], Blk.row 3 (List.map E3 (r4.Sums.set 0 r6)) []] [],
               st 44 [(0, V.agg [V.sc (.int .i64 r_.Span), V.sc (.int .i64 r_.Head), V.sl false 3 (List.map E3 r_.Counts), V.sl false 3 (List.map E3 r_.Sums)]), (1, V.sc (.int .i64 now)), (2, V.sc (.int .i64 amount)), (3, V.ptr 0 0), (6, V.ptr 1 0), (7, V.ptr 2 0), (8, V.agg [V.sc (.int .i64 r_.Span), V.sc (.int .i64 r_.Head), V.sl false 3 (List.map E3 r_.Counts), V.sl false 3 (List.map E3 r_.Sums)]), (9, V.sc (.bool r1)), (10, V.sc (.bool (!r1))), (11, V.sc (.bool (!r1))), (12, V.sc (.int .i64 now)), (13, V.sc (.bool r2)), (14, V.sc (.bool (!r2))), (15, V.sc (.bool (!r2))), (16, V.sc (.bool (!r2))), (17, V.sc (.int .i64 amount)), (18, V.sc (.bool r3)), (19, V.sc (.bool (!r3))), (20, V.sc (.bool (!r3))), (23, V.agg [V.sc (.int .i64 r_.Span), V.sc (.int .i64 r_.Head), V.sl false 3 (List.map E3 r_.Counts), V.sl false 3 (List.map E3 r_.Sums)]), (24, V.sc (.int .i64 now)), (25, V.agg [V.sc (.int .i64 r4.Span), V.sc (.int .i64 r4.Head), V.ow 3, V.ow 4]), (26, V.ptr 2 2), (27, V.ow 3), (28, V.ptr 2 3), (29, V.ow 4), (30, V.ptr 2 2), (31, V.ow 3), (32, V.ep 3 1 0 0), (33, V.sc (.int .i64 x1)), (34, V.sc (.int .i64 r5)), (35, V.ptr 2 3), (36, V.ow 4), (37, V.ep 4 1 0 0), (38, V.sc (.int .i64 x2)), (39, V.sc (.int .i64 amount)), (40, V.sc (.int .i64 r6)), (41, V.ep 3 1 0 0), (42, V.ep 4 1 0 0)] [Blk.box 26 [V.sc (.int .i64 r_.Span), V.sc (.int .i64 r_.Head), V.sl false 3 (List.map E3 r_.Counts), V.sl false 3 (List.map E3 r_.Sums)], Blk.box 26 [V.sc (.int .i64 0), V.sc (.int .i64 0), V.nl 3, V.nl 3], Blk.box 26 [V.sc (.int .i64 r4.Span), V.sc (.int .i64 r4.Head), V.ow 3, V.ow 4], Blk.row 3 (List.map E3 (r4.Counts.set 0 r5)) [], Blk.row 3 (List.map E3 (r4.Sums.set 0 r6)) []] [] = st 44 [(0, V.agg [V.sc (.int .i64 r_.Span), V.sc (.int .i64 r_.Head), V.sl false 3 (List.map E3 r_.Counts), V.sl false 3 (List.map E3 r_.Sums)]), (1, V.sc (.int .i64 now)), (2, V.sc (.int .i64 amount)), (3, V.ptr 0 0), (6, V.ptr 1 0), (7, V.ptr 2 0), (8, V.agg [V.sc (.int .i64 r_.Span), V.sc (.int .i64 r_.Head), V.sl false 3 (List.map E3 r_.Counts), V.sl false 3 (List.map E3 r_.Sums)]), (9, V.sc (.bool r1)), (10, V.sc (.bool (!r1))), (11, V.sc (.bool (!r1))), (12, V.sc (.int .i64 now)), (13, V.sc (.bool r2)), (14, V.sc (.bool (!r2))), (15, V.sc (.bool (!r2))), (16, V.sc (.bool (!r2))), (17, V.sc (.int .i64 amount)), (18, V.sc (.bool r3)), (19, V.sc (.bool (!r3))), (20, V.sc (.bool (!r3))), (23, V.agg [V.sc (.int .i64 r_.Span), V.sc (.int .i64 r_.Head), V.sl false 3 (List.map E3 r_.Counts), V.sl false 3 (List.map E3 r_.Sums)]), (24, V.sc (.int .i64 now)), (25, V.agg [V.sc (.int .i64 r4.Span), V.sc (.int .i64 r4.Head), V.ow 3, V.ow 4]), (26, V.ptr 2 2), (27, V.ow 3), (28, V.ptr 2 3), (29, V.ow 4), (30, V.ptr 2 2), (31, V.ow 3), (32, V.ep 3 1 0 0), (33, V.sc (.int .i64 x1)), (34, V.sc (.int .i64 r5)), (35, V.ptr 2 3), (36, V.ow 4), (37, V.ep 4 1 0 0), (38, V.sc (.int .i64 x2)), (39, V.sc (.int .i64 amount)), (40, V.sc (.int .i64 r6)), (41, V.ep 3 1 0 0), (42, V.ep 4 1 0 0)] [Blk.box 26 [V.sc (.int .i64 r_.Span), V.sc (.int .i64 r_.Head), V.sl false 3 (List.map E3 r_.Counts), V.sl false 3 (List.map E3 r_.Sums)], Blk.box 26 [V.sc (.int .i64 0), V.sc (.int .i64 0), V.nl 3, V.nl 3], Blk.box 26 [V.sc (.int .i64 r4.Span), V.sc (.int .i64 r4.Head), V.ow 3, V.ow 4], Blk.row 3 (List.map E3 (r4.Counts.set 0 r5)) [], Blk.row 3 (List.map E3 (r4.Sums.set 0 r6)) []] [],
               look [] 0 = none,
               (List.map E3 r4.Counts)[0]? = some (E3 x1),
               Blk.row 3 ((List.map E3 r4.Counts).set 0 (V.sc (.int .i64 r5))) [] = Blk.row 3 (List.map E3 (r4.Counts.set 0 r5)) [],
               (0 : Int) ≤ 0,
               (0 : Int) < ((List.map E3 r4.Sums).length : Int),
               look [] 0 = none,
               (List.map E3 r4.Sums)[0]? = some (E3 x2),
               Blk.row 3 ((List.map E3 r4.Sums).set 0 (V.sc (.int .i64 r6))) [] = Blk.row 3 (List.map E3 (r4.Sums.set 0 r6)) [],
               st 44 [(0, V.agg [V.sc (.int .i64 r_.Span), V.sc (.int .i64 r_.Head), V.sl false 3 (List.map E3 r_.Counts), V.sl false 3 (List.map E3 r_.Sums)]), (1, V.sc (.int .i64 now)), (2, V.sc (.int .i64 amount)), (3, V.ptr 0 0), (6, V.ptr 1 0), (7, V.ptr 2 0), (8, V.agg [V.sc (.int .i64 r_.Span), V.sc (.int .i64 r_.Head), V.sl false 3 (List.map E3 r_.Counts), V.sl false 3 (List.map E3 r_.Sums)]), (9, V.sc (.bool r1)), (10, V.sc (.bool (!r1))), (11, V.sc (.bool (!r1))), (12, V.sc (.int .i64 now)), (13, V.sc (.bool r2)), (14, V.sc (.bool (!r2))), (15, V.sc (.bool (!r2))), (16, V.sc (.bool (!r2))), (17, V.sc (.int .i64 amount)), (18, V.sc (.bool r3)), (19, V.sc (.bool (!r3))), (20, V.sc (.bool (!r3))), (23, V.agg [V.sc (.int .i64 r_.Span), V.sc (.int .i64 r_.Head), V.sl false 3 (List.map E3 r_.Counts), V.sl false 3 (List.map E3 r_.Sums)]), (24, V.sc (.int .i64 now)), (25, V.agg [V.sc (.int .i64 r4.Span), V.sc (.int .i64 r4.Head), V.ow 3, V.ow 4]), (26, V.ptr 2 2), (27, V.ow 3), (28, V.ptr 2 3), (29, V.ow 4), (30, V.ptr 2 2), (31, V.ow 3), (32, V.ep 3 1 0 0), (33, V.sc (.int .i64 x1)), (34, V.sc (.int .i64 r5)), (35, V.ptr 2 3), (36, V.ow 4), (37, V.ep 4 1 0 0), (38, V.sc (.int .i64 x2)), (39, V.sc (.int .i64 amount)), (40, V.sc (.int .i64 r6)), (41, V.ep 3 1 0 0), (42, V.ep 4 1 0 0)] [Blk.box 26 [V.sc (.int .i64 r_.Span), V.sc (.int .i64 r_.Head), V.sl false 3 (List.map E3 r_.Counts), V.sl false 3 (List.map E3 r_.Sums)], Blk.box 26 [V.sc (.int .i64 0), V.sc (.int .i64 0), V.nl 3, V.nl 3], Blk.box 26 [V.sc (.int .i64 r4.Span), V.sc (.int .i64 r4.Head), V.ow 3, V.ow 4], Blk.row 3 (List.map E3 (r4.Counts.set 0 r5)) [], Blk.row 3 (List.map E3 (r4.Sums.set 0 r6)) []] [] = st 44 [(0, V.agg [V.sc (.int .i64 r_.Span), V.sc (.int .i64 r_.Head), V.sl false 3 (List.map E3 r_.Counts), V.sl false 3 (List.map E3 r_.Sums)]), (1, V.sc (.int .i64 now)), (2, V.sc (.int .i64 amount)), (3, V.ptr 0 0), (6, V.ptr 1 0), (7, V.ptr 2 0), (8, V.agg [V.sc (.int .i64 r_.Span), V.sc (.int .i64 r_.Head), V.sl false 3 (List.map E3 r_.Counts), V.sl false 3 (List.map E3 r_.Sums)]), (9, V.sc (.bool r1)), (10, V.sc (.bool (!r1))), (11, V.sc (.bool (!r1))), (12, V.sc (.int .i64 now)), (13, V.sc (.bool r2)), (14, V.sc (.bool (!r2))), (15, V.sc (.bool (!r2))), (16, V.sc (.bool (!r2))), (17, V.sc (.int .i64 amount)), (18, V.sc (.bool r3)), (19, V.sc (.bool (!r3))), (20, V.sc (.bool (!r3))), (23, V.agg [V.sc (.int .i64 r_.Span), V.sc (.int .i64 r_.Head), V.sl false 3 (List.map E3 r_.Counts), V.sl false 3 (List.map E3 r_.Sums)]), (24, V.sc (.int .i64 now)), (25, V.agg [V.sc (.int .i64 r4.Span), V.sc (.int .i64 r4.Head), V.ow 3, V.ow 4]), (26, V.ptr 2 2), (27, V.ow 3), (28, V.ptr 2 3), (29, V.ow 4), (30, V.ptr 2 2), (31, V.ow 3), (32, V.ep 3 1 0 0), (33, V.sc (.int .i64 x1)), (34, V.sc (.int .i64 r5)), (35, V.ptr 2 3), (36, V.ow 4), (37, V.ep 4 1 0 0), (38, V.sc (.int .i64 x2)), (39, V.sc (.int .i64 amount)), (40, V.sc (.int .i64 r6)), (41, V.ep 3 1 0 0), (42, V.ep 4 1 0 0)] [Blk.box 26 [V.sc (.int .i64 r_.Span), V.sc (.int .i64 r_.Head), V.sl false 3 (List.map E3 r_.Counts), V.sl false 3 (List.map E3 r_.Sums)], Blk.box 26 [V.sc (.int .i64 0), V.sc (.int .i64 0), V.nl 3, V.nl 3], Blk.box 26 [V.sc (.int .i64 r4.Span), V.sc (.int .i64 r4.Head), V.ow 3, V.ow 4], Blk.row 3 (List.map E3 (r4.Counts.set 0 r5)) [], Blk.row 3 (List.map E3 (r4.Sums.set 0 r6)) []] [],
               st 44 [(0, V.agg [V.sc (.int .i64 r_.Span), V.sc (.int .i64 r_.Head), V.sl false 3 (List.map E3 r_.Counts), V.sl false 3 (List.map E3 r_.Sums)]), (1, V.sc (.int .i64 now)), (2, V.sc (.int .i64 amount)), (3, V.ptr 0 0), (6, V.ptr 1 0), (7, V.ptr 2 0), (8, V.agg [V.sc (.int .i64 r_.Span), V.sc (.int .i64 r_.Head), V.sl false 3 (List.map E3 r_.Counts), V.sl false 3 (List.map E3 r_.Sums)]), (9, V.sc (.bool r1)), (10, V.sc (.bool (!r1))), (11, V.sc (.bool (!r1))), (12, V.sc (.int .i64 now)), (13, V.sc (.bool r2)), (14, V.sc (.bool (!r2))), (15, V.sc (.bool (!r2))), (16, V.sc (.bool (!r2))), (17, V.sc (.int .i64 amount)), (18, V.sc (.bool r3)), (19, V.sc (.bool (!r3))), (20, V.sc (.bool (!r3))), (23, V.agg [V.sc (.int .i64 r_.Span), V.sc (.int .i64 r_.Head), V.sl false 3 (List.map E3 r_.Counts), V.sl false 3 (List.map E3 r_.Sums)]), (24, V.sc (.int .i64 now)), (25, V.agg [V.sc (.int .i64 r4.Span), V.sc (.int .i64 r4.Head), V.ow 3, V.ow 4]), (26, V.ptr 2 2), (27, V.ow 3), (28, V.ptr 2 3), (29, V.ow 4), (30, V.ptr 2 2), (31, V.ow 3), (32, V.ep 3 1 0 0), (33, V.sc (.int .i64 x1)), (34, V.sc (.int .i64 r5)), (35, V.ptr 2 3), (36, V.ow 4), (37, V.ep 4 1 0 0), (38, V.sc (.int .i64 x2)), (39, V.sc (.int .i64 amount)), (40, V.sc (.int .i64 r6)), (41, V.ep 3 1 0 0), (42, V.ep 4 1 0 0)] [Blk.box 26 [V.sc (.int .i64 r_.Span), V.sc (.int .i64 r_.Head), V.sl false 3 (List.map E3 r_.Counts), V.sl false 3 (List.map E3 r_.Sums)], Blk.box 26 [V.sc (.int .i64 0), V.sc (.int .i64 0), V.nl 3, V.nl 3], Blk.box 26 [V.sc (.int .i64 r4.Span), V.sc (.int .i64 r4.Head), V.ow 3, V.ow 4], Blk.row 3 (List.map E3 (r4.Counts.set 0 r5)) [], Blk.row 3 (List.map E3 (r4.Sums.set 0 r6)) []] [] = st 44 [(0, V.agg [V.sc (.int .i64 r_.Span), V.sc (.int .i64 r_.Head), V.sl false 3 (List.map E3 r_.Counts), V.sl false 3 (List.map E3 r_.Sums)]), (1, V.sc (.int .i64 now)), (2, V.sc (.int .i64 amount)), (3, V.ptr 0 0), (6, V.ptr 1 0), (7, V.ptr 2 0), (8, V.agg [V.sc (.int .i64 r_.Span), V.sc (.int .i64 r_.Head), V.sl false 3 (List.map E3 r_.Counts), V.sl false 3 (List.map E3 r_.Sums)]), (9, V.sc (.bool r1)), (10, V.sc (.bool (!r1))), (11, V.sc (.bool (!r1))), (12, V.sc (.int .i64 now)), (13, V.sc (.bool r2)), (14, V.sc (.bool (!r2))), (15, V.sc (.bool (!r2))), (16, V.sc (.bool (!r2))), (17, V.sc (.int .i64 amount)), (18, V.sc (.bool r3)), (19, V.sc (.bool (!r3))), (20, V.sc (.bool (!r3))), (23, V.agg [V.sc (.int .i64 r_.Span), V.sc (.int .i64 r_.Head), V.sl false 3 (List.map E3 r_.Counts), V.sl false 3 (List.map E3 r_.Sums)]), (24, V.sc (.int .i64 now)), (25, V.agg [V.sc (.int .i64 r4.Span), V.sc (.int .i64 r4.Head), V.ow 3, V.ow 4]), (26, V.ptr 2 2), (27, V.ow 3), (28, V.ptr 2 3), (29, V.ow 4), (30, V.ptr 2 2), (31, V.ow 3), (32, V.ep 3 1 0 0), (33, V.sc (.int .i64 x1)), (34, V.sc (.int .i64 r5)), (35, V.ptr 2 3), (36, V.ow 4), (37, V.ep 4 1 0 0), (38, V.sc (.int .i64 x2)), (39, V.sc (.int .i64 amount)), (40, V.sc (.int .i64 r6)), (41, V.ep 3 1 0 0), (42, V.ep 4 1 0 0)] [Blk.box 26 [V.sc (.int .i64 r_.Span), V.sc (.int .i64 r_.Head), V.sl false 3 (List.map E3 r_.Counts), V.sl false 3 (List.map E3 r_.Sums)], Blk.box 26 [V.sc (.int .i64 0), V.sc (.int .i64 0), V.nl 3, V.nl 3], Blk.box 26 [V.sc (.int .i64 r4.Span), V.sc (.int .i64 r4.Head), V.ow 3, V.ow 4], Blk.row 3 (List.map E3 (r4.Counts.set 0 r5)) [], Blk.row 3 (List.map E3 (r4.Sums.set 0 r6)) []] [],
               st 44 [(0, V.agg [V.sc (.int .i64 r_.Span), V.sc (.int .i64 r_.Head), V.sl false 3 (List.map E3 r_.Counts), V.sl false 3 (List.map E3 r_.Sums)]), (1, V.sc (.int .i64 now)), (2, V.sc (.int .i64 amount)), (3, V.ptr 0 0), (6, V.ptr 1 0), (7, V.ptr 2 0), (8, V.agg [V.sc (.int .i64 r_.Span), V.sc (.int .i64 r_.Head), V.sl false 3 (List.map E3 r_.Counts), V.sl false 3 (List.map E3 r_.Sums)]), (9, V.sc (.bool r1)), (10, V.sc (.bool (!r1))), (11, V.sc (.bool (!r1))), (12, V.sc (.int .i64 now)), (13, V.sc (.bool r2)), (14, V.sc (.bool (!r2))), (15, V.sc (.bool (!r2))), (16, V.sc (.bool (!r2))), (17, V.sc (.int .i64 amount)), (18, V.sc (.bool r3)), (19, V.sc (.bool (!r3))), (20, V.sc (.bool (!r3))), (23, V.agg [V.sc (.int .i64 r_.Span), V.sc (.int .i64 r_.Head), V.sl false 3 (List.map E3 r_.Counts), V.sl false 3 (List.map E3 r_.Sums)]), (24, V.sc (.int .i64 now)), (25, V.agg [V.sc (.int .i64 r4.Span), V.sc (.int .i64 r4.Head), V.ow 3, V.ow 4]), (26, V.ptr 2 2), (27, V.ow 3), (28, V.ptr 2 3), (29, V.ow 4), (30, V.ptr 2 2), (31, V.ow 3), (32, V.ep 3 1 0 0), (33, V.sc (.int .i64 x1)), (34, V.sc (.int .i64 r5)), (35, V.ptr 2 3), (36, V.ow 4), (37, V.ep 4 1 0 0), (38, V.sc (.int .i64 x2)), (39, V.sc (.int .i64 amount)), (40, V.sc (.int .i64 r6)), (41, V.ep 3 1 0 0), (42, V.ep 4 1 0 0)] [Blk.box 26 [V.sc (.int .i64 r_.Span), V.sc (.int .i64 r_.Head), V.sl false 3 (List.map E3 r_.Counts), V.sl false 3 (List.map E3 r_.Sums)], Blk.box 26 [V.sc (.int .i64 0), V.sc (.int .i64 0), V.nl 3, V.nl 3], Blk.box 26 [V.sc (.int .i64 r4.Span), V.sc (.int .i64 r4.Head), V.ow 3, V.ow 4], Blk.row 3 (List.map E3 (r4.Counts.set 0 r5)) [], Blk.row 3 (List.map E3 (r4.Sums.set 0 r6)) []] [] = st 44 [(0, V.agg [V.sc (.int .i64 r_.Span), V.sc (.int .i64 r_.Head), V.sl false 3 (List.map E3 r_.Counts), V.sl false 3 (List.map E3 r_.Sums)]), (1, V.sc (.int .i64 now)), (2, V.sc (.int .i64 amount)), (3, V.ptr 0 0), (6, V.ptr 1 0), (7, V.ptr 2 0), (8, V.agg [V.sc (.int .i64 r_.Span), V.sc (.int .i64 r_.Head), V.sl false 3 (List.map E3 r_.Counts), V.sl false 3 (List.map E3 r_.Sums)]), (9, V.sc (.bool r1)), (10, V.sc (.bool (!r1))), (11, V.sc (.bool (!r1))), (12, V.sc (.int .i64 now)), (13, V.sc (.bool r2)), (14, V.sc (.bool (!r2))), (15, V.sc (.bool (!r2))), (16, V.sc (.bool (!r2))), (17, V.sc (.int .i64 amount)), (18, V.sc (.bool r3)), (19, V.sc (.bool (!r3))), (20, V.sc (.bool (!r3))), (23, V.agg [V.sc (.int .i64 r_.Span), V.sc (.int .i64 r_.Head), V.sl false 3 (List.map E3 r_.Counts), V.sl false 3 (List.map E3 r_.Sums)]), (24, V.sc (.int .i64 now)), (25, V.agg [V.sc (.int .i64 r4.Span), V.sc (.int .i64 r4.Head), V.ow 3, V.ow 4]), (26, V.ptr 2 2), (27, V.ow 3), (28, V.ptr 2 3), (29, V.ow 4), (30, V.ptr 2 2), (31, V.ow 3), (32, V.ep 3 1 0 0), (33, V.sc (.int .i64 x1)), (34, V.sc (.int .i64 r5)), (35, V.ptr 2 3), (36, V.ow 4), (37, V.ep 4 1 0 0), (38, V.sc (.int .i64 x2)), (39, V.sc (.int .i64 amount)), (40, V.sc (.int .i64 r6)), (41, V.ep 3 1 0 0), (42, V.ep 4 1 0 0)] [Blk.box 26 [V.sc (.int .i64 r_.Span), V.sc (.int .i64 r_.Head), V.sl false 3 (List.map E3 r_.Counts), V.sl false 3 (List.map E3 r_.Sums)], Blk.box 26 [V.sc (.int .i64 0), V.sc (.int .i64 0), V.nl 3, V.nl 3], Blk.box 26 [V.sc (.int .i64 r4.Span), V.sc (.int .i64 r4.Head), V.ow 3, V.ow 4], Blk.row 3 (List.map E3 (r4.Counts.set 0 r5)) [], Blk.row 3 (List.map E3 (r4.Sums.set 0 r6)) []] []]) (by kernel_rfl) (cj (impl_RingOk_ok r_ r1 h1) (cj rfl (cj (nf h2) (cj (nf h2) (cj (impl_isTime_ok now r2 h3) (cj rfl (cj (nf h2) (cj (nf h2) (cj (nf h4) (cj (nf h4) (cj (impl_isMoney_ok amount r3 h5) (cj rfl (cj (nf h4) (cj (nf h4) (cj (nf h6) (cj (impl_RingRoll_ok r_ now r4 h7) (cj rfl (cj (by decide) (cj (map_ltN (by decide) h8) (cj rfl (cj (map_get h8) (cj (by decide) (cj (map_ltN (by decide) h9) (cj rfl (cj (map_get h9) (cj (impl_AddSat_ok x1 1 r5 h10) (cj rfl (cj (impl_AddSat_ok x2 amount r6 h11) (cj rfl (cj (by decide) (cj (map_ltN (by decide) h8) (cj rfl (cj (map_get h8) (cj (nb_set E3 _ _ r5) (cj (by decide) (cj (map_ltN (by decide) h9) (cj rfl (cj (map_get h9) (cj (nb_set E3 _ _ r6) (cj rfl (cj (impl_AddSat_ok x1 1 r5 h10) (cj rfl (cj (impl_AddSat_ok x2 amount r6 h11) (cj rfl (cj (by decide) (cj (map_ltN (by decide) h8) (cj rfl (cj (map_get h8) (cj (nb_set E3 _ _ r5) (cj (by decide) (cj (map_ltN (by decide) h9) (cj rfl (cj (map_get h9) (cj (nb_set E3 _ _ r6) (cj rfl (cj (impl_AddSat_ok x2 amount r6 h11) (cj rfl (cj (by decide) (cj (map_ltN (by decide) h8) (cj rfl (cj (map_get h8) (cj (nb_set E3 _ _ r5) (cj (by decide) (cj (map_ltN (by decide) h9) (cj rfl (cj (map_get h9) (cj (nb_set E3 _ _ r6) (cj rfl (cj rfl (cj (map_get h8) (cj (nb_set E3 _ _ r5) (cj (by decide) (cj (map_ltN (by decide) h9) (cj rfl (cj (map_get h9) (cj (nb_set E3 _ _ r6) (cj rfl (cj rfl (cj rfl (cj rfl (cj (impl_AddSat_ok x1 1 r5 h10) (cj rfl (cj (impl_AddSat_ok x2 amount r6 h11) (cj rfl (cj (by decide) (cj (map_ltN (by decide) h8) (cj rfl (cj (map_get h8) (cj (nb_set E3 _ _ r5) (cj (by decide) (cj (map_ltN (by decide) h9) (cj rfl (cj (map_get h9) (cj (nb_set E3 _ _ r6) (cj rfl (cj (impl_AddSat_ok x2 amount r6 h11) (cj rfl (cj (by decide) (cj (map_ltN (by decide) h8) (cj rfl (cj (map_get h8) (cj (nb_set E3 _ _ r5) (cj (by decide) (cj (map_ltN (by decide) h9) (cj rfl (cj (map_get h9) (cj (nb_set E3 _ _ r6) (cj rfl (cj rfl (cj (map_get h8) (cj (nb_set E3 _ _ r5) (cj (by decide) (cj (map_ltN (by decide) h9) (cj rfl (cj (map_get h9) (cj (nb_set E3 _ _ r6) (cj rfl (cj rfl (cj rfl (cj (impl_AddSat_ok x2 amount r6 h11) (cj rfl (cj (by decide) (cj (map_ltN (by decide) h8) (cj rfl (cj (map_get h8) (cj (nb_set E3 _ _ r5) (cj (by decide) (cj (map_ltN (by decide) h9) (cj rfl (cj (map_get h9) (cj (nb_set E3 _ _ r6) (cj rfl (cj rfl (cj (map_get h8) (cj (nb_set E3 _ _ r5) (cj (by decide) (cj (map_ltN (by decide) h9) (cj rfl (cj (map_get h9) (cj (nb_set E3 _ _ r6) (cj rfl (cj rfl (cj rfl (cj (map_get h8) (cj (nb_set E3 _ _ r5) (cj (by decide) (cj (map_ltN (by decide) h9) (cj rfl (cj (map_get h9) (cj (nb_set E3 _ _ r6) (cj rfl (cj rfl (cj1 rfl)))))))))))))))))))))))))))))))))))))))))))))))))))))))))))))))))))))))))))))))))))))))))))))))))))))))))))))))))))))))))))))))))))))))))))))))))))))))))))))))) (fun h6 =>
         Pn.bind (fun r7 h12 =>
          Pn.some (Fn.of [.call [] (E4 r1) [], .bit false, .bit false, .call [] (E4 r2) [], .bit false, .bit false, .bit false, .bit false, .call [] (E4 r3) [], .bit false, .bit false, .bit true, .call [] (E26 r7) []] (p := [Fn Tryz.prog 50 [(false, E26 r_)] (E4 r1) [],
           (true || ((E4 r1).nv && nvL [])) = true,
           (!r1) = false,
           (!r1) = false,
           Fn Tryz.prog 25 [(false, E3 now)] (E4 r2) [],
           (true || ((E4 r2).nv && nvL [])) = true,
           (!r1) = false,
           (!r1) = false,
           (!r2) = false,
           (!r2) = false,
           Fn Tryz.prog 51 [(false, E3 amount)] (E4 r3) [],
           (true || ((E4 r3).nv && nvL [])) = true,
           (!r2) = false,
           (!r2) = false,
           (!r3) = true,
           Fn Tryz.prog 52 [(false, E26 r_)] (E26 r7) [],
           (true || ((E26 r7).nv && nvL [])) = true]) (by kernel_rfl) (cj (impl_RingOk_ok r_ r1 h1) (cj rfl (cj (nf h2) (cj (nf h2) (cj (impl_isTime_ok now r2 h3) (cj rfl (cj (nf h2) (cj (nf h2) (cj (nf h4) (cj (nf h4) (cj (impl_isMoney_ok amount r3 h5) (cj rfl (cj (nf h4) (cj (nf h4) (cj (nt h6) (cj (impl_Ring_copied_ok r_ r7 h12) (cj1 rfl)))))))))))))))))))))) (fun h4 =>
       Pn.bind (fun r8 h13 =>
        Pn.some (Fn.of [.call [] (E4 r1) [], .bit false, .bit false, .call [] (E4 r2) [], .bit false, .bit false, .bit true, .bit true, .bit true, .bit true, .bit true, .call [] (E26 r8) []] (p := [Fn Tryz.prog 50 [(false, E26 r_)] (E4 r1) [],
         (true || ((E4 r1).nv && nvL [])) = true,
         (!r1) = false,
         (!r1) = false,
         Fn Tryz.prog 25 [(false, E3 now)] (E4 r2) [],
         (true || ((E4 r2).nv && nvL [])) = true,
         (!r1) = false,
         (!r1) = false,
         (!r2) = true,
         (!r2) = true,
         (!r2) = true,
         (!r2) = true,
         true = true,
         Fn Tryz.prog 52 [(false, E26 r_)] (E26 r8) [],
         (true || ((E26 r8).nv && nvL [])) = true]) (by kernel_rfl) (cj (impl_RingOk_ok r_ r1 h1) (cj rfl (cj (nf h2) (cj (nf h2) (cj (impl_isTime_ok now r2 h3) (cj rfl (cj (nf h2) (cj (nf h2) (cj (nt h4) (cj (nt h4) (cj (nt h4) (cj (nt h4) (cj rfl (cj (impl_Ring_copied_ok r_ r8 h13) (cj1 rfl)))))))))))))))))))) (fun h2 =>
     Pn.bind (fun r9 h14 =>
      Pn.some (Fn.of [.call [] (E4 r1) [], .bit true, .bit true, .bit true, .bit true, .bit true, .bit true, .bit true, .bit true, .bit true, .call [] (E26 r9) []] (p := [Fn Tryz.prog 50 [(false, E26 r_)] (E4 r1) [],
       (true || ((E4 r1).nv && nvL [])) = true,
       (!r1) = true,
       (!r1) = true,
       (!r1) = true,
       (!r1) = true,
       true = true,
       true = true,
       true = true,
       true = true,
       true = true,
       Fn Tryz.prog 52 [(false, E26 r_)] (E26 r9) [],
       (true || ((E26 r9).nv && nvL [])) = true]) (by kernel_rfl) (cj (impl_RingOk_ok r_ r1 h1) (cj rfl (cj (nt h2) (cj (nt h2) (cj (nt h2) (cj (nt h2) (cj rfl (cj rfl (cj rfl (cj rfl (cj rfl (cj (impl_Ring_copied_ok r_ r9 h14) (cj1 rfl)))))))))))))))))
def impl_More (a : Acct) (id : ByteArray) (amount : Int) (now : Int) : Option (Acct × Int) :=
 (impl_holdOf a id amount now).bind fun r1 =>
 if (r1.2.2 == 0) = true then
  (impl_checks r1.1 amount now).bind fun r2 =>
  if (r2 != 0) = true then
   some ((Acct.mk ByteArray.empty 0 0 0 0 [] (Ring.mk 0 0 [] []) []), r2)
  else
   if (decide (0 ≤ r1.2.1)) = true then
    (r1.1.Holds[r1.2.1.toNat]?).bind fun x1 =>
    (impl_RingAdd r1.1.Ring now amount).bind fun r3 =>
    some ((Acct.mk r1.1.Id r1.1.Limit r1.1.Posted r1.1.Most r1.1.MostSum (r1.1.Holds.set r1.2.1.toNat (Hold.mk x1.Id (i64 (x1.Amount + amount)) x1.Due)) r3 r1.1.Slots), 0)
   else none
 else
  if (r1.2.2 != 0) = true then
   some ((Acct.mk ByteArray.empty 0 0 0 0 [] (Ring.mk 0 0 [] []) []), r1.2.2)
  else
   if (decide (0 ≤ r1.2.1)) = true then
    (r1.1.Holds[r1.2.1.toNat]?).bind fun x2 =>
    (impl_RingAdd r1.1.Ring now amount).bind fun r4 =>
    some ((Acct.mk r1.1.Id r1.1.Limit r1.1.Posted r1.1.Most r1.1.MostSum (r1.1.Holds.set r1.2.1.toNat (Hold.mk x2.Id (i64 (x2.Amount + amount)) x2.Due)) r4 r1.1.Slots), 0)
   else none
theorem impl_More_ok (a : Acct) (id : ByteArray) (amount : Int) (now : Int) : Pn (fun y => Fn Tryz.prog 8 [(false, E29 a), (false, E9 id), (false, E3 amount), (false, E3 now)] (V.tup [E29 y.1, E3 y.2]) []) (impl_More a id amount now) := by
  unfold impl_More
  exact
   Pn.bind (fun r1 h1 =>
    Pn.ite (fun h2 =>
     Pn.bind (fun r2 h3 =>
      Pn.ite (fun h4 =>
       Pn.some (Fn.of [.call [] (V.tup [E29 r1.1, E3 r1.2.1, E3 r1.2.2]) [], .bit true, .call [] (E3 r2) [], .bit true] (p := [Fn Tryz.prog 19 [(false, E29 a), (false, E9 id), (false, E3 amount), (false, E3 now)] (V.tup [E29 r1.1, E3 r1.2.1, E3 r1.2.2]) [],
        (true || ((V.tup [E29 r1.1, E3 r1.2.1, E3 r1.2.2]).nv && nvL [])) = true,
        (r1.2.2 == 0) = true,
        Fn Tryz.prog 21 [(false, E29 r1.1), (false, E3 amount), (false, E3 now)] (E3 r2) [],
        (false || ((E3 r2).nv && nvL [])) = true,
        (r2 != 0) = true]) (by kernel_rfl) (cj (impl_holdOf_ok a id amount now r1 h1) (cj rfl (cj h2 (cj (impl_checks_ok r1.1 amount now r2 h3) (cj (by simp [V.nv, nvL, nvL_all, nv_E3]) (cj1 h4)))))))) (fun h4 =>
       Pn.ite (fun h5 =>
        Pn.bind (fun x1 h6 =>
         Pn.bind (fun r3 h7 =>
          Pn.some (Fn.of [.call [] (V.tup [E29 r1.1, E3 r1.2.1, E3 r1.2.2]) [], .bit true, .call [] (E3 r2) [], .bit false, .el (E33 x1), .el (E33 x1), .nb 2 (.row 33 (List.map E33 (r1.1.Holds.set r1.2.1.toNat (Hold.mk x1.Id (i64 (x1.Amount + amount)) x1.Due))) []), .call [] (E26 r3) []] (p := [Fn Tryz.prog 19 [(false, E29 a), (false, E9 id), (false, E3 amount), (false, E3 now)] (V.tup [E29 r1.1, E3 r1.2.1, E3 r1.2.2]) [],
           (true || ((V.tup [E29 r1.1, E3 r1.2.1, E3 r1.2.2]).nv && nvL [])) = true,
           (r1.2.2 == 0) = true,
           Fn Tryz.prog 21 [(false, E29 r1.1), (false, E3 amount), (false, E3 now)] (E3 r2) [],
           (false || ((E3 r2).nv && nvL [])) = true,
           (r2 != 0) = false,
           (0 : Int) ≤ r1.2.1,
           (r1.2.1 : Int) < ((List.map E33 r1.1.Holds).length : Int),
           look [] r1.2.1.toNat = none,
           (List.map E33 r1.1.Holds)[r1.2.1.toNat]? = some (E33 x1),
           (0 : Int) ≤ r1.2.1,
           (r1.2.1 : Int) < ((List.map E33 r1.1.Holds).length : Int),
           look [] r1.2.1.toNat = none,
           (List.map E33 r1.1.Holds)[r1.2.1.toNat]? = some (E33 x1),
           Blk.row 33 ((List.map E33 r1.1.Holds).set r1.2.1.toNat (V.agg [V.sc (.string x1.Id), V.sc (.int .i64 (i64 (x1.Amount + amount))), V.sc (.int .i64 x1.Due)])) [] = Blk.row 33 (List.map E33 (r1.1.Holds.set r1.2.1.toNat (Hold.mk x1.Id (i64 (x1.Amount + amount)) x1.Due))) [],
           Fn Tryz.prog 22 [(false, E26 r1.1.Ring), (false, E3 now), (false, E3 amount)] (E26 r3) [],
           (false || ((E26 r3).nv && nvL [])) = true]) (by kernel_rfl) (cj (impl_holdOf_ok a id amount now r1 h1) (cj rfl (cj h2 (cj (impl_checks_ok r1.1 amount now r2 h3) (cj (by simp [V.nv, nvL, nvL_all, nv_E3]) (cj h4 (cj (od h5) (cj (map_ltN (od h5) h6) (cj rfl (cj (map_get h6) (cj (od h5) (cj (map_ltN (od h5) h6) (cj rfl (cj (map_get h6) (cj (nb_set E33 _ _ (Hold.mk x1.Id (i64 (x1.Amount + amount)) x1.Due)) (cj (impl_RingAdd_ok r1.1.Ring now amount r3 h7) (cj1 (by simp [V.nv, nvL, nvL_all, nv_E3, nv_E24, nv_E26])))))))))))))))))))))) (fun h5 =>
        Pn.none)))) (fun h2 =>
     Pn.ite (fun h8 =>
      Pn.some (Fn.of [.call [] (V.tup [E29 r1.1, E3 r1.2.1, E3 r1.2.2]) [], .bit false, .bit true] (p := [Fn Tryz.prog 19 [(false, E29 a), (false, E9 id), (false, E3 amount), (false, E3 now)] (V.tup [E29 r1.1, E3 r1.2.1, E3 r1.2.2]) [],
       (true || ((V.tup [E29 r1.1, E3 r1.2.1, E3 r1.2.2]).nv && nvL [])) = true,
       (r1.2.2 == 0) = false,
       (r1.2.2 != 0) = true]) (by kernel_rfl) (cj (impl_holdOf_ok a id amount now r1 h1) (cj rfl (cj h2 (cj1 h8)))))) (fun h8 =>
      Pn.ite (fun h9 =>
       Pn.bind (fun x2 h10 =>
        Pn.bind (fun r4 h11 =>
         Pn.some (Fn.of [.call [] (V.tup [E29 r1.1, E3 r1.2.1, E3 r1.2.2]) [], .bit false, .bit false, .el (E33 x2), .el (E33 x2), .nb 2 (.row 33 (List.map E33 (r1.1.Holds.set r1.2.1.toNat (Hold.mk x2.Id (i64 (x2.Amount + amount)) x2.Due))) []), .call [] (E26 r4) []] (p := [Fn Tryz.prog 19 [(false, E29 a), (false, E9 id), (false, E3 amount), (false, E3 now)] (V.tup [E29 r1.1, E3 r1.2.1, E3 r1.2.2]) [],
          (true || ((V.tup [E29 r1.1, E3 r1.2.1, E3 r1.2.2]).nv && nvL [])) = true,
          (r1.2.2 == 0) = false,
          (r1.2.2 != 0) = false,
          (0 : Int) ≤ r1.2.1,
          (r1.2.1 : Int) < ((List.map E33 r1.1.Holds).length : Int),
          look [] r1.2.1.toNat = none,
          (List.map E33 r1.1.Holds)[r1.2.1.toNat]? = some (E33 x2),
          (0 : Int) ≤ r1.2.1,
          (r1.2.1 : Int) < ((List.map E33 r1.1.Holds).length : Int),
          look [] r1.2.1.toNat = none,
          (List.map E33 r1.1.Holds)[r1.2.1.toNat]? = some (E33 x2),
          Blk.row 33 ((List.map E33 r1.1.Holds).set r1.2.1.toNat (V.agg [V.sc (.string x2.Id), V.sc (.int .i64 (i64 (x2.Amount + amount))), V.sc (.int .i64 x2.Due)])) [] = Blk.row 33 (List.map E33 (r1.1.Holds.set r1.2.1.toNat (Hold.mk x2.Id (i64 (x2.Amount + amount)) x2.Due))) [],
          Fn Tryz.prog 22 [(false, E26 r1.1.Ring), (false, E3 now), (false, E3 amount)] (E26 r4) [],
          (false || ((E26 r4).nv && nvL [])) = true]) (by kernel_rfl) (cj (impl_holdOf_ok a id amount now r1 h1) (cj rfl (cj h2 (cj h8 (cj (od h9) (cj (map_ltN (od h9) h10) (cj rfl (cj (map_get h10) (cj (od h9) (cj (map_ltN (od h9) h10) (cj rfl (cj (map_get h10) (cj (nb_set E33 _ _ (Hold.mk x2.Id (i64 (x2.Amount + amount)) x2.Due)) (cj (impl_RingAdd_ok r1.1.Ring now amount r4 h11) (cj1 (by simp [V.nv, nvL, nvL_all, nv_E3, nv_E24, nv_E26])))))))))))))))))))) (fun h9 =>
       Pn.none))))
def slices_Equal_impl_Hold_l0 (s1_ : List Hold) (s2_ : List Hold) : List Hold → List Hold → Option (Lo Unit Unit)
  | [], p1 =>
   some (.out ())
  | x1 :: t1, p1 =>
   (s2_[(p1.length : Int).toNat]?).bind fun x2 =>
   if ((x1.Id == x2.Id) && ((x1.Amount == x2.Amount) && ((x1.Due == x2.Due) && true))) = true then
    slices_Equal_impl_Hold_l0 s1_ s2_ t1 (p1 ++ [x1])
   else
    some (.ret ())
theorem slices_Equal_impl_Hold_l0_ok (s1_ : List Hold) (s2_ : List Hold) (h3 : capOk s1_.length = true) : ∀ (t1 p1 : List Hold) (_ : s1_ = p1 ++ t1) , Pn (LpO Tryz.prog (sub (codeOf Tryz.prog 28) [1, 1, 0, 1, 0, 0]) (st 26 [(0, V.sl false 33 (List.map E33 s1_)), (1, V.sl false 33 (List.map E33 s2_)), (12, V.sc (.int .i64 (s1_.length : Int))), (13, V.sc (.int .i64 (p1.length : Int)))] [] []) (fun (y : Lo Unit Unit) => Lo.elim y (fun s => (X.out 0, st 26 [] [] [])) (fun s => (X.ret, st 26 [(4, V.sc (.bool false))] [] [])))) (slices_Equal_impl_Hold_l0 s1_ s2_ t1 p1)
  | [], p1, h2 => by
    unfold slices_Equal_impl_Hold_l0
    exact
     Pn.some (LpO.out [.bit false, .mask [], .ren []] (p := [(decide ((p1.length : Int) < (s1_.length : Int))) = false]) (by kernel_rfl) (show X.out 0 ≠ X.go from nofun) (cj1 (rng_end h2)))
  | x1 :: t1, p1, h2 => by
    unfold slices_Equal_impl_Hold_l0
    exact
     Pn.bind (fun x2 h4 =>
      Pn.ite (fun h5 =>
       LpO.go [.bit true, .draw [], .el (E33 x1), .el (E33 x2), .bit false, .wait 2, .mask [0, 1, 12, 13], .ren [], .nm 13 (V.sc (.int .i64 ((p1 ++ [x1]).length : Int)))] (p := [(decide ((p1.length : Int) < (s1_.length : Int))) = true,
        (0 : Int) ≤ (p1.length : Int),
        (List.map E33 s1_)[(p1.length : Int).toNat]? = some (E33 x1),
        (0 : Int) ≤ (p1.length : Int),
        (List.map E33 s2_)[(p1.length : Int).toNat]? = some (E33 x2),
        (!((x1.Id == x2.Id) && ((x1.Amount == x2.Amount) && ((x1.Due == x2.Due) && true)))) = false,
        V.sc (.int .i64 (i64 ((p1.length : Int) + 1))) = V.sc (.int .i64 ((p1 ++ [x1]).length : Int))]) (by kernel_rfl) (cj (rng_lt h2) (cj (by omega) (cj (rng_get _ h2) (cj (by omega) (cj (map_get h4) (cj (nf h5) (cj1 (rng_next h2 h3)))))))) (slices_Equal_impl_Hold_l0_ok s1_ s2_ h3 t1 (p1 ++ [x1]) (rng_step h2))) (fun h5 =>
       Pn.some (LpO.out [.bit true, .draw [], .el (E33 x1), .el (E33 x2), .bit true, .wait 1, .mask [4], .ren []] (p := [(decide ((p1.length : Int) < (s1_.length : Int))) = true,
        (0 : Int) ≤ (p1.length : Int),
        (List.map E33 s1_)[(p1.length : Int).toNat]? = some (E33 x1),
        (0 : Int) ≤ (p1.length : Int),
        (List.map E33 s2_)[(p1.length : Int).toNat]? = some (E33 x2),
        (!((x1.Id == x2.Id) && ((x1.Amount == x2.Amount) && ((x1.Due == x2.Due) && true)))) = true]) (by kernel_rfl) (show X.ret ≠ X.go from nofun) (cj (rng_lt h2) (cj (by omega) (cj (rng_get _ h2) (cj (by omega) (cj (map_get h4) (cj1 (nt h5))))))))))
def slices_Equal_impl_Hold (s1_ : List Hold) (s2_ : List Hold) : Option (Bool) :=
 if ((s1_.length : Int) != (s2_.length : Int)) = true then
  some false
 else
  if (capOk s1_.length) = true then
   (slices_Equal_impl_Hold_l0 s1_ s2_ s1_ []).bind fun r1 =>
   Lo.elim r1 (fun s1 =>
    some true) (fun s2 =>
    some false)
  else none
theorem slices_Equal_impl_Hold_ok (s1_ : List Hold) (s2_ : List Hold) : Pn (fun y => Fn Tryz.prog 28 [(false, E23 s1_), (false, E23 s2_)] (E4 y) []) (slices_Equal_impl_Hold s1_ s2_) := by
  unfold slices_Equal_impl_Hold
  exact
   Pn.ite (fun h1 =>
    Pn.some (Fn.of [.wait 3, .nm 7 (V.sc (.int .i64 (s1_.length : Int))), .wait 2, .nm 9 (V.sc (.int .i64 (s2_.length : Int))), .bit true] (p := [V.sc (.int .i64 ((List.map E33 s1_).length : Int)) = V.sc (.int .i64 (s1_.length : Int)),
     V.sc (.int .i64 ((List.map E33 s2_).length : Int)) = V.sc (.int .i64 (s2_.length : Int)),
     ((s1_.length : Int) != (s2_.length : Int)) = true]) (by kernel_rfl) (cj (len_nm _ _) (cj (len_nm _ _) (cj1 h1))))) (fun h1 =>
    Pn.ite (fun h6 =>
     Pn.bind (fun r1 h7 =>
      Pn.lo (fun s1 h8 =>
       Pn.some (Fn.of [.wait 3, .nm 7 (V.sc (.int .i64 (s1_.length : Int))), .wait 2, .nm 9 (V.sc (.int .i64 (s2_.length : Int))), .bit false, .wait 1, .nm 12 (V.sc (.int .i64 (s1_.length : Int))), .wait 2, .mask [0, 1, 12, 13], .ren [], .loop (X.out 0) (st 26 [] [] [])] (p := [V.sc (.int .i64 ((List.map E33 s1_).length : Int)) = V.sc (.int .i64 (s1_.length : Int)),
        V.sc (.int .i64 ((List.map E33 s2_).length : Int)) = V.sc (.int .i64 (s2_.length : Int)),
        ((s1_.length : Int) != (s2_.length : Int)) = false,
        V.sc (.int .i64 ((List.map E33 s1_).length : Int)) = V.sc (.int .i64 (s1_.length : Int)),
        Loop Tryz.prog (sub (codeOf Tryz.prog 28) [1, 1, 0, 1, 0, 0]) (st 26 [(0, V.sl false 33 (List.map E33 s1_)), (1, V.sl false 33 (List.map E33 s2_)), (12, V.sc (.int .i64 (s1_.length : Int))), (13, V.sc (.int .i64 0))] [] []) (X.out 0) (st 26 [] [] [])]) (by kernel_rfl) (cj (len_nm _ _) (cj (len_nm _ _) (cj h1 (cj (len_nm _ _) (cj1 ((slices_Equal_impl_Hold_l0_ok s1_ s2_ h6 s1_ [] rfl r1 h7).at h8)))))))) (fun s2 h9 =>
       Pn.some (Fn.of [.wait 3, .nm 7 (V.sc (.int .i64 (s1_.length : Int))), .wait 2, .nm 9 (V.sc (.int .i64 (s2_.length : Int))), .bit false, .wait 1, .nm 12 (V.sc (.int .i64 (s1_.length : Int))), .wait 2, .mask [0, 1, 12, 13], .ren [], .loop (X.ret) (st 26 [(4, V.sc (.bool false))] [] [])] (p := [V.sc (.int .i64 ((List.map E33 s1_).length : Int)) = V.sc (.int .i64 (s1_.length : Int)),
        V.sc (.int .i64 ((List.map E33 s2_).length : Int)) = V.sc (.int .i64 (s2_.length : Int)),
        ((s1_.length : Int) != (s2_.length : Int)) = false,
        V.sc (.int .i64 ((List.map E33 s1_).length : Int)) = V.sc (.int .i64 (s1_.length : Int)),
        Loop Tryz.prog (sub (codeOf Tryz.prog 28) [1, 1, 0, 1, 0, 0]) (st 26 [(0, V.sl false 33 (List.map E33 s1_)), (1, V.sl false 33 (List.map E33 s2_)), (12, V.sc (.int .i64 (s1_.length : Int))), (13, V.sc (.int .i64 0))] [] []) (X.ret) (st 26 [(4, V.sc (.bool false))] [] [])]) (by kernel_rfl) (cj (len_nm _ _) (cj (len_nm _ _) (cj h1 (cj (len_nm _ _) (cj1 ((slices_Equal_impl_Hold_l0_ok s1_ s2_ h6 s1_ [] rfl r1 h7).at h9)))))))))) (fun h6 =>
     Pn.none))
def slices_Equal_int_l0 (s1_ : List Int) (s2_ : List Int) : List Int → List Int → Option (Lo Unit Unit)
  | [], p1 =>
   some (.out ())
  | x1 :: t1, p1 =>
   (s2_[(p1.length : Int).toNat]?).bind fun x2 =>
   if (x1 != x2) = true then
    some (.ret ())
   else
    slices_Equal_int_l0 s1_ s2_ t1 (p1 ++ [x1])
theorem slices_Equal_int_l0_ok (s1_ : List Int) (s2_ : List Int) (h3 : capOk s1_.length = true) : ∀ (t1 p1 : List Int) (_ : s1_ = p1 ++ t1) , Pn (LpO Tryz.prog (sub (codeOf Tryz.prog 59) [1, 1, 0, 1, 0, 0]) (st 26 [(0, V.sl false 3 (List.map E3 s1_)), (1, V.sl false 3 (List.map E3 s2_)), (12, V.sc (.int .i64 (s1_.length : Int))), (13, V.sc (.int .i64 (p1.length : Int)))] [] []) (fun (y : Lo Unit Unit) => Lo.elim y (fun s => (X.out 0, st 26 [] [] [])) (fun s => (X.ret, st 26 [(4, V.sc (.bool false))] [] [])))) (slices_Equal_int_l0 s1_ s2_ t1 p1)
  | [], p1, h2 => by
    unfold slices_Equal_int_l0
    exact
     Pn.some (LpO.out [.bit false, .mask [], .ren []] (p := [(decide ((p1.length : Int) < (s1_.length : Int))) = false]) (by kernel_rfl) (show X.out 0 ≠ X.go from nofun) (cj1 (rng_end h2)))
  | x1 :: t1, p1, h2 => by
    unfold slices_Equal_int_l0
    exact
     Pn.bind (fun x2 h4 =>
      Pn.ite (fun h5 =>
       Pn.some (LpO.out [.bit true, .draw [], .el (E3 x1), .el (E3 x2), .bit true, .wait 1, .mask [4], .ren []] (p := [(decide ((p1.length : Int) < (s1_.length : Int))) = true,
        (0 : Int) ≤ (p1.length : Int),
        (List.map E3 s1_)[(p1.length : Int).toNat]? = some (E3 x1),
        (0 : Int) ≤ (p1.length : Int),
        (List.map E3 s2_)[(p1.length : Int).toNat]? = some (E3 x2),
        (x1 != x2) = true]) (by kernel_rfl) (show X.ret ≠ X.go from nofun) (cj (rng_lt h2) (cj (by omega) (cj (rng_get _ h2) (cj (by omega) (cj (map_get h4) (cj1 h5)))))))) (fun h5 =>
       LpO.go [.bit true, .draw [], .el (E3 x1), .el (E3 x2), .bit false, .wait 2, .mask [0, 1, 12, 13], .ren [], .nm 13 (V.sc (.int .i64 ((p1 ++ [x1]).length : Int)))] (p := [(decide ((p1.length : Int) < (s1_.length : Int))) = true,
        (0 : Int) ≤ (p1.length : Int),
        (List.map E3 s1_)[(p1.length : Int).toNat]? = some (E3 x1),
        (0 : Int) ≤ (p1.length : Int),
        (List.map E3 s2_)[(p1.length : Int).toNat]? = some (E3 x2),
        (x1 != x2) = false,
        V.sc (.int .i64 (i64 ((p1.length : Int) + 1))) = V.sc (.int .i64 ((p1 ++ [x1]).length : Int))]) (by kernel_rfl) (cj (rng_lt h2) (cj (by omega) (cj (rng_get _ h2) (cj (by omega) (cj (map_get h4) (cj h5 (cj1 (rng_next h2 h3)))))))) (slices_Equal_int_l0_ok s1_ s2_ h3 t1 (p1 ++ [x1]) (rng_step h2))))
def slices_Equal_int (s1_ : List Int) (s2_ : List Int) : Option (Bool) :=
 if ((s1_.length : Int) != (s2_.length : Int)) = true then
  some false
 else
  if (capOk s1_.length) = true then
   (slices_Equal_int_l0 s1_ s2_ s1_ []).bind fun r1 =>
   Lo.elim r1 (fun s1 =>
    some true) (fun s2 =>
    some false)
  else none
theorem slices_Equal_int_ok (s1_ : List Int) (s2_ : List Int) : Pn (fun y => Fn Tryz.prog 59 [(false, E24 s1_), (false, E24 s2_)] (E4 y) []) (slices_Equal_int s1_ s2_) := by
  unfold slices_Equal_int
  exact
   Pn.ite (fun h1 =>
    Pn.some (Fn.of [.wait 3, .nm 7 (V.sc (.int .i64 (s1_.length : Int))), .wait 2, .nm 9 (V.sc (.int .i64 (s2_.length : Int))), .bit true] (p := [V.sc (.int .i64 ((List.map E3 s1_).length : Int)) = V.sc (.int .i64 (s1_.length : Int)),
     V.sc (.int .i64 ((List.map E3 s2_).length : Int)) = V.sc (.int .i64 (s2_.length : Int)),
     ((s1_.length : Int) != (s2_.length : Int)) = true]) (by kernel_rfl) (cj (len_nm _ _) (cj (len_nm _ _) (cj1 h1))))) (fun h1 =>
    Pn.ite (fun h6 =>
     Pn.bind (fun r1 h7 =>
      Pn.lo (fun s1 h8 =>
       Pn.some (Fn.of [.wait 3, .nm 7 (V.sc (.int .i64 (s1_.length : Int))), .wait 2, .nm 9 (V.sc (.int .i64 (s2_.length : Int))), .bit false, .wait 1, .nm 12 (V.sc (.int .i64 (s1_.length : Int))), .wait 2, .mask [0, 1, 12, 13], .ren [], .loop (X.out 0) (st 26 [] [] [])] (p := [V.sc (.int .i64 ((List.map E3 s1_).length : Int)) = V.sc (.int .i64 (s1_.length : Int)),
        V.sc (.int .i64 ((List.map E3 s2_).length : Int)) = V.sc (.int .i64 (s2_.length : Int)),
        ((s1_.length : Int) != (s2_.length : Int)) = false,
        V.sc (.int .i64 ((List.map E3 s1_).length : Int)) = V.sc (.int .i64 (s1_.length : Int)),
        Loop Tryz.prog (sub (codeOf Tryz.prog 59) [1, 1, 0, 1, 0, 0]) (st 26 [(0, V.sl false 3 (List.map E3 s1_)), (1, V.sl false 3 (List.map E3 s2_)), (12, V.sc (.int .i64 (s1_.length : Int))), (13, V.sc (.int .i64 0))] [] []) (X.out 0) (st 26 [] [] [])]) (by kernel_rfl) (cj (len_nm _ _) (cj (len_nm _ _) (cj h1 (cj (len_nm _ _) (cj1 ((slices_Equal_int_l0_ok s1_ s2_ h6 s1_ [] rfl r1 h7).at h8)))))))) (fun s2 h9 =>
       Pn.some (Fn.of [.wait 3, .nm 7 (V.sc (.int .i64 (s1_.length : Int))), .wait 2, .nm 9 (V.sc (.int .i64 (s2_.length : Int))), .bit false, .wait 1, .nm 12 (V.sc (.int .i64 (s1_.length : Int))), .wait 2, .mask [0, 1, 12, 13], .ren [], .loop (X.ret) (st 26 [(4, V.sc (.bool false))] [] [])] (p := [V.sc (.int .i64 ((List.map E3 s1_).length : Int)) = V.sc (.int .i64 (s1_.length : Int)),
        V.sc (.int .i64 ((List.map E3 s2_).length : Int)) = V.sc (.int .i64 (s2_.length : Int)),
        ((s1_.length : Int) != (s2_.length : Int)) = false,
        V.sc (.int .i64 ((List.map E3 s1_).length : Int)) = V.sc (.int .i64 (s1_.length : Int)),
        Loop Tryz.prog (sub (codeOf Tryz.prog 59) [1, 1, 0, 1, 0, 0]) (st 26 [(0, V.sl false 3 (List.map E3 s1_)), (1, V.sl false 3 (List.map E3 s2_)), (12, V.sc (.int .i64 (s1_.length : Int))), (13, V.sc (.int .i64 0))] [] []) (X.ret) (st 26 [(4, V.sc (.bool false))] [] [])]) (by kernel_rfl) (cj (len_nm _ _) (cj (len_nm _ _) (cj h1 (cj (len_nm _ _) (cj1 ((slices_Equal_int_l0_ok s1_ s2_ h6 s1_ [] rfl r1 h7).at h9)))))))))) (fun h6 =>
     Pn.none))
def impl_ringSame (a : Ring) (b : Ring) : Option (Bool) :=
 if (a.Span == b.Span) = true then
  if (a.Head == b.Head) = true then
   (slices_Equal_int a.Counts b.Counts).bind fun r1 =>
   if r1 = true then
    (slices_Equal_int a.Sums b.Sums).bind fun r2 =>
    some r2
   else
    some false
  else
   some false
 else
  some false
theorem impl_ringSame_ok (a : Ring) (b : Ring) : Pn (fun y => Fn Tryz.prog 29 [(false, E26 a), (false, E26 b)] (E4 y) []) (impl_ringSame a b) := by
  unfold impl_ringSame
  exact
   Pn.ite (fun h1 =>
    Pn.ite (fun h2 =>
     Pn.bind (fun r1 h3 =>
      Pn.ite (fun h4 =>
       Pn.bind (fun r2 h5 =>
        Pn.some (Fn.of [.bit true, .bit true, .bit true, .bit true, .bit true, .bit true, .bit true, .bit true, .bit true, .bit true, .bit true, .call [] (E4 r1) [], .bit true, .bit true, .bit true, .bit true, .bit true, .bit true, .call [] (E4 r2) [], .bit true] (p := [(a.Span == b.Span) = true,
         (a.Span == b.Span) = true,
         (a.Span == b.Span) = true,
         (a.Span == b.Span) = true,
         (a.Span == b.Span) = true,
         (a.Span == b.Span) = true,
         (a.Head == b.Head) = true,
         (a.Head == b.Head) = true,
         (a.Head == b.Head) = true,
         (a.Head == b.Head) = true,
         (a.Head == b.Head) = true,
         Fn Tryz.prog 59 [(false, E24 a.Counts), (false, E24 b.Counts)] (E4 r1) [],
         (true || ((E4 r1).nv && nvL [])) = true,
         (a.Head == b.Head) = true,
         r1 = true,
         r1 = true,
         r1 = true,
         r1 = true,
         r1 = true,
         Fn Tryz.prog 59 [(false, E24 a.Sums), (false, E24 b.Sums)] (E4 r2) [],
         (true || ((E4 r2).nv && nvL [])) = true,
         r1 = true]) (by kernel_rfl) (cj h1 (cj h1 (cj h1 (cj h1 (cj h1 (cj h1 (cj h2 (cj h2 (cj h2 (cj h2 (cj h2 (cj (slices_Equal_int_ok a.Counts b.Counts r1 h3) (cj rfl (cj h2 (cj h4 (cj h4 (cj h4 (cj h4 (cj h4 (cj (slices_Equal_int_ok a.Sums b.Sums r2 h5) (cj rfl (cj1 h4))))))))))))))))))))))))) (fun h4 =>
       Pn.some (Fn.of [.bit true, .bit true, .bit true, .bit true, .bit true, .bit true, .bit true, .bit true, .bit true, .bit true, .bit true, .call [] (E4 r1) [], .bit true, .bit false, .bit false, .bit false, .bit false, .bit false, .bit false] (p := [(a.Span == b.Span) = true,
        (a.Span == b.Span) = true,
        (a.Span == b.Span) = true,
        (a.Span == b.Span) = true,
        (a.Span == b.Span) = true,
        (a.Span == b.Span) = true,
        (a.Head == b.Head) = true,
        (a.Head == b.Head) = true,
        (a.Head == b.Head) = true,
        (a.Head == b.Head) = true,
        (a.Head == b.Head) = true,
        Fn Tryz.prog 59 [(false, E24 a.Counts), (false, E24 b.Counts)] (E4 r1) [],
        (true || ((E4 r1).nv && nvL [])) = true,
        (a.Head == b.Head) = true,
        r1 = false,
        r1 = false,
        r1 = false,
        r1 = false,
        r1 = false,
        r1 = false]) (by kernel_rfl) (cj h1 (cj h1 (cj h1 (cj h1 (cj h1 (cj h1 (cj h2 (cj h2 (cj h2 (cj h2 (cj h2 (cj (slices_Equal_int_ok a.Counts b.Counts r1 h3) (cj rfl (cj h2 (cj h4 (cj h4 (cj h4 (cj h4 (cj h4 (cj1 h4)))))))))))))))))))))))) (fun h2 =>
     Pn.some (Fn.of [.bit true, .bit true, .bit true, .bit true, .bit true, .bit true, .bit false, .bit false, .bit false, .bit false, .bit false, .bit false, .bit false, .bit false, .bit false, .bit false, .bit false, .bit false] (p := [(a.Span == b.Span) = true,
      (a.Span == b.Span) = true,
      (a.Span == b.Span) = true,
      (a.Span == b.Span) = true,
      (a.Span == b.Span) = true,
      (a.Span == b.Span) = true,
      (a.Head == b.Head) = false,
      (a.Head == b.Head) = false,
      (a.Head == b.Head) = false,
      (a.Head == b.Head) = false,
      (a.Head == b.Head) = false,
      (a.Head == b.Head) = false,
      false = false,
      false = false,
      false = false,
      false = false,
      false = false,
      false = false]) (by kernel_rfl) (cj h1 (cj h1 (cj h1 (cj h1 (cj h1 (cj h1 (cj h2 (cj h2 (cj h2 (cj h2 (cj h2 (cj h2 (cj rfl (cj rfl (cj rfl (cj rfl (cj rfl (cj1 rfl))))))))))))))))))))) (fun h1 =>
    Pn.some (Fn.of [.bit false, .bit false, .bit false, .bit false, .bit false, .bit false, .bit false, .bit false, .bit false, .bit false, .bit false, .bit false, .bit false, .bit false, .bit false, .bit false, .bit false, .bit false] (p := [(a.Span == b.Span) = false,
     (a.Span == b.Span) = false,
     (a.Span == b.Span) = false,
     (a.Span == b.Span) = false,
     (a.Span == b.Span) = false,
     (a.Span == b.Span) = false,
     false = false,
     false = false,
     false = false,
     false = false,
     false = false,
     false = false,
     false = false,
     false = false,
     false = false,
     false = false,
     false = false,
     false = false]) (by kernel_rfl) (cj h1 (cj h1 (cj h1 (cj h1 (cj h1 (cj h1 (cj rfl (cj rfl (cj rfl (cj rfl (cj rfl (cj rfl (cj rfl (cj rfl (cj rfl (cj rfl (cj rfl (cj1 rfl))))))))))))))))))))
def slices_Equal_byte_l0 (s1_ : List Int) (s2_ : List Int) : List Int → List Int → Option (Lo Unit Unit)
  | [], p1 =>
   some (.out ())
  | x1 :: t1, p1 =>
   (s2_[(p1.length : Int).toNat]?).bind fun x2 =>
   if (x1 != x2) = true then
    some (.ret ())
   else
    slices_Equal_byte_l0 s1_ s2_ t1 (p1 ++ [x1])
theorem slices_Equal_byte_l0_ok (s1_ : List Int) (s2_ : List Int) (h3 : capOk s1_.length = true) : ∀ (t1 p1 : List Int) (_ : s1_ = p1 ++ t1) , Pn (LpO Tryz.prog (sub (codeOf Tryz.prog 62) [1, 1, 0, 1, 0, 0]) (st 26 [(0, V.sl false 5 (List.map E5 s1_)), (1, V.sl false 5 (List.map E5 s2_)), (12, V.sc (.int .i64 (s1_.length : Int))), (13, V.sc (.int .i64 (p1.length : Int)))] [] []) (fun (y : Lo Unit Unit) => Lo.elim y (fun s => (X.out 0, st 26 [] [] [])) (fun s => (X.ret, st 26 [(4, V.sc (.bool false))] [] [])))) (slices_Equal_byte_l0 s1_ s2_ t1 p1)
  | [], p1, h2 => by
    unfold slices_Equal_byte_l0
    exact
     Pn.some (LpO.out [.bit false, .mask [], .ren []] (p := [(decide ((p1.length : Int) < (s1_.length : Int))) = false]) (by kernel_rfl) (show X.out 0 ≠ X.go from nofun) (cj1 (rng_end h2)))
  | x1 :: t1, p1, h2 => by
    unfold slices_Equal_byte_l0
    exact
     Pn.bind (fun x2 h4 =>
      Pn.ite (fun h5 =>
       Pn.some (LpO.out [.bit true, .draw [], .el (E5 x1), .el (E5 x2), .bit true, .wait 1, .mask [4], .ren []] (p := [(decide ((p1.length : Int) < (s1_.length : Int))) = true,
        (0 : Int) ≤ (p1.length : Int),
        (List.map E5 s1_)[(p1.length : Int).toNat]? = some (E5 x1),
        (0 : Int) ≤ (p1.length : Int),
        (List.map E5 s2_)[(p1.length : Int).toNat]? = some (E5 x2),
        (x1 != x2) = true]) (by kernel_rfl) (show X.ret ≠ X.go from nofun) (cj (rng_lt h2) (cj (by omega) (cj (rng_get _ h2) (cj (by omega) (cj (map_get h4) (cj1 h5)))))))) (fun h5 =>
       LpO.go [.bit true, .draw [], .el (E5 x1), .el (E5 x2), .bit false, .wait 2, .mask [0, 1, 12, 13], .ren [], .nm 13 (V.sc (.int .i64 ((p1 ++ [x1]).length : Int)))] (p := [(decide ((p1.length : Int) < (s1_.length : Int))) = true,
        (0 : Int) ≤ (p1.length : Int),
        (List.map E5 s1_)[(p1.length : Int).toNat]? = some (E5 x1),
        (0 : Int) ≤ (p1.length : Int),
        (List.map E5 s2_)[(p1.length : Int).toNat]? = some (E5 x2),
        (x1 != x2) = false,
        V.sc (.int .i64 (i64 ((p1.length : Int) + 1))) = V.sc (.int .i64 ((p1 ++ [x1]).length : Int))]) (by kernel_rfl) (cj (rng_lt h2) (cj (by omega) (cj (rng_get _ h2) (cj (by omega) (cj (map_get h4) (cj h5 (cj1 (rng_next h2 h3)))))))) (slices_Equal_byte_l0_ok s1_ s2_ h3 t1 (p1 ++ [x1]) (rng_step h2))))
def slices_Equal_byte (s1_ : List Int) (s2_ : List Int) : Option (Bool) :=
 if ((s1_.length : Int) != (s2_.length : Int)) = true then
  some false
 else
  if (capOk s1_.length) = true then
   (slices_Equal_byte_l0 s1_ s2_ s1_ []).bind fun r1 =>
   Lo.elim r1 (fun s1 =>
    some true) (fun s2 =>
    some false)
  else none
theorem slices_Equal_byte_ok (s1_ : List Int) (s2_ : List Int) : Pn (fun y => Fn Tryz.prog 62 [(false, E22 s1_), (false, E22 s2_)] (E4 y) []) (slices_Equal_byte s1_ s2_) := by
  unfold slices_Equal_byte
  exact
   Pn.ite (fun h1 =>
    Pn.some (Fn.of [.wait 3, .nm 7 (V.sc (.int .i64 (s1_.length : Int))), .wait 2, .nm 9 (V.sc (.int .i64 (s2_.length : Int))), .bit true] (p := [V.sc (.int .i64 ((List.map E5 s1_).length : Int)) = V.sc (.int .i64 (s1_.length : Int)),
     V.sc (.int .i64 ((List.map E5 s2_).length : Int)) = V.sc (.int .i64 (s2_.length : Int)),
     ((s1_.length : Int) != (s2_.length : Int)) = true]) (by kernel_rfl) (cj (len_nm _ _) (cj (len_nm _ _) (cj1 h1))))) (fun h1 =>
    Pn.ite (fun h6 =>
     Pn.bind (fun r1 h7 =>
      Pn.lo (fun s1 h8 =>
       Pn.some (Fn.of [.wait 3, .nm 7 (V.sc (.int .i64 (s1_.length : Int))), .wait 2, .nm 9 (V.sc (.int .i64 (s2_.length : Int))), .bit false, .wait 1, .nm 12 (V.sc (.int .i64 (s1_.length : Int))), .wait 2, .mask [0, 1, 12, 13], .ren [], .loop (X.out 0) (st 26 [] [] [])] (p := [V.sc (.int .i64 ((List.map E5 s1_).length : Int)) = V.sc (.int .i64 (s1_.length : Int)),
        V.sc (.int .i64 ((List.map E5 s2_).length : Int)) = V.sc (.int .i64 (s2_.length : Int)),
        ((s1_.length : Int) != (s2_.length : Int)) = false,
        V.sc (.int .i64 ((List.map E5 s1_).length : Int)) = V.sc (.int .i64 (s1_.length : Int)),
        Loop Tryz.prog (sub (codeOf Tryz.prog 62) [1, 1, 0, 1, 0, 0]) (st 26 [(0, V.sl false 5 (List.map E5 s1_)), (1, V.sl false 5 (List.map E5 s2_)), (12, V.sc (.int .i64 (s1_.length : Int))), (13, V.sc (.int .i64 0))] [] []) (X.out 0) (st 26 [] [] [])]) (by kernel_rfl) (cj (len_nm _ _) (cj (len_nm _ _) (cj h1 (cj (len_nm _ _) (cj1 ((slices_Equal_byte_l0_ok s1_ s2_ h6 s1_ [] rfl r1 h7).at h8)))))))) (fun s2 h9 =>
       Pn.some (Fn.of [.wait 3, .nm 7 (V.sc (.int .i64 (s1_.length : Int))), .wait 2, .nm 9 (V.sc (.int .i64 (s2_.length : Int))), .bit false, .wait 1, .nm 12 (V.sc (.int .i64 (s1_.length : Int))), .wait 2, .mask [0, 1, 12, 13], .ren [], .loop (X.ret) (st 26 [(4, V.sc (.bool false))] [] [])] (p := [V.sc (.int .i64 ((List.map E5 s1_).length : Int)) = V.sc (.int .i64 (s1_.length : Int)),
        V.sc (.int .i64 ((List.map E5 s2_).length : Int)) = V.sc (.int .i64 (s2_.length : Int)),
        ((s1_.length : Int) != (s2_.length : Int)) = false,
        V.sc (.int .i64 ((List.map E5 s1_).length : Int)) = V.sc (.int .i64 (s1_.length : Int)),
        Loop Tryz.prog (sub (codeOf Tryz.prog 62) [1, 1, 0, 1, 0, 0]) (st 26 [(0, V.sl false 5 (List.map E5 s1_)), (1, V.sl false 5 (List.map E5 s2_)), (12, V.sc (.int .i64 (s1_.length : Int))), (13, V.sc (.int .i64 0))] [] []) (X.ret) (st 26 [(4, V.sc (.bool false))] [] [])]) (by kernel_rfl) (cj (len_nm _ _) (cj (len_nm _ _) (cj h1 (cj (len_nm _ _) (cj1 ((slices_Equal_byte_l0_ok s1_ s2_ h6 s1_ [] rfl r1 h7).at h9)))))))))) (fun h6 =>
     Pn.none))
def impl_SlotsSame_1 (x_ : Slot) (y_ : Slot) : Option (Bool) :=
 if (x_.Trace == y_.Trace) = true then
  if (x_.Mti == y_.Mti) = true then
   (slices_Equal_byte x_.Reply y_.Reply).bind fun r1 =>
   some r1
  else
   some false
 else
  some false
theorem impl_SlotsSame_1_ok (x_ : Slot) (y_ : Slot) : Pn (fun y => Fn Tryz.prog 61 [(false, E92 x_), (false, E92 y_)] (E4 y) []) (impl_SlotsSame_1 x_ y_) := by
  unfold impl_SlotsSame_1
  exact
   Pn.ite (fun h1 =>
    Pn.ite (fun h2 =>
     Pn.bind (fun r1 h3 =>
      Pn.some (Fn.of [.bit true, .bit true, .bit true, .bit true, .bit true, .bit true, .bit true, .bit true, .bit true, .bit true, .bit true, .call [] (E4 r1) [], .bit true] (p := [(x_.Trace == y_.Trace) = true,
       (x_.Trace == y_.Trace) = true,
       (x_.Trace == y_.Trace) = true,
       (x_.Trace == y_.Trace) = true,
       (x_.Trace == y_.Trace) = true,
       (x_.Trace == y_.Trace) = true,
       (x_.Mti == y_.Mti) = true,
       (x_.Mti == y_.Mti) = true,
       (x_.Mti == y_.Mti) = true,
       (x_.Mti == y_.Mti) = true,
       (x_.Mti == y_.Mti) = true,
       Fn Tryz.prog 62 [(false, E22 x_.Reply), (false, E22 y_.Reply)] (E4 r1) [],
       (true || ((E4 r1).nv && nvL [])) = true,
       (x_.Mti == y_.Mti) = true]) (by kernel_rfl) (cj h1 (cj h1 (cj h1 (cj h1 (cj h1 (cj h1 (cj h2 (cj h2 (cj h2 (cj h2 (cj h2 (cj (slices_Equal_byte_ok x_.Reply y_.Reply r1 h3) (cj rfl (cj1 h2))))))))))))))))) (fun h2 =>
     Pn.some (Fn.of [.bit true, .bit true, .bit true, .bit true, .bit true, .bit true, .bit false, .bit false, .bit false, .bit false, .bit false, .bit false] (p := [(x_.Trace == y_.Trace) = true,
      (x_.Trace == y_.Trace) = true,
      (x_.Trace == y_.Trace) = true,
      (x_.Trace == y_.Trace) = true,
      (x_.Trace == y_.Trace) = true,
      (x_.Trace == y_.Trace) = true,
      (x_.Mti == y_.Mti) = false,
      (x_.Mti == y_.Mti) = false,
      (x_.Mti == y_.Mti) = false,
      (x_.Mti == y_.Mti) = false,
      (x_.Mti == y_.Mti) = false,
      (x_.Mti == y_.Mti) = false]) (by kernel_rfl) (cj h1 (cj h1 (cj h1 (cj h1 (cj h1 (cj h1 (cj h2 (cj h2 (cj h2 (cj h2 (cj h2 (cj1 h2))))))))))))))) (fun h1 =>
    Pn.some (Fn.of [.bit false, .bit false, .bit false, .bit false, .bit false, .bit false, .bit false, .bit false, .bit false, .bit false, .bit false, .bit false] (p := [(x_.Trace == y_.Trace) = false,
     (x_.Trace == y_.Trace) = false,
     (x_.Trace == y_.Trace) = false,
     (x_.Trace == y_.Trace) = false,
     (x_.Trace == y_.Trace) = false,
     (x_.Trace == y_.Trace) = false,
     false = false,
     false = false,
     false = false,
     false = false,
     false = false,
     false = false]) (by kernel_rfl) (cj h1 (cj h1 (cj h1 (cj h1 (cj h1 (cj h1 (cj rfl (cj rfl (cj rfl (cj rfl (cj rfl (cj1 rfl))))))))))))))
def slices_EqualFunc_impl_Slot_impl_SlotsSame_1_l0 (s1_ : List Slot) (s2_ : List Slot) : List Slot → List Slot → Option (Lo Unit Unit)
  | [], p1 =>
   some (.out ())
  | x1 :: t1, p1 =>
   (s2_[(p1.length : Int).toNat]?).bind fun x2 =>
   (impl_SlotsSame_1 x1 x2).bind fun r1 =>
   if r1 = true then
    slices_EqualFunc_impl_Slot_impl_SlotsSame_1_l0 s1_ s2_ t1 (p1 ++ [x1])
   else
    some (.ret ())
theorem slices_EqualFunc_impl_Slot_impl_SlotsSame_1_l0_ok (s1_ : List Slot) (s2_ : List Slot) (h3 : capOk s1_.length = true) : ∀ (t1 p1 : List Slot) (_ : s1_ = p1 ++ t1) , Pn (LpO Tryz.prog (sub (codeOf Tryz.prog 60) [1, 1, 0, 1, 0, 0]) (st 32 [(1, V.sl false 92 (List.map E92 s2_)), (2, V.fn 61 []), (15, V.sl false 92 (List.map E92 s1_)), (16, V.sc (.int .i64 (s1_.length : Int))), (17, V.sc (.int .i64 (p1.length : Int)))] [] []) (fun (y : Lo Unit Unit) => Lo.elim y (fun s => (X.out 0, st 32 [] [] [])) (fun s => (X.ret, st 32 [(6, V.sc (.bool false))] [] [])))) (slices_EqualFunc_impl_Slot_impl_SlotsSame_1_l0 s1_ s2_ t1 p1)
  | [], p1, h2 => by
    unfold slices_EqualFunc_impl_Slot_impl_SlotsSame_1_l0
    exact
     Pn.some (LpO.out [.bit false, .mask [], .ren []] (p := [(decide ((p1.length : Int) < (s1_.length : Int))) = false]) (by kernel_rfl) (show X.out 0 ≠ X.go from nofun) (cj1 (rng_end h2)))
  | x1 :: t1, p1, h2 => by
    unfold slices_EqualFunc_impl_Slot_impl_SlotsSame_1_l0
    exact
     Pn.bind (fun x2 h4 =>
      Pn.bind (fun r1 h5 =>
       Pn.ite (fun h6 =>
        LpO.go [.bit true, .el (E92 x1), .el (E92 x2), .call [] (E4 r1) [], .bit false, .wait 2, .mask [1, 2, 15, 16, 17], .ren [], .nm 17 (V.sc (.int .i64 ((p1 ++ [x1]).length : Int)))] (p := [(decide ((p1.length : Int) < (s1_.length : Int))) = true,
         (0 : Int) ≤ (p1.length : Int),
         (List.map E92 s1_)[(p1.length : Int).toNat]? = some (E92 x1),
         (0 : Int) ≤ (p1.length : Int),
         (List.map E92 s2_)[(p1.length : Int).toNat]? = some (E92 x2),
         Fn Tryz.prog 61 [(false, E92 x1), (false, E92 x2)] (E4 r1) [],
         (true || ((E4 r1).nv && nvL [])) = true,
         (!r1) = false,
         V.sc (.int .i64 (i64 ((p1.length : Int) + 1))) = V.sc (.int .i64 ((p1 ++ [x1]).length : Int))]) (by kernel_rfl) (cj (rng_lt h2) (cj (by omega) (cj (rng_get _ h2) (cj (by omega) (cj (map_get h4) (cj (impl_SlotsSame_1_ok x1 x2 r1 h5) (cj rfl (cj (nf h6) (cj1 (rng_next h2 h3)))))))))) (slices_EqualFunc_impl_Slot_impl_SlotsSame_1_l0_ok s1_ s2_ h3 t1 (p1 ++ [x1]) (rng_step h2))) (fun h6 =>
        Pn.some (LpO.out [.bit true, .el (E92 x1), .el (E92 x2), .call [] (E4 r1) [], .bit true, .wait 1, .mask [6], .ren []] (p := [(decide ((p1.length : Int) < (s1_.length : Int))) = true,
         (0 : Int) ≤ (p1.length : Int),
         (List.map E92 s1_)[(p1.length : Int).toNat]? = some (E92 x1),
         (0 : Int) ≤ (p1.length : Int),
         (List.map E92 s2_)[(p1.length : Int).toNat]? = some (E92 x2),
         Fn Tryz.prog 61 [(false, E92 x1), (false, E92 x2)] (E4 r1) [],
         (true || ((E4 r1).nv && nvL [])) = true,
         (!r1) = true]) (by kernel_rfl) (show X.ret ≠ X.go from nofun) (cj (rng_lt h2) (cj (by omega) (cj (rng_get _ h2) (cj (by omega) (cj (map_get h4) (cj (impl_SlotsSame_1_ok x1 x2 r1 h5) (cj rfl (cj1 (nt h6)))))))))))))
def slices_EqualFunc_impl_Slot_impl_SlotsSame_1 (s1_ : List Slot) (s2_ : List Slot) : Option (Bool) :=
 if ((s1_.length : Int) != (s2_.length : Int)) = true then
  some false
 else
  if (capOk s1_.length) = true then
   (slices_EqualFunc_impl_Slot_impl_SlotsSame_1_l0 s1_ s2_ s1_ []).bind fun r2 =>
   Lo.elim r2 (fun s1 =>
    some true) (fun s2 =>
    some false)
  else none
theorem slices_EqualFunc_impl_Slot_impl_SlotsSame_1_ok (s1_ : List Slot) (s2_ : List Slot) : Pn (fun y => Fn Tryz.prog 60 [(false, E27 s1_), (false, E27 s2_), (false, V.fn 61 [])] (E4 y) []) (slices_EqualFunc_impl_Slot_impl_SlotsSame_1 s1_ s2_) := by
  unfold slices_EqualFunc_impl_Slot_impl_SlotsSame_1
  exact
   Pn.ite (fun h1 =>
    Pn.some (Fn.of [.wait 3, .nm 11 (V.sc (.int .i64 (s1_.length : Int))), .wait 2, .nm 13 (V.sc (.int .i64 (s2_.length : Int))), .bit true] (p := [V.sc (.int .i64 ((List.map E92 s1_).length : Int)) = V.sc (.int .i64 (s1_.length : Int)),
     V.sc (.int .i64 ((List.map E92 s2_).length : Int)) = V.sc (.int .i64 (s2_.length : Int)),
     ((s1_.length : Int) != (s2_.length : Int)) = true]) (by kernel_rfl) (cj (len_nm _ _) (cj (len_nm _ _) (cj1 h1))))) (fun h1 =>
    Pn.ite (fun h7 =>
     Pn.bind (fun r2 h8 =>
      Pn.lo (fun s1 h9 =>
       Pn.some (Fn.of [.wait 3, .nm 11 (V.sc (.int .i64 (s1_.length : Int))), .wait 2, .nm 13 (V.sc (.int .i64 (s2_.length : Int))), .bit false, .wait 1, .nm 16 (V.sc (.int .i64 (s1_.length : Int))), .wait 2, .mask [1, 2, 15, 16, 17], .ren [], .loop (X.out 0) (st 32 [] [] [])] (p := [V.sc (.int .i64 ((List.map E92 s1_).length : Int)) = V.sc (.int .i64 (s1_.length : Int)),
        V.sc (.int .i64 ((List.map E92 s2_).length : Int)) = V.sc (.int .i64 (s2_.length : Int)),
        ((s1_.length : Int) != (s2_.length : Int)) = false,
        V.sc (.int .i64 ((List.map E92 s1_).length : Int)) = V.sc (.int .i64 (s1_.length : Int)),
        Loop Tryz.prog (sub (codeOf Tryz.prog 60) [1, 1, 0, 1, 0, 0]) (st 32 [(1, V.sl false 92 (List.map E92 s2_)), (2, V.fn 61 []), (15, V.sl false 92 (List.map E92 s1_)), (16, V.sc (.int .i64 (s1_.length : Int))), (17, V.sc (.int .i64 0))] [] []) (X.out 0) (st 32 [] [] [])]) (by kernel_rfl) (cj (len_nm _ _) (cj (len_nm _ _) (cj h1 (cj (len_nm _ _) (cj1 ((slices_EqualFunc_impl_Slot_impl_SlotsSame_1_l0_ok s1_ s2_ h7 s1_ [] rfl r2 h8).at h9)))))))) (fun s2 h10 =>
       Pn.some (Fn.of [.wait 3, .nm 11 (V.sc (.int .i64 (s1_.length : Int))), .wait 2, .nm 13 (V.sc (.int .i64 (s2_.length : Int))), .bit false, .wait 1, .nm 16 (V.sc (.int .i64 (s1_.length : Int))), .wait 2, .mask [1, 2, 15, 16, 17], .ren [], .loop (X.ret) (st 32 [(6, V.sc (.bool false))] [] [])] (p := [V.sc (.int .i64 ((List.map E92 s1_).length : Int)) = V.sc (.int .i64 (s1_.length : Int)),
        V.sc (.int .i64 ((List.map E92 s2_).length : Int)) = V.sc (.int .i64 (s2_.length : Int)),
        ((s1_.length : Int) != (s2_.length : Int)) = false,
        V.sc (.int .i64 ((List.map E92 s1_).length : Int)) = V.sc (.int .i64 (s1_.length : Int)),
        Loop Tryz.prog (sub (codeOf Tryz.prog 60) [1, 1, 0, 1, 0, 0]) (st 32 [(1, V.sl false 92 (List.map E92 s2_)), (2, V.fn 61 []), (15, V.sl false 92 (List.map E92 s1_)), (16, V.sc (.int .i64 (s1_.length : Int))), (17, V.sc (.int .i64 0))] [] []) (X.ret) (st 32 [(6, V.sc (.bool false))] [] [])]) (by kernel_rfl) (cj (len_nm _ _) (cj (len_nm _ _) (cj h1 (cj (len_nm _ _) (cj1 ((slices_EqualFunc_impl_Slot_impl_SlotsSame_1_l0_ok s1_ s2_ h7 s1_ [] rfl r2 h8).at h10)))))))))) (fun h7 =>
     Pn.none))
def impl_SlotsSame (a : List Slot) (b : List Slot) : Option (Bool) :=
 (slices_EqualFunc_impl_Slot_impl_SlotsSame_1 a b).bind fun r1 =>
 some r1
theorem impl_SlotsSame_ok (a : List Slot) (b : List Slot) : Pn (fun y => Fn Tryz.prog 30 [(false, E27 a), (false, E27 b)] (E4 y) []) (impl_SlotsSame a b) := by
  unfold impl_SlotsSame
  exact
   Pn.bind (fun r1 h1 =>
    Pn.some (Fn.of [.call [] (E4 r1) []] (p := [Fn Tryz.prog 60 [(false, E27 a), (false, E27 b), (false, V.fn 61 [])] (E4 r1) [],
     (true || ((E4 r1).nv && nvL [])) = true]) (by kernel_rfl) (cj (slices_EqualFunc_impl_Slot_impl_SlotsSame_1_ok a b r1 h1) (cj1 rfl))))
def impl_AcctSame (a : Acct) (b : Acct) : Option (Bool) :=
 if (a.Id == b.Id) = true then
  if (a.Limit == b.Limit) = true then
   if (a.Posted == b.Posted) = true then
    if (a.Most == b.Most) = true then
     if (a.MostSum == b.MostSum) = true then
      (slices_Equal_impl_Hold a.Holds b.Holds).bind fun r1 =>
      if r1 = true then
       (impl_ringSame a.Ring b.Ring).bind fun r2 =>
       if r2 = true then
        (impl_SlotsSame a.Slots b.Slots).bind fun r3 =>
        some r3
       else
        some false
      else
       some false
     else
      some false
    else
     some false
   else
    some false
  else
   some false
 else
  some false
theorem impl_AcctSame_ok (a : Acct) (b : Acct) : Pn (fun y => Fn Tryz.prog 14 [(false, E29 a), (false, E29 b)] (E4 y) []) (impl_AcctSame a b) := by
  unfold impl_AcctSame
  exact
   Pn.ite (fun h1 =>
    Pn.ite (fun h2 =>
     Pn.ite (fun h3 =>
      Pn.ite (fun h4 =>
       Pn.ite (fun h5 =>
        Pn.bind (fun r1 h6 =>
         Pn.ite (fun h7 =>
          Pn.bind (fun r2 h8 =>
           Pn.ite (fun h9 =>
            Pn.bind (fun r3 h10 =>
             Pn.some (Fn.of [.bit true, .bit true, .bit true, .bit true, .bit true, .bit true, .bit true, .bit true, .bit true, .bit true, .bit true, .bit true, .bit true, .bit true, .bit true, .bit true, .bit true, .bit true, .bit true, .bit true, .bit true, .bit true, .bit true, .bit true, .bit true, .bit true, .bit true, .bit true, .bit true, .call [] (E4 r1) [], .bit true, .bit true, .bit true, .bit true, .bit true, .bit true, .call [] (E4 r2) [], .bit true, .bit true, .bit true, .bit true, .bit true, .bit true, .call [] (E4 r3) [], .bit true] (p := [(a.Id == b.Id) = true,
              (a.Id == b.Id) = true,
              (a.Id == b.Id) = true,
              (a.Id == b.Id) = true,
              (a.Id == b.Id) = true,
              (a.Id == b.Id) = true,
              (a.Limit == b.Limit) = true,
              (a.Limit == b.Limit) = true,
              (a.Limit == b.Limit) = true,
              (a.Limit == b.Limit) = true,
              (a.Limit == b.Limit) = true,
              (a.Limit == b.Limit) = true,
              (a.Posted == b.Posted) = true,
              (a.Posted == b.Posted) = true,
              (a.Posted == b.Posted) = true,
              (a.Posted == b.Posted) = true,
              (a.Posted == b.Posted) = true,
              (a.Posted == b.Posted) = true,
              (a.Most == b.Most) = true,
              (a.Most == b.Most) = true,
              (a.Most == b.Most) = true,
              (a.Most == b.Most) = true,
              (a.Most == b.Most) = true,
              (a.Most == b.Most) = true,
              (a.MostSum == b.MostSum) = true,
              (a.MostSum == b.MostSum) = true,
              (a.MostSum == b.MostSum) = true,
              (a.MostSum == b.MostSum) = true,
              (a.MostSum == b.MostSum) = true,
              Fn Tryz.prog 28 [(false, E23 a.Holds), (false, E23 b.Holds)] (E4 r1) [],
              (true || ((E4 r1).nv && nvL [])) = true,
              (a.MostSum == b.MostSum) = true,
              r1 = true,
              r1 = true,
              r1 = true,
              r1 = true,
              r1 = true,
              Fn Tryz.prog 29 [(false, E26 a.Ring), (false, E26 b.Ring)] (E4 r2) [],
              (true || ((E4 r2).nv && nvL [])) = true,
              r1 = true,
              r2 = true,
              r2 = true,
              r2 = true,
              r2 = true,
              r2 = true,
              Fn Tryz.prog 30 [(false, E27 a.Slots), (false, E27 b.Slots)] (E4 r3) [],
              (true || ((E4 r3).nv && nvL [])) = true,
              r2 = true]) (by kernel_rfl) (cj h1 (cj h1 (cj h1 (cj h1 (cj h1 (cj h1 (cj h2 (cj h2 (cj h2 (cj h2 (cj h2 (cj h2 (cj h3 (cj h3 (cj h3 (cj h3 (cj h3 (cj h3 (cj h4 (cj h4 (cj h4 (cj h4 (cj h4 (cj h4 (cj h5 (cj h5 (cj h5 (cj h5 (cj h5 (cj (slices_Equal_impl_Hold_ok a.Holds b.Holds r1 h6) (cj rfl (cj h5 (cj h7 (cj h7 (cj h7 (cj h7 (cj h7 (cj (impl_ringSame_ok a.Ring b.Ring r2 h8) (cj rfl (cj h7 (cj h9 (cj h9 (cj h9 (cj h9 (cj h9 (cj (impl_SlotsSame_ok a.Slots b.Slots r3 h10) (cj rfl (cj1 h9))))))))))))))))))))))))))))))))))))))))))))))))))) (fun h9 =>
            Pn.some (Fn.of [.bit true, .bit true, .bit true, .bit true, .bit true, .bit true, .bit true, .bit true, .bit true, .bit true, .bit true, .bit true, .bit true, .bit true, .bit true, .bit true, .bit true, .bit true, .bit true, .bit true, .bit true, .bit true, .bit true, .bit true, .bit true, .bit true, .bit true, .bit true, .bit true, .call [] (E4 r1) [], .bit true, .bit true, .bit true, .bit true, .bit true, .bit true, .call [] (E4 r2) [], .bit true, .bit false, .bit false, .bit false, .bit false, .bit false, .bit false] (p := [(a.Id == b.Id) = true,
             (a.Id == b.Id) = true,
             (a.Id == b.Id) = true,
             (a.Id == b.Id) = true,
             (a.Id == b.Id) = true,
             (a.Id == b.Id) = true,
             (a.Limit == b.Limit) = true,
             (a.Limit == b.Limit) = true,
             (a.Limit == b.Limit) = true,
             (a.Limit == b.Limit) = true,
             (a.Limit == b.Limit) = true,
             (a.Limit == b.Limit) = true,
             (a.Posted == b.Posted) = true,
             (a.Posted == b.Posted) = true,
             (a.Posted == b.Posted) = true,
             (a.Posted == b.Posted) = true,
             (a.Posted == b.Posted) = true,
             (a.Posted == b.Posted) = true,
             (a.Most == b.Most) = true,
             (a.Most == b.Most) = true,
             (a.Most == b.Most) = true,
             (a.Most == b.Most) = true,
             (a.Most == b.Most) = true,
             (a.Most == b.Most) = true,
             (a.MostSum == b.MostSum) = true,
             (a.MostSum == b.MostSum) = true,
             (a.MostSum == b.MostSum) = true,
             (a.MostSum == b.MostSum) = true,
             (a.MostSum == b.MostSum) = true,
             Fn Tryz.prog 28 [(false, E23 a.Holds), (false, E23 b.Holds)] (E4 r1) [],
             (true || ((E4 r1).nv && nvL [])) = true,
             (a.MostSum == b.MostSum) = true,
             r1 = true,
             r1 = true,
             r1 = true,
             r1 = true,
             r1 = true,
             Fn Tryz.prog 29 [(false, E26 a.Ring), (false, E26 b.Ring)] (E4 r2) [],
             (true || ((E4 r2).nv && nvL [])) = true,
             r1 = true,
             r2 = false,
             r2 = false,
             r2 = false,
             r2 = false,
             r2 = false,
             r2 = false]) (by kernel_rfl) (cj h1 (cj h1 (cj h1 (cj h1 (cj h1 (cj h1 (cj h2 (cj h2 (cj h2 (cj h2 (cj h2 (cj h2 (cj h3 (cj h3 (cj h3 (cj h3 (cj h3 (cj h3 (cj h4 (cj h4 (cj h4 (cj h4 (cj h4 (cj h4 (cj h5 (cj h5 (cj h5 (cj h5 (cj h5 (cj (slices_Equal_impl_Hold_ok a.Holds b.Holds r1 h6) (cj rfl (cj h5 (cj h7 (cj h7 (cj h7 (cj h7 (cj h7 (cj (impl_ringSame_ok a.Ring b.Ring r2 h8) (cj rfl (cj h7 (cj h9 (cj h9 (cj h9 (cj h9 (cj h9 (cj1 h9)))))))))))))))))))))))))))))))))))))))))))))))))) (fun h7 =>
          Pn.some (Fn.of [.bit true, .bit true, .bit true, .bit true, .bit true, .bit true, .bit true, .bit true, .bit true, .bit true, .bit true, .bit true, .bit true, .bit true, .bit true, .bit true, .bit true, .bit true, .bit true, .bit true, .bit true, .bit true, .bit true, .bit true, .bit true, .bit true, .bit true, .bit true, .bit true, .call [] (E4 r1) [], .bit true, .bit false, .bit false, .bit false, .bit false, .bit false, .bit false, .bit false, .bit false, .bit false, .bit false, .bit false, .bit false] (p := [(a.Id == b.Id) = true,
           (a.Id == b.Id) = true,
           (a.Id == b.Id) = true,
           (a.Id == b.Id) = true,
           (a.Id == b.Id) = true,
           (a.Id == b.Id) = true,
           (a.Limit == b.Limit) = true,
           (a.Limit == b.Limit) = true,
           (a.Limit == b.Limit) = true,
           (a.Limit == b.Limit) = true,
           (a.Limit == b.Limit) = true,
           (a.Limit == b.Limit) = true,
           (a.Posted == b.Posted) = true,
           (a.Posted == b.Posted) = true,
           (a.Posted == b.Posted) = true,
           (a.Posted == b.Posted) = true,
           (a.Posted == b.Posted) = true,
           (a.Posted == b.Posted) = true,
           (a.Most == b.Most) = true,
           (a.Most == b.Most) = true,
           (a.Most == b.Most) = true,
           (a.Most == b.Most) = true,
           (a.Most == b.Most) = true,
           (a.Most == b.Most) = true,
           (a.MostSum == b.MostSum) = true,
           (a.MostSum == b.MostSum) = true,
           (a.MostSum == b.MostSum) = true,
           (a.MostSum == b.MostSum) = true,
           (a.MostSum == b.MostSum) = true,
           Fn Tryz.prog 28 [(false, E23 a.Holds), (false, E23 b.Holds)] (E4 r1) [],
           (true || ((E4 r1).nv && nvL [])) = true,
           (a.MostSum == b.MostSum) = true,
           r1 = false,
           r1 = false,
           r1 = false,
           r1 = false,
           r1 = false,
           r1 = false,
           false = false,
           false = false,
           false = false,
           false = false,
           false = false,
           false = false]) (by kernel_rfl) (cj h1 (cj h1 (cj h1 (cj h1 (cj h1 (cj h1 (cj h2 (cj h2 (cj h2 (cj h2 (cj h2 (cj h2 (cj h3 (cj h3 (cj h3 (cj h3 (cj h3 (cj h3 (cj h4 (cj h4 (cj h4 (cj h4 (cj h4 (cj h4 (cj h5 (cj h5 (cj h5 (cj h5 (cj h5 (cj (slices_Equal_impl_Hold_ok a.Holds b.Holds r1 h6) (cj rfl (cj h5 (cj h7 (cj h7 (cj h7 (cj h7 (cj h7 (cj h7 (cj rfl (cj rfl (cj rfl (cj rfl (cj rfl (cj1 rfl)))))))))))))))))))))))))))))))))))))))))))))))) (fun h5 =>
        Pn.some (Fn.of [.bit true, .bit true, .bit true, .bit true, .bit true, .bit true, .bit true, .bit true, .bit true, .bit true, .bit true, .bit true, .bit true, .bit true, .bit true, .bit true, .bit true, .bit true, .bit true, .bit true, .bit true, .bit true, .bit true, .bit true, .bit false, .bit false, .bit false, .bit false, .bit false, .bit false, .bit false, .bit false, .bit false, .bit false, .bit false, .bit false, .bit false, .bit false, .bit false, .bit false, .bit false, .bit false] (p := [(a.Id == b.Id) = true,
         (a.Id == b.Id) = true,
         (a.Id == b.Id) = true,
         (a.Id == b.Id) = true,
         (a.Id == b.Id) = true,
         (a.Id == b.Id) = true,
         (a.Limit == b.Limit) = true,
         (a.Limit == b.Limit) = true,
         (a.Limit == b.Limit) = true,
         (a.Limit == b.Limit) = true,
         (a.Limit == b.Limit) = true,
         (a.Limit == b.Limit) = true,
         (a.Posted == b.Posted) = true,
         (a.Posted == b.Posted) = true,
         (a.Posted == b.Posted) = true,
         (a.Posted == b.Posted) = true,
         (a.Posted == b.Posted) = true,
         (a.Posted == b.Posted) = true,
         (a.Most == b.Most) = true,
         (a.Most == b.Most) = true,
         (a.Most == b.Most) = true,
         (a.Most == b.Most) = true,
         (a.Most == b.Most) = true,
         (a.Most == b.Most) = true,
         (a.MostSum == b.MostSum) = false,
         (a.MostSum == b.MostSum) = false,
         (a.MostSum == b.MostSum) = false,
         (a.MostSum == b.MostSum) = false,
         (a.MostSum == b.MostSum) = false,
         (a.MostSum == b.MostSum) = false,
         false = false,
         false = false,
         false = false,
         false = false,
         false = false,
         false = false,
         false = false,
         false = false,
         false = false,
         false = false,
         false = false,
         false = false]) (by kernel_rfl) (cj h1 (cj h1 (cj h1 (cj h1 (cj h1 (cj h1 (cj h2 (cj h2 (cj h2 (cj h2 (cj h2 (cj h2 (cj h3 (cj h3 (cj h3 (cj h3 (cj h3 (cj h3 (cj h4 (cj h4 (cj h4 (cj h4 (cj h4 (cj h4 (cj h5 (cj h5 (cj h5 (cj h5 (cj h5 (cj h5 (cj rfl (cj rfl (cj rfl (cj rfl (cj rfl (cj rfl (cj rfl (cj rfl (cj rfl (cj rfl (cj rfl (cj1 rfl))))))))))))))))))))))))))))))))))))))))))))) (fun h4 =>
       Pn.some (Fn.of [.bit true, .bit true, .bit true, .bit true, .bit true, .bit true, .bit true, .bit true, .bit true, .bit true, .bit true, .bit true, .bit true, .bit true, .bit true, .bit true, .bit true, .bit true, .bit false, .bit false, .bit false, .bit false, .bit false, .bit false, .bit false, .bit false, .bit false, .bit false, .bit false, .bit false, .bit false, .bit false, .bit false, .bit false, .bit false, .bit false, .bit false, .bit false, .bit false, .bit false, .bit false, .bit false] (p := [(a.Id == b.Id) = true,
        (a.Id == b.Id) = true,
        (a.Id == b.Id) = true,
        (a.Id == b.Id) = true,
        (a.Id == b.Id) = true,
        (a.Id == b.Id) = true,
        (a.Limit == b.Limit) = true,
        (a.Limit == b.Limit) = true,
        (a.Limit == b.Limit) = true,
        (a.Limit == b.Limit) = true,
        (a.Limit == b.Limit) = true,
        (a.Limit == b.Limit) = true,
        (a.Posted == b.Posted) = true,
        (a.Posted == b.Posted) = true,
        (a.Posted == b.Posted) = true,
        (a.Posted == b.Posted) = true,
        (a.Posted == b.Posted) = true,
        (a.Posted == b.Posted) = true,
        (a.Most == b.Most) = false,
        (a.Most == b.Most) = false,
        (a.Most == b.Most) = false,
        (a.Most == b.Most) = false,
        (a.Most == b.Most) = false,
        (a.Most == b.Most) = false,
        false = false,
        false = false,
        false = false,
        false = false,
        false = false,
        false = false,
        false = false,
        false = false,
        false = false,
        false = false,
        false = false,
        false = false,
        false = false,
        false = false,
        false = false,
        false = false,
        false = false,
        false = false]) (by kernel_rfl) (cj h1 (cj h1 (cj h1 (cj h1 (cj h1 (cj h1 (cj h2 (cj h2 (cj h2 (cj h2 (cj h2 (cj h2 (cj h3 (cj h3 (cj h3 (cj h3 (cj h3 (cj h3 (cj h4 (cj h4 (cj h4 (cj h4 (cj h4 (cj h4 (cj rfl (cj rfl (cj rfl (cj rfl (cj rfl (cj rfl (cj rfl (cj rfl (cj rfl (cj rfl (cj rfl (cj rfl (cj rfl (cj rfl (cj rfl (cj rfl (cj rfl (cj1 rfl))))))))))))))))))))))))))))))))))))))))))))) (fun h3 =>
      Pn.some (Fn.of [.bit true, .bit true, .bit true, .bit true, .bit true, .bit true, .bit true, .bit true, .bit true, .bit true, .bit true, .bit true, .bit false, .bit false, .bit false, .bit false, .bit false, .bit false, .bit false, .bit false, .bit false, .bit false, .bit false, .bit false, .bit false, .bit false, .bit false, .bit false, .bit false, .bit false, .bit false, .bit false, .bit false, .bit false, .bit false, .bit false, .bit false, .bit false, .bit false, .bit false, .bit false, .bit false] (p := [(a.Id == b.Id) = true,
       (a.Id == b.Id) = true,
       (a.Id == b.Id) = true,
       (a.Id == b.Id) = true,
       (a.Id == b.Id) = true,
       (a.Id == b.Id) = true,
       (a.Limit == b.Limit) = true,
       (a.Limit == b.Limit) = true,
       (a.Limit == b.Limit) = true,
       (a.Limit == b.Limit) = true,
       (a.Limit == b.Limit) = true,
       (a.Limit == b.Limit) = true,
       (a.Posted == b.Posted) = false,
       (a.Posted == b.Posted) = false,
       (a.Posted == b.Posted) = false,
       (a.Posted == b.Posted) = false,
       (a.Posted == b.Posted) = false,
       (a.Posted == b.Posted) = false,
       false = false,
       false = false,
       false = false,
       false = false,
       false = false,
       false = false,
       false = false,
       false = false,
       false = false,
       false = false,
       false = false,
       false = false,
       false = false,
       false = false,
       false = false,
       false = false,
       false = false,
       false = false,
       false = false,
       false = false,
       false = false,
       false = false,
       false = false,
       false = false]) (by kernel_rfl) (cj h1 (cj h1 (cj h1 (cj h1 (cj h1 (cj h1 (cj h2 (cj h2 (cj h2 (cj h2 (cj h2 (cj h2 (cj h3 (cj h3 (cj h3 (cj h3 (cj h3 (cj h3 (cj rfl (cj rfl (cj rfl (cj rfl (cj rfl (cj rfl (cj rfl (cj rfl (cj rfl (cj rfl (cj rfl (cj rfl (cj rfl (cj rfl (cj rfl (cj rfl (cj rfl (cj rfl (cj rfl (cj rfl (cj rfl (cj rfl (cj rfl (cj1 rfl))))))))))))))))))))))))))))))))))))))))))))) (fun h2 =>
     Pn.some (Fn.of [.bit true, .bit true, .bit true, .bit true, .bit true, .bit true, .bit false, .bit false, .bit false, .bit false, .bit false, .bit false, .bit false, .bit false, .bit false, .bit false, .bit false, .bit false, .bit false, .bit false, .bit false, .bit false, .bit false, .bit false, .bit false, .bit false, .bit false, .bit false, .bit false, .bit false, .bit false, .bit false, .bit false, .bit false, .bit false, .bit false, .bit false, .bit false, .bit false, .bit false, .bit false, .bit false] (p := [(a.Id == b.Id) = true,
      (a.Id == b.Id) = true,
      (a.Id == b.Id) = true,
      (a.Id == b.Id) = true,
      (a.Id == b.Id) = true,
      (a.Id == b.Id) = true,
      (a.Limit == b.Limit) = false,
      (a.Limit == b.Limit) = false,
      (a.Limit == b.Limit) = false,
      (a.Limit == b.Limit) = false,
      (a.Limit == b.Limit) = false,
      (a.Limit == b.Limit) = false,
      false = false,
      false = false,
      false = false,
      false = false,
      false = false,
      false = false,
      false = false,
      false = false,
      false = false,
      false = false,
      false = false,
      false = false,
      false = false,
      false = false,
      false = false,
      false = false,
      false = false,
      false = false,
      false = false,
      false = false,
      false = false,
      false = false,
      false = false,
      false = false,
      false = false,
      false = false,
      false = false,
      false = false,
      false = false,
      false = false]) (by kernel_rfl) (cj h1 (cj h1 (cj h1 (cj h1 (cj h1 (cj h1 (cj h2 (cj h2 (cj h2 (cj h2 (cj h2 (cj h2 (cj rfl (cj rfl (cj rfl (cj rfl (cj rfl (cj rfl (cj rfl (cj rfl (cj rfl (cj rfl (cj rfl (cj rfl (cj rfl (cj rfl (cj rfl (cj rfl (cj rfl (cj rfl (cj rfl (cj rfl (cj rfl (cj rfl (cj rfl (cj rfl (cj rfl (cj rfl (cj rfl (cj rfl (cj rfl (cj1 rfl))))))))))))))))))))))))))))))))))))))))))))) (fun h1 =>
    Pn.some (Fn.of [.bit false, .bit false, .bit false, .bit false, .bit false, .bit false, .bit false, .bit false, .bit false, .bit false, .bit false, .bit false, .bit false, .bit false, .bit false, .bit false, .bit false, .bit false, .bit false, .bit false, .bit false, .bit false, .bit false, .bit false, .bit false, .bit false, .bit false, .bit false, .bit false, .bit false, .bit false, .bit false, .bit false, .bit false, .bit false, .bit false, .bit false, .bit false, .bit false, .bit false, .bit false, .bit false] (p := [(a.Id == b.Id) = false,
     (a.Id == b.Id) = false,
     (a.Id == b.Id) = false,
     (a.Id == b.Id) = false,
     (a.Id == b.Id) = false,
     (a.Id == b.Id) = false,
     false = false,
     false = false,
     false = false,
     false = false,
     false = false,
     false = false,
     false = false,
     false = false,
     false = false,
     false = false,
     false = false,
     false = false,
     false = false,
     false = false,
     false = false,
     false = false,
     false = false,
     false = false,
     false = false,
     false = false,
     false = false,
     false = false,
     false = false,
     false = false,
     false = false,
     false = false,
     false = false,
     false = false,
     false = false,
     false = false,
     false = false,
     false = false,
     false = false,
     false = false,
     false = false,
     false = false]) (by kernel_rfl) (cj h1 (cj h1 (cj h1 (cj h1 (cj h1 (cj h1 (cj rfl (cj rfl (cj rfl (cj rfl (cj rfl (cj rfl (cj rfl (cj rfl (cj rfl (cj rfl (cj rfl (cj rfl (cj rfl (cj rfl (cj rfl (cj rfl (cj rfl (cj rfl (cj rfl (cj rfl (cj rfl (cj rfl (cj rfl (cj rfl (cj rfl (cj rfl (cj rfl (cj rfl (cj rfl (cj rfl (cj rfl (cj rfl (cj rfl (cj rfl (cj rfl (cj1 rfl))))))))))))))))))))))))))))))))))))))))))))
def laws_FnDue_l0 (r1 : Acct) (r2 : Int) : List Hold → Option (Lo Unit Unit)
  | [] =>
   some (.out ())
  | x1 :: t1 =>
   (impl_Capture r1 x1.Id 1 true r2).bind fun r3 =>
   (impl_Free r1 x1.Id r2).bind fun r4 =>
   (impl_More r1 x1.Id 1 r2).bind fun r5 =>
   (impl_Live x1 r2).bind fun r6 =>
   if r6 = true then
    if (r3.2 != 0) = true then
     some (.ret ())
    else
     if (r3.1.Posted != (i64 (r1.Posted + 1))) = true then
      some (.ret ())
     else
      if (r4.2 != 0) = true then
       some (.ret ())
      else
       if (r5.2 == 5) = true then
        some (.ret ())
       else
        laws_FnDue_l0 r1 r2 t1
   else
    if (r3.2 != 5) = true then
     some (.ret ())
    else
     if (r4.2 != 5) = true then
      some (.ret ())
     else
      if (r5.2 != 5) = true then
       some (.ret ())
      else
       laws_FnDue_l0 r1 r2 t1
theorem laws_FnDue_l0_ok (r1 : Acct) (r2 : Int) (h5 : capOk r1.Holds.length = true) : ∀ (t1 p1 : List Hold) (_ : r1.Holds = p1 ++ t1) , Pn (LpO Tryz.prog (sub (codeOf Tryz.prog 3) [1, 1, 1, 1, 0, 1, 0, 0]) (st 127 [(3, V.ptr 0 0), (4, V.sc (.int .i64 r2)), (22, V.ow 1), (23, V.sc (.int .i64 (r1.Holds.length : Int))), (24, V.sc (.int .i64 (p1.length : Int)))] [Blk.box 29 [V.sc (.string r1.Id), V.sc (.int .i64 r1.Limit), V.sc (.int .i64 r1.Posted), V.sc (.int .i64 r1.Most), V.sc (.int .i64 r1.MostSum), V.ow 1, V.sc (.int .i64 r1.Ring.Span), V.sc (.int .i64 r1.Ring.Head), V.ow 2, V.ow 3, V.ow 4], Blk.row 33 (List.map E33 r1.Holds) [], Blk.row 3 (List.map E3 r1.Ring.Counts) [], Blk.row 3 (List.map E3 r1.Ring.Sums) [], Blk.row 92 (List.map E92 r1.Slots) []] []) (fun (y : Lo Unit Unit) => Lo.elim y (fun s => (X.out 0, st 127 [(3, V.ptr 0 0), (4, V.sc (.int .i64 r2))] [Blk.box 29 [V.sc (.string r1.Id), V.sc (.int .i64 r1.Limit), V.sc (.int .i64 r1.Posted), V.sc (.int .i64 r1.Most), V.sc (.int .i64 r1.MostSum), V.ow 1, V.sc (.int .i64 r1.Ring.Span), V.sc (.int .i64 r1.Ring.Head), V.ow 2, V.ow 3, V.ow 4], Blk.row 33 (List.map E33 r1.Holds) [], Blk.row 3 (List.map E3 r1.Ring.Counts) [], Blk.row 3 (List.map E3 r1.Ring.Sums) [], Blk.row 92 (List.map E92 r1.Slots) []] [])) (fun s => (X.ret, st 127 [(2, V.sc (.bool false))] [] [])))) (laws_FnDue_l0 r1 r2 t1)
  | [], p1, h4 => by
    unfold laws_FnDue_l0
    exact
     Pn.some (LpO.out [.bit false, .mask [3, 4], .ren [0, 1, 2, 3, 4]] (p := [(decide ((p1.length : Int) < (r1.Holds.length : Int))) = false]) (by kernel_rfl) (show X.out 0 ≠ X.go from nofun) (cj1 (rng_end h4)))
  | x1 :: t1, p1, h4 => by
    unfold laws_FnDue_l0
    exact
     Pn.bind (fun r3 h6 =>
      Pn.bind (fun r4 h7 =>
       Pn.bind (fun r5 h8 =>
        Pn.bind (fun r6 h9 =>
         Pn.ite (fun h10 =>
          Pn.ite (fun h11 =>
           Pn.some (LpO.out [.bit true, .el (E33 x1), .call [] (V.tup [E29 r3.1, E3 r3.2]) [], .call [] (V.tup [E29 r4.1, E3 r4.2]) [], .call [] (V.tup [E29 r5.1, E3 r5.2]) [], .call [] (E4 r6) [], .bit true, .bit true, .bit true, .bit true, .bit true, .bit true, .bit true, .bit true, .bit true, .bit true, .bit true, .bit true, .bit true, .bit true, .bit true, .wait 1, .mask [2], .ren []] (p := [(decide ((p1.length : Int) < (r1.Holds.length : Int))) = true,
            (0 : Int) ≤ (p1.length : Int),
            ((p1.length : Int) : Int) < ((List.map E33 r1.Holds).length : Int),
            look [] ((p1.length : Int).toNat) = none,
            (List.map E33 r1.Holds)[(p1.length : Int).toNat]? = some (E33 x1),
            Fn Tryz.prog 6 [(false, E29 r1), (false, E9 x1.Id), (false, E3 1), (false, E4 true), (false, E3 r2)] (V.tup [E29 r3.1, E3 r3.2]) [],
            (false || ((V.tup [E29 r3.1, E3 r3.2]).nv && nvL [])) = true,
            Fn Tryz.prog 7 [(false, E29 r1), (false, E9 x1.Id), (false, E3 r2)] (V.tup [E29 r4.1, E3 r4.2]) [],
            (false || ((V.tup [E29 r4.1, E3 r4.2]).nv && nvL [])) = true,
            Fn Tryz.prog 8 [(false, E29 r1), (false, E9 x1.Id), (false, E3 1), (false, E3 r2)] (V.tup [E29 r5.1, E3 r5.2]) [],
            (false || ((V.tup [E29 r5.1, E3 r5.2]).nv && nvL [])) = true,
            Fn Tryz.prog 9 [(false, E33 x1), (false, E3 r2)] (E4 r6) [],
            (true || ((E4 r6).nv && nvL [])) = true,
            r6 = true,
            (r3.2 != 0) = true,
            (r3.2 != 0) = true,
            (r3.2 != 0) = true,
            (r3.2 != 0) = true,
            (r3.2 != 0) = true,
            (r3.2 != 0) = true,
            (r3.2 != 0) = true,
            true = true,
            true = true,
            true = true,
            true = true,
            true = true,
            true = true,
            true = true]) (by kernel_rfl) (show X.ret ≠ X.go from nofun) (cj (rng_lt h4) (cj (by omega) (cj (rng_ltI _ h4) (cj rfl (cj (rng_get _ h4) (cj (impl_Capture_ok r1 x1.Id 1 true r2 r3 h6) (cj (by simp [V.nv, nvL, nvL_all, nv_E3, nv_E5, nv_E9, nv_E22, nv_E23, nv_E24, nv_E26, nv_E27, nv_E29, nv_E33, nv_E92]) (cj (impl_Free_ok r1 x1.Id r2 r4 h7) (cj (by simp [V.nv, nvL, nvL_all, nv_E3, nv_E5, nv_E9, nv_E22, nv_E23, nv_E24, nv_E26, nv_E27, nv_E29, nv_E33, nv_E92]) (cj (impl_More_ok r1 x1.Id 1 r2 r5 h8) (cj (by simp [V.nv, nvL, nvL_all, nv_E3, nv_E5, nv_E9, nv_E22, nv_E23, nv_E24, nv_E26, nv_E27, nv_E29, nv_E33, nv_E92]) (cj (impl_Live_ok x1 r2 r6 h9) (cj rfl (cj h10 (cj h11 (cj h11 (cj h11 (cj h11 (cj h11 (cj h11 (cj h11 (cj rfl (cj rfl (cj rfl (cj rfl (cj rfl (cj rfl (cj1 rfl)))))))))))))))))))))))))))))) (fun h11 =>
           Pn.ite (fun h12 =>
            Pn.some (LpO.out [.bit true, .el (E33 x1), .call [] (V.tup [E29 r3.1, E3 r3.2]) [], .call [] (V.tup [E29 r4.1, E3 r4.2]) [], .call [] (V.tup [E29 r5.1, E3 r5.2]) [], .call [] (E4 r6) [], .bit true, .bit false, .bit false, .bit false, .bit false, .bit false, .bit false, .bit false, .bit true, .bit true, .bit true, .bit true, .bit true, .bit true, .bit true, .wait 1, .mask [2], .ren []] (p := [(decide ((p1.length : Int) < (r1.Holds.length : Int))) = true,
             (0 : Int) ≤ (p1.length : Int),
             ((p1.length : Int) : Int) < ((List.map E33 r1.Holds).length : Int),
             look [] ((p1.length : Int).toNat) = none,
             (List.map E33 r1.Holds)[(p1.length : Int).toNat]? = some (E33 x1),
             Fn Tryz.prog 6 [(false, E29 r1), (false, E9 x1.Id), (false, E3 1), (false, E4 true), (false, E3 r2)] (V.tup [E29 r3.1, E3 r3.2]) [],
             (false || ((V.tup [E29 r3.1, E3 r3.2]).nv && nvL [])) = true,
             Fn Tryz.prog 7 [(false, E29 r1), (false, E9 x1.Id), (false, E3 r2)] (V.tup [E29 r4.1, E3 r4.2]) [],
             (false || ((V.tup [E29 r4.1, E3 r4.2]).nv && nvL [])) = true,
             Fn Tryz.prog 8 [(false, E29 r1), (false, E9 x1.Id), (false, E3 1), (false, E3 r2)] (V.tup [E29 r5.1, E3 r5.2]) [],
             (false || ((V.tup [E29 r5.1, E3 r5.2]).nv && nvL [])) = true,
             Fn Tryz.prog 9 [(false, E33 x1), (false, E3 r2)] (E4 r6) [],
             (true || ((E4 r6).nv && nvL [])) = true,
             r6 = true,
             (r3.2 != 0) = false,
             (r3.2 != 0) = false,
             (r3.2 != 0) = false,
             (r3.2 != 0) = false,
             (r3.2 != 0) = false,
             (r3.2 != 0) = false,
             (r3.2 != 0) = false,
             (r3.1.Posted != (i64 (r1.Posted + 1))) = true,
             (r3.1.Posted != (i64 (r1.Posted + 1))) = true,
             (r3.1.Posted != (i64 (r1.Posted + 1))) = true,
             true = true,
             true = true,
             true = true,
             true = true]) (by kernel_rfl) (show X.ret ≠ X.go from nofun) (cj (rng_lt h4) (cj (by omega) (cj (rng_ltI _ h4) (cj rfl (cj (rng_get _ h4) (cj (impl_Capture_ok r1 x1.Id 1 true r2 r3 h6) (cj (by simp [V.nv, nvL, nvL_all, nv_E3, nv_E5, nv_E9, nv_E22, nv_E23, nv_E24, nv_E26, nv_E27, nv_E29, nv_E33, nv_E92]) (cj (impl_Free_ok r1 x1.Id r2 r4 h7) (cj (by simp [V.nv, nvL, nvL_all, nv_E3, nv_E5, nv_E9, nv_E22, nv_E23, nv_E24, nv_E26, nv_E27, nv_E29, nv_E33, nv_E92]) (cj (impl_More_ok r1 x1.Id 1 r2 r5 h8) (cj (by simp [V.nv, nvL, nvL_all, nv_E3, nv_E5, nv_E9, nv_E22, nv_E23, nv_E24, nv_E26, nv_E27, nv_E29, nv_E33, nv_E92]) (cj (impl_Live_ok x1 r2 r6 h9) (cj rfl (cj h10 (cj h11 (cj h11 (cj h11 (cj h11 (cj h11 (cj h11 (cj h11 (cj h12 (cj h12 (cj h12 (cj rfl (cj rfl (cj rfl (cj1 rfl)))))))))))))))))))))))))))))) (fun h12 =>
            Pn.ite (fun h13 =>
             Pn.some (LpO.out [.bit true, .el (E33 x1), .call [] (V.tup [E29 r3.1, E3 r3.2]) [], .call [] (V.tup [E29 r4.1, E3 r4.2]) [], .call [] (V.tup [E29 r5.1, E3 r5.2]) [], .call [] (E4 r6) [], .bit true, .bit false, .bit false, .bit false, .bit false, .bit false, .bit false, .bit false, .bit false, .bit false, .bit false, .bit true, .bit true, .bit true, .bit true, .wait 1, .mask [2], .ren []] (p := [(decide ((p1.length : Int) < (r1.Holds.length : Int))) = true,
              (0 : Int) ≤ (p1.length : Int),
              ((p1.length : Int) : Int) < ((List.map E33 r1.Holds).length : Int),
              look [] ((p1.length : Int).toNat) = none,
              (List.map E33 r1.Holds)[(p1.length : Int).toNat]? = some (E33 x1),
              Fn Tryz.prog 6 [(false, E29 r1), (false, E9 x1.Id), (false, E3 1), (false, E4 true), (false, E3 r2)] (V.tup [E29 r3.1, E3 r3.2]) [],
              (false || ((V.tup [E29 r3.1, E3 r3.2]).nv && nvL [])) = true,
              Fn Tryz.prog 7 [(false, E29 r1), (false, E9 x1.Id), (false, E3 r2)] (V.tup [E29 r4.1, E3 r4.2]) [],
              (false || ((V.tup [E29 r4.1, E3 r4.2]).nv && nvL [])) = true,
              Fn Tryz.prog 8 [(false, E29 r1), (false, E9 x1.Id), (false, E3 1), (false, E3 r2)] (V.tup [E29 r5.1, E3 r5.2]) [],
              (false || ((V.tup [E29 r5.1, E3 r5.2]).nv && nvL [])) = true,
              Fn Tryz.prog 9 [(false, E33 x1), (false, E3 r2)] (E4 r6) [],
              (true || ((E4 r6).nv && nvL [])) = true,
              r6 = true,
              (r3.2 != 0) = false,
              (r3.2 != 0) = false,
              (r3.2 != 0) = false,
              (r3.2 != 0) = false,
              (r3.2 != 0) = false,
              (r3.2 != 0) = false,
              (r3.2 != 0) = false,
              (r3.1.Posted != (i64 (r1.Posted + 1))) = false,
              (r3.1.Posted != (i64 (r1.Posted + 1))) = false,
              (r3.1.Posted != (i64 (r1.Posted + 1))) = false,
              (r4.2 != 0) = true,
              (r4.2 != 0) = true,
              (r4.2 != 0) = true,
              true = true]) (by kernel_rfl) (show X.ret ≠ X.go from nofun) (cj (rng_lt h4) (cj (by omega) (cj (rng_ltI _ h4) (cj rfl (cj (rng_get _ h4) (cj (impl_Capture_ok r1 x1.Id 1 true r2 r3 h6) (cj (by simp [V.nv, nvL, nvL_all, nv_E3, nv_E5, nv_E9, nv_E22, nv_E23, nv_E24, nv_E26, nv_E27, nv_E29, nv_E33, nv_E92]) (cj (impl_Free_ok r1 x1.Id r2 r4 h7) (cj (by simp [V.nv, nvL, nvL_all, nv_E3, nv_E5, nv_E9, nv_E22, nv_E23, nv_E24, nv_E26, nv_E27, nv_E29, nv_E33, nv_E92]) (cj (impl_More_ok r1 x1.Id 1 r2 r5 h8) (cj (by simp [V.nv, nvL, nvL_all, nv_E3, nv_E5, nv_E9, nv_E22, nv_E23, nv_E24, nv_E26, nv_E27, nv_E29, nv_E33, nv_E92]) (cj (impl_Live_ok x1 r2 r6 h9) (cj rfl (cj h10 (cj h11 (cj h11 (cj h11 (cj h11 (cj h11 (cj h11 (cj h11 (cj h12 (cj h12 (cj h12 (cj h13 (cj h13 (cj h13 (cj1 rfl)))))))))))))))))))))))))))))) (fun h13 =>
             Pn.ite (fun h14 =>
              Pn.some (LpO.out [.bit true, .el (E33 x1), .call [] (V.tup [E29 r3.1, E3 r3.2]) [], .call [] (V.tup [E29 r4.1, E3 r4.2]) [], .call [] (V.tup [E29 r5.1, E3 r5.2]) [], .call [] (E4 r6) [], .bit true, .bit false, .bit false, .bit false, .bit false, .bit false, .bit false, .bit false, .bit false, .bit false, .bit false, .bit false, .bit false, .bit false, .bit true, .wait 1, .mask [2], .ren []] (p := [(decide ((p1.length : Int) < (r1.Holds.length : Int))) = true,
               (0 : Int) ≤ (p1.length : Int),
               ((p1.length : Int) : Int) < ((List.map E33 r1.Holds).length : Int),
               look [] ((p1.length : Int).toNat) = none,
               (List.map E33 r1.Holds)[(p1.length : Int).toNat]? = some (E33 x1),
               Fn Tryz.prog 6 [(false, E29 r1), (false, E9 x1.Id), (false, E3 1), (false, E4 true), (false, E3 r2)] (V.tup [E29 r3.1, E3 r3.2]) [],
               (false || ((V.tup [E29 r3.1, E3 r3.2]).nv && nvL [])) = true,
               Fn Tryz.prog 7 [(false, E29 r1), (false, E9 x1.Id), (false, E3 r2)] (V.tup [E29 r4.1, E3 r4.2]) [],
               (false || ((V.tup [E29 r4.1, E3 r4.2]).nv && nvL [])) = true,
               Fn Tryz.prog 8 [(false, E29 r1), (false, E9 x1.Id), (false, E3 1), (false, E3 r2)] (V.tup [E29 r5.1, E3 r5.2]) [],
               (false || ((V.tup [E29 r5.1, E3 r5.2]).nv && nvL [])) = true,
               Fn Tryz.prog 9 [(false, E33 x1), (false, E3 r2)] (E4 r6) [],
               (true || ((E4 r6).nv && nvL [])) = true,
               r6 = true,
               (r3.2 != 0) = false,
               (r3.2 != 0) = false,
               (r3.2 != 0) = false,
               (r3.2 != 0) = false,
               (r3.2 != 0) = false,
               (r3.2 != 0) = false,
               (r3.2 != 0) = false,
               (r3.1.Posted != (i64 (r1.Posted + 1))) = false,
               (r3.1.Posted != (i64 (r1.Posted + 1))) = false,
               (r3.1.Posted != (i64 (r1.Posted + 1))) = false,
               (r4.2 != 0) = false,
               (r4.2 != 0) = false,
               (r4.2 != 0) = false,
               (r5.2 == 5) = true]) (by kernel_rfl) (show X.ret ≠ X.go from nofun) (cj (rng_lt h4) (cj (by omega) (cj (rng_ltI _ h4) (cj rfl (cj (rng_get _ h4) (cj (impl_Capture_ok r1 x1.Id 1 true r2 r3 h6) (cj (by simp [V.nv, nvL, nvL_all, nv_E3, nv_E5, nv_E9, nv_E22, nv_E23, nv_E24, nv_E26, nv_E27, nv_E29, nv_E33, nv_E92]) (cj (impl_Free_ok r1 x1.Id r2 r4 h7) (cj (by simp [V.nv, nvL, nvL_all, nv_E3, nv_E5, nv_E9, nv_E22, nv_E23, nv_E24, nv_E26, nv_E27, nv_E29, nv_E33, nv_E92]) (cj (impl_More_ok r1 x1.Id 1 r2 r5 h8) (cj (by simp [V.nv, nvL, nvL_all, nv_E3, nv_E5, nv_E9, nv_E22, nv_E23, nv_E24, nv_E26, nv_E27, nv_E29, nv_E33, nv_E92]) (cj (impl_Live_ok x1 r2 r6 h9) (cj rfl (cj h10 (cj h11 (cj h11 (cj h11 (cj h11 (cj h11 (cj h11 (cj h11 (cj h12 (cj h12 (cj h12 (cj h13 (cj h13 (cj h13 (cj1 h14)))))))))))))))))))))))))))))) (fun h14 =>
              LpO.go [.bit true, .el (E33 x1), .call [] (V.tup [E29 r3.1, E3 r3.2]) [], .call [] (V.tup [E29 r4.1, E3 r4.2]) [], .call [] (V.tup [E29 r5.1, E3 r5.2]) [], .call [] (E4 r6) [], .bit true, .bit false, .bit false, .bit false, .bit false, .bit false, .bit false, .bit false, .bit false, .bit false, .bit false, .bit false, .bit false, .bit false, .bit false, .wait 2, .mask [3, 4, 22, 23, 24], .ren [0, 1, 2, 3, 4], .nm 24 (V.sc (.int .i64 ((p1 ++ [x1]).length : Int)))] (p := [(decide ((p1.length : Int) < (r1.Holds.length : Int))) = true,
               (0 : Int) ≤ (p1.length : Int),
               ((p1.length : Int) : Int) < ((List.map E33 r1.Holds).length : Int),
               look [] ((p1.length : Int).toNat) = none,
               (List.map E33 r1.Holds)[(p1.length : Int).toNat]? = some (E33 x1),
               Fn Tryz.prog 6 [(false, E29 r1), (false, E9 x1.Id), (false, E3 1), (false, E4 true), (false, E3 r2)] (V.tup [E29 r3.1, E3 r3.2]) [],
               (false || ((V.tup [E29 r3.1, E3 r3.2]).nv && nvL [])) = true,
               Fn Tryz.prog 7 [(false, E29 r1), (false, E9 x1.Id), (false, E3 r2)] (V.tup [E29 r4.1, E3 r4.2]) [],
               (false || ((V.tup [E29 r4.1, E3 r4.2]).nv && nvL [])) = true,
               Fn Tryz.prog 8 [(false, E29 r1), (false, E9 x1.Id), (false, E3 1), (false, E3 r2)] (V.tup [E29 r5.1, E3 r5.2]) [],
               (false || ((V.tup [E29 r5.1, E3 r5.2]).nv && nvL [])) = true,
               Fn Tryz.prog 9 [(false, E33 x1), (false, E3 r2)] (E4 r6) [],
               (true || ((E4 r6).nv && nvL [])) = true,
               r6 = true,
               (r3.2 != 0) = false,
               (r3.2 != 0) = false,
               (r3.2 != 0) = false,
               (r3.2 != 0) = false,
               (r3.2 != 0) = false,
               (r3.2 != 0) = false,
               (r3.2 != 0) = false,
               (r3.1.Posted != (i64 (r1.Posted + 1))) = false,
               (r3.1.Posted != (i64 (r1.Posted + 1))) = false,
               (r3.1.Posted != (i64 (r1.Posted + 1))) = false,
               (r4.2 != 0) = false,
               (r4.2 != 0) = false,
               (r4.2 != 0) = false,
               (r5.2 == 5) = false,
               V.sc (.int .i64 (i64 ((p1.length : Int) + 1))) = V.sc (.int .i64 ((p1 ++ [x1]).length : Int))]) (by kernel_rfl) (cj (rng_lt h4) (cj (by omega) (cj (rng_ltI _ h4) (cj rfl (cj (rng_get _ h4) (cj (impl_Capture_ok r1 x1.Id 1 true r2 r3 h6) (cj (by simp [V.nv, nvL, nvL_all, nv_E3, nv_E5, nv_E9, nv_E22, nv_E23, nv_E24, nv_E26, nv_E27, nv_E29, nv_E33, nv_E92]) (cj (impl_Free_ok r1 x1.Id r2 r4 h7) (cj (by simp [V.nv, nvL, nvL_all, nv_E3, nv_E5, nv_E9, nv_E22, nv_E23, nv_E24, nv_E26, nv_E27, nv_E29, nv_E33, nv_E92]) (cj (impl_More_ok r1 x1.Id 1 r2 r5 h8) (cj (by simp [V.nv, nvL, nvL_all, nv_E3, nv_E5, nv_E9, nv_E22, nv_E23, nv_E24, nv_E26, nv_E27, nv_E29, nv_E33, nv_E92]) (cj (impl_Live_ok x1 r2 r6 h9) (cj rfl (cj h10 (cj h11 (cj h11 (cj h11 (cj h11 (cj h11 (cj h11 (cj h11 (cj h12 (cj h12 (cj h12 (cj h13 (cj h13 (cj h13 (cj h14 (cj1 (rng_next h4 h5)))))))))))))))))))))))))))))) (laws_FnDue_l0_ok r1 r2 h5 t1 (p1 ++ [x1]) (rng_step h4))))))) (fun h10 =>
          Pn.ite (fun h15 =>
           Pn.some (LpO.out [.bit true, .el (E33 x1), .call [] (V.tup [E29 r3.1, E3 r3.2]) [], .call [] (V.tup [E29 r4.1, E3 r4.2]) [], .call [] (V.tup [E29 r5.1, E3 r5.2]) [], .call [] (E4 r6) [], .bit false, .bit true, .bit true, .bit true, .bit true, .bit true, .bit true, .bit true, .wait 1, .mask [2], .ren []] (p := [(decide ((p1.length : Int) < (r1.Holds.length : Int))) = true,
            (0 : Int) ≤ (p1.length : Int),
            ((p1.length : Int) : Int) < ((List.map E33 r1.Holds).length : Int),
            look [] ((p1.length : Int).toNat) = none,
            (List.map E33 r1.Holds)[(p1.length : Int).toNat]? = some (E33 x1),
            Fn Tryz.prog 6 [(false, E29 r1), (false, E9 x1.Id), (false, E3 1), (false, E4 true), (false, E3 r2)] (V.tup [E29 r3.1, E3 r3.2]) [],
            (false || ((V.tup [E29 r3.1, E3 r3.2]).nv && nvL [])) = true,
            Fn Tryz.prog 7 [(false, E29 r1), (false, E9 x1.Id), (false, E3 r2)] (V.tup [E29 r4.1, E3 r4.2]) [],
            (false || ((V.tup [E29 r4.1, E3 r4.2]).nv && nvL [])) = true,
            Fn Tryz.prog 8 [(false, E29 r1), (false, E9 x1.Id), (false, E3 1), (false, E3 r2)] (V.tup [E29 r5.1, E3 r5.2]) [],
            (false || ((V.tup [E29 r5.1, E3 r5.2]).nv && nvL [])) = true,
            Fn Tryz.prog 9 [(false, E33 x1), (false, E3 r2)] (E4 r6) [],
            (true || ((E4 r6).nv && nvL [])) = true,
            r6 = false,
            (r3.2 != 5) = true,
            (r3.2 != 5) = true,
            (r3.2 != 5) = true,
            true = true,
            true = true,
            true = true,
            true = true]) (by kernel_rfl) (show X.ret ≠ X.go from nofun) (cj (rng_lt h4) (cj (by omega) (cj (rng_ltI _ h4) (cj rfl (cj (rng_get _ h4) (cj (impl_Capture_ok r1 x1.Id 1 true r2 r3 h6) (cj (by simp [V.nv, nvL, nvL_all, nv_E3, nv_E5, nv_E9, nv_E22, nv_E23, nv_E24, nv_E26, nv_E27, nv_E29, nv_E33, nv_E92]) (cj (impl_Free_ok r1 x1.Id r2 r4 h7) (cj (by simp [V.nv, nvL, nvL_all, nv_E3, nv_E5, nv_E9, nv_E22, nv_E23, nv_E24, nv_E26, nv_E27, nv_E29, nv_E33, nv_E92]) (cj (impl_More_ok r1 x1.Id 1 r2 r5 h8) (cj (by simp [V.nv, nvL, nvL_all, nv_E3, nv_E5, nv_E9, nv_E22, nv_E23, nv_E24, nv_E26, nv_E27, nv_E29, nv_E33, nv_E92]) (cj (impl_Live_ok x1 r2 r6 h9) (cj rfl (cj h10 (cj h15 (cj h15 (cj h15 (cj rfl (cj rfl (cj rfl (cj1 rfl))))))))))))))))))))))) (fun h15 =>
           Pn.ite (fun h16 =>
            Pn.some (LpO.out [.bit true, .el (E33 x1), .call [] (V.tup [E29 r3.1, E3 r3.2]) [], .call [] (V.tup [E29 r4.1, E3 r4.2]) [], .call [] (V.tup [E29 r5.1, E3 r5.2]) [], .call [] (E4 r6) [], .bit false, .bit false, .bit false, .bit false, .bit true, .bit true, .bit true, .bit true, .wait 1, .mask [2], .ren []] (p := [(decide ((p1.length : Int) < (r1.Holds.length : Int))) = true,
             (0 : Int) ≤ (p1.length : Int),
             ((p1.length : Int) : Int) < ((List.map E33 r1.Holds).length : Int),
             look [] ((p1.length : Int).toNat) = none,
             (List.map E33 r1.Holds)[(p1.length : Int).toNat]? = some (E33 x1),
             Fn Tryz.prog 6 [(false, E29 r1), (false, E9 x1.Id), (false, E3 1), (false, E4 true), (false, E3 r2)] (V.tup [E29 r3.1, E3 r3.2]) [],
             (false || ((V.tup [E29 r3.1, E3 r3.2]).nv && nvL [])) = true,
             Fn Tryz.prog 7 [(false, E29 r1), (false, E9 x1.Id), (false, E3 r2)] (V.tup [E29 r4.1, E3 r4.2]) [],
             (false || ((V.tup [E29 r4.1, E3 r4.2]).nv && nvL [])) = true,
             Fn Tryz.prog 8 [(false, E29 r1), (false, E9 x1.Id), (false, E3 1), (false, E3 r2)] (V.tup [E29 r5.1, E3 r5.2]) [],
             (false || ((V.tup [E29 r5.1, E3 r5.2]).nv && nvL [])) = true,
             Fn Tryz.prog 9 [(false, E33 x1), (false, E3 r2)] (E4 r6) [],
             (true || ((E4 r6).nv && nvL [])) = true,
             r6 = false,
             (r3.2 != 5) = false,
             (r3.2 != 5) = false,
             (r3.2 != 5) = false,
             (r4.2 != 5) = true,
             (r4.2 != 5) = true,
             (r4.2 != 5) = true,
             true = true]) (by kernel_rfl) (show X.ret ≠ X.go from nofun) (cj (rng_lt h4) (cj (by omega) (cj (rng_ltI _ h4) (cj rfl (cj (rng_get _ h4) (cj (impl_Capture_ok r1 x1.Id 1 true r2 r3 h6) (cj (by simp [V.nv, nvL, nvL_all, nv_E3, nv_E5, nv_E9, nv_E22, nv_E23, nv_E24, nv_E26, nv_E27, nv_E29, nv_E33, nv_E92]) (cj (impl_Free_ok r1 x1.Id r2 r4 h7) (cj (by simp [V.nv, nvL, nvL_all, nv_E3, nv_E5, nv_E9, nv_E22, nv_E23, nv_E24, nv_E26, nv_E27, nv_E29, nv_E33, nv_E92]) (cj (impl_More_ok r1 x1.Id 1 r2 r5 h8) (cj (by simp [V.nv, nvL, nvL_all, nv_E3, nv_E5, nv_E9, nv_E22, nv_E23, nv_E24, nv_E26, nv_E27, nv_E29, nv_E33, nv_E92]) (cj (impl_Live_ok x1 r2 r6 h9) (cj rfl (cj h10 (cj h15 (cj h15 (cj h15 (cj h16 (cj h16 (cj h16 (cj1 rfl))))))))))))))))))))))) (fun h16 =>
            Pn.ite (fun h17 =>
             Pn.some (LpO.out [.bit true, .el (E33 x1), .call [] (V.tup [E29 r3.1, E3 r3.2]) [], .call [] (V.tup [E29 r4.1, E3 r4.2]) [], .call [] (V.tup [E29 r5.1, E3 r5.2]) [], .call [] (E4 r6) [], .bit false, .bit false, .bit false, .bit false, .bit false, .bit false, .bit false, .bit true, .wait 1, .mask [2], .ren []] (p := [(decide ((p1.length : Int) < (r1.Holds.length : Int))) = true,
              (0 : Int) ≤ (p1.length : Int),
              ((p1.length : Int) : Int) < ((List.map E33 r1.Holds).length : Int),
              look [] ((p1.length : Int).toNat) = none,
              (List.map E33 r1.Holds)[(p1.length : Int).toNat]? = some (E33 x1),
              Fn Tryz.prog 6 [(false, E29 r1), (false, E9 x1.Id), (false, E3 1), (false, E4 true), (false, E3 r2)] (V.tup [E29 r3.1, E3 r3.2]) [],
              (false || ((V.tup [E29 r3.1, E3 r3.2]).nv && nvL [])) = true,
              Fn Tryz.prog 7 [(false, E29 r1), (false, E9 x1.Id), (false, E3 r2)] (V.tup [E29 r4.1, E3 r4.2]) [],
              (false || ((V.tup [E29 r4.1, E3 r4.2]).nv && nvL [])) = true,
              Fn Tryz.prog 8 [(false, E29 r1), (false, E9 x1.Id), (false, E3 1), (false, E3 r2)] (V.tup [E29 r5.1, E3 r5.2]) [],
              (false || ((V.tup [E29 r5.1, E3 r5.2]).nv && nvL [])) = true,
              Fn Tryz.prog 9 [(false, E33 x1), (false, E3 r2)] (E4 r6) [],
              (true || ((E4 r6).nv && nvL [])) = true,
              r6 = false,
              (r3.2 != 5) = false,
              (r3.2 != 5) = false,
              (r3.2 != 5) = false,
              (r4.2 != 5) = false,
              (r4.2 != 5) = false,
              (r4.2 != 5) = false,
              (r5.2 != 5) = true]) (by kernel_rfl) (show X.ret ≠ X.go from nofun) (cj (rng_lt h4) (cj (by omega) (cj (rng_ltI _ h4) (cj rfl (cj (rng_get _ h4) (cj (impl_Capture_ok r1 x1.Id 1 true r2 r3 h6) (cj (by simp [V.nv, nvL, nvL_all, nv_E3, nv_E5, nv_E9, nv_E22, nv_E23, nv_E24, nv_E26, nv_E27, nv_E29, nv_E33, nv_E92]) (cj (impl_Free_ok r1 x1.Id r2 r4 h7) (cj (by simp [V.nv, nvL, nvL_all, nv_E3, nv_E5, nv_E9, nv_E22, nv_E23, nv_E24, nv_E26, nv_E27, nv_E29, nv_E33, nv_E92]) (cj (impl_More_ok r1 x1.Id 1 r2 r5 h8) (cj (by simp [V.nv, nvL, nvL_all, nv_E3, nv_E5, nv_E9, nv_E22, nv_E23, nv_E24, nv_E26, nv_E27, nv_E29, nv_E33, nv_E92]) (cj (impl_Live_ok x1 r2 r6 h9) (cj rfl (cj h10 (cj h15 (cj h15 (cj h15 (cj h16 (cj h16 (cj h16 (cj1 h17))))))))))))))))))))))) (fun h17 =>
             LpO.go [.bit true, .el (E33 x1), .call [] (V.tup [E29 r3.1, E3 r3.2]) [], .call [] (V.tup [E29 r4.1, E3 r4.2]) [], .call [] (V.tup [E29 r5.1, E3 r5.2]) [], .call [] (E4 r6) [], .bit false, .bit false, .bit false, .bit false, .bit false, .bit false, .bit false, .bit false, .wait 2, .mask [3, 4, 22, 23, 24], .ren [0, 1, 2, 3, 4], .nm 24 (V.sc (.int .i64 ((p1 ++ [x1]).length : Int)))] (p := [(decide ((p1.length : Int) < (r1.Holds.length : Int))) = true,
              (0 : Int) ≤ (p1.length : Int),
              ((p1.length : Int) : Int) < ((List.map E33 r1.Holds).length : Int),
              look [] ((p1.length : Int).toNat) = none,
              (List.map E33 r1.Holds)[(p1.length : Int).toNat]? = some (E33 x1),
              Fn Tryz.prog 6 [(false, E29 r1), (false, E9 x1.Id), (false, E3 1), (false, E4 true), (false, E3 r2)] (V.tup [E29 r3.1, E3 r3.2]) [],
              (false || ((V.tup [E29 r3.1, E3 r3.2]).nv && nvL [])) = true,
              Fn Tryz.prog 7 [(false, E29 r1), (false, E9 x1.Id), (false, E3 r2)] (V.tup [E29 r4.1, E3 r4.2]) [],
              (false || ((V.tup [E29 r4.1, E3 r4.2]).nv && nvL [])) = true,
              Fn Tryz.prog 8 [(false, E29 r1), (false, E9 x1.Id), (false, E3 1), (false, E3 r2)] (V.tup [E29 r5.1, E3 r5.2]) [],
              (false || ((V.tup [E29 r5.1, E3 r5.2]).nv && nvL [])) = true,
              Fn Tryz.prog 9 [(false, E33 x1), (false, E3 r2)] (E4 r6) [],
              (true || ((E4 r6).nv && nvL [])) = true,
              r6 = false,
              (r3.2 != 5) = false,
              (r3.2 != 5) = false,
              (r3.2 != 5) = false,
              (r4.2 != 5) = false,
              (r4.2 != 5) = false,
              (r4.2 != 5) = false,
              (r5.2 != 5) = false,
              V.sc (.int .i64 (i64 ((p1.length : Int) + 1))) = V.sc (.int .i64 ((p1 ++ [x1]).length : Int))]) (by kernel_rfl) (cj (rng_lt h4) (cj (by omega) (cj (rng_ltI _ h4) (cj rfl (cj (rng_get _ h4) (cj (impl_Capture_ok r1 x1.Id 1 true r2 r3 h6) (cj (by simp [V.nv, nvL, nvL_all, nv_E3, nv_E5, nv_E9, nv_E22, nv_E23, nv_E24, nv_E26, nv_E27, nv_E29, nv_E33, nv_E92]) (cj (impl_Free_ok r1 x1.Id r2 r4 h7) (cj (by simp [V.nv, nvL, nvL_all, nv_E3, nv_E5, nv_E9, nv_E22, nv_E23, nv_E24, nv_E26, nv_E27, nv_E29, nv_E33, nv_E92]) (cj (impl_More_ok r1 x1.Id 1 r2 r5 h8) (cj (by simp [V.nv, nvL, nvL_all, nv_E3, nv_E5, nv_E9, nv_E22, nv_E23, nv_E24, nv_E26, nv_E27, nv_E29, nv_E33, nv_E92]) (cj (impl_Live_ok x1 r2 r6 h9) (cj rfl (cj h10 (cj h15 (cj h15 (cj h15 (cj h16 (cj h16 (cj h16 (cj h17 (cj1 (rng_next h4 h5))))))))))))))))))))))) (laws_FnDue_l0_ok r1 r2 h5 t1 (p1 ++ [x1]) (rng_step h4))))))))))
def laws_FnDue (o : List Int) : Option (Bool) :=
 if (decide (1048576 < (o.length : Int))) = true then
  some true
 else
  (spec_MakeAcct o).bind fun r1 =>
  (spec_MakeNum o 40).bind fun r2 =>
  if (capOk r1.Holds.length) = true then
   (laws_FnDue_l0 r1 r2 r1.Holds).bind fun r7 =>
   Lo.elim r7 (fun s1 =>
    (impl_AcctSwept r1 r2).bind fun r8 =>
    (impl_Room r8 r2).bind fun r9 =>
    (impl_Room r1 r2).bind fun r10 =>
    if (r9 == r10) = true then
     (impl_Room r1 r2).bind fun r11 =>
     (impl_LiveSum r1.Holds r2).bind fun r12 =>
     if (r11 == (i64 ((i64 (r1.Limit - r1.Posted)) - r12))) = true then
      (impl_Stored r8.Holds).bind fun r13 =>
      (impl_LiveSum r1.Holds r2).bind fun r14 =>
      if (r13 == r14) = true then
       (impl_AcctSwept r8 r2).bind fun r15 =>
       (impl_AcctSame r15 r8).bind fun r16 =>
       some r16
      else
       some false
     else
      some false
    else
     some false) (fun s2 =>
    some false)
  else none
theorem laws_FnDue_ok (o : List Int) : Pn (fun y => Fn Tryz.prog 3 [(false, E22 o)] (E4 y) []) (laws_FnDue o) := by
  unfold laws_FnDue
  exact
   Pn.ite (fun h1 =>
    Pn.some (Fn.of [.wait 3, .nm 15 (V.sc (.int .i64 (o.length : Int))), .bit true] (p := [V.sc (.int .i64 ((List.map E5 o).length : Int)) = V.sc (.int .i64 (o.length : Int)),
     (decide (1048576 < (o.length : Int))) = true]) (by kernel_rfl) (cj (len_nm _ _) (cj1 h1)))) (fun h1 =>
    Pn.bind (fun r1 h2 =>
     Pn.bind (fun r2 h3 =>
      Pn.ite (fun h18 =>
       Pn.bind (fun r7 h19 =>
        Pn.lo (fun s1 h20 =>
         Pn.bind (fun r8 h22 =>
          Pn.bind (fun r9 h23 =>
           Pn.bind (fun r10 h24 =>
            Pn.ite (fun h25 =>
             Pn.bind (fun r11 h26 =>
              Pn.bind (fun r12 h27 =>
               Pn.ite (fun h28 =>
                Pn.bind (fun r13 h29 =>
                 Pn.bind (fun r14 h30 =>
                  Pn.ite (fun h31 =>
                   Pn.bind (fun r15 h32 =>
                    Pn.bind (fun r16 h33 =>
                     Pn.some (Fn.of [.wait 3, .nm 15 (V.sc (.int .i64 (o.length : Int))), .bit false, .call [] (E29 r1) [], .call [] (E3 r2) [], .wait 4, .nm 23 (V.sc (.int .i64 (r1.Holds.length : Int))), .wait 2, .mask [3, 4, 22, 23, 24], .ren [4, 0, 1, 2, 3], .loop (X.out 0) (st 127 [(3, V.ptr 0 0), (4, V.sc (.int .i64 r2))] [Blk.box 29 [V.sc (.string r1.Id), V.sc (.int .i64 r1.Limit), V.sc (.int .i64 r1.Posted), V.sc (.int .i64 r1.Most), V.sc (.int .i64 r1.MostSum), V.ow 1, V.sc (.int .i64 r1.Ring.Span), V.sc (.int .i64 r1.Ring.Head), V.ow 2, V.ow 3, V.ow 4], Blk.row 33 (List.map E33 r1.Holds) [], Blk.row 3 (List.map E3 r1.Ring.Counts) [], Blk.row 3 (List.map E3 r1.Ring.Sums) [], Blk.row 92 (List.map E92 r1.Slots) []] []), .call [] (E29 r8) [], .draw [], .call [] (E3 r9) [], .call [] (E3 r10) [], .bit true, .bit true, .bit true, .bit true, .bit true, .bit true, .bit true, .bit true, .bit true, .bit true, .bit true, .call [] (E3 r11) [], .bit true, .call [] (E3 r12) [], .bit true, .bit true, .bit true, .bit true, .bit true, .bit true, .bit true, .bit true, .bit true, .call [] (E3 r13) [], .bit true, .call [] (E3 r14) [], .bit true, .bit true, .bit true, .bit true, .bit true, .bit true, .call [] (E29 r15) [], .bit true, .call [] (E4 r16) [], .bit true] (p := [V.sc (.int .i64 ((List.map E5 o).length : Int)) = V.sc (.int .i64 (o.length : Int)),
                      (decide (1048576 < (o.length : Int))) = false,
                      Fn Tryz.prog 4 [(false, E22 o)] (E29 r1) [],
                      (true || ((E29 r1).nv && nvL [])) = true,
                      Fn Tryz.prog 5 [(false, E22 o), (false, E3 40)] (E3 r2) [],
                      (true || ((E3 r2).nv && nvL [])) = true,
                      V.sc (.int .i64 ((List.map E33 r1.Holds).length : Int)) = V.sc (.int .i64 (r1.Holds.length : Int)),
                      Loop Tryz.prog (sub (codeOf Tryz.prog 3) [1, 1, 1, 1, 0, 1, 0, 0]) (st 127 [(3, V.ptr 0 0), (4, V.sc (.int .i64 r2)), (22, V.ow 1), (23, V.sc (.int .i64 (r1.Holds.length : Int))), (24, V.sc (.int .i64 0))] [Blk.box 29 [V.sc (.string r1.Id), V.sc (.int .i64 r1.Limit), V.sc (.int .i64 r1.Posted), V.sc (.int .i64 r1.Most), V.sc (.int .i64 r1.MostSum), V.ow 1, V.sc (.int .i64 r1.Ring.Span), V.sc (.int .i64 r1.Ring.Head), V.ow 2, V.ow 3, V.ow 4], Blk.row 33 (List.map E33 r1.Holds) [], Blk.row 3 (List.map E3 r1.Ring.Counts) [], Blk.row 3 (List.map E3 r1.Ring.Sums) [], Blk.row 92 (List.map E92 r1.Slots) []] []) (X.out 0) (st 127 [(3, V.ptr 0 0), (4, V.sc (.int .i64 r2))] [Blk.box 29 [V.sc (.string r1.Id), V.sc (.int .i64 r1.Limit), V.sc (.int .i64 r1.Posted), V.sc (.int .i64 r1.Most), V.sc (.int .i64 r1.MostSum), V.ow 1, V.sc (.int .i64 r1.Ring.Span), V.sc (.int .i64 r1.Ring.Head), V.ow 2, V.ow 3, V.ow 4], Blk.row 33 (List.map E33 r1.Holds) [], Blk.row 3 (List.map E3 r1.Ring.Counts) [], Blk.row 3 (List.map E3 r1.Ring.Sums) [], Blk.row 92 (List.map E92 r1.Slots) []] []),
                      Fn Tryz.prog 10 [(false, E29 r1), (false, E3 r2)] (E29 r8) [],
                      (false || ((E29 r8).nv && nvL [])) = true,
                      Fn Tryz.prog 11 [(false, E29 r8), (false, E3 r2)] (E3 r9) [],
                      (false || ((E3 r9).nv && nvL [])) = true,
                      Fn Tryz.prog 11 [(false, E29 r1), (false, E3 r2)] (E3 r10) [],
                      (false || ((E3 r10).nv && nvL [])) = true,
                      (r9 == r10) = true,
                      (r9 == r10) = true,
                      (r9 == r10) = true,
                      (r9 == r10) = true,
                      (r9 == r10) = true,
                      (r9 == r10) = true,
                      (r9 == r10) = true,
                      (r9 == r10) = true,
                      (r9 == r10) = true,
                      (r9 == r10) = true,
                      (r9 == r10) = true,
                      Fn Tryz.prog 11 [(false, E29 r1), (false, E3 r2)] (E3 r11) [],
                      (false || ((E3 r11).nv && nvL [])) = true,
                      (r9 == r10) = true,
                      Fn Tryz.prog 12 [(false, E23 r1.Holds), (false, E3 r2)] (E3 r12) [],
                      (false || ((E3 r12).nv && nvL [])) = true,
                      (r9 == r10) = true,
                      (r9 == r10) = true,
                      (r9 == r10) = true,
                      (r11 == (i64 ((i64 (r1.Limit - r1.Posted)) - r12))) = true,
                      (r11 == (i64 ((i64 (r1.Limit - r1.Posted)) - r12))) = true,
                      (r11 == (i64 ((i64 (r1.Limit - r1.Posted)) - r12))) = true,
                      (r11 == (i64 ((i64 (r1.Limit - r1.Posted)) - r12))) = true,
                      (r11 == (i64 ((i64 (r1.Limit - r1.Posted)) - r12))) = true,
                      (r11 == (i64 ((i64 (r1.Limit - r1.Posted)) - r12))) = true,
                      Fn Tryz.prog 13 [(false, E23 r8.Holds)] (E3 r13) [],
                      (false || ((E3 r13).nv && nvL [])) = true,
                      (r11 == (i64 ((i64 (r1.Limit - r1.Posted)) - r12))) = true,
                      Fn Tryz.prog 12 [(false, E23 r1.Holds), (false, E3 r2)] (E3 r14) [],
                      (false || ((E3 r14).nv && nvL [])) = true,
                      (r11 == (i64 ((i64 (r1.Limit - r1.Posted)) - r12))) = true,
                      (r11 == (i64 ((i64 (r1.Limit - r1.Posted)) - r12))) = true,
                      (r13 == r14) = true,
                      (r13 == r14) = true,
                      (r13 == r14) = true,
                      (r13 == r14) = true,
                      Fn Tryz.prog 10 [(false, E29 r8), (false, E3 r2)] (E29 r15) [],
                      (false || ((E29 r15).nv && nvL [])) = true,
                      (r13 == r14) = true,
                      Fn Tryz.prog 14 [(false, E29 r15), (false, E29 r8)] (E4 r16) [],
                      (false || ((E4 r16).nv && nvL [])) = true,
                      (r13 == r14) = true]) (by kernel_rfl) (cj (len_nm _ _) (cj h1 (cj (spec_MakeAcct_ok o r1 h2) (cj rfl (cj (spec_MakeNum_ok o 40 r2 h3) (cj rfl (cj (len_nm _ _) (cj ((laws_FnDue_l0_ok r1 r2 h18 r1.Holds [] rfl r7 h19).at h20) (cj (impl_AcctSwept_ok r1 r2 r8 h22) (cj (by simp [V.nv, nvL, nvL_all, nv_E3, nv_E5, nv_E9, nv_E22, nv_E23, nv_E24, nv_E26, nv_E27, nv_E29, nv_E33, nv_E92]) (cj (impl_Room_ok r8 r2 r9 h23) (cj (by simp [V.nv, nvL, nvL_all, nv_E3]) (cj (impl_Room_ok r1 r2 r10 h24) (cj (by simp [V.nv, nvL, nvL_all, nv_E3]) (cj h25 (cj h25 (cj h25 (cj h25 (cj h25 (cj h25 (cj h25 (cj h25 (cj h25 (cj h25 (cj h25 (cj (impl_Room_ok r1 r2 r11 h26) (cj (by simp [V.nv, nvL, nvL_all, nv_E3]) (cj h25 (cj (impl_LiveSum_ok r1.Holds r2 r12 h27) (cj (by simp [V.nv, nvL, nvL_all, nv_E3]) (cj h25 (cj h25 (cj h25 (cj h28 (cj h28 (cj h28 (cj h28 (cj h28 (cj h28 (cj (impl_Stored_ok r8.Holds r13 h29) (cj (by simp [V.nv, nvL, nvL_all, nv_E3]) (cj h28 (cj (impl_LiveSum_ok r1.Holds r2 r14 h30) (cj (by simp [V.nv, nvL, nvL_all, nv_E3]) (cj h28 (cj h28 (cj h31 (cj h31 (cj h31 (cj h31 (cj (impl_AcctSwept_ok r8 r2 r15 h32) (cj (by simp [V.nv, nvL, nvL_all, nv_E3, nv_E5, nv_E9, nv_E22, nv_E23, nv_E24, nv_E26, nv_E27, nv_E29, nv_E33, nv_E92]) (cj h31 (cj (impl_AcctSame_ok r15 r8 r16 h33) (cj (by simp [V.nv, nvL, nvL_all, nv_E4]) (cj1 h31)))))))))))))))))))))))))))))))))))))))))))))))))))))))))))) (fun h31 =>
                   Pn.some (Fn.of [.wait 3, .nm 15 (V.sc (.int .i64 (o.length : Int))), .bit false, .call [] (E29 r1) [], .call [] (E3 r2) [], .wait 4, .nm 23 (V.sc (.int .i64 (r1.Holds.length : Int))), .wait 2, .mask [3, 4, 22, 23, 24], .ren [4, 0, 1, 2, 3], .loop (X.out 0) (st 127 [(3, V.ptr 0 0), (4, V.sc (.int .i64 r2))] [Blk.box 29 [V.sc (.string r1.Id), V.sc (.int .i64 r1.Limit), V.sc (.int .i64 r1.Posted), V.sc (.int .i64 r1.Most), V.sc (.int .i64 r1.MostSum), V.ow 1, V.sc (.int .i64 r1.Ring.Span), V.sc (.int .i64 r1.Ring.Head), V.ow 2, V.ow 3, V.ow 4], Blk.row 33 (List.map E33 r1.Holds) [], Blk.row 3 (List.map E3 r1.Ring.Counts) [], Blk.row 3 (List.map E3 r1.Ring.Sums) [], Blk.row 92 (List.map E92 r1.Slots) []] []), .call [] (E29 r8) [], .draw [], .call [] (E3 r9) [], .call [] (E3 r10) [], .bit true, .bit true, .bit true, .bit true, .bit true, .bit true, .bit true, .bit true, .bit true, .bit true, .bit true, .call [] (E3 r11) [], .bit true, .call [] (E3 r12) [], .bit true, .bit true, .bit true, .bit true, .bit true, .bit true, .bit true, .bit true, .bit true, .call [] (E3 r13) [], .bit true, .call [] (E3 r14) [], .bit true, .bit true, .bit false, .bit false, .bit false, .bit false, .bit false, .bit false] (p := [V.sc (.int .i64 ((List.map E5 o).length : Int)) = V.sc (.int .i64 (o.length : Int)),
                    (decide (1048576 < (o.length : Int))) = false,
                    Fn Tryz.prog 4 [(false, E22 o)] (E29 r1) [],
                    (true || ((E29 r1).nv && nvL [])) = true,
                    Fn Tryz.prog 5 [(false, E22 o), (false, E3 40)] (E3 r2) [],
                    (true || ((E3 r2).nv && nvL [])) = true,
                    V.sc (.int .i64 ((List.map E33 r1.Holds).length : Int)) = V.sc (.int .i64 (r1.Holds.length : Int)),
                    Loop Tryz.prog (sub (codeOf Tryz.prog 3) [1, 1, 1, 1, 0, 1, 0, 0]) (st 127 [(3, V.ptr 0 0), (4, V.sc (.int .i64 r2)), (22, V.ow 1), (23, V.sc (.int .i64 (r1.Holds.length : Int))), (24, V.sc (.int .i64 0))] [Blk.box 29 [V.sc (.string r1.Id), V.sc (.int .i64 r1.Limit), V.sc (.int .i64 r1.Posted), V.sc (.int .i64 r1.Most), V.sc (.int .i64 r1.MostSum), V.ow 1, V.sc (.int .i64 r1.Ring.Span), V.sc (.int .i64 r1.Ring.Head), V.ow 2, V.ow 3, V.ow 4], Blk.row 33 (List.map E33 r1.Holds) [], Blk.row 3 (List.map E3 r1.Ring.Counts) [], Blk.row 3 (List.map E3 r1.Ring.Sums) [], Blk.row 92 (List.map E92 r1.Slots) []] []) (X.out 0) (st 127 [(3, V.ptr 0 0), (4, V.sc (.int .i64 r2))] [Blk.box 29 [V.sc (.string r1.Id), V.sc (.int .i64 r1.Limit), V.sc (.int .i64 r1.Posted), V.sc (.int .i64 r1.Most), V.sc (.int .i64 r1.MostSum), V.ow 1, V.sc (.int .i64 r1.Ring.Span), V.sc (.int .i64 r1.Ring.Head), V.ow 2, V.ow 3, V.ow 4], Blk.row 33 (List.map E33 r1.Holds) [], Blk.row 3 (List.map E3 r1.Ring.Counts) [], Blk.row 3 (List.map E3 r1.Ring.Sums) [], Blk.row 92 (List.map E92 r1.Slots) []] []),
                    Fn Tryz.prog 10 [(false, E29 r1), (false, E3 r2)] (E29 r8) [],
                    (false || ((E29 r8).nv && nvL [])) = true,
                    Fn Tryz.prog 11 [(false, E29 r8), (false, E3 r2)] (E3 r9) [],
                    (false || ((E3 r9).nv && nvL [])) = true,
                    Fn Tryz.prog 11 [(false, E29 r1), (false, E3 r2)] (E3 r10) [],
                    (false || ((E3 r10).nv && nvL [])) = true,
                    (r9 == r10) = true,
                    (r9 == r10) = true,
                    (r9 == r10) = true,
                    (r9 == r10) = true,
                    (r9 == r10) = true,
                    (r9 == r10) = true,
                    (r9 == r10) = true,
                    (r9 == r10) = true,
                    (r9 == r10) = true,
                    (r9 == r10) = true,
                    (r9 == r10) = true,
                    Fn Tryz.prog 11 [(false, E29 r1), (false, E3 r2)] (E3 r11) [],
                    (false || ((E3 r11).nv && nvL [])) = true,
                    (r9 == r10) = true,
                    Fn Tryz.prog 12 [(false, E23 r1.Holds), (false, E3 r2)] (E3 r12) [],
                    (false || ((E3 r12).nv && nvL [])) = true,
                    (r9 == r10) = true,
                    (r9 == r10) = true,
                    (r9 == r10) = true,
                    (r11 == (i64 ((i64 (r1.Limit - r1.Posted)) - r12))) = true,
                    (r11 == (i64 ((i64 (r1.Limit - r1.Posted)) - r12))) = true,
                    (r11 == (i64 ((i64 (r1.Limit - r1.Posted)) - r12))) = true,
                    (r11 == (i64 ((i64 (r1.Limit - r1.Posted)) - r12))) = true,
                    (r11 == (i64 ((i64 (r1.Limit - r1.Posted)) - r12))) = true,
                    (r11 == (i64 ((i64 (r1.Limit - r1.Posted)) - r12))) = true,
                    Fn Tryz.prog 13 [(false, E23 r8.Holds)] (E3 r13) [],
                    (false || ((E3 r13).nv && nvL [])) = true,
                    (r11 == (i64 ((i64 (r1.Limit - r1.Posted)) - r12))) = true,
                    Fn Tryz.prog 12 [(false, E23 r1.Holds), (false, E3 r2)] (E3 r14) [],
                    (false || ((E3 r14).nv && nvL [])) = true,
                    (r11 == (i64 ((i64 (r1.Limit - r1.Posted)) - r12))) = true,
                    (r11 == (i64 ((i64 (r1.Limit - r1.Posted)) - r12))) = true,
                    (r13 == r14) = false,
                    (r13 == r14) = false,
                    (r13 == r14) = false,
                    (r13 == r14) = false,
                    (r13 == r14) = false,
                    (r13 == r14) = false]) (by kernel_rfl) (cj (len_nm _ _) (cj h1 (cj (spec_MakeAcct_ok o r1 h2) (cj rfl (cj (spec_MakeNum_ok o 40 r2 h3) (cj rfl (cj (len_nm _ _) (cj ((laws_FnDue_l0_ok r1 r2 h18 r1.Holds [] rfl r7 h19).at h20) (cj (impl_AcctSwept_ok r1 r2 r8 h22) (cj (by simp [V.nv, nvL, nvL_all, nv_E3, nv_E5, nv_E9, nv_E22, nv_E23, nv_E24, nv_E26, nv_E27, nv_E29, nv_E33, nv_E92]) (cj (impl_Room_ok r8 r2 r9 h23) (cj (by simp [V.nv, nvL, nvL_all, nv_E3]) (cj (impl_Room_ok r1 r2 r10 h24) (cj (by simp [V.nv, nvL, nvL_all, nv_E3]) (cj h25 (cj h25 (cj h25 (cj h25 (cj h25 (cj h25 (cj h25 (cj h25 (cj h25 (cj h25 (cj h25 (cj (impl_Room_ok r1 r2 r11 h26) (cj (by simp [V.nv, nvL, nvL_all, nv_E3]) (cj h25 (cj (impl_LiveSum_ok r1.Holds r2 r12 h27) (cj (by simp [V.nv, nvL, nvL_all, nv_E3]) (cj h25 (cj h25 (cj h25 (cj h28 (cj h28 (cj h28 (cj h28 (cj h28 (cj h28 (cj (impl_Stored_ok r8.Holds r13 h29) (cj (by simp [V.nv, nvL, nvL_all, nv_E3]) (cj h28 (cj (impl_LiveSum_ok r1.Holds r2 r14 h30) (cj (by simp [V.nv, nvL, nvL_all, nv_E3]) (cj h28 (cj h28 (cj h31 (cj h31 (cj h31 (cj h31 (cj h31 (cj1 h31))))))))))))))))))))))))))))))))))))))))))))))))))))))))) (fun h28 =>
                Pn.some (Fn.of [.wait 3, .nm 15 (V.sc (.int .i64 (o.length : Int))), .bit false, .call [] (E29 r1) [], .call [] (E3 r2) [], .wait 4, .nm 23 (V.sc (.int .i64 (r1.Holds.length : Int))), .wait 2, .mask [3, 4, 22, 23, 24], .ren [4, 0, 1, 2, 3], .loop (X.out 0) (st 127 [(3, V.ptr 0 0), (4, V.sc (.int .i64 r2))] [Blk.box 29 [V.sc (.string r1.Id), V.sc (.int .i64 r1.Limit), V.sc (.int .i64 r1.Posted), V.sc (.int .i64 r1.Most), V.sc (.int .i64 r1.MostSum), V.ow 1, V.sc (.int .i64 r1.Ring.Span), V.sc (.int .i64 r1.Ring.Head), V.ow 2, V.ow 3, V.ow 4], Blk.row 33 (List.map E33 r1.Holds) [], Blk.row 3 (List.map E3 r1.Ring.Counts) [], Blk.row 3 (List.map E3 r1.Ring.Sums) [], Blk.row 92 (List.map E92 r1.Slots) []] []), .call [] (E29 r8) [], .draw [], .call [] (E3 r9) [], .call [] (E3 r10) [], .bit true, .bit true, .bit true, .bit true, .bit true, .bit true, .bit true, .bit true, .bit true, .bit true, .bit true, .call [] (E3 r11) [], .bit true, .call [] (E3 r12) [], .bit true, .bit true, .bit true, .bit false, .bit false, .bit false, .bit false, .bit false, .bit false, .bit false, .bit false, .bit false, .bit false, .bit false, .bit false, .bit false, .bit false, .bit false] (p := [V.sc (.int .i64 ((List.map E5 o).length : Int)) = V.sc (.int .i64 (o.length : Int)),
                 (decide (1048576 < (o.length : Int))) = false,
                 Fn Tryz.prog 4 [(false, E22 o)] (E29 r1) [],
                 (true || ((E29 r1).nv && nvL [])) = true,
                 Fn Tryz.prog 5 [(false, E22 o), (false, E3 40)] (E3 r2) [],
                 (true || ((E3 r2).nv && nvL [])) = true,
                 V.sc (.int .i64 ((List.map E33 r1.Holds).length : Int)) = V.sc (.int .i64 (r1.Holds.length : Int)),
                 Loop Tryz.prog (sub (codeOf Tryz.prog 3) [1, 1, 1, 1, 0, 1, 0, 0]) (st 127 [(3, V.ptr 0 0), (4, V.sc (.int .i64 r2)), (22, V.ow 1), (23, V.sc (.int .i64 (r1.Holds.length : Int))), (24, V.sc (.int .i64 0))] [Blk.box 29 [V.sc (.string r1.Id), V.sc (.int .i64 r1.Limit), V.sc (.int .i64 r1.Posted), V.sc (.int .i64 r1.Most), V.sc (.int .i64 r1.MostSum), V.ow 1, V.sc (.int .i64 r1.Ring.Span), V.sc (.int .i64 r1.Ring.Head), V.ow 2, V.ow 3, V.ow 4], Blk.row 33 (List.map E33 r1.Holds) [], Blk.row 3 (List.map E3 r1.Ring.Counts) [], Blk.row 3 (List.map E3 r1.Ring.Sums) [], Blk.row 92 (List.map E92 r1.Slots) []] []) (X.out 0) (st 127 [(3, V.ptr 0 0), (4, V.sc (.int .i64 r2))] [Blk.box 29 [V.sc (.string r1.Id), V.sc (.int .i64 r1.Limit), V.sc (.int .i64 r1.Posted), V.sc (.int .i64 r1.Most), V.sc (.int .i64 r1.MostSum), V.ow 1, V.sc (.int .i64 r1.Ring.Span), V.sc (.int .i64 r1.Ring.Head), V.ow 2, V.ow 3, V.ow 4], Blk.row 33 (List.map E33 r1.Holds) [], Blk.row 3 (List.map E3 r1.Ring.Counts) [], Blk.row 3 (List.map E3 r1.Ring.Sums) [], Blk.row 92 (List.map E92 r1.Slots) []] []),
                 Fn Tryz.prog 10 [(false, E29 r1), (false, E3 r2)] (E29 r8) [],
                 (false || ((E29 r8).nv && nvL [])) = true,
                 Fn Tryz.prog 11 [(false, E29 r8), (false, E3 r2)] (E3 r9) [],
                 (false || ((E3 r9).nv && nvL [])) = true,
                 Fn Tryz.prog 11 [(false, E29 r1), (false, E3 r2)] (E3 r10) [],
                 (false || ((E3 r10).nv && nvL [])) = true,
                 (r9 == r10) = true,
                 (r9 == r10) = true,
                 (r9 == r10) = true,
                 (r9 == r10) = true,
                 (r9 == r10) = true,
                 (r9 == r10) = true,
                 (r9 == r10) = true,
                 (r9 == r10) = true,
                 (r9 == r10) = true,
                 (r9 == r10) = true,
                 (r9 == r10) = true,
                 Fn Tryz.prog 11 [(false, E29 r1), (false, E3 r2)] (E3 r11) [],
                 (false || ((E3 r11).nv && nvL [])) = true,
                 (r9 == r10) = true,
                 Fn Tryz.prog 12 [(false, E23 r1.Holds), (false, E3 r2)] (E3 r12) [],
                 (false || ((E3 r12).nv && nvL [])) = true,
                 (r9 == r10) = true,
                 (r9 == r10) = true,
                 (r9 == r10) = true,
                 (r11 == (i64 ((i64 (r1.Limit - r1.Posted)) - r12))) = false,
                 (r11 == (i64 ((i64 (r1.Limit - r1.Posted)) - r12))) = false,
                 (r11 == (i64 ((i64 (r1.Limit - r1.Posted)) - r12))) = false,
                 (r11 == (i64 ((i64 (r1.Limit - r1.Posted)) - r12))) = false,
                 (r11 == (i64 ((i64 (r1.Limit - r1.Posted)) - r12))) = false,
                 (r11 == (i64 ((i64 (r1.Limit - r1.Posted)) - r12))) = false,
                 (r11 == (i64 ((i64 (r1.Limit - r1.Posted)) - r12))) = false,
                 (r11 == (i64 ((i64 (r1.Limit - r1.Posted)) - r12))) = false,
                 (r11 == (i64 ((i64 (r1.Limit - r1.Posted)) - r12))) = false,
                 false = false,
                 false = false,
                 false = false,
                 false = false,
                 false = false,
                 false = false]) (by kernel_rfl) (cj (len_nm _ _) (cj h1 (cj (spec_MakeAcct_ok o r1 h2) (cj rfl (cj (spec_MakeNum_ok o 40 r2 h3) (cj rfl (cj (len_nm _ _) (cj ((laws_FnDue_l0_ok r1 r2 h18 r1.Holds [] rfl r7 h19).at h20) (cj (impl_AcctSwept_ok r1 r2 r8 h22) (cj (by simp [V.nv, nvL, nvL_all, nv_E3, nv_E5, nv_E9, nv_E22, nv_E23, nv_E24, nv_E26, nv_E27, nv_E29, nv_E33, nv_E92]) (cj (impl_Room_ok r8 r2 r9 h23) (cj (by simp [V.nv, nvL, nvL_all, nv_E3]) (cj (impl_Room_ok r1 r2 r10 h24) (cj (by simp [V.nv, nvL, nvL_all, nv_E3]) (cj h25 (cj h25 (cj h25 (cj h25 (cj h25 (cj h25 (cj h25 (cj h25 (cj h25 (cj h25 (cj h25 (cj (impl_Room_ok r1 r2 r11 h26) (cj (by simp [V.nv, nvL, nvL_all, nv_E3]) (cj h25 (cj (impl_LiveSum_ok r1.Holds r2 r12 h27) (cj (by simp [V.nv, nvL, nvL_all, nv_E3]) (cj h25 (cj h25 (cj h25 (cj h28 (cj h28 (cj h28 (cj h28 (cj h28 (cj h28 (cj h28 (cj h28 (cj h28 (cj rfl (cj rfl (cj rfl (cj rfl (cj rfl (cj1 rfl))))))))))))))))))))))))))))))))))))))))))))))))))))) (fun h25 =>
             Pn.some (Fn.of [.wait 3, .nm 15 (V.sc (.int .i64 (o.length : Int))), .bit false, .call [] (E29 r1) [], .call [] (E3 r2) [], .wait 4, .nm 23 (V.sc (.int .i64 (r1.Holds.length : Int))), .wait 2, .mask [3, 4, 22, 23, 24], .ren [4, 0, 1, 2, 3], .loop (X.out 0) (st 127 [(3, V.ptr 0 0), (4, V.sc (.int .i64 r2))] [Blk.box 29 [V.sc (.string r1.Id), V.sc (.int .i64 r1.Limit), V.sc (.int .i64 r1.Posted), V.sc (.int .i64 r1.Most), V.sc (.int .i64 r1.MostSum), V.ow 1, V.sc (.int .i64 r1.Ring.Span), V.sc (.int .i64 r1.Ring.Head), V.ow 2, V.ow 3, V.ow 4], Blk.row 33 (List.map E33 r1.Holds) [], Blk.row 3 (List.map E3 r1.Ring.Counts) [], Blk.row 3 (List.map E3 r1.Ring.Sums) [], Blk.row 92 (List.map E92 r1.Slots) []] []), .call [] (E29 r8) [], .draw [], .call [] (E3 r9) [], .call [] (E3 r10) [], .bit false, .bit false, .bit false, .bit false, .bit false, .bit false, .bit false, .bit false, .bit false, .bit false, .bit false, .bit false, .bit false, .bit false, .bit false, .bit false, .bit false, .bit false, .bit false, .bit false, .bit false, .bit false, .bit false, .bit false, .bit false, .bit false, .bit false, .bit false, .bit false, .bit false] (p := [V.sc (.int .i64 ((List.map E5 o).length : Int)) = V.sc (.int .i64 (o.length : Int)),
              (decide (1048576 < (o.length : Int))) = false,
              Fn Tryz.prog 4 [(false, E22 o)] (E29 r1) [],
              (true || ((E29 r1).nv && nvL [])) = true,
              Fn Tryz.prog 5 [(false, E22 o), (false, E3 40)] (E3 r2) [],
              (true || ((E3 r2).nv && nvL [])) = true,
              V.sc (.int .i64 ((List.map E33 r1.Holds).length : Int)) = V.sc (.int .i64 (r1.Holds.length : Int)),
              Loop Tryz.prog (sub (codeOf Tryz.prog 3) [1, 1, 1, 1, 0, 1, 0, 0]) (st 127 [(3, V.ptr 0 0), (4, V.sc (.int .i64 r2)), (22, V.ow 1), (23, V.sc (.int .i64 (r1.Holds.length : Int))), (24, V.sc (.int .i64 0))] [Blk.box 29 [V.sc (.string r1.Id), V.sc (.int .i64 r1.Limit), V.sc (.int .i64 r1.Posted), V.sc (.int .i64 r1.Most), V.sc (.int .i64 r1.MostSum), V.ow 1, V.sc (.int .i64 r1.Ring.Span), V.sc (.int .i64 r1.Ring.Head), V.ow 2, V.ow 3, V.ow 4], Blk.row 33 (List.map E33 r1.Holds) [], Blk.row 3 (List.map E3 r1.Ring.Counts) [], Blk.row 3 (List.map E3 r1.Ring.Sums) [], Blk.row 92 (List.map E92 r1.Slots) []] []) (X.out 0) (st 127 [(3, V.ptr 0 0), (4, V.sc (.int .i64 r2))] [Blk.box 29 [V.sc (.string r1.Id), V.sc (.int .i64 r1.Limit), V.sc (.int .i64 r1.Posted), V.sc (.int .i64 r1.Most), V.sc (.int .i64 r1.MostSum), V.ow 1, V.sc (.int .i64 r1.Ring.Span), V.sc (.int .i64 r1.Ring.Head), V.ow 2, V.ow 3, V.ow 4], Blk.row 33 (List.map E33 r1.Holds) [], Blk.row 3 (List.map E3 r1.Ring.Counts) [], Blk.row 3 (List.map E3 r1.Ring.Sums) [], Blk.row 92 (List.map E92 r1.Slots) []] []),
              Fn Tryz.prog 10 [(false, E29 r1), (false, E3 r2)] (E29 r8) [],
              (false || ((E29 r8).nv && nvL [])) = true,
              Fn Tryz.prog 11 [(false, E29 r8), (false, E3 r2)] (E3 r9) [],
              (false || ((E3 r9).nv && nvL [])) = true,
              Fn Tryz.prog 11 [(false, E29 r1), (false, E3 r2)] (E3 r10) [],
              (false || ((E3 r10).nv && nvL [])) = true,
              (r9 == r10) = false,
              (r9 == r10) = false,
              (r9 == r10) = false,
              (r9 == r10) = false,
              (r9 == r10) = false,
              (r9 == r10) = false,
              (r9 == r10) = false,
              (r9 == r10) = false,
              (r9 == r10) = false,
              (r9 == r10) = false,
              (r9 == r10) = false,
              (r9 == r10) = false,
              (r9 == r10) = false,
              (r9 == r10) = false,
              (r9 == r10) = false,
              false = false,
              false = false,
              false = false,
              false = false,
              false = false,
              false = false,
              false = false,
              false = false,
              false = false,
              false = false,
              false = false,
              false = false,
              false = false,
              false = false,
              false = false]) (by kernel_rfl) (cj (len_nm _ _) (cj h1 (cj (spec_MakeAcct_ok o r1 h2) (cj rfl (cj (spec_MakeNum_ok o 40 r2 h3) (cj rfl (cj (len_nm _ _) (cj ((laws_FnDue_l0_ok r1 r2 h18 r1.Holds [] rfl r7 h19).at h20) (cj (impl_AcctSwept_ok r1 r2 r8 h22) (cj (by simp [V.nv, nvL, nvL_all, nv_E3, nv_E5, nv_E9, nv_E22, nv_E23, nv_E24, nv_E26, nv_E27, nv_E29, nv_E33, nv_E92]) (cj (impl_Room_ok r8 r2 r9 h23) (cj (by simp [V.nv, nvL, nvL_all, nv_E3]) (cj (impl_Room_ok r1 r2 r10 h24) (cj (by simp [V.nv, nvL, nvL_all, nv_E3]) (cj h25 (cj h25 (cj h25 (cj h25 (cj h25 (cj h25 (cj h25 (cj h25 (cj h25 (cj h25 (cj h25 (cj h25 (cj h25 (cj h25 (cj h25 (cj rfl (cj rfl (cj rfl (cj rfl (cj rfl (cj rfl (cj rfl (cj rfl (cj rfl (cj rfl (cj rfl (cj rfl (cj rfl (cj rfl (cj1 rfl)))))))))))))))))))))))))))))))))))))))))))))))))) (fun s2 h21 =>
         Pn.some (Fn.of [.wait 3, .nm 15 (V.sc (.int .i64 (o.length : Int))), .bit false, .call [] (E29 r1) [], .call [] (E3 r2) [], .wait 4, .nm 23 (V.sc (.int .i64 (r1.Holds.length : Int))), .wait 2, .mask [3, 4, 22, 23, 24], .ren [4, 0, 1, 2, 3], .loop (X.ret) (st 127 [(2, V.sc (.bool false))] [] [])] (p := [V.sc (.int .i64 ((List.map E5 o).length : Int)) = V.sc (.int .i64 (o.length : Int)),
          (decide (1048576 < (o.length : Int))) = false,
          Fn Tryz.prog 4 [(false, E22 o)] (E29 r1) [],
          (true || ((E29 r1).nv && nvL [])) = true,
          Fn Tryz.prog 5 [(false, E22 o), (false, E3 40)] (E3 r2) [],
          (true || ((E3 r2).nv && nvL [])) = true,
          V.sc (.int .i64 ((List.map E33 r1.Holds).length : Int)) = V.sc (.int .i64 (r1.Holds.length : Int)),
          Loop Tryz.prog (sub (codeOf Tryz.prog 3) [1, 1, 1, 1, 0, 1, 0, 0]) (st 127 [(3, V.ptr 0 0), (4, V.sc (.int .i64 r2)), (22, V.ow 1), (23, V.sc (.int .i64 (r1.Holds.length : Int))), (24, V.sc (.int .i64 0))] [Blk.box 29 [V.sc (.string r1.Id), V.sc (.int .i64 r1.Limit), V.sc (.int .i64 r1.Posted), V.sc (.int .i64 r1.Most), V.sc (.int .i64 r1.MostSum), V.ow 1, V.sc (.int .i64 r1.Ring.Span), V.sc (.int .i64 r1.Ring.Head), V.ow 2, V.ow 3, V.ow 4], Blk.row 33 (List.map E33 r1.Holds) [], Blk.row 3 (List.map E3 r1.Ring.Counts) [], Blk.row 3 (List.map E3 r1.Ring.Sums) [], Blk.row 92 (List.map E92 r1.Slots) []] []) (X.ret) (st 127 [(2, V.sc (.bool false))] [] [])]) (by kernel_rfl) (cj (len_nm _ _) (cj h1 (cj (spec_MakeAcct_ok o r1 h2) (cj rfl (cj (spec_MakeNum_ok o 40 r2 h3) (cj rfl (cj (len_nm _ _) (cj1 ((laws_FnDue_l0_ok r1 r2 h18 r1.Holds [] rfl r7 h19).at h21))))))))))))) (fun h18 =>
       Pn.none))))
end Go.Proofs.YtdpbcmajmojolaaGreatM
