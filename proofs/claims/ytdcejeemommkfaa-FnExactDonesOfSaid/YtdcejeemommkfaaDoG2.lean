/- Printed by gen.py: functions on plain data, and that the program computes them. No condition. -/
import Derived.Test.YtdcejeemommkfaaDoG1
namespace Go.Proofs.YtdcejeemommkfaaM
set_option linter.unusedVariables false
set_option linter.unusedSimpArgs false
open Go.RowKit
set_option maxRecDepth 100000

def laws_markText_l0  : Nat → Int → ByteArray → Option (ByteArray)
  | 0, _, _ => none
  | fuel + 1, v1, v2 =>
   if (decide (0 < v1)) = true then
    if (decide ((bstr [u8 (i64 (48 + (Int.tmod v1 10)))]).size + v2.size ≤ 9223372036854775807)) = true then
     laws_markText_l0 fuel (i64 (Int.tdiv v1 10)) ((bstr [u8 (i64 (48 + (Int.tmod v1 10)))]) ++ v2)
    else none
   else
    some v2
theorem laws_markText_l0_ok  : ∀ (fuel : Nat) (v1 : Int) (v2 : ByteArray), Pn (LpO Try.prog (sub (codeOf Try.prog 153) [1, 1, 1, 0, 0, 0]) (st 20 [(0, V.sc (.int .i64 v1)), (3, V.sc (.string v2))] [] []) (fun (y : ByteArray) => (X.out 0, st 20 [(3, V.sc (.string y))] [] []))) (laws_markText_l0 fuel v1 v2)
  | 0, _, _ => Pn.none
  | fuel + 1, v1, v2 => by
    unfold laws_markText_l0
    exact
     Pn.ite (fun h2 =>
      Pn.ite (fun h3 =>
       LpO.go [.bit true, .ints [u8 (i64 (48 + (Int.tmod v1 10)))], .wait 7, .mask [0, 3], .ren []] (p := [(decide (0 < v1)) = true,
        (10 : Int) ≠ 0,
        [V.sc (.int .u8 (u8 (i64 (48 + (Int.tmod v1 10)))))] = [u8 (i64 (48 + (Int.tmod v1 10)))].map fun n => V.sc (.int .u8 n),
        (bstr [u8 (i64 (48 + (Int.tmod v1 10)))]).size + v2.size ≤ 9223372036854775807,
        (10 : Int) ≠ 0]) (by kernel_rfl) (cj h2 (cj (by decide) (cj rfl (cj (od h3) (cj1 (by decide)))))) (laws_markText_l0_ok fuel (i64 (Int.tdiv v1 10)) ((bstr [u8 (i64 (48 + (Int.tmod v1 10)))]) ++ v2))) (fun h3 =>
       Pn.none)) (fun h2 =>
      Pn.some (LpO.out [.bit false, .mask [3], .ren []] (p := [(decide (0 < v1)) = false]) (by kernel_rfl) (show X.out 0 ≠ X.go from nofun) (cj1 h2)))
def laws_markText (k : Int) : Option (ByteArray) :=
 if (decide (k ≤ 0)) = true then
  some (bs [109, 48])
 else
  (laws_markText_l0 FUEL k (bs [])).bind fun r1 =>
  if (decide ((bs [109]).size + r1.size ≤ 9223372036854775807)) = true then
   some ((bs [109]) ++ r1)
  else none
theorem laws_markText_ok (k : Int) : Pn (fun y => Fn Try.prog 153 [(false, E3 k)] (E9 y) []) (laws_markText k) := by
  unfold laws_markText
  exact
   Pn.ite (fun h1 =>
    Pn.some (Fn.of [.bit true] (p := [(decide (k ≤ 0)) = true]) (by kernel_rfl) (cj1 h1))) (fun h1 =>
    Pn.bind (fun r1 h4 =>
     Pn.ite (fun h5 =>
      Pn.some (Fn.of [.bit false, .wait 1, .mask [0, 3], .ren [], .loop (X.out 0) (st 20 [(3, V.sc (.string r1))] [] [])] (p := [(decide (k ≤ 0)) = false,
       Loop Try.prog (sub (codeOf Try.prog 153) [1, 1, 1, 0, 0, 0]) (st 20 [(0, V.sc (.int .i64 k)), (3, V.sc (.string (bs [])))] [] []) (X.out 0) (st 20 [(3, V.sc (.string r1))] [] []),
       (bs [109]).size + r1.size ≤ 9223372036854775807]) (by kernel_rfl) (cj h1 (cj (laws_markText_l0_ok FUEL k (bs []) r1 h4) (cj1 (od h5)))))) (fun h5 =>
      Pn.none)))
def laws_markHoldS_l0  : Nat → Int → Int → (List Hold) → Option (Int × (List Hold))
  | 0, _, _, _ => none
  | fuel + 1, v1, v2, v3 =>
   if (decide (v2 < (v3.length : Int))) = true then
    (laws_markText v1).bind fun r1 =>
    if (decide (0 ≤ v2)) = true then
     (v3[v2.toNat]?).bind fun x1 =>
     ((v3.set v2.toNat (Hold.mk r1 x1.Amount x1.Due))[v2.toNat]?).bind fun x2 =>
     (((v3.set v2.toNat (Hold.mk r1 x1.Amount x1.Due)).set v2.toNat (Hold.mk x2.Id (i64 (v1 + 1)) x2.Due))[v2.toNat]?).bind fun x3 =>
     laws_markHoldS_l0 fuel (i64 ((i64 ((i64 (v1 + 1)) + 1)) + 1)) (i64 (v2 + 1)) (((v3.set v2.toNat (Hold.mk r1 x1.Amount x1.Due)).set v2.toNat (Hold.mk x2.Id (i64 (v1 + 1)) x2.Due)).set v2.toNat (Hold.mk x3.Id x3.Amount (i64 ((i64 (v1 + 1)) + 1))))
    else none
   else
    some (v1, v3)
theorem laws_markHoldS_l0_ok  : ∀ (fuel : Nat) (v1 : Int) (v2 : Int) (v3 : List Hold), Pn (LpO Try.prog (sub (codeOf Try.prog 154) [1, 0, 1, 0, 0]) (st 35 [(0, V.ow 0), (1, V.sc (.int .i64 v1)), (5, V.sc (.int .i64 v2))] [Blk.row 36 (List.map E36 v3) []] [some 0]) (fun (y : Int × (List Hold)) => (X.out 0, st 35 [(1, V.sc (.int .i64 y.1))] [Blk.row 36 (List.map E36 y.2) []] [some 0]))) (laws_markHoldS_l0 fuel v1 v2 v3)
  | 0, _, _, _ => Pn.none
  | fuel + 1, v1, v2, v3 => by
    unfold laws_markHoldS_l0
    exact
     Pn.ite (fun h1 =>
      Pn.bind (fun r1 h2 =>
       Pn.ite (fun h3 =>
        Pn.bind (fun x1 h4 =>
         Pn.bind (fun x2 h5 =>
          Pn.bind (fun x3 h6 =>
           LpO.go [.wait 3, .nm 8 (V.sc (.int .i64 (v3.length : Int))), .bit true, .call [] (E9 r1) [], .el (E36 x1), .nb 0 (.row 36 (List.map E36 (v3.set v2.toNat (Hold.mk r1 x1.Amount x1.Due))) []), .el (E36 x2), .nb 0 (.row 36 (List.map E36 ((v3.set v2.toNat (Hold.mk r1 x1.Amount x1.Due)).set v2.toNat (Hold.mk x2.Id (i64 (v1 + 1)) x2.Due))) []), .el (E36 x3), .nb 0 (.row 36 (List.map E36 (((v3.set v2.toNat (Hold.mk r1 x1.Amount x1.Due)).set v2.toNat (Hold.mk x2.Id (i64 (v1 + 1)) x2.Due)).set v2.toNat (Hold.mk x3.Id x3.Amount (i64 ((i64 (v1 + 1)) + 1))))) []), .wait 7, .mask [0, 1, 5], .ren [0]] (p := [V.sc (.int .i64 ((List.map E36 v3).length : Int)) = V.sc (.int .i64 (v3.length : Int)),
            (decide (v2 < (v3.length : Int))) = true,
            Fn Try.prog 153 [(false, E3 v1)] (E9 r1) [],
            (true || ((E9 r1).nv && nvL [])) = true,
            (0 : Int) ≤ v2,
            (v2 : Int) < ((List.map E36 v3).length : Int),
            look [] v2.toNat = none,
            (List.map E36 v3)[v2.toNat]? = some (E36 x1),
            Blk.row 36 ((List.map E36 v3).set v2.toNat (V.agg [V.sc (.string r1), V.sc (.int .i64 x1.Amount), V.sc (.int .i64 x1.Due)])) [] = Blk.row 36 (List.map E36 (v3.set v2.toNat (Hold.mk r1 x1.Amount x1.Due))) [],
            (0 : Int) ≤ v2,
            (v2 : Int) < ((List.map E36 (v3.set v2.toNat (Hold.mk r1 x1.Amount x1.Due))).length : Int),
            look [] v2.toNat = none,
            (List.map E36 (v3.set v2.toNat (Hold.mk r1 x1.Amount x1.Due)))[v2.toNat]? = some (E36 x2),
            Blk.row 36 ((List.map E36 (v3.set v2.toNat (Hold.mk r1 x1.Amount x1.Due))).set v2.toNat (V.agg [V.sc (.string x2.Id), V.sc (.int .i64 (i64 (v1 + 1))), V.sc (.int .i64 x2.Due)])) [] = Blk.row 36 (List.map E36 ((v3.set v2.toNat (Hold.mk r1 x1.Amount x1.Due)).set v2.toNat (Hold.mk x2.Id (i64 (v1 + 1)) x2.Due))) [],
            (0 : Int) ≤ v2,
            (v2 : Int) < ((List.map E36 ((v3.set v2.toNat (Hold.mk r1 x1.Amount x1.Due)).set v2.toNat (Hold.mk x2.Id (i64 (v1 + 1)) x2.Due))).length : Int),
            look [] v2.toNat = none,
            (List.map E36 ((v3.set v2.toNat (Hold.mk r1 x1.Amount x1.Due)).set v2.toNat (Hold.mk x2.Id (i64 (v1 + 1)) x2.Due)))[v2.toNat]? = some (E36 x3),
            Blk.row 36 ((List.map E36 ((v3.set v2.toNat (Hold.mk r1 x1.Amount x1.Due)).set v2.toNat (Hold.mk x2.Id (i64 (v1 + 1)) x2.Due))).set v2.toNat (V.agg [V.sc (.string x3.Id), V.sc (.int .i64 x3.Amount), V.sc (.int .i64 (i64 ((i64 (v1 + 1)) + 1)))])) [] = Blk.row 36 (List.map E36 (((v3.set v2.toNat (Hold.mk r1 x1.Amount x1.Due)).set v2.toNat (Hold.mk x2.Id (i64 (v1 + 1)) x2.Due)).set v2.toNat (Hold.mk x3.Id x3.Amount (i64 ((i64 (v1 + 1)) + 1))))) []]) (by kernel_rfl) (cj (len_nm _ _) (cj h1 (cj (laws_markText_ok v1 r1 h2) (cj rfl (cj (od h3) (cj (map_ltN (od h3) h4) (cj rfl (cj (map_get h4) (cj (nb_set E36 _ _ (Hold.mk r1 x1.Amount x1.Due)) (cj (od h3) (cj (map_ltN (od h3) h5) (cj rfl (cj (map_get h5) (cj (nb_set E36 _ _ (Hold.mk x2.Id (i64 (v1 + 1)) x2.Due)) (cj (od h3) (cj (map_ltN (od h3) h6) (cj rfl (cj (map_get h6) (cj1 (nb_set E36 _ _ (Hold.mk x3.Id x3.Amount (i64 ((i64 (v1 + 1)) + 1))))))))))))))))))))))) (laws_markHoldS_l0_ok fuel (i64 ((i64 ((i64 (v1 + 1)) + 1)) + 1)) (i64 (v2 + 1)) (((v3.set v2.toNat (Hold.mk r1 x1.Amount x1.Due)).set v2.toNat (Hold.mk x2.Id (i64 (v1 + 1)) x2.Due)).set v2.toNat (Hold.mk x3.Id x3.Amount (i64 ((i64 (v1 + 1)) + 1))))))))) (fun h3 =>
        Pn.none))) (fun h1 =>
      Pn.some (LpO.out [.wait 3, .nm 8 (V.sc (.int .i64 (v3.length : Int))), .bit false, .mask [1], .ren [0]] (p := [V.sc (.int .i64 ((List.map E36 v3).length : Int)) = V.sc (.int .i64 (v3.length : Int)),
       (decide (v2 < (v3.length : Int))) = false]) (by kernel_rfl) (show X.out 0 ≠ X.go from nofun) (cj (len_nm _ _) (cj1 h1))))
def laws_markHoldS (a : List Hold) (k : Int) : Option (Int × (List Hold)) :=
 (laws_markHoldS_l0 FUEL k 0 a).bind fun r2 =>
 some (r2.1, r2.2)
theorem laws_markHoldS_ok (a : List Hold) (k : Int) : Pn (fun y => Fn Try.prog 154 [(true, E23 a), (false, E3 k)] (E3 y.1) [V.sl true 36 (List.map E36 y.2)]) (laws_markHoldS a k) := by
  unfold laws_markHoldS
  exact
   Pn.bind (fun r2 h7 =>
    Pn.some (Fn.of [.wait 3, .mask [0, 1, 5], .ren [0], .loop (X.out 0) (st 35 [(1, V.sc (.int .i64 r2.1))] [Blk.row 36 (List.map E36 r2.2) []] [some 0])] (p := [Loop Try.prog (sub (codeOf Try.prog 154) [1, 0, 1, 0, 0]) (st 35 [(0, V.ow 0), (1, V.sc (.int .i64 k)), (5, V.sc (.int .i64 0))] [Blk.row 36 (List.map E36 a) []] [some 0]) (X.out 0) (st 35 [(1, V.sc (.int .i64 r2.1))] [Blk.row 36 (List.map E36 r2.2) []] [some 0])]) (by kernel_rfl) (cj1 (laws_markHoldS_l0_ok FUEL k 0 a r2 h7))))
def laws_markIntS_l0  : Nat → Int → Int → (List Int) → Option (Int × (List Int))
  | 0, _, _, _ => none
  | fuel + 1, v1, v2, v3 =>
   if (decide (v2 < (v3.length : Int))) = true then
    if (decide (0 ≤ v2)) = true then
     (v3[v2.toNat]?).bind fun x1 =>
     laws_markIntS_l0 fuel (i64 (v1 + 1)) (i64 (v2 + 1)) (v3.set v2.toNat v1)
    else none
   else
    some (v1, v3)
theorem laws_markIntS_l0_ok  : ∀ (fuel : Nat) (v1 : Int) (v2 : Int) (v3 : List Int), Pn (LpO Try.prog (sub (codeOf Try.prog 42) [1, 0, 1, 0, 0]) (st 19 [(0, V.ow 0), (1, V.sc (.int .i64 v1)), (5, V.sc (.int .i64 v2))] [Blk.row 3 (List.map E3 v3) []] [some 0]) (fun (y : Int × (List Int)) => (X.out 0, st 19 [(1, V.sc (.int .i64 y.1))] [Blk.row 3 (List.map E3 y.2) []] [some 0]))) (laws_markIntS_l0 fuel v1 v2 v3)
  | 0, _, _, _ => Pn.none
  | fuel + 1, v1, v2, v3 => by
    unfold laws_markIntS_l0
    exact
     Pn.ite (fun h1 =>
      Pn.ite (fun h2 =>
       Pn.bind (fun x1 h3 =>
        LpO.go [.wait 3, .nm 8 (V.sc (.int .i64 (v3.length : Int))), .bit true, .el (E3 x1), .nb 0 (.row 3 (List.map E3 (v3.set v2.toNat v1)) []), .wait 7, .mask [0, 1, 5], .ren [0]] (p := [V.sc (.int .i64 ((List.map E3 v3).length : Int)) = V.sc (.int .i64 (v3.length : Int)),
         (decide (v2 < (v3.length : Int))) = true,
         (0 : Int) ≤ v2,
         (v2 : Int) < ((List.map E3 v3).length : Int),
         look [] v2.toNat = none,
         (List.map E3 v3)[v2.toNat]? = some (E3 x1),
         Blk.row 3 ((List.map E3 v3).set v2.toNat (V.sc (.int .i64 v1))) [] = Blk.row 3 (List.map E3 (v3.set v2.toNat v1)) []]) (by kernel_rfl) (cj (len_nm _ _) (cj h1 (cj (od h2) (cj (map_ltN (od h2) h3) (cj rfl (cj (map_get h3) (cj1 (nb_set E3 _ _ v1)))))))) (laws_markIntS_l0_ok fuel (i64 (v1 + 1)) (i64 (v2 + 1)) (v3.set v2.toNat v1)))) (fun h2 =>
       Pn.none)) (fun h1 =>
      Pn.some (LpO.out [.wait 3, .nm 8 (V.sc (.int .i64 (v3.length : Int))), .bit false, .mask [1], .ren [0]] (p := [V.sc (.int .i64 ((List.map E3 v3).length : Int)) = V.sc (.int .i64 (v3.length : Int)),
       (decide (v2 < (v3.length : Int))) = false]) (by kernel_rfl) (show X.out 0 ≠ X.go from nofun) (cj (len_nm _ _) (cj1 h1))))
def laws_markIntS (a : List Int) (k : Int) : Option (Int × (List Int)) :=
 (laws_markIntS_l0 FUEL k 0 a).bind fun r1 =>
 some (r1.1, r1.2)
theorem laws_markIntS_ok (a : List Int) (k : Int) : Pn (fun y => Fn Try.prog 42 [(true, E24 a), (false, E3 k)] (E3 y.1) [V.sl true 3 (List.map E3 y.2)]) (laws_markIntS a k) := by
  unfold laws_markIntS
  exact
   Pn.bind (fun r1 h4 =>
    Pn.some (Fn.of [.wait 3, .mask [0, 1, 5], .ren [0], .loop (X.out 0) (st 19 [(1, V.sc (.int .i64 r1.1))] [Blk.row 3 (List.map E3 r1.2) []] [some 0])] (p := [Loop Try.prog (sub (codeOf Try.prog 42) [1, 0, 1, 0, 0]) (st 19 [(0, V.ow 0), (1, V.sc (.int .i64 k)), (5, V.sc (.int .i64 0))] [Blk.row 3 (List.map E3 a) []] [some 0]) (X.out 0) (st 19 [(1, V.sc (.int .i64 r1.1))] [Blk.row 3 (List.map E3 r1.2) []] [some 0])]) (by kernel_rfl) (cj1 (laws_markIntS_l0_ok FUEL k 0 a r1 h4))))
def laws_markByteS_l0  : Nat → Int → Int → (List Int) → Option (Int × (List Int))
  | 0, _, _, _ => none
  | fuel + 1, v1, v2, v3 =>
   if (decide (v2 < (v3.length : Int))) = true then
    if (decide (0 ≤ v2)) = true then
     (v3[v2.toNat]?).bind fun x1 =>
     laws_markByteS_l0 fuel (i64 (v1 + 1)) (i64 (v2 + 1)) (v3.set v2.toNat (u8 v1))
    else none
   else
    some (v1, v3)
theorem laws_markByteS_l0_ok  : ∀ (fuel : Nat) (v1 : Int) (v2 : Int) (v3 : List Int), Pn (LpO Try.prog (sub (codeOf Try.prog 108) [1, 0, 1, 0, 0]) (st 20 [(0, V.ow 0), (1, V.sc (.int .i64 v1)), (5, V.sc (.int .i64 v2))] [Blk.row 5 (List.map E5 v3) []] [some 0]) (fun (y : Int × (List Int)) => (X.out 0, st 20 [(1, V.sc (.int .i64 y.1))] [Blk.row 5 (List.map E5 y.2) []] [some 0]))) (laws_markByteS_l0 fuel v1 v2 v3)
  | 0, _, _, _ => Pn.none
  | fuel + 1, v1, v2, v3 => by
    unfold laws_markByteS_l0
    exact
     Pn.ite (fun h1 =>
      Pn.ite (fun h2 =>
       Pn.bind (fun x1 h3 =>
        LpO.go [.wait 3, .nm 8 (V.sc (.int .i64 (v3.length : Int))), .bit true, .el (E5 x1), .nb 0 (.row 5 (List.map E5 (v3.set v2.toNat (u8 v1))) []), .wait 7, .mask [0, 1, 5], .ren [0]] (p := [V.sc (.int .i64 ((List.map E5 v3).length : Int)) = V.sc (.int .i64 (v3.length : Int)),
         (decide (v2 < (v3.length : Int))) = true,
         (0 : Int) ≤ v2,
         (v2 : Int) < ((List.map E5 v3).length : Int),
         look [] v2.toNat = none,
         (List.map E5 v3)[v2.toNat]? = some (E5 x1),
         Blk.row 5 ((List.map E5 v3).set v2.toNat (V.sc (.int .u8 (u8 v1)))) [] = Blk.row 5 (List.map E5 (v3.set v2.toNat (u8 v1))) []]) (by kernel_rfl) (cj (len_nm _ _) (cj h1 (cj (od h2) (cj (map_ltN (od h2) h3) (cj rfl (cj (map_get h3) (cj1 (nb_set E5 _ _ (u8 v1))))))))) (laws_markByteS_l0_ok fuel (i64 (v1 + 1)) (i64 (v2 + 1)) (v3.set v2.toNat (u8 v1))))) (fun h2 =>
       Pn.none)) (fun h1 =>
      Pn.some (LpO.out [.wait 3, .nm 8 (V.sc (.int .i64 (v3.length : Int))), .bit false, .mask [1], .ren [0]] (p := [V.sc (.int .i64 ((List.map E5 v3).length : Int)) = V.sc (.int .i64 (v3.length : Int)),
       (decide (v2 < (v3.length : Int))) = false]) (by kernel_rfl) (show X.out 0 ≠ X.go from nofun) (cj (len_nm _ _) (cj1 h1))))
def laws_markByteS (a : List Int) (k : Int) : Option (Int × (List Int)) :=
 (laws_markByteS_l0 FUEL k 0 a).bind fun r1 =>
 some (r1.1, r1.2)
theorem laws_markByteS_ok (a : List Int) (k : Int) : Pn (fun y => Fn Try.prog 108 [(true, E22 a), (false, E3 k)] (E3 y.1) [V.sl true 5 (List.map E5 y.2)]) (laws_markByteS a k) := by
  unfold laws_markByteS
  exact
   Pn.bind (fun r1 h4 =>
    Pn.some (Fn.of [.wait 3, .mask [0, 1, 5], .ren [0], .loop (X.out 0) (st 20 [(1, V.sc (.int .i64 r1.1))] [Blk.row 5 (List.map E5 r1.2) []] [some 0])] (p := [Loop Try.prog (sub (codeOf Try.prog 108) [1, 0, 1, 0, 0]) (st 20 [(0, V.ow 0), (1, V.sc (.int .i64 k)), (5, V.sc (.int .i64 0))] [Blk.row 5 (List.map E5 a) []] [some 0]) (X.out 0) (st 20 [(1, V.sc (.int .i64 r1.1))] [Blk.row 5 (List.map E5 r1.2) []] [some 0])]) (by kernel_rfl) (cj1 (laws_markByteS_l0_ok FUEL k 0 a r1 h4))))
def laws_markSlotS_l0  : Nat → Int → Int → (List Slot) → Option (Int × (List Slot))
  | 0, _, _, _ => none
  | fuel + 1, v1, v2, v3 =>
   if (decide (v2 < (v3.length : Int))) = true then
    (laws_markText v1).bind fun r1 =>
    if (decide (0 ≤ v2)) = true then
     (v3[v2.toNat]?).bind fun x1 =>
     (laws_markText (i64 (v1 + 1))).bind fun r2 =>
     (laws_markByteS x1.Reply (i64 ((i64 (v1 + 1)) + 1))).bind fun r3 =>
     laws_markSlotS_l0 fuel r3.1 (i64 (v2 + 1)) (v3.set v2.toNat (Slot.mk r1 r2 r3.2))
    else none
   else
    some (v1, v3)
theorem laws_markSlotS_l0_ok  : ∀ (fuel : Nat) (v1 : Int) (v2 : Int) (v3 : List Slot), Pn (LpO Try.prog (sub (codeOf Try.prog 155) [1, 0, 1, 0, 0]) (st 36 [(0, V.ow 0), (1, V.sc (.int .i64 v1)), (5, V.sc (.int .i64 v2))] [Blk.row 164 (List.map E164 v3) []] [some 0]) (fun (y : Int × (List Slot)) => (X.out 0, st 36 [(1, V.sc (.int .i64 y.1))] [Blk.row 164 (List.map E164 y.2) []] [some 0]))) (laws_markSlotS_l0 fuel v1 v2 v3)
  | 0, _, _, _ => Pn.none
  | fuel + 1, v1, v2, v3 => by
    unfold laws_markSlotS_l0
    exact
     Pn.ite (fun h1 =>
      Pn.bind (fun r1 h2 =>
       Pn.ite (fun h3 =>
        Pn.bind (fun x1 h4 =>
         Pn.bind (fun r2 h5 =>
          Pn.bind (fun r3 h6 =>
           LpO.go [.wait 3, .nm 8 (V.sc (.int .i64 (v3.length : Int))), .bit true, .call [] (E9 r1) [], .wait 1, .foc 0 v2.toNat (E164 x1), .fo 0, .call [] (E9 r2) [], .fo 0, .fo 0, .call [true, false] (E3 r3.1) [V.sl true 5 (List.map E5 r3.2)], .wait 5, .shut 0, .nb 0 (.row 164 (List.map E164 (v3.set v2.toNat (Slot.mk r1 r2 r3.2))) []), .mask [0, 1, 5], .ren [0]] (p := [V.sc (.int .i64 ((List.map E164 v3).length : Int)) = V.sc (.int .i64 (v3.length : Int)),
            (decide (v2 < (v3.length : Int))) = true,
            Fn Try.prog 153 [(false, E3 v1)] (E9 r1) [],
            (true || ((E9 r1).nv && nvL [])) = true,
            (0 : Int) ≤ v2,
            (v2 : Int) < ((List.map E164 v3).length : Int),
            look [] v2.toNat = none,
            (List.map E164 v3)[v2.toNat]? = some (E164 x1),
            look [(v2.toNat, V.agg [V.sc (.string x1.Trace), V.sc (.string x1.Mti), V.ow 1])] v2.toNat = some (V.agg [V.sc (.string x1.Trace), V.sc (.string x1.Mti), V.ow 1]),
            v2.toNat < (List.map E164 v3).length,
            v2.toNat = v2.toNat,
            Fn Try.prog 153 [(false, E3 (i64 (v1 + 1)))] (E9 r2) [],
            (true || ((E9 r2).nv && nvL [])) = true,
            (0 : Int) ≤ v2,
            (v2 : Int) < ((List.map E164 v3).length : Int),
            look [(v2.toNat, V.agg [V.sc (.string r1), V.sc (.string x1.Mti), V.ow 1])] v2.toNat = some (V.agg [V.sc (.string r1), V.sc (.string x1.Mti), V.ow 1]),
            v2.toNat < (List.map E164 v3).length,
            v2.toNat = v2.toNat,
            (0 : Int) ≤ v2,
            (v2 : Int) < ((List.map E164 v3).length : Int),
            look [(v2.toNat, V.agg [V.sc (.string r1), V.sc (.string r2), V.ow 1])] v2.toNat = some (V.agg [V.sc (.string r1), V.sc (.string r2), V.ow 1]),
            v2.toNat < (List.map E164 v3).length,
            Fn Try.prog 108 [(true, E22 x1.Reply), (false, E3 (i64 ((i64 (v1 + 1)) + 1)))] (E3 r3.1) [V.sl true 5 (List.map E5 r3.2)],
            (true || ((E3 r3.1).nv && nvL [V.sl true 5 (List.map E5 r3.2)])) = true,
            Blk.row 164 ((List.map E164 v3).set v2.toNat (V.agg [V.sc (.string r1), V.sc (.string r2), V.sl true 5 (List.map E5 r3.2)])) [] = Blk.row 164 (List.map E164 (v3.set v2.toNat (Slot.mk r1 r2 r3.2))) []]) (by kernel_rfl) (cj (len_nm _ _) (cj h1 (cj (laws_markText_ok v1 r1 h2) (cj rfl (cj (od h3) (cj (map_ltN (od h3) h4) (cj rfl (cj (map_get h4) (cj (look_cons_self _ _ _) (cj (map_lt h4) (cj rfl (cj (laws_markText_ok (i64 (v1 + 1)) r2 h5) (cj rfl (cj (od h3) (cj (map_ltN (od h3) h4) (cj (look_cons_self _ _ _) (cj (map_lt h4) (cj rfl (cj (od h3) (cj (map_ltN (od h3) h4) (cj (look_cons_self _ _ _) (cj (map_lt h4) (cj (laws_markByteS_ok x1.Reply (i64 ((i64 (v1 + 1)) + 1)) r3 h6) (cj rfl (cj1 (nb_set E164 _ _ (Slot.mk r1 r2 r3.2))))))))))))))))))))))))))) (laws_markSlotS_l0_ok fuel r3.1 (i64 (v2 + 1)) (v3.set v2.toNat (Slot.mk r1 r2 r3.2))))))) (fun h3 =>
        Pn.none))) (fun h1 =>
      Pn.some (LpO.out [.wait 3, .nm 8 (V.sc (.int .i64 (v3.length : Int))), .bit false, .mask [1], .ren [0]] (p := [V.sc (.int .i64 ((List.map E164 v3).length : Int)) = V.sc (.int .i64 (v3.length : Int)),
       (decide (v2 < (v3.length : Int))) = false]) (by kernel_rfl) (show X.out 0 ≠ X.go from nofun) (cj (len_nm _ _) (cj1 h1))))
def laws_markSlotS (a : List Slot) (k : Int) : Option (Int × (List Slot)) :=
 (laws_markSlotS_l0 FUEL k 0 a).bind fun r4 =>
 some (r4.1, r4.2)
theorem laws_markSlotS_ok (a : List Slot) (k : Int) : Pn (fun y => Fn Try.prog 155 [(true, E27 a), (false, E3 k)] (E3 y.1) [V.sl true 164 (List.map E164 y.2)]) (laws_markSlotS a k) := by
  unfold laws_markSlotS
  exact
   Pn.bind (fun r4 h7 =>
    Pn.some (Fn.of [.wait 3, .mask [0, 1, 5], .ren [0], .loop (X.out 0) (st 36 [(1, V.sc (.int .i64 r4.1))] [Blk.row 164 (List.map E164 r4.2) []] [some 0])] (p := [Loop Try.prog (sub (codeOf Try.prog 155) [1, 0, 1, 0, 0]) (st 36 [(0, V.ow 0), (1, V.sc (.int .i64 k)), (5, V.sc (.int .i64 0))] [Blk.row 164 (List.map E164 a) []] [some 0]) (X.out 0) (st 36 [(1, V.sc (.int .i64 r4.1))] [Blk.row 164 (List.map E164 r4.2) []] [some 0])]) (by kernel_rfl) (cj1 (laws_markSlotS_l0_ok FUEL k 0 a r4 h7))))
def laws_markAcctS_l0  : Nat → Int → Int → (List Acct) → Option (Int × (List Acct))
  | 0, _, _, _ => none
  | fuel + 1, v1, v2, v3 =>
   if (decide (v2 < (v3.length : Int))) = true then
    (laws_markText v1).bind fun r1 =>
    if (decide (0 ≤ v2)) = true then
     (v3[v2.toNat]?).bind fun x1 =>
     (laws_markHoldS x1.Holds (i64 ((i64 ((i64 ((i64 ((i64 (v1 + 1)) + 1)) + 1)) + 1)) + 1))).bind fun r2 =>
     (laws_markIntS x1.Ring.Counts (i64 ((i64 (r2.1 + 1)) + 1))).bind fun r3 =>
     (laws_markIntS x1.Ring.Sums r3.1).bind fun r4 =>
     (laws_markSlotS x1.Slots r4.1).bind fun r5 =>
     laws_markAcctS_l0 fuel r5.1 (i64 (v2 + 1)) (v3.set v2.toNat (Acct.mk r1 (i64 (v1 + 1)) (i64 ((i64 (v1 + 1)) + 1)) (i64 ((i64 ((i64 (v1 + 1)) + 1)) + 1)) (i64 ((i64 ((i64 ((i64 (v1 + 1)) + 1)) + 1)) + 1)) r2.2 (Ring.mk r2.1 (i64 (r2.1 + 1)) r3.2 r4.2) r5.2))
    else none
   else
    some (v1, v3)
theorem laws_markAcctS_l0_ok  : ∀ (fuel : Nat) (v1 : Int) (v2 : Int) (v3 : List Acct), Pn (LpO Try.prog (sub (codeOf Try.prog 95) [1, 0, 1, 0, 0]) (st 95 [(0, V.ow 0), (1, V.sc (.int .i64 v1)), (5, V.sc (.int .i64 v2))] [Blk.row 29 (List.map E29 v3) []] [some 0]) (fun (y : Int × (List Acct)) => (X.out 0, st 95 [(1, V.sc (.int .i64 y.1))] [Blk.row 29 (List.map E29 y.2) []] [some 0]))) (laws_markAcctS_l0 fuel v1 v2 v3)
  | 0, _, _, _ => Pn.none
  | fuel + 1, v1, v2, v3 => by
    unfold laws_markAcctS_l0
    exact
     Pn.ite (fun h1 =>
      Pn.bind (fun r1 h2 =>
       Pn.ite (fun h3 =>
        Pn.bind (fun x1 h4 =>
         Pn.bind (fun r2 h5 =>
          Pn.bind (fun r3 h6 =>
           Pn.bind (fun r4 h7 =>
            Pn.bind (fun r5 h8 =>
             LpO.go [.wait 3, .nm 8 (V.sc (.int .i64 (v3.length : Int))), .bit true, .call [] (E9 r1) [], .wait 1, .foc 0 v2.toNat (E29 x1), .fo 0, .fo 0, .fo 0, .fo 0, .fo 0, .fo 0, .call [true, false] (E3 r2.1) [V.sl true 36 (List.map E36 r2.2)], .fo 0, .fo 0, .fo 0, .call [true, false] (E3 r3.1) [V.sl true 3 (List.map E3 r3.2)], .fo 0, .call [true, false] (E3 r4.1) [V.sl true 3 (List.map E3 r4.2)], .fo 0, .call [true, false] (E3 r5.1) [V.sl true 164 (List.map E164 r5.2)], .wait 5, .shut 0, .nb 0 (.row 29 (List.map E29 (v3.set v2.toNat (Acct.mk r1 (i64 (v1 + 1)) (i64 ((i64 (v1 + 1)) + 1)) (i64 ((i64 ((i64 (v1 + 1)) + 1)) + 1)) (i64 ((i64 ((i64 ((i64 (v1 + 1)) + 1)) + 1)) + 1)) r2.2 (Ring.mk r2.1 (i64 (r2.1 + 1)) r3.2 r4.2) r5.2))) []), .mask [0, 1, 5], .ren [0]] (p := [V.sc (.int .i64 ((List.map E29 v3).length : Int)) = V.sc (.int .i64 (v3.length : Int)),
              (decide (v2 < (v3.length : Int))) = true,
              Fn Try.prog 153 [(false, E3 v1)] (E9 r1) [],
              (true || ((E9 r1).nv && nvL [])) = true,
              (0 : Int) ≤ v2,
              (v2 : Int) < ((List.map E29 v3).length : Int),
              look [] v2.toNat = none,
              (List.map E29 v3)[v2.toNat]? = some (E29 x1),
              look [(v2.toNat, V.agg [V.sc (.string x1.Id), V.sc (.int .i64 x1.Limit), V.sc (.int .i64 x1.Posted), V.sc (.int .i64 x1.Most), V.sc (.int .i64 x1.MostSum), V.ow 1, V.sc (.int .i64 x1.Ring.Span), V.sc (.int .i64 x1.Ring.Head), V.ow 2, V.ow 3, V.ow 4])] v2.toNat = some (V.agg [V.sc (.string x1.Id), V.sc (.int .i64 x1.Limit), V.sc (.int .i64 x1.Posted), V.sc (.int .i64 x1.Most), V.sc (.int .i64 x1.MostSum), V.ow 1, V.sc (.int .i64 x1.Ring.Span), V.sc (.int .i64 x1.Ring.Head), V.ow 2, V.ow 3, V.ow 4]),
              v2.toNat < (List.map E29 v3).length,
              v2.toNat = v2.toNat,
              (0 : Int) ≤ v2,
              (v2 : Int) < ((List.map E29 v3).length : Int),
              look [(v2.toNat, V.agg [V.sc (.string r1), V.sc (.int .i64 x1.Limit), V.sc (.int .i64 x1.Posted), V.sc (.int .i64 x1.Most), V.sc (.int .i64 x1.MostSum), V.ow 1, V.sc (.int .i64 x1.Ring.Span), V.sc (.int .i64 x1.Ring.Head), V.ow 2, V.ow 3, V.ow 4])] v2.toNat = some (V.agg [V.sc (.string r1), V.sc (.int .i64 x1.Limit), V.sc (.int .i64 x1.Posted), V.sc (.int .i64 x1.Most), V.sc (.int .i64 x1.MostSum), V.ow 1, V.sc (.int .i64 x1.Ring.Span), V.sc (.int .i64 x1.Ring.Head), V.ow 2, V.ow 3, V.ow 4]),
              v2.toNat < (List.map E29 v3).length,
              v2.toNat = v2.toNat,
              (0 : Int) ≤ v2,
              (v2 : Int) < ((List.map E29 v3).length : Int),
              look [(v2.toNat, V.agg [V.sc (.string r1), V.sc (.int .i64 (i64 (v1 + 1))), V.sc (.int .i64 x1.Posted), V.sc (.int .i64 x1.Most), V.sc (.int .i64 x1.MostSum), V.ow 1, V.sc (.int .i64 x1.Ring.Span), V.sc (.int .i64 x1.Ring.Head), V.ow 2, V.ow 3, V.ow 4])] v2.toNat = some (V.agg [V.sc (.string r1), V.sc (.int .i64 (i64 (v1 + 1))), V.sc (.int .i64 x1.Posted), V.sc (.int .i64 x1.Most), V.sc (.int .i64 x1.MostSum), V.ow 1, V.sc (.int .i64 x1.Ring.Span), V.sc (.int .i64 x1.Ring.Head), V.ow 2, V.ow 3, V.ow 4]),
              v2.toNat < (List.map E29 v3).length,
              v2.toNat = v2.toNat,
              (0 : Int) ≤ v2,
              (v2 : Int) < ((List.map E29 v3).length : Int),
              look [(v2.toNat, V.agg [V.sc (.string r1), V.sc (.int .i64 (i64 (v1 + 1))), V.sc (.int .i64 (i64 ((i64 (v1 + 1)) + 1))), V.sc (.int .i64 x1.Most), V.sc (.int .i64 x1.MostSum), V.ow 1, V.sc (.int .i64 x1.Ring.Span), V.sc (.int .i64 x1.Ring.Head), V.ow 2, V.ow 3, V.ow 4])] v2.toNat = some (V.agg [V.sc (.string r1), V.sc (.int .i64 (i64 (v1 + 1))), V.sc (.int .i64 (i64 ((i64 (v1 + 1)) + 1))), V.sc (.int .i64 x1.Most), V.sc (.int .i64 x1.MostSum), V.ow 1, V.sc (.int .i64 x1.Ring.Span), V.sc (.int .i64 x1.Ring.Head), V.ow 2, V.ow 3, V.ow 4]),
              v2.toNat < (List.map E29 v3).length,
              v2.toNat = v2.toNat,
              (0 : Int) ≤ v2,
              (v2 : Int) < ((List.map E29 v3).length : Int),
              look [(v2.toNat, V.agg [V.sc (.string r1), V.sc (.int .i64 (i64 (v1 + 1))), V.sc (.int .i64 (i64 ((i64 (v1 + 1)) + 1))), V.sc (.int .i64 (i64 ((i64 ((i64 (v1 + 1)) + 1)) + 1))), V.sc (.int .i64 x1.MostSum), V.ow 1, V.sc (.int .i64 x1.Ring.Span), V.sc (.int .i64 x1.Ring.Head), V.ow 2, V.ow 3, V.ow 4])] v2.toNat = some (V.agg [V.sc (.string r1), V.sc (.int .i64 (i64 (v1 + 1))), V.sc (.int .i64 (i64 ((i64 (v1 + 1)) + 1))), V.sc (.int .i64 (i64 ((i64 ((i64 (v1 + 1)) + 1)) + 1))), V.sc (.int .i64 x1.MostSum), V.ow 1, V.sc (.int .i64 x1.Ring.Span), V.sc (.int .i64 x1.Ring.Head), V.ow 2, V.ow 3, V.ow 4]),
              v2.toNat < (List.map E29 v3).length,
              v2.toNat = v2.toNat,
              (0 : Int) ≤ v2,
              (v2 : Int) < ((List.map E29 v3).length : Int),
              look [(v2.toNat, V.agg [V.sc (.string r1), V.sc (.int .i64 (i64 (v1 + 1))), V.sc (.int .i64 (i64 ((i64 (v1 + 1)) + 1))), V.sc (.int .i64 (i64 ((i64 ((i64 (v1 + 1)) + 1)) + 1))), V.sc (.int .i64 (i64 ((i64 ((i64 ((i64 (v1 + 1)) + 1)) + 1)) + 1))), V.ow 1, V.sc (.int .i64 x1.Ring.Span), V.sc (.int .i64 x1.Ring.Head), V.ow 2, V.ow 3, V.ow 4])] v2.toNat = some (V.agg [V.sc (.string r1), V.sc (.int .i64 (i64 (v1 + 1))), V.sc (.int .i64 (i64 ((i64 (v1 + 1)) + 1))), V.sc (.int .i64 (i64 ((i64 ((i64 (v1 + 1)) + 1)) + 1))), V.sc (.int .i64 (i64 ((i64 ((i64 ((i64 (v1 + 1)) + 1)) + 1)) + 1))), V.ow 1, V.sc (.int .i64 x1.Ring.Span), V.sc (.int .i64 x1.Ring.Head), V.ow 2, V.ow 3, V.ow 4]),
              v2.toNat < (List.map E29 v3).length,
              Fn Try.prog 154 [(true, E23 x1.Holds), (false, E3 (i64 ((i64 ((i64 ((i64 ((i64 (v1 + 1)) + 1)) + 1)) + 1)) + 1)))] (E3 r2.1) [V.sl true 36 (List.map E36 r2.2)],
              (true || ((E3 r2.1).nv && nvL [V.sl true 36 (List.map E36 r2.2)])) = true,
              (0 : Int) ≤ v2,
              (v2 : Int) < ((List.map E29 v3).length : Int),
              look [(v2.toNat, V.agg [V.sc (.string r1), V.sc (.int .i64 (i64 (v1 + 1))), V.sc (.int .i64 (i64 ((i64 (v1 + 1)) + 1))), V.sc (.int .i64 (i64 ((i64 ((i64 (v1 + 1)) + 1)) + 1))), V.sc (.int .i64 (i64 ((i64 ((i64 ((i64 (v1 + 1)) + 1)) + 1)) + 1))), V.ow 1, V.sc (.int .i64 x1.Ring.Span), V.sc (.int .i64 x1.Ring.Head), V.ow 2, V.ow 3, V.ow 4])] v2.toNat = some (V.agg [V.sc (.string r1), V.sc (.int .i64 (i64 (v1 + 1))), V.sc (.int .i64 (i64 ((i64 (v1 + 1)) + 1))), V.sc (.int .i64 (i64 ((i64 ((i64 (v1 + 1)) + 1)) + 1))), V.sc (.int .i64 (i64 ((i64 ((i64 ((i64 (v1 + 1)) + 1)) + 1)) + 1))), V.ow 1, V.sc (.int .i64 x1.Ring.Span), V.sc (.int .i64 x1.Ring.Head), V.ow 2, V.ow 3, V.ow 4]),
              v2.toNat < (List.map E29 v3).length,
              v2.toNat = v2.toNat,
              (0 : Int) ≤ v2,
              (v2 : Int) < ((List.map E29 v3).length : Int),
              look [(v2.toNat, V.agg [V.sc (.string r1), V.sc (.int .i64 (i64 (v1 + 1))), V.sc (.int .i64 (i64 ((i64 (v1 + 1)) + 1))), V.sc (.int .i64 (i64 ((i64 ((i64 (v1 + 1)) + 1)) + 1))), V.sc (.int .i64 (i64 ((i64 ((i64 ((i64 (v1 + 1)) + 1)) + 1)) + 1))), V.ow 1, V.sc (.int .i64 r2.1), V.sc (.int .i64 x1.Ring.Head), V.ow 2, V.ow 3, V.ow 4])] v2.toNat = some (V.agg [V.sc (.string r1), V.sc (.int .i64 (i64 (v1 + 1))), V.sc (.int .i64 (i64 ((i64 (v1 + 1)) + 1))), V.sc (.int .i64 (i64 ((i64 ((i64 (v1 + 1)) + 1)) + 1))), V.sc (.int .i64 (i64 ((i64 ((i64 ((i64 (v1 + 1)) + 1)) + 1)) + 1))), V.ow 1, V.sc (.int .i64 r2.1), V.sc (.int .i64 x1.Ring.Head), V.ow 2, V.ow 3, V.ow 4]),
              v2.toNat < (List.map E29 v3).length,
              v2.toNat = v2.toNat,
              (0 : Int) ≤ v2,
              (v2 : Int) < ((List.map E29 v3).length : Int),
              look [(v2.toNat, V.agg [V.sc (.string r1), V.sc (.int .i64 (i64 (v1 + 1))), V.sc (.int .i64 (i64 ((i64 (v1 + 1)) + 1))), V.sc (.int .i64 (i64 ((i64 ((i64 (v1 + 1)) + 1)) + 1))), V.sc (.int .i64 (i64 ((i64 ((i64 ((i64 (v1 + 1)) + 1)) + 1)) + 1))), V.ow 1, V.sc (.int .i64 r2.1), V.sc (.int .i64 (i64 (r2.1 + 1))), V.ow 2, V.ow 3, V.ow 4])] v2.toNat = some (V.agg [V.sc (.string r1), V.sc (.int .i64 (i64 (v1 + 1))), V.sc (.int .i64 (i64 ((i64 (v1 + 1)) + 1))), V.sc (.int .i64 (i64 ((i64 ((i64 (v1 + 1)) + 1)) + 1))), V.sc (.int .i64 (i64 ((i64 ((i64 ((i64 (v1 + 1)) + 1)) + 1)) + 1))), V.ow 1, V.sc (.int .i64 r2.1), V.sc (.int .i64 (i64 (r2.1 + 1))), V.ow 2, V.ow 3, V.ow 4]),
              v2.toNat < (List.map E29 v3).length,
              Fn Try.prog 42 [(true, E24 x1.Ring.Counts), (false, E3 (i64 ((i64 (r2.1 + 1)) + 1)))] (E3 r3.1) [V.sl true 3 (List.map E3 r3.2)],
              (true || ((E3 r3.1).nv && nvL [V.sl true 3 (List.map E3 r3.2)])) = true,
              (0 : Int) ≤ v2,
              (v2 : Int) < ((List.map E29 v3).length : Int),
              look [(v2.toNat, V.agg [V.sc (.string r1), V.sc (.int .i64 (i64 (v1 + 1))), V.sc (.int .i64 (i64 ((i64 (v1 + 1)) + 1))), V.sc (.int .i64 (i64 ((i64 ((i64 (v1 + 1)) + 1)) + 1))), V.sc (.int .i64 (i64 ((i64 ((i64 ((i64 (v1 + 1)) + 1)) + 1)) + 1))), V.ow 1, V.sc (.int .i64 r2.1), V.sc (.int .i64 (i64 (r2.1 + 1))), V.ow 2, V.ow 3, V.ow 4])] v2.toNat = some (V.agg [V.sc (.string r1), V.sc (.int .i64 (i64 (v1 + 1))), V.sc (.int .i64 (i64 ((i64 (v1 + 1)) + 1))), V.sc (.int .i64 (i64 ((i64 ((i64 (v1 + 1)) + 1)) + 1))), V.sc (.int .i64 (i64 ((i64 ((i64 ((i64 (v1 + 1)) + 1)) + 1)) + 1))), V.ow 1, V.sc (.int .i64 r2.1), V.sc (.int .i64 (i64 (r2.1 + 1))), V.ow 2, V.ow 3, V.ow 4]),
              v2.toNat < (List.map E29 v3).length,
              Fn Try.prog 42 [(true, E24 x1.Ring.Sums), (false, E3 r3.1)] (E3 r4.1) [V.sl true 3 (List.map E3 r4.2)],
              (true || ((E3 r4.1).nv && nvL [V.sl true 3 (List.map E3 r4.2)])) = true,
              (0 : Int) ≤ v2,
              (v2 : Int) < ((List.map E29 v3).length : Int),
              look [(v2.toNat, V.agg [V.sc (.string r1), V.sc (.int .i64 (i64 (v1 + 1))), V.sc (.int .i64 (i64 ((i64 (v1 + 1)) + 1))), V.sc (.int .i64 (i64 ((i64 ((i64 (v1 + 1)) + 1)) + 1))), V.sc (.int .i64 (i64 ((i64 ((i64 ((i64 (v1 + 1)) + 1)) + 1)) + 1))), V.ow 1, V.sc (.int .i64 r2.1), V.sc (.int .i64 (i64 (r2.1 + 1))), V.ow 2, V.ow 3, V.ow 4])] v2.toNat = some (V.agg [V.sc (.string r1), V.sc (.int .i64 (i64 (v1 + 1))), V.sc (.int .i64 (i64 ((i64 (v1 + 1)) + 1))), V.sc (.int .i64 (i64 ((i64 ((i64 (v1 + 1)) + 1)) + 1))), V.sc (.int .i64 (i64 ((i64 ((i64 ((i64 (v1 + 1)) + 1)) + 1)) + 1))), V.ow 1, V.sc (.int .i64 r2.1), V.sc (.int .i64 (i64 (r2.1 + 1))), V.ow 2, V.ow 3, V.ow 4]),
              v2.toNat < (List.map E29 v3).length,
              Fn Try.prog 155 [(true, E27 x1.Slots), (false, E3 r4.1)] (E3 r5.1) [V.sl true 164 (List.map E164 r5.2)],
              (true || ((E3 r5.1).nv && nvL [V.sl true 164 (List.map E164 r5.2)])) = true,
              Blk.row 29 ((List.map E29 v3).set v2.toNat (V.agg [V.sc (.string r1), V.sc (.int .i64 (i64 (v1 + 1))), V.sc (.int .i64 (i64 ((i64 (v1 + 1)) + 1))), V.sc (.int .i64 (i64 ((i64 ((i64 (v1 + 1)) + 1)) + 1))), V.sc (.int .i64 (i64 ((i64 ((i64 ((i64 (v1 + 1)) + 1)) + 1)) + 1))), V.sl true 36 (List.map E36 r2.2), V.sc (.int .i64 r2.1), V.sc (.int .i64 (i64 (r2.1 + 1))), V.sl true 3 (List.map E3 r3.2), V.sl true 3 (List.map E3 r4.2), V.sl true 164 (List.map E164 r5.2)])) [] = Blk.row 29 (List.map E29 (v3.set v2.toNat (Acct.mk r1 (i64 (v1 + 1)) (i64 ((i64 (v1 + 1)) + 1)) (i64 ((i64 ((i64 (v1 + 1)) + 1)) + 1)) (i64 ((i64 ((i64 ((i64 (v1 + 1)) + 1)) + 1)) + 1)) r2.2 (Ring.mk r2.1 (i64 (r2.1 + 1)) r3.2 r4.2) r5.2))) []]) (by kernel_rfl) (cj (len_nm _ _) (cj h1 (cj (laws_markText_ok v1 r1 h2) (cj rfl (cj (od h3) (cj (map_ltN (od h3) h4) (cj rfl (cj (map_get h4) (cj (look_cons_self _ _ _) (cj (map_lt h4) (cj rfl (cj (od h3) (cj (map_ltN (od h3) h4) (cj (look_cons_self _ _ _) (cj (map_lt h4) (cj rfl (cj (od h3) (cj (map_ltN (od h3) h4) (cj (look_cons_self _ _ _) (cj (map_lt h4) (cj rfl (cj (od h3) (cj (map_ltN (od h3) h4) (cj (look_cons_self _ _ _) (cj (map_lt h4) (cj rfl (cj (od h3) (cj (map_ltN (od h3) h4) (cj (look_cons_self _ _ _) (cj (map_lt h4) (cj rfl (cj (od h3) (cj (map_ltN (od h3) h4) (cj (look_cons_self _ _ _) (cj (map_lt h4) (cj (laws_markHoldS_ok x1.Holds (i64 ((i64 ((i64 ((i64 ((i64 (v1 + 1)) + 1)) + 1)) + 1)) + 1)) r2 h5) (cj rfl (cj (od h3) (cj (map_ltN (od h3) h4) (cj (look_cons_self _ _ _) (cj (map_lt h4) (cj rfl (cj (od h3) (cj (map_ltN (od h3) h4) (cj (look_cons_self _ _ _) (cj (map_lt h4) (cj rfl (cj (od h3) (cj (map_ltN (od h3) h4) (cj (look_cons_self _ _ _) (cj (map_lt h4) (cj (laws_markIntS_ok x1.Ring.Counts (i64 ((i64 (r2.1 + 1)) + 1)) r3 h6) (cj rfl (cj (od h3) (cj (map_ltN (od h3) h4) (cj (look_cons_self _ _ _) (cj (map_lt h4) (cj (laws_markIntS_ok x1.Ring.Sums r3.1 r4 h7) (cj rfl (cj (od h3) (cj (map_ltN (od h3) h4) (cj (look_cons_self _ _ _) (cj (map_lt h4) (cj (laws_markSlotS_ok x1.Slots r4.1 r5 h8) (cj rfl (cj1 (nb_set E29 _ _ (Acct.mk r1 (i64 (v1 + 1)) (i64 ((i64 (v1 + 1)) + 1)) (i64 ((i64 ((i64 (v1 + 1)) + 1)) + 1)) (i64 ((i64 ((i64 ((i64 (v1 + 1)) + 1)) + 1)) + 1)) r2.2 (Ring.mk r2.1 (i64 (r2.1 + 1)) r3.2 r4.2) r5.2)))))))))))))))))))))))))))))))))))))))))))))))))))))))))))))))))))) (laws_markAcctS_l0_ok fuel r5.1 (i64 (v2 + 1)) (v3.set v2.toNat (Acct.mk r1 (i64 (v1 + 1)) (i64 ((i64 (v1 + 1)) + 1)) (i64 ((i64 ((i64 (v1 + 1)) + 1)) + 1)) (i64 ((i64 ((i64 ((i64 (v1 + 1)) + 1)) + 1)) + 1)) r2.2 (Ring.mk r2.1 (i64 (r2.1 + 1)) r3.2 r4.2) r5.2))))))))) (fun h3 =>
        Pn.none))) (fun h1 =>
      Pn.some (LpO.out [.wait 3, .nm 8 (V.sc (.int .i64 (v3.length : Int))), .bit false, .mask [1], .ren [0]] (p := [V.sc (.int .i64 ((List.map E29 v3).length : Int)) = V.sc (.int .i64 (v3.length : Int)),
       (decide (v2 < (v3.length : Int))) = false]) (by kernel_rfl) (show X.out 0 ≠ X.go from nofun) (cj (len_nm _ _) (cj1 h1))))
def laws_markAcctS (o : List Acct) (o_ : Int) : Option (Int × (List Acct)) :=
 (laws_markAcctS_l0 FUEL o_ 0 o).bind fun r6 =>
 some (r6.1, r6.2)
theorem laws_markAcctS_ok (o : List Acct) (o_ : Int) : Pn (fun y => Fn Try.prog 95 [(true, E48 o), (false, E3 o_)] (E3 y.1) [V.sl true 29 (List.map E29 y.2)]) (laws_markAcctS o o_) := by
  unfold laws_markAcctS
  exact
   Pn.bind (fun r6 h9 =>
    Pn.some (Fn.of [.wait 3, .mask [0, 1, 5], .ren [0], .loop (X.out 0) (st 95 [(1, V.sc (.int .i64 r6.1))] [Blk.row 29 (List.map E29 r6.2) []] [some 0])] (p := [Loop Try.prog (sub (codeOf Try.prog 95) [1, 0, 1, 0, 0]) (st 95 [(0, V.ow 0), (1, V.sc (.int .i64 o_)), (5, V.sc (.int .i64 0))] [Blk.row 29 (List.map E29 o) []] [some 0]) (X.out 0) (st 95 [(1, V.sc (.int .i64 r6.1))] [Blk.row 29 (List.map E29 r6.2) []] [some 0])]) (by kernel_rfl) (cj1 (laws_markAcctS_l0_ok FUEL o_ 0 o r6 h9))))
def laws_markStripeS_l0  : Nat → Int → Int → (List Stripe) → Option (Int × (List Stripe))
  | 0, _, _, _ => none
  | fuel + 1, v1, v2, v3 =>
   if (decide (v2 < (v3.length : Int))) = true then
    if (decide (0 ≤ v2)) = true then
     (v3[v2.toNat]?).bind fun x1 =>
     (laws_markAcctS x1.Accts (i64 (v1 + 1))).bind fun r1 =>
     laws_markStripeS_l0 fuel r1.1 (i64 (v2 + 1)) (v3.set v2.toNat (Stripe.mk v1 r1.2))
    else none
   else
    some (v1, v3)
theorem laws_markStripeS_l0_ok  : ∀ (fuel : Nat) (v1 : Int) (v2 : Int) (v3 : List Stripe), Pn (LpO Try.prog (sub (codeOf Try.prog 35) [1, 0, 1, 0, 0]) (st 27 [(0, V.ow 0), (1, V.sc (.int .i64 v1)), (5, V.sc (.int .i64 v2))] [Blk.row 58 (List.map E58 v3) []] [some 0]) (fun (y : Int × (List Stripe)) => (X.out 0, st 27 [(1, V.sc (.int .i64 y.1))] [Blk.row 58 (List.map E58 y.2) []] [some 0]))) (laws_markStripeS_l0 fuel v1 v2 v3)
  | 0, _, _, _ => Pn.none
  | fuel + 1, v1, v2, v3 => by
    unfold laws_markStripeS_l0
    exact
     Pn.ite (fun h1 =>
      Pn.ite (fun h2 =>
       Pn.bind (fun x1 h3 =>
        Pn.bind (fun r1 h4 =>
         LpO.go [.wait 3, .nm 8 (V.sc (.int .i64 (v3.length : Int))), .bit true, .wait 3, .foc 0 v2.toNat (E58 x1), .fo 0, .fo 0, .call [true, false] (E3 r1.1) [V.sl true 29 (List.map E29 r1.2)], .wait 5, .shut 0, .nb 0 (.row 58 (List.map E58 (v3.set v2.toNat (Stripe.mk v1 r1.2))) []), .mask [0, 1, 5], .ren [0]] (p := [V.sc (.int .i64 ((List.map E58 v3).length : Int)) = V.sc (.int .i64 (v3.length : Int)),
          (decide (v2 < (v3.length : Int))) = true,
          (0 : Int) ≤ v2,
          (v2 : Int) < ((List.map E58 v3).length : Int),
          look [] v2.toNat = none,
          (List.map E58 v3)[v2.toNat]? = some (E58 x1),
          look [(v2.toNat, V.agg [V.sc (.int .i64 x1.Owner), V.ow 1])] v2.toNat = some (V.agg [V.sc (.int .i64 x1.Owner), V.ow 1]),
          v2.toNat < (List.map E58 v3).length,
          v2.toNat = v2.toNat,
          (0 : Int) ≤ v2,
          (v2 : Int) < ((List.map E58 v3).length : Int),
          look [(v2.toNat, V.agg [V.sc (.int .i64 v1), V.ow 1])] v2.toNat = some (V.agg [V.sc (.int .i64 v1), V.ow 1]),
          v2.toNat < (List.map E58 v3).length,
          Fn Try.prog 95 [(true, E48 x1.Accts), (false, E3 (i64 (v1 + 1)))] (E3 r1.1) [V.sl true 29 (List.map E29 r1.2)],
          (true || ((E3 r1.1).nv && nvL [V.sl true 29 (List.map E29 r1.2)])) = true,
          Blk.row 58 ((List.map E58 v3).set v2.toNat (V.agg [V.sc (.int .i64 v1), V.sl true 29 (List.map E29 r1.2)])) [] = Blk.row 58 (List.map E58 (v3.set v2.toNat (Stripe.mk v1 r1.2))) []]) (by kernel_rfl) (cj (len_nm _ _) (cj h1 (cj (od h2) (cj (map_ltN (od h2) h3) (cj rfl (cj (map_get h3) (cj (look_cons_self _ _ _) (cj (map_lt h3) (cj rfl (cj (od h2) (cj (map_ltN (od h2) h3) (cj (look_cons_self _ _ _) (cj (map_lt h3) (cj (laws_markAcctS_ok x1.Accts (i64 (v1 + 1)) r1 h4) (cj rfl (cj1 (nb_set E58 _ _ (Stripe.mk v1 r1.2)))))))))))))))))) (laws_markStripeS_l0_ok fuel r1.1 (i64 (v2 + 1)) (v3.set v2.toNat (Stripe.mk v1 r1.2)))))) (fun h2 =>
       Pn.none)) (fun h1 =>
      Pn.some (LpO.out [.wait 3, .nm 8 (V.sc (.int .i64 (v3.length : Int))), .bit false, .mask [1], .ren [0]] (p := [V.sc (.int .i64 ((List.map E58 v3).length : Int)) = V.sc (.int .i64 (v3.length : Int)),
       (decide (v2 < (v3.length : Int))) = false]) (by kernel_rfl) (show X.out 0 ≠ X.go from nofun) (cj (len_nm _ _) (cj1 h1))))
def laws_markStripeS (a : List Stripe) (k : Int) : Option (Int × (List Stripe)) :=
 (laws_markStripeS_l0 FUEL k 0 a).bind fun r2 =>
 some (r2.1, r2.2)
theorem laws_markStripeS_ok (a : List Stripe) (k : Int) : Pn (fun y => Fn Try.prog 35 [(true, E53 a), (false, E3 k)] (E3 y.1) [V.sl true 58 (List.map E58 y.2)]) (laws_markStripeS a k) := by
  unfold laws_markStripeS
  exact
   Pn.bind (fun r2 h5 =>
    Pn.some (Fn.of [.wait 3, .mask [0, 1, 5], .ren [0], .loop (X.out 0) (st 27 [(1, V.sc (.int .i64 r2.1))] [Blk.row 58 (List.map E58 r2.2) []] [some 0])] (p := [Loop Try.prog (sub (codeOf Try.prog 35) [1, 0, 1, 0, 0]) (st 27 [(0, V.ow 0), (1, V.sc (.int .i64 k)), (5, V.sc (.int .i64 0))] [Blk.row 58 (List.map E58 a) []] [some 0]) (X.out 0) (st 27 [(1, V.sc (.int .i64 r2.1))] [Blk.row 58 (List.map E58 r2.2) []] [some 0])]) (by kernel_rfl) (cj1 (laws_markStripeS_l0_ok FUEL k 0 a r2 h5))))
def laws_markTaskS_l0  : Nat → Int → Int → (List Task) → Option (Int × (List Task))
  | 0, _, _, _ => none
  | fuel + 1, v1, v2, v3 =>
   if (decide (v2 < (v3.length : Int))) = true then
    if (decide (0 ≤ v2)) = true then
     (v3[v2.toNat]?).bind fun x1 =>
     (laws_markByteS x1.Data v1).bind fun r1 =>
     (laws_markIntS x1.Set (i64 (r1.1 + 1))).bind fun r2 =>
     (laws_markByteS x1.Reply (i64 ((i64 ((i64 ((i64 ((i64 (r2.1 + 1)) + 1)) + 1)) + 1)) + 1))).bind fun r3 =>
     laws_markTaskS_l0 fuel r3.1 (i64 (v2 + 1)) (v3.set v2.toNat (Task.mk r1.2 r1.1 r2.2 r2.1 (i64 (r2.1 + 1)) (i64 ((i64 (r2.1 + 1)) + 1)) (i64 ((i64 ((i64 (r2.1 + 1)) + 1)) + 1)) (i64 ((i64 ((i64 ((i64 (r2.1 + 1)) + 1)) + 1)) + 1)) r3.2))
    else none
   else
    some (v1, v3)
theorem laws_markTaskS_l0_ok  : ∀ (fuel : Nat) (v1 : Int) (v2 : Int) (v3 : List Task), Pn (LpO Try.prog (sub (codeOf Try.prog 107) [1, 0, 1, 0, 0]) (st 76 [(0, V.ow 0), (1, V.sc (.int .i64 v1)), (5, V.sc (.int .i64 v2))] [Blk.row 137 (List.map E137 v3) []] [some 0]) (fun (y : Int × (List Task)) => (X.out 0, st 76 [(1, V.sc (.int .i64 y.1))] [Blk.row 137 (List.map E137 y.2) []] [some 0]))) (laws_markTaskS_l0 fuel v1 v2 v3)
  | 0, _, _, _ => Pn.none
  | fuel + 1, v1, v2, v3 => by
    unfold laws_markTaskS_l0
    exact
     Pn.ite (fun h1 =>
      Pn.ite (fun h2 =>
       Pn.bind (fun x1 h3 =>
        Pn.bind (fun r1 h4 =>
         Pn.bind (fun r2 h5 =>
          Pn.bind (fun r3 h6 =>
           LpO.go [.wait 3, .nm 8 (V.sc (.int .i64 (v3.length : Int))), .bit true, .wait 2, .foc 0 v2.toNat (E137 x1), .fo 0, .call [true, false] (E3 r1.1) [V.sl true 5 (List.map E5 r1.2)], .fo 0, .fo 0, .call [true, false] (E3 r2.1) [V.sl true 3 (List.map E3 r2.2)], .fo 0, .fo 0, .fo 0, .fo 0, .fo 0, .fo 0, .call [true, false] (E3 r3.1) [V.sl true 5 (List.map E5 r3.2)], .wait 5, .shut 0, .nb 0 (.row 137 (List.map E137 (v3.set v2.toNat (Task.mk r1.2 r1.1 r2.2 r2.1 (i64 (r2.1 + 1)) (i64 ((i64 (r2.1 + 1)) + 1)) (i64 ((i64 ((i64 (r2.1 + 1)) + 1)) + 1)) (i64 ((i64 ((i64 ((i64 (r2.1 + 1)) + 1)) + 1)) + 1)) r3.2))) []), .mask [0, 1, 5], .ren [0]] (p := [V.sc (.int .i64 ((List.map E137 v3).length : Int)) = V.sc (.int .i64 (v3.length : Int)),
            (decide (v2 < (v3.length : Int))) = true,
            (0 : Int) ≤ v2,
            (v2 : Int) < ((List.map E137 v3).length : Int),
            look [] v2.toNat = none,
            (List.map E137 v3)[v2.toNat]? = some (E137 x1),
            look [(v2.toNat, V.agg [V.ow 1, V.sc (.int .i64 x1.Pc), V.ow 2, V.sc (.int .i64 x1.Held), V.sc (.int .i64 x1.Inv), V.sc (.int .i64 x1.Lin), V.sc (.int .i64 x1.Res), V.sc (.int .i64 x1.At), V.ow 3])] v2.toNat = some (V.agg [V.ow 1, V.sc (.int .i64 x1.Pc), V.ow 2, V.sc (.int .i64 x1.Held), V.sc (.int .i64 x1.Inv), V.sc (.int .i64 x1.Lin), V.sc (.int .i64 x1.Res), V.sc (.int .i64 x1.At), V.ow 3]),
            v2.toNat < (List.map E137 v3).length,
            Fn Try.prog 108 [(true, E22 x1.Data), (false, E3 v1)] (E3 r1.1) [V.sl true 5 (List.map E5 r1.2)],
            (true || ((E3 r1.1).nv && nvL [V.sl true 5 (List.map E5 r1.2)])) = true,
            (0 : Int) ≤ v2,
            (v2 : Int) < ((List.map E137 v3).length : Int),
            look [(v2.toNat, V.agg [V.ow 1, V.sc (.int .i64 x1.Pc), V.ow 2, V.sc (.int .i64 x1.Held), V.sc (.int .i64 x1.Inv), V.sc (.int .i64 x1.Lin), V.sc (.int .i64 x1.Res), V.sc (.int .i64 x1.At), V.ow 3])] v2.toNat = some (V.agg [V.ow 1, V.sc (.int .i64 x1.Pc), V.ow 2, V.sc (.int .i64 x1.Held), V.sc (.int .i64 x1.Inv), V.sc (.int .i64 x1.Lin), V.sc (.int .i64 x1.Res), V.sc (.int .i64 x1.At), V.ow 3]),
            v2.toNat < (List.map E137 v3).length,
            v2.toNat = v2.toNat,
            (0 : Int) ≤ v2,
            (v2 : Int) < ((List.map E137 v3).length : Int),
            look [(v2.toNat, V.agg [V.ow 1, V.sc (.int .i64 r1.1), V.ow 2, V.sc (.int .i64 x1.Held), V.sc (.int .i64 x1.Inv), V.sc (.int .i64 x1.Lin), V.sc (.int .i64 x1.Res), V.sc (.int .i64 x1.At), V.ow 3])] v2.toNat = some (V.agg [V.ow 1, V.sc (.int .i64 r1.1), V.ow 2, V.sc (.int .i64 x1.Held), V.sc (.int .i64 x1.Inv), V.sc (.int .i64 x1.Lin), V.sc (.int .i64 x1.Res), V.sc (.int .i64 x1.At), V.ow 3]),
            v2.toNat < (List.map E137 v3).length,
            Fn Try.prog 42 [(true, E24 x1.Set), (false, E3 (i64 (r1.1 + 1)))] (E3 r2.1) [V.sl true 3 (List.map E3 r2.2)],
            (true || ((E3 r2.1).nv && nvL [V.sl true 3 (List.map E3 r2.2)])) = true,
            (0 : Int) ≤ v2,
            (v2 : Int) < ((List.map E137 v3).length : Int),
            look [(v2.toNat, V.agg [V.ow 1, V.sc (.int .i64 r1.1), V.ow 2, V.sc (.int .i64 x1.Held), V.sc (.int .i64 x1.Inv), V.sc (.int .i64 x1.Lin), V.sc (.int .i64 x1.Res), V.sc (.int .i64 x1.At), V.ow 3])] v2.toNat = some (V.agg [V.ow 1, V.sc (.int .i64 r1.1), V.ow 2, V.sc (.int .i64 x1.Held), V.sc (.int .i64 x1.Inv), V.sc (.int .i64 x1.Lin), V.sc (.int .i64 x1.Res), V.sc (.int .i64 x1.At), V.ow 3]),
            v2.toNat < (List.map E137 v3).length,
            v2.toNat = v2.toNat,
            (0 : Int) ≤ v2,
            (v2 : Int) < ((List.map E137 v3).length : Int),
            look [(v2.toNat, V.agg [V.ow 1, V.sc (.int .i64 r1.1), V.ow 2, V.sc (.int .i64 r2.1), V.sc (.int .i64 x1.Inv), V.sc (.int .i64 x1.Lin), V.sc (.int .i64 x1.Res), V.sc (.int .i64 x1.At), V.ow 3])] v2.toNat = some (V.agg [V.ow 1, V.sc (.int .i64 r1.1), V.ow 2, V.sc (.int .i64 r2.1), V.sc (.int .i64 x1.Inv), V.sc (.int .i64 x1.Lin), V.sc (.int .i64 x1.Res), V.sc (.int .i64 x1.At), V.ow 3]),
            v2.toNat < (List.map E137 v3).length,
            v2.toNat = v2.toNat,
            (0 : Int) ≤ v2,
            (v2 : Int) < ((List.map E137 v3).length : Int),
            look [(v2.toNat, V.agg [V.ow 1, V.sc (.int .i64 r1.1), V.ow 2, V.sc (.int .i64 r2.1), V.sc (.int .i64 (i64 (r2.1 + 1))), V.sc (.int .i64 x1.Lin), V.sc (.int .i64 x1.Res), V.sc (.int .i64 x1.At), V.ow 3])] v2.toNat = some (V.agg [V.ow 1, V.sc (.int .i64 r1.1), V.ow 2, V.sc (.int .i64 r2.1), V.sc (.int .i64 (i64 (r2.1 + 1))), V.sc (.int .i64 x1.Lin), V.sc (.int .i64 x1.Res), V.sc (.int .i64 x1.At), V.ow 3]),
            v2.toNat < (List.map E137 v3).length,
            v2.toNat = v2.toNat,
            (0 : Int) ≤ v2,
            (v2 : Int) < ((List.map E137 v3).length : Int),
            look [(v2.toNat, V.agg [V.ow 1, V.sc (.int .i64 r1.1), V.ow 2, V.sc (.int .i64 r2.1), V.sc (.int .i64 (i64 (r2.1 + 1))), V.sc (.int .i64 (i64 ((i64 (r2.1 + 1)) + 1))), V.sc (.int .i64 x1.Res), V.sc (.int .i64 x1.At), V.ow 3])] v2.toNat = some (V.agg [V.ow 1, V.sc (.int .i64 r1.1), V.ow 2, V.sc (.int .i64 r2.1), V.sc (.int .i64 (i64 (r2.1 + 1))), V.sc (.int .i64 (i64 ((i64 (r2.1 + 1)) + 1))), V.sc (.int .i64 x1.Res), V.sc (.int .i64 x1.At), V.ow 3]),
            v2.toNat < (List.map E137 v3).length,
            v2.toNat = v2.toNat,
            (0 : Int) ≤ v2,
            (v2 : Int) < ((List.map E137 v3).length : Int),
            look [(v2.toNat, V.agg [V.ow 1, V.sc (.int .i64 r1.1), V.ow 2, V.sc (.int .i64 r2.1), V.sc (.int .i64 (i64 (r2.1 + 1))), V.sc (.int .i64 (i64 ((i64 (r2.1 + 1)) + 1))), V.sc (.int .i64 (i64 ((i64 ((i64 (r2.1 + 1)) + 1)) + 1))), V.sc (.int .i64 x1.At), V.ow 3])] v2.toNat = some (V.agg [V.ow 1, V.sc (.int .i64 r1.1), V.ow 2, V.sc (.int .i64 r2.1), V.sc (.int .i64 (i64 (r2.1 + 1))), V.sc (.int .i64 (i64 ((i64 (r2.1 + 1)) + 1))), V.sc (.int .i64 (i64 ((i64 ((i64 (r2.1 + 1)) + 1)) + 1))), V.sc (.int .i64 x1.At), V.ow 3]),
            v2.toNat < (List.map E137 v3).length,
            v2.toNat = v2.toNat,
            (0 : Int) ≤ v2,
            (v2 : Int) < ((List.map E137 v3).length : Int),
            look [(v2.toNat, V.agg [V.ow 1, V.sc (.int .i64 r1.1), V.ow 2, V.sc (.int .i64 r2.1), V.sc (.int .i64 (i64 (r2.1 + 1))), V.sc (.int .i64 (i64 ((i64 (r2.1 + 1)) + 1))), V.sc (.int .i64 (i64 ((i64 ((i64 (r2.1 + 1)) + 1)) + 1))), V.sc (.int .i64 (i64 ((i64 ((i64 ((i64 (r2.1 + 1)) + 1)) + 1)) + 1))), V.ow 3])] v2.toNat = some (V.agg [V.ow 1, V.sc (.int .i64 r1.1), V.ow 2, V.sc (.int .i64 r2.1), V.sc (.int .i64 (i64 (r2.1 + 1))), V.sc (.int .i64 (i64 ((i64 (r2.1 + 1)) + 1))), V.sc (.int .i64 (i64 ((i64 ((i64 (r2.1 + 1)) + 1)) + 1))), V.sc (.int .i64 (i64 ((i64 ((i64 ((i64 (r2.1 + 1)) + 1)) + 1)) + 1))), V.ow 3]),
            v2.toNat < (List.map E137 v3).length,
            Fn Try.prog 108 [(true, E22 x1.Reply), (false, E3 (i64 ((i64 ((i64 ((i64 ((i64 (r2.1 + 1)) + 1)) + 1)) + 1)) + 1)))] (E3 r3.1) [V.sl true 5 (List.map E5 r3.2)],
            (true || ((E3 r3.1).nv && nvL [V.sl true 5 (List.map E5 r3.2)])) = true,
            Blk.row 137 ((List.map E137 v3).set v2.toNat (V.agg [V.sl true 5 (List.map E5 r1.2), V.sc (.int .i64 r1.1), V.sl true 3 (List.map E3 r2.2), V.sc (.int .i64 r2.1), V.sc (.int .i64 (i64 (r2.1 + 1))), V.sc (.int .i64 (i64 ((i64 (r2.1 + 1)) + 1))), V.sc (.int .i64 (i64 ((i64 ((i64 (r2.1 + 1)) + 1)) + 1))), V.sc (.int .i64 (i64 ((i64 ((i64 ((i64 (r2.1 + 1)) + 1)) + 1)) + 1))), V.sl true 5 (List.map E5 r3.2)])) [] = Blk.row 137 (List.map E137 (v3.set v2.toNat (Task.mk r1.2 r1.1 r2.2 r2.1 (i64 (r2.1 + 1)) (i64 ((i64 (r2.1 + 1)) + 1)) (i64 ((i64 ((i64 (r2.1 + 1)) + 1)) + 1)) (i64 ((i64 ((i64 ((i64 (r2.1 + 1)) + 1)) + 1)) + 1)) r3.2))) []]) (by kernel_rfl) (cj (len_nm _ _) (cj h1 (cj (od h2) (cj (map_ltN (od h2) h3) (cj rfl (cj (map_get h3) (cj (look_cons_self _ _ _) (cj (map_lt h3) (cj (laws_markByteS_ok x1.Data v1 r1 h4) (cj rfl (cj (od h2) (cj (map_ltN (od h2) h3) (cj (look_cons_self _ _ _) (cj (map_lt h3) (cj rfl (cj (od h2) (cj (map_ltN (od h2) h3) (cj (look_cons_self _ _ _) (cj (map_lt h3) (cj (laws_markIntS_ok x1.Set (i64 (r1.1 + 1)) r2 h5) (cj rfl (cj (od h2) (cj (map_ltN (od h2) h3) (cj (look_cons_self _ _ _) (cj (map_lt h3) (cj rfl (cj (od h2) (cj (map_ltN (od h2) h3) (cj (look_cons_self _ _ _) (cj (map_lt h3) (cj rfl (cj (od h2) (cj (map_ltN (od h2) h3) (cj (look_cons_self _ _ _) (cj (map_lt h3) (cj rfl (cj (od h2) (cj (map_ltN (od h2) h3) (cj (look_cons_self _ _ _) (cj (map_lt h3) (cj rfl (cj (od h2) (cj (map_ltN (od h2) h3) (cj (look_cons_self _ _ _) (cj (map_lt h3) (cj rfl (cj (od h2) (cj (map_ltN (od h2) h3) (cj (look_cons_self _ _ _) (cj (map_lt h3) (cj (laws_markByteS_ok x1.Reply (i64 ((i64 ((i64 ((i64 ((i64 (r2.1 + 1)) + 1)) + 1)) + 1)) + 1)) r3 h6) (cj rfl (cj1 (nb_set E137 _ _ (Task.mk r1.2 r1.1 r2.2 r2.1 (i64 (r2.1 + 1)) (i64 ((i64 (r2.1 + 1)) + 1)) (i64 ((i64 ((i64 (r2.1 + 1)) + 1)) + 1)) (i64 ((i64 ((i64 ((i64 (r2.1 + 1)) + 1)) + 1)) + 1)) r3.2))))))))))))))))))))))))))))))))))))))))))))))))))))))) (laws_markTaskS_l0_ok fuel r3.1 (i64 (v2 + 1)) (v3.set v2.toNat (Task.mk r1.2 r1.1 r2.2 r2.1 (i64 (r2.1 + 1)) (i64 ((i64 (r2.1 + 1)) + 1)) (i64 ((i64 ((i64 (r2.1 + 1)) + 1)) + 1)) (i64 ((i64 ((i64 ((i64 (r2.1 + 1)) + 1)) + 1)) + 1)) r3.2)))))))) (fun h2 =>
       Pn.none)) (fun h1 =>
      Pn.some (LpO.out [.wait 3, .nm 8 (V.sc (.int .i64 (v3.length : Int))), .bit false, .mask [1], .ren [0]] (p := [V.sc (.int .i64 ((List.map E137 v3).length : Int)) = V.sc (.int .i64 (v3.length : Int)),
       (decide (v2 < (v3.length : Int))) = false]) (by kernel_rfl) (show X.out 0 ≠ X.go from nofun) (cj (len_nm _ _) (cj1 h1))))
def laws_markTaskS (o : List Task) (o_ : Int) : Option (Int × (List Task)) :=
 (laws_markTaskS_l0 FUEL o_ 0 o).bind fun r4 =>
 some (r4.1, r4.2)
theorem laws_markTaskS_ok (o : List Task) (o_ : Int) : Pn (fun y => Fn Try.prog 107 [(true, E79 o), (false, E3 o_)] (E3 y.1) [V.sl true 137 (List.map E137 y.2)]) (laws_markTaskS o o_) := by
  unfold laws_markTaskS
  exact
   Pn.bind (fun r4 h7 =>
    Pn.some (Fn.of [.wait 3, .mask [0, 1, 5], .ren [0], .loop (X.out 0) (st 76 [(1, V.sc (.int .i64 r4.1))] [Blk.row 137 (List.map E137 r4.2) []] [some 0])] (p := [Loop Try.prog (sub (codeOf Try.prog 107) [1, 0, 1, 0, 0]) (st 76 [(0, V.ow 0), (1, V.sc (.int .i64 o_)), (5, V.sc (.int .i64 0))] [Blk.row 137 (List.map E137 o) []] [some 0]) (X.out 0) (st 76 [(1, V.sc (.int .i64 r4.1))] [Blk.row 137 (List.map E137 r4.2) []] [some 0])]) (by kernel_rfl) (cj1 (laws_markTaskS_l0_ok FUEL o_ 0 o r4 h7))))
def laws_markWorld (a : World) (k : Int) : Option (Int × (List Stripe) × (List Task)) :=
 (laws_markStripeS a.Stripes k).bind fun r1 =>
 (laws_markTaskS a.Tasks r1.1).bind fun r2 =>
 some (r2.1, r1.2, r2.2)
theorem laws_markWorld_ok (a : World) (k : Int) : Pn (fun y => Fn Try.prog 49 [(true, E81 a), (false, E3 k)] (E3 y.1) [V.sl true 58 (List.map E58 y.2.1), V.sl true 137 (List.map E137 y.2.2)]) (laws_markWorld a k) := by
  unfold laws_markWorld
  exact
   Pn.bind (fun r1 h1 =>
    Pn.bind (fun r2 h2 =>
     Pn.some (Fn.of [.call [true, false] (E3 r1.1) [V.sl true 58 (List.map E58 r1.2)], .call [true, false] (E3 r2.1) [V.sl true 137 (List.map E137 r2.2)]] (p := [Fn Try.prog 35 [(true, E53 a.Stripes), (false, E3 k)] (E3 r1.1) [V.sl true 58 (List.map E58 r1.2)],
      (true || ((E3 r1.1).nv && nvL [V.sl true 58 (List.map E58 r1.2)])) = true,
      Fn Try.prog 107 [(true, E79 a.Tasks), (false, E3 r1.1)] (E3 r2.1) [V.sl true 137 (List.map E137 r2.2)],
      (true || ((E3 r2.1).nv && nvL [V.sl true 137 (List.map E137 r2.2)])) = true]) (by kernel_rfl) (cj (laws_markStripeS_ok a.Stripes k r1 h1) (cj rfl (cj (laws_markTaskS_ok a.Tasks r1.1 r2 h2) (cj1 rfl)))))))
def laws_markDoneS_l0  : Nat → Int → Int → (List Done) → Option (Int × (List Done))
  | 0, _, _, _ => none
  | fuel + 1, v1, v2, v3 =>
   if (decide (v2 < (v3.length : Int))) = true then
    if (decide (0 ≤ v2)) = true then
     (v3[v2.toNat]?).bind fun x1 =>
     (laws_markByteS x1.Data (i64 (v1 + 1))).bind fun r1 =>
     (laws_markByteS x1.Reply r1.1).bind fun r2 =>
     laws_markDoneS_l0 fuel r2.1 (i64 (v2 + 1)) (v3.set v2.toNat (Done.mk v1 r1.2 r2.2))
    else none
   else
    some (v1, v3)
theorem laws_markDoneS_l0_ok  : ∀ (fuel : Nat) (v1 : Int) (v2 : Int) (v3 : List Done), Pn (LpO Try.prog (sub (codeOf Try.prog 50) [1, 0, 1, 0, 0]) (st 34 [(0, V.ow 0), (1, V.sc (.int .i64 v1)), (5, V.sc (.int .i64 v2))] [Blk.row 140 (List.map E140 v3) []] [some 0]) (fun (y : Int × (List Done)) => (X.out 0, st 34 [(1, V.sc (.int .i64 y.1))] [Blk.row 140 (List.map E140 y.2) []] [some 0]))) (laws_markDoneS_l0 fuel v1 v2 v3)
  | 0, _, _, _ => Pn.none
  | fuel + 1, v1, v2, v3 => by
    unfold laws_markDoneS_l0
    exact
     Pn.ite (fun h1 =>
      Pn.ite (fun h2 =>
       Pn.bind (fun x1 h3 =>
        Pn.bind (fun r1 h4 =>
         Pn.bind (fun r2 h5 =>
          LpO.go [.wait 3, .nm 8 (V.sc (.int .i64 (v3.length : Int))), .bit true, .wait 3, .foc 0 v2.toNat (E140 x1), .fo 0, .fo 0, .call [true, false] (E3 r1.1) [V.sl true 5 (List.map E5 r1.2)], .fo 0, .call [true, false] (E3 r2.1) [V.sl true 5 (List.map E5 r2.2)], .wait 5, .shut 0, .nb 0 (.row 140 (List.map E140 (v3.set v2.toNat (Done.mk v1 r1.2 r2.2))) []), .mask [0, 1, 5], .ren [0]] (p := [V.sc (.int .i64 ((List.map E140 v3).length : Int)) = V.sc (.int .i64 (v3.length : Int)),
           (decide (v2 < (v3.length : Int))) = true,
           (0 : Int) ≤ v2,
           (v2 : Int) < ((List.map E140 v3).length : Int),
           look [] v2.toNat = none,
           (List.map E140 v3)[v2.toNat]? = some (E140 x1),
           look [(v2.toNat, V.agg [V.sc (.int .i64 x1.At), V.ow 1, V.ow 2])] v2.toNat = some (V.agg [V.sc (.int .i64 x1.At), V.ow 1, V.ow 2]),
           v2.toNat < (List.map E140 v3).length,
           v2.toNat = v2.toNat,
           (0 : Int) ≤ v2,
           (v2 : Int) < ((List.map E140 v3).length : Int),
           look [(v2.toNat, V.agg [V.sc (.int .i64 v1), V.ow 1, V.ow 2])] v2.toNat = some (V.agg [V.sc (.int .i64 v1), V.ow 1, V.ow 2]),
           v2.toNat < (List.map E140 v3).length,
           Fn Try.prog 108 [(true, E22 x1.Data), (false, E3 (i64 (v1 + 1)))] (E3 r1.1) [V.sl true 5 (List.map E5 r1.2)],
           (true || ((E3 r1.1).nv && nvL [V.sl true 5 (List.map E5 r1.2)])) = true,
           (0 : Int) ≤ v2,
           (v2 : Int) < ((List.map E140 v3).length : Int),
           look [(v2.toNat, V.agg [V.sc (.int .i64 v1), V.ow 1, V.ow 2])] v2.toNat = some (V.agg [V.sc (.int .i64 v1), V.ow 1, V.ow 2]),
           v2.toNat < (List.map E140 v3).length,
           Fn Try.prog 108 [(true, E22 x1.Reply), (false, E3 r1.1)] (E3 r2.1) [V.sl true 5 (List.map E5 r2.2)],
           (true || ((E3 r2.1).nv && nvL [V.sl true 5 (List.map E5 r2.2)])) = true,
           Blk.row 140 ((List.map E140 v3).set v2.toNat (V.agg [V.sc (.int .i64 v1), V.sl true 5 (List.map E5 r1.2), V.sl true 5 (List.map E5 r2.2)])) [] = Blk.row 140 (List.map E140 (v3.set v2.toNat (Done.mk v1 r1.2 r2.2))) []]) (by kernel_rfl) (cj (len_nm _ _) (cj h1 (cj (od h2) (cj (map_ltN (od h2) h3) (cj rfl (cj (map_get h3) (cj (look_cons_self _ _ _) (cj (map_lt h3) (cj rfl (cj (od h2) (cj (map_ltN (od h2) h3) (cj (look_cons_self _ _ _) (cj (map_lt h3) (cj (laws_markByteS_ok x1.Data (i64 (v1 + 1)) r1 h4) (cj rfl (cj (od h2) (cj (map_ltN (od h2) h3) (cj (look_cons_self _ _ _) (cj (map_lt h3) (cj (laws_markByteS_ok x1.Reply r1.1 r2 h5) (cj rfl (cj1 (nb_set E140 _ _ (Done.mk v1 r1.2 r2.2)))))))))))))))))))))))) (laws_markDoneS_l0_ok fuel r2.1 (i64 (v2 + 1)) (v3.set v2.toNat (Done.mk v1 r1.2 r2.2))))))) (fun h2 =>
       Pn.none)) (fun h1 =>
      Pn.some (LpO.out [.wait 3, .nm 8 (V.sc (.int .i64 (v3.length : Int))), .bit false, .mask [1], .ren [0]] (p := [V.sc (.int .i64 ((List.map E140 v3).length : Int)) = V.sc (.int .i64 (v3.length : Int)),
       (decide (v2 < (v3.length : Int))) = false]) (by kernel_rfl) (show X.out 0 ≠ X.go from nofun) (cj (len_nm _ _) (cj1 h1))))
def laws_markDoneS (a : List Done) (k : Int) : Option (Int × (List Done)) :=
 (laws_markDoneS_l0 FUEL k 0 a).bind fun r3 =>
 some (r3.1, r3.2)
theorem laws_markDoneS_ok (a : List Done) (k : Int) : Pn (fun y => Fn Try.prog 50 [(true, E77 a), (false, E3 k)] (E3 y.1) [V.sl true 140 (List.map E140 y.2)]) (laws_markDoneS a k) := by
  unfold laws_markDoneS
  exact
   Pn.bind (fun r3 h6 =>
    Pn.some (Fn.of [.wait 3, .mask [0, 1, 5], .ren [0], .loop (X.out 0) (st 34 [(1, V.sc (.int .i64 r3.1))] [Blk.row 140 (List.map E140 r3.2) []] [some 0])] (p := [Loop Try.prog (sub (codeOf Try.prog 50) [1, 0, 1, 0, 0]) (st 34 [(0, V.ow 0), (1, V.sc (.int .i64 k)), (5, V.sc (.int .i64 0))] [Blk.row 140 (List.map E140 a) []] [some 0]) (X.out 0) (st 34 [(1, V.sc (.int .i64 r3.1))] [Blk.row 140 (List.map E140 r3.2) []] [some 0])]) (by kernel_rfl) (cj1 (laws_markDoneS_l0_ok FUEL k 0 a r3 h6))))
def laws_heldByteS_l0 (a : List Int) : List Int → Int → Option (Lo Int Unit)
  | [], v1 =>
   some (.out v1)
  | x1 :: t1, v1 =>
   if (x1 != (u8 v1)) = true then
    some (.ret ())
   else
    laws_heldByteS_l0 a t1 (i64 (v1 + 1))
theorem laws_heldByteS_l0_ok (a : List Int) (h2 : capOk a.length = true) : ∀ (t1 p1 : List Int) (_ : a = p1 ++ t1) (v1 : Int), Pn (LpO Try.prog (sub (codeOf Try.prog 109) [1, 0, 1, 0, 0]) (st 22 [(0, V.sl false 5 (List.map E5 a)), (1, V.sc (.int .i64 v1)), (5, V.sc (.int .i64 (p1.length : Int)))] [] []) (fun (y : Lo Int Unit) => Lo.elim y (fun s => (X.out 0, st 22 [(1, V.sc (.int .i64 s))] [] [])) (fun s => (X.ret, st 22 [(4, V.sc (.int .i64 (-1)))] [] [])))) (laws_heldByteS_l0 a t1 v1)
  | [], p1, h1, v1 => by
    unfold laws_heldByteS_l0
    exact
     Pn.some (LpO.out [.wait 3, .nm 8 (V.sc (.int .i64 (a.length : Int))), .bit false, .mask [1], .ren []] (p := [V.sc (.int .i64 ((List.map E5 a).length : Int)) = V.sc (.int .i64 (a.length : Int)),
      (decide ((p1.length : Int) < (a.length : Int))) = false]) (by kernel_rfl) (show X.out 0 ≠ X.go from nofun) (cj (len_nm _ _) (cj1 (rng_end h1))))
  | x1 :: t1, p1, h1, v1 => by
    unfold laws_heldByteS_l0
    exact
     Pn.ite (fun h3 =>
      Pn.some (LpO.out [.wait 3, .nm 8 (V.sc (.int .i64 (a.length : Int))), .bit true, .el (E5 x1), .bit true, .wait 1, .mask [4], .ren []] (p := [V.sc (.int .i64 ((List.map E5 a).length : Int)) = V.sc (.int .i64 (a.length : Int)),
       (decide ((p1.length : Int) < (a.length : Int))) = true,
       (0 : Int) ≤ (p1.length : Int),
       (List.map E5 a)[(p1.length : Int).toNat]? = some (E5 x1),
       (x1 != (u8 v1)) = true]) (by kernel_rfl) (show X.ret ≠ X.go from nofun) (cj (len_nm _ _) (cj (rng_lt h1) (cj (by omega) (cj (rng_get _ h1) (cj1 h3))))))) (fun h3 =>
      LpO.go [.wait 3, .nm 8 (V.sc (.int .i64 (a.length : Int))), .bit true, .el (E5 x1), .bit false, .wait 6, .mask [0, 1, 5], .ren [], .nm 5 (V.sc (.int .i64 ((p1 ++ [x1]).length : Int)))] (p := [V.sc (.int .i64 ((List.map E5 a).length : Int)) = V.sc (.int .i64 (a.length : Int)),
       (decide ((p1.length : Int) < (a.length : Int))) = true,
       (0 : Int) ≤ (p1.length : Int),
       (List.map E5 a)[(p1.length : Int).toNat]? = some (E5 x1),
       (x1 != (u8 v1)) = false,
       V.sc (.int .i64 (i64 ((p1.length : Int) + 1))) = V.sc (.int .i64 ((p1 ++ [x1]).length : Int))]) (by kernel_rfl) (cj (len_nm _ _) (cj (rng_lt h1) (cj (by omega) (cj (rng_get _ h1) (cj h3 (cj1 (rng_next h1 h2))))))) (laws_heldByteS_l0_ok a h2 t1 (p1 ++ [x1]) (rng_step h1) (i64 (v1 + 1))))
def laws_heldByteS (a : List Int) (k : Int) : Option (Int) :=
 if (capOk a.length) = true then
  (laws_heldByteS_l0 a a k).bind fun r1 =>
  Lo.elim r1 (fun s1 =>
   some s1) (fun s2 =>
   some (-1))
 else none
theorem laws_heldByteS_ok (a : List Int) (k : Int) : Pn (fun y => Fn Try.prog 109 [(false, E22 a), (false, E3 k)] (E3 y) []) (laws_heldByteS a k) := by
  unfold laws_heldByteS
  exact
   Pn.ite (fun h4 =>
    Pn.bind (fun r1 h5 =>
     Pn.lo (fun s1 h6 =>
      Pn.some (Fn.of [.wait 3, .mask [0, 1, 5], .ren [], .loop (X.out 0) (st 22 [(1, V.sc (.int .i64 s1))] [] [])] (p := [Loop Try.prog (sub (codeOf Try.prog 109) [1, 0, 1, 0, 0]) (st 22 [(0, V.sl false 5 (List.map E5 a)), (1, V.sc (.int .i64 k)), (5, V.sc (.int .i64 0))] [] []) (X.out 0) (st 22 [(1, V.sc (.int .i64 s1))] [] [])]) (by kernel_rfl) (cj1 ((laws_heldByteS_l0_ok a h4 a [] rfl k r1 h5).at h6)))) (fun s2 h7 =>
      Pn.some (Fn.of [.wait 3, .mask [0, 1, 5], .ren [], .loop (X.ret) (st 22 [(4, V.sc (.int .i64 (-1)))] [] [])] (p := [Loop Try.prog (sub (codeOf Try.prog 109) [1, 0, 1, 0, 0]) (st 22 [(0, V.sl false 5 (List.map E5 a)), (1, V.sc (.int .i64 k)), (5, V.sc (.int .i64 0))] [] []) (X.ret) (st 22 [(4, V.sc (.int .i64 (-1)))] [] [])]) (by kernel_rfl) (cj1 ((laws_heldByteS_l0_ok a h4 a [] rfl k r1 h5).at h7)))))) (fun h4 =>
    Pn.none)
def laws_heldDoneS_l0 (a : List Done) : List Done → Int → Option (Lo Int Unit)
  | [], v1 =>
   some (.out v1)
  | x1 :: t1, v1 =>
   if (x1.At != v1) = true then
    some (.ret ())
   else
    (laws_heldByteS x1.Data (i64 (v1 + 1))).bind fun r1 =>
    if (decide (r1 < 0)) = true then
     some (.ret ())
    else
     (laws_heldByteS x1.Reply r1).bind fun r2 =>
     if (decide (r2 < 0)) = true then
      some (.ret ())
     else
      laws_heldDoneS_l0 a t1 r2
theorem laws_heldDoneS_l0_ok (a : List Done) (h2 : capOk a.length = true) : ∀ (t1 p1 : List Done) (_ : a = p1 ++ t1) (v1 : Int), Pn (LpO Try.prog (sub (codeOf Try.prog 51) [1, 0, 1, 0, 0]) (st 40 [(0, V.sl false 140 (List.map E140 a)), (1, V.sc (.int .i64 v1)), (5, V.sc (.int .i64 (p1.length : Int)))] [] []) (fun (y : Lo Int Unit) => Lo.elim y (fun s => (X.out 0, st 40 [(1, V.sc (.int .i64 s))] [] [])) (fun s => (X.ret, st 40 [(4, V.sc (.int .i64 (-1)))] [] [])))) (laws_heldDoneS_l0 a t1 v1)
  | [], p1, h1, v1 => by
    unfold laws_heldDoneS_l0
    exact
     Pn.some (LpO.out [.wait 3, .nm 8 (V.sc (.int .i64 (a.length : Int))), .bit false, .mask [1], .ren []] (p := [V.sc (.int .i64 ((List.map E140 a).length : Int)) = V.sc (.int .i64 (a.length : Int)),
      (decide ((p1.length : Int) < (a.length : Int))) = false]) (by kernel_rfl) (show X.out 0 ≠ X.go from nofun) (cj (len_nm _ _) (cj1 (rng_end h1))))
  | x1 :: t1, p1, h1, v1 => by
    unfold laws_heldDoneS_l0
    exact
     Pn.ite (fun h3 =>
      Pn.some (LpO.out [.wait 3, .nm 8 (V.sc (.int .i64 (a.length : Int))), .bit true, .el (E140 x1), .bit true, .wait 1, .mask [4], .ren []] (p := [V.sc (.int .i64 ((List.map E140 a).length : Int)) = V.sc (.int .i64 (a.length : Int)),
       (decide ((p1.length : Int) < (a.length : Int))) = true,
       (0 : Int) ≤ (p1.length : Int),
       (List.map E140 a)[(p1.length : Int).toNat]? = some (E140 x1),
       (x1.At != v1) = true]) (by kernel_rfl) (show X.ret ≠ X.go from nofun) (cj (len_nm _ _) (cj (rng_lt h1) (cj (by omega) (cj (rng_get _ h1) (cj1 h3))))))) (fun h3 =>
      Pn.bind (fun r1 h4 =>
       Pn.ite (fun h5 =>
        Pn.some (LpO.out [.wait 3, .nm 8 (V.sc (.int .i64 (a.length : Int))), .bit true, .el (E140 x1), .bit false, .el (E140 x1), .call [] (E3 r1) [], .bit true, .wait 1, .mask [4], .ren []] (p := [V.sc (.int .i64 ((List.map E140 a).length : Int)) = V.sc (.int .i64 (a.length : Int)),
         (decide ((p1.length : Int) < (a.length : Int))) = true,
         (0 : Int) ≤ (p1.length : Int),
         (List.map E140 a)[(p1.length : Int).toNat]? = some (E140 x1),
         (x1.At != v1) = false,
         (0 : Int) ≤ (p1.length : Int),
         (List.map E140 a)[(p1.length : Int).toNat]? = some (E140 x1),
         Fn Try.prog 109 [(false, E22 x1.Data), (false, E3 (i64 (v1 + 1)))] (E3 r1) [],
         (true || ((E3 r1).nv && nvL [])) = true,
         (decide (r1 < 0)) = true]) (by kernel_rfl) (show X.ret ≠ X.go from nofun) (cj (len_nm _ _) (cj (rng_lt h1) (cj (by omega) (cj (rng_get _ h1) (cj h3 (cj (by omega) (cj (rng_get _ h1) (cj (laws_heldByteS_ok x1.Data (i64 (v1 + 1)) r1 h4) (cj rfl (cj1 h5)))))))))))) (fun h5 =>
        Pn.bind (fun r2 h6 =>
         Pn.ite (fun h7 =>
          Pn.some (LpO.out [.wait 3, .nm 8 (V.sc (.int .i64 (a.length : Int))), .bit true, .el (E140 x1), .bit false, .el (E140 x1), .call [] (E3 r1) [], .bit false, .el (E140 x1), .call [] (E3 r2) [], .bit true, .wait 1, .mask [4], .ren []] (p := [V.sc (.int .i64 ((List.map E140 a).length : Int)) = V.sc (.int .i64 (a.length : Int)),
           (decide ((p1.length : Int) < (a.length : Int))) = true,
           (0 : Int) ≤ (p1.length : Int),
           (List.map E140 a)[(p1.length : Int).toNat]? = some (E140 x1),
           (x1.At != v1) = false,
           (0 : Int) ≤ (p1.length : Int),
           (List.map E140 a)[(p1.length : Int).toNat]? = some (E140 x1),
           Fn Try.prog 109 [(false, E22 x1.Data), (false, E3 (i64 (v1 + 1)))] (E3 r1) [],
           (true || ((E3 r1).nv && nvL [])) = true,
           (decide (r1 < 0)) = false,
           (0 : Int) ≤ (p1.length : Int),
           (List.map E140 a)[(p1.length : Int).toNat]? = some (E140 x1),
           Fn Try.prog 109 [(false, E22 x1.Reply), (false, E3 r1)] (E3 r2) [],
           (true || ((E3 r2).nv && nvL [])) = true,
           (decide (r2 < 0)) = true]) (by kernel_rfl) (show X.ret ≠ X.go from nofun) (cj (len_nm _ _) (cj (rng_lt h1) (cj (by omega) (cj (rng_get _ h1) (cj h3 (cj (by omega) (cj (rng_get _ h1) (cj (laws_heldByteS_ok x1.Data (i64 (v1 + 1)) r1 h4) (cj rfl (cj h5 (cj (by omega) (cj (rng_get _ h1) (cj (laws_heldByteS_ok x1.Reply r1 r2 h6) (cj rfl (cj1 h7))))))))))))))))) (fun h7 =>
          LpO.go [.wait 3, .nm 8 (V.sc (.int .i64 (a.length : Int))), .bit true, .el (E140 x1), .bit false, .el (E140 x1), .call [] (E3 r1) [], .bit false, .el (E140 x1), .call [] (E3 r2) [], .bit false, .wait 3, .mask [0, 1, 5], .ren [], .nm 5 (V.sc (.int .i64 ((p1 ++ [x1]).length : Int)))] (p := [V.sc (.int .i64 ((List.map E140 a).length : Int)) = V.sc (.int .i64 (a.length : Int)),
           (decide ((p1.length : Int) < (a.length : Int))) = true,
           (0 : Int) ≤ (p1.length : Int),
           (List.map E140 a)[(p1.length : Int).toNat]? = some (E140 x1),
           (x1.At != v1) = false,
           (0 : Int) ≤ (p1.length : Int),
           (List.map E140 a)[(p1.length : Int).toNat]? = some (E140 x1),
           Fn Try.prog 109 [(false, E22 x1.Data), (false, E3 (i64 (v1 + 1)))] (E3 r1) [],
           (true || ((E3 r1).nv && nvL [])) = true,
           (decide (r1 < 0)) = false,
           (0 : Int) ≤ (p1.length : Int),
           (List.map E140 a)[(p1.length : Int).toNat]? = some (E140 x1),
           Fn Try.prog 109 [(false, E22 x1.Reply), (false, E3 r1)] (E3 r2) [],
           (true || ((E3 r2).nv && nvL [])) = true,
           (decide (r2 < 0)) = false,
           V.sc (.int .i64 (i64 ((p1.length : Int) + 1))) = V.sc (.int .i64 ((p1 ++ [x1]).length : Int))]) (by kernel_rfl) (cj (len_nm _ _) (cj (rng_lt h1) (cj (by omega) (cj (rng_get _ h1) (cj h3 (cj (by omega) (cj (rng_get _ h1) (cj (laws_heldByteS_ok x1.Data (i64 (v1 + 1)) r1 h4) (cj rfl (cj h5 (cj (by omega) (cj (rng_get _ h1) (cj (laws_heldByteS_ok x1.Reply r1 r2 h6) (cj rfl (cj h7 (cj1 (rng_next h1 h2))))))))))))))))) (laws_heldDoneS_l0_ok a h2 t1 (p1 ++ [x1]) (rng_step h1) r2))))))
def laws_heldDoneS (a : List Done) (k : Int) : Option (Int) :=
 if (capOk a.length) = true then
  (laws_heldDoneS_l0 a a k).bind fun r3 =>
  Lo.elim r3 (fun s1 =>
   some s1) (fun s2 =>
   some (-1))
 else none
theorem laws_heldDoneS_ok (a : List Done) (k : Int) : Pn (fun y => Fn Try.prog 51 [(false, E77 a), (false, E3 k)] (E3 y) []) (laws_heldDoneS a k) := by
  unfold laws_heldDoneS
  exact
   Pn.ite (fun h8 =>
    Pn.bind (fun r3 h9 =>
     Pn.lo (fun s1 h10 =>
      Pn.some (Fn.of [.wait 3, .mask [0, 1, 5], .ren [], .loop (X.out 0) (st 40 [(1, V.sc (.int .i64 s1))] [] [])] (p := [Loop Try.prog (sub (codeOf Try.prog 51) [1, 0, 1, 0, 0]) (st 40 [(0, V.sl false 140 (List.map E140 a)), (1, V.sc (.int .i64 k)), (5, V.sc (.int .i64 0))] [] []) (X.out 0) (st 40 [(1, V.sc (.int .i64 s1))] [] [])]) (by kernel_rfl) (cj1 ((laws_heldDoneS_l0_ok a h8 a [] rfl k r3 h9).at h10)))) (fun s2 h11 =>
      Pn.some (Fn.of [.wait 3, .mask [0, 1, 5], .ren [], .loop (X.ret) (st 40 [(4, V.sc (.int .i64 (-1)))] [] [])] (p := [Loop Try.prog (sub (codeOf Try.prog 51) [1, 0, 1, 0, 0]) (st 40 [(0, V.sl false 140 (List.map E140 a)), (1, V.sc (.int .i64 k)), (5, V.sc (.int .i64 0))] [] []) (X.ret) (st 40 [(4, V.sc (.int .i64 (-1)))] [] [])]) (by kernel_rfl) (cj1 ((laws_heldDoneS_l0_ok a h8 a [] rfl k r3 h9).at h11)))))) (fun h8 =>
    Pn.none)
def laws_FnExactDonesOf (o : World) : Option (Bool) :=
 (laws_szWorld o 1048576).bind fun r1 =>
 if (decide (r1 < 0)) = true then
  some true
 else
  (laws_toWorld o).bind fun r2 =>
  (spec_DonesOf r2).bind fun r3 =>
  (laws_toWorld o).bind fun r4 =>
  (impl_DonesOf r4).bind fun r5 =>
  (laws_eqDoneS r5 r3).bind fun r6 =>
  if r6 = true then
   (laws_toWorld o).bind fun r7 =>
   (laws_eqWorld r4 r7).bind fun r8 =>
   if r8 = true then
    (laws_markWorld r4 1).bind fun r9 =>
    if (decide (r9.1 < 0)) = true then
     some false
    else
     (laws_eqDoneS r5 r3).bind fun r10 =>
     if r10 = true then
      (laws_markDoneS r5 1).bind fun r11 =>
      (laws_heldDoneS r11.2 1).bind fun r12 =>
      if (decide (r12 < 0)) = true then
       some false
      else
       if (r12 != r11.1) = true then
        some false
       else
        (laws_toWorld o).bind fun r13 =>
        (impl_DonesOf r13).bind fun r14 =>
        (laws_eqDoneS r14 r3).bind fun r15 =>
        if r15 = true then
         (laws_heldDoneS r11.2 1).bind fun r16 =>
         if (decide (r16 < 0)) = true then
          some false
         else
          if (r16 != r11.1) = true then
           some false
          else
           some true
        else
         some false
     else
      some false
   else
    some false
  else
   some false
theorem laws_FnExactDonesOf_ok (o : World) : Pn (fun y => Fn Try.prog 8 [(false, E75 o)] (E4 y) []) (laws_FnExactDonesOf o) := by
  unfold laws_FnExactDonesOf
  exact
   Pn.bind (fun r1 h1 =>
    Pn.ite (fun h2 =>
     Pn.some (Fn.of [.call [] (E3 r1) [], .bit true] (p := [Fn Try.prog 43 [(false, E75 o), (false, E3 1048576)] (E3 r1) [],
      (true || ((E3 r1).nv && nvL [])) = true,
      (decide (r1 < 0)) = true]) (by kernel_rfl) (cj (laws_szWorld_ok o 1048576 r1 h1) (cj rfl (cj1 h2))))) (fun h2 =>
     Pn.bind (fun r2 h3 =>
      Pn.bind (fun r3 h4 =>
       Pn.bind (fun r4 h5 =>
        Pn.bind (fun r5 h6 =>
         Pn.bind (fun r6 h7 =>
          Pn.ite (fun h8 =>
           Pn.bind (fun r7 h9 =>
            Pn.bind (fun r8 h10 =>
             Pn.ite (fun h11 =>
              Pn.bind (fun r9 h12 =>
               Pn.ite (fun h13 =>
                Pn.some (Fn.of [.call [] (E3 r1) [], .bit false, .call [] (E81 r2) [], .call [] (E77 r3) [], .call [] (E81 r4) [], .call [] (E77 r5) [], .call [] (E4 r6) [], .bit false, .draw [], .call [] (E81 r7) [], .call [] (E4 r8) [], .bit false, .call [true, false] (E3 r9.1) [V.sl true 58 (List.map E58 r9.2.1), V.sl true 137 (List.map E137 r9.2.2)], .bit true, .bit true, .bit true, .bit true, .bit true, .bit true] (p := [Fn Try.prog 43 [(false, E75 o), (false, E3 1048576)] (E3 r1) [],
                 (true || ((E3 r1).nv && nvL [])) = true,
                 (decide (r1 < 0)) = false,
                 Fn Try.prog 45 [(false, E75 o)] (E81 r2) [],
                 (true || ((E81 r2).nv && nvL [])) = true,
                 Fn Try.prog 44 [(false, E81 r2)] (E77 r3) [],
                 (false || ((E77 r3).nv && nvL [])) = true,
                 Fn Try.prog 45 [(false, E75 o)] (E81 r4) [],
                 (true || ((E81 r4).nv && nvL [])) = true,
                 Fn Try.prog 46 [(false, E81 r4)] (E77 r5) [],
                 (false || ((E77 r5).nv && nvL [])) = true,
                 Fn Try.prog 47 [(false, E77 r5), (false, E77 r3)] (E4 r6) [],
                 (false || ((E4 r6).nv && nvL [])) = true,
                 (!r6) = false,
                 Fn Try.prog 45 [(false, E75 o)] (E81 r7) [],
                 (true || ((E81 r7).nv && nvL [])) = true,
                 Fn Try.prog 48 [(false, E81 r4), (false, E81 r7)] (E4 r8) [],
                 (false || ((E4 r8).nv && nvL [])) = true,
                 (!r8) = false,
                 Fn Try.prog 49 [(true, E81 r4), (false, E3 1)] (E3 r9.1) [V.sl true 58 (List.map E58 r9.2.1), V.sl true 137 (List.map E137 r9.2.2)],
                 (true || ((E3 r9.1).nv && nvL [V.sl true 58 (List.map E58 r9.2.1), V.sl true 137 (List.map E137 r9.2.2)])) = true,
                 (decide (r9.1 < 0)) = true,
                 (decide (r9.1 < 0)) = true,
                 (decide (r9.1 < 0)) = true,
                 (decide (r9.1 < 0)) = true,
                 (decide (r9.1 < 0)) = true,
                 true = true]) (by kernel_rfl) (cj (laws_szWorld_ok o 1048576 r1 h1) (cj rfl (cj h2 (cj (laws_toWorld_ok o r2 h3) (cj rfl (cj (spec_DonesOf_ok r2 r3 h4) (cj (by simp [V.nv, nvL, nvL_all, nv_E3, nv_E5, nv_E22, nv_E77, nv_E140]) (cj (laws_toWorld_ok o r4 h5) (cj rfl (cj (impl_DonesOf_ok r4 r5 h6) (cj (by simp [V.nv, nvL, nvL_all, nv_E3, nv_E5, nv_E22, nv_E77, nv_E140]) (cj (laws_eqDoneS_ok r5 r3 r6 h7) (cj (by simp [V.nv, nvL, nvL_all, nv_E4]) (cj (nf h8) (cj (laws_toWorld_ok o r7 h9) (cj rfl (cj (laws_eqWorld_ok r4 r7 r8 h10) (cj (by simp [V.nv, nvL, nvL_all, nv_E4]) (cj (nf h11) (cj (laws_markWorld_ok r4 1 r9 h12) (cj rfl (cj h13 (cj h13 (cj h13 (cj h13 (cj h13 (cj1 rfl))))))))))))))))))))))))))))) (fun h13 =>
                Pn.bind (fun r10 h14 =>
                 Pn.ite (fun h15 =>
                  Pn.bind (fun r11 h16 =>
                   Pn.bind (fun r12 h17 =>
                    Pn.ite (fun h18 =>
                     Pn.some (Fn.of [.call [] (E3 r1) [], .bit false, .call [] (E81 r2) [], .call [] (E77 r3) [], .call [] (E81 r4) [], .call [] (E77 r5) [], .call [] (E4 r6) [], .bit false, .draw [], .call [] (E81 r7) [], .call [] (E4 r8) [], .bit false, .call [true, false] (E3 r9.1) [V.sl true 58 (List.map E58 r9.2.1), V.sl true 137 (List.map E137 r9.2.2)], .bit false, .bit false, .bit false, .call [] (E4 r10) [], .bit false, .bit false, .bit false, .call [true, false] (E3 r11.1) [V.sl true 140 (List.map E140 r11.2)], .call [] (E3 r12) [], .bit true] (p := [Fn Try.prog 43 [(false, E75 o), (false, E3 1048576)] (E3 r1) [],
                      (true || ((E3 r1).nv && nvL [])) = true,
                      (decide (r1 < 0)) = false,
                      Fn Try.prog 45 [(false, E75 o)] (E81 r2) [],
                      (true || ((E81 r2).nv && nvL [])) = true,
                      Fn Try.prog 44 [(false, E81 r2)] (E77 r3) [],
                      (false || ((E77 r3).nv && nvL [])) = true,
                      Fn Try.prog 45 [(false, E75 o)] (E81 r4) [],
                      (true || ((E81 r4).nv && nvL [])) = true,
                      Fn Try.prog 46 [(false, E81 r4)] (E77 r5) [],
                      (false || ((E77 r5).nv && nvL [])) = true,
                      Fn Try.prog 47 [(false, E77 r5), (false, E77 r3)] (E4 r6) [],
                      (false || ((E4 r6).nv && nvL [])) = true,
                      (!r6) = false,
                      Fn Try.prog 45 [(false, E75 o)] (E81 r7) [],
                      (true || ((E81 r7).nv && nvL [])) = true,
                      Fn Try.prog 48 [(false, E81 r4), (false, E81 r7)] (E4 r8) [],
                      (false || ((E4 r8).nv && nvL [])) = true,
                      (!r8) = false,
                      Fn Try.prog 49 [(true, E81 r4), (false, E3 1)] (E3 r9.1) [V.sl true 58 (List.map E58 r9.2.1), V.sl true 137 (List.map E137 r9.2.2)],
                      (true || ((E3 r9.1).nv && nvL [V.sl true 58 (List.map E58 r9.2.1), V.sl true 137 (List.map E137 r9.2.2)])) = true,
                      (decide (r9.1 < 0)) = false,
                      (decide (r9.1 < 0)) = false,
                      (decide (r9.1 < 0)) = false,
                      Fn Try.prog 47 [(false, E77 r5), (false, E77 r3)] (E4 r10) [],
                      (false || ((E4 r10).nv && nvL [])) = true,
                      (decide (r9.1 < 0)) = false,
                      (decide (r9.1 < 0)) = false,
                      (!r10) = false,
                      Fn Try.prog 50 [(true, E77 r5), (false, E3 1)] (E3 r11.1) [V.sl true 140 (List.map E140 r11.2)],
                      (true || ((E3 r11.1).nv && nvL [V.sl true 140 (List.map E140 r11.2)])) = true,
                      Fn Try.prog 51 [(false, E77 r11.2), (false, E3 1)] (E3 r12) [],
                      (false || ((E3 r12).nv && nvL [])) = true,
                      (decide (r12 < 0)) = true]) (by kernel_rfl) (cj (laws_szWorld_ok o 1048576 r1 h1) (cj rfl (cj h2 (cj (laws_toWorld_ok o r2 h3) (cj rfl (cj (spec_DonesOf_ok r2 r3 h4) (cj (by simp [V.nv, nvL, nvL_all, nv_E3, nv_E5, nv_E22, nv_E77, nv_E140]) (cj (laws_toWorld_ok o r4 h5) (cj rfl (cj (impl_DonesOf_ok r4 r5 h6) (cj (by simp [V.nv, nvL, nvL_all, nv_E3, nv_E5, nv_E22, nv_E77, nv_E140]) (cj (laws_eqDoneS_ok r5 r3 r6 h7) (cj (by simp [V.nv, nvL, nvL_all, nv_E4]) (cj (nf h8) (cj (laws_toWorld_ok o r7 h9) (cj rfl (cj (laws_eqWorld_ok r4 r7 r8 h10) (cj (by simp [V.nv, nvL, nvL_all, nv_E4]) (cj (nf h11) (cj (laws_markWorld_ok r4 1 r9 h12) (cj rfl (cj h13 (cj h13 (cj h13 (cj (laws_eqDoneS_ok r5 r3 r10 h14) (cj (by simp [V.nv, nvL, nvL_all, nv_E4]) (cj h13 (cj h13 (cj (nf h15) (cj (laws_markDoneS_ok r5 1 r11 h16) (cj rfl (cj (laws_heldDoneS_ok r11.2 1 r12 h17) (cj (by simp [V.nv, nvL, nvL_all, nv_E3]) (cj1 h18)))))))))))))))))))))))))))))))))))) (fun h18 =>
                     Pn.ite (fun h19 =>
                      Pn.some (Fn.of [.call [] (E3 r1) [], .bit false, .call [] (E81 r2) [], .call [] (E77 r3) [], .call [] (E81 r4) [], .call [] (E77 r5) [], .call [] (E4 r6) [], .bit false, .draw [], .call [] (E81 r7) [], .call [] (E4 r8) [], .bit false, .call [true, false] (E3 r9.1) [V.sl true 58 (List.map E58 r9.2.1), V.sl true 137 (List.map E137 r9.2.2)], .bit false, .bit false, .bit false, .call [] (E4 r10) [], .bit false, .bit false, .bit false, .call [true, false] (E3 r11.1) [V.sl true 140 (List.map E140 r11.2)], .call [] (E3 r12) [], .bit false, .bit true] (p := [Fn Try.prog 43 [(false, E75 o), (false, E3 1048576)] (E3 r1) [],
                       (true || ((E3 r1).nv && nvL [])) = true,
                       (decide (r1 < 0)) = false,
                       Fn Try.prog 45 [(false, E75 o)] (E81 r2) [],
                       (true || ((E81 r2).nv && nvL [])) = true,
                       Fn Try.prog 44 [(false, E81 r2)] (E77 r3) [],
                       (false || ((E77 r3).nv && nvL [])) = true,
                       Fn Try.prog 45 [(false, E75 o)] (E81 r4) [],
                       (true || ((E81 r4).nv && nvL [])) = true,
                       Fn Try.prog 46 [(false, E81 r4)] (E77 r5) [],
                       (false || ((E77 r5).nv && nvL [])) = true,
                       Fn Try.prog 47 [(false, E77 r5), (false, E77 r3)] (E4 r6) [],
                       (false || ((E4 r6).nv && nvL [])) = true,
                       (!r6) = false,
                       Fn Try.prog 45 [(false, E75 o)] (E81 r7) [],
                       (true || ((E81 r7).nv && nvL [])) = true,
                       Fn Try.prog 48 [(false, E81 r4), (false, E81 r7)] (E4 r8) [],
                       (false || ((E4 r8).nv && nvL [])) = true,
                       (!r8) = false,
                       Fn Try.prog 49 [(true, E81 r4), (false, E3 1)] (E3 r9.1) [V.sl true 58 (List.map E58 r9.2.1), V.sl true 137 (List.map E137 r9.2.2)],
                       (true || ((E3 r9.1).nv && nvL [V.sl true 58 (List.map E58 r9.2.1), V.sl true 137 (List.map E137 r9.2.2)])) = true,
                       (decide (r9.1 < 0)) = false,
                       (decide (r9.1 < 0)) = false,
                       (decide (r9.1 < 0)) = false,
                       Fn Try.prog 47 [(false, E77 r5), (false, E77 r3)] (E4 r10) [],
                       (false || ((E4 r10).nv && nvL [])) = true,
                       (decide (r9.1 < 0)) = false,
                       (decide (r9.1 < 0)) = false,
                       (!r10) = false,
                       Fn Try.prog 50 [(true, E77 r5), (false, E3 1)] (E3 r11.1) [V.sl true 140 (List.map E140 r11.2)],
                       (true || ((E3 r11.1).nv && nvL [V.sl true 140 (List.map E140 r11.2)])) = true,
                       Fn Try.prog 51 [(false, E77 r11.2), (false, E3 1)] (E3 r12) [],
                       (false || ((E3 r12).nv && nvL [])) = true,
                       (decide (r12 < 0)) = false,
                       (r12 != r11.1) = true]) (by kernel_rfl) (cj (laws_szWorld_ok o 1048576 r1 h1) (cj rfl (cj h2 (cj (laws_toWorld_ok o r2 h3) (cj rfl (cj (spec_DonesOf_ok r2 r3 h4) (cj (by simp [V.nv, nvL, nvL_all, nv_E3, nv_E5, nv_E22, nv_E77, nv_E140]) (cj (laws_toWorld_ok o r4 h5) (cj rfl (cj (impl_DonesOf_ok r4 r5 h6) (cj (by simp [V.nv, nvL, nvL_all, nv_E3, nv_E5, nv_E22, nv_E77, nv_E140]) (cj (laws_eqDoneS_ok r5 r3 r6 h7) (cj (by simp [V.nv, nvL, nvL_all, nv_E4]) (cj (nf h8) (cj (laws_toWorld_ok o r7 h9) (cj rfl (cj (laws_eqWorld_ok r4 r7 r8 h10) (cj (by simp [V.nv, nvL, nvL_all, nv_E4]) (cj (nf h11) (cj (laws_markWorld_ok r4 1 r9 h12) (cj rfl (cj h13 (cj h13 (cj h13 (cj (laws_eqDoneS_ok r5 r3 r10 h14) (cj (by simp [V.nv, nvL, nvL_all, nv_E4]) (cj h13 (cj h13 (cj (nf h15) (cj (laws_markDoneS_ok r5 1 r11 h16) (cj rfl (cj (laws_heldDoneS_ok r11.2 1 r12 h17) (cj (by simp [V.nv, nvL, nvL_all, nv_E3]) (cj h18 (cj1 h19))))))))))))))))))))))))))))))))))))) (fun h19 =>
                      Pn.bind (fun r13 h20 =>
                       Pn.bind (fun r14 h21 =>
                        Pn.bind (fun r15 h22 =>
                         Pn.ite (fun h23 =>
                          Pn.bind (fun r16 h24 =>
                           Pn.ite (fun h25 =>
                            Pn.some (Fn.of [.call [] (E3 r1) [], .bit false, .call [] (E81 r2) [], .call [] (E77 r3) [], .call [] (E81 r4) [], .call [] (E77 r5) [], .call [] (E4 r6) [], .bit false, .draw [], .call [] (E81 r7) [], .call [] (E4 r8) [], .bit false, .call [true, false] (E3 r9.1) [V.sl true 58 (List.map E58 r9.2.1), V.sl true 137 (List.map E137 r9.2.2)], .bit false, .bit false, .bit false, .call [] (E4 r10) [], .bit false, .bit false, .bit false, .call [true, false] (E3 r11.1) [V.sl true 140 (List.map E140 r11.2)], .call [] (E3 r12) [], .bit false, .bit false, .call [] (E81 r13) [], .call [] (E77 r14) [], .call [] (E4 r15) [], .bit false, .call [] (E3 r16) [], .bit true] (p := [Fn Try.prog 43 [(false, E75 o), (false, E3 1048576)] (E3 r1) [],
                             (true || ((E3 r1).nv && nvL [])) = true,
                             (decide (r1 < 0)) = false,
                             Fn Try.prog 45 [(false, E75 o)] (E81 r2) [],
                             (true || ((E81 r2).nv && nvL [])) = true,
                             Fn Try.prog 44 [(false, E81 r2)] (E77 r3) [],
                             (false || ((E77 r3).nv && nvL [])) = true,
                             Fn Try.prog 45 [(false, E75 o)] (E81 r4) [],
                             (true || ((E81 r4).nv && nvL [])) = true,
                             Fn Try.prog 46 [(false, E81 r4)] (E77 r5) [],
                             (false || ((E77 r5).nv && nvL [])) = true,
                             Fn Try.prog 47 [(false, E77 r5), (false, E77 r3)] (E4 r6) [],
                             (false || ((E4 r6).nv && nvL [])) = true,
                             (!r6) = false,
                             Fn Try.prog 45 [(false, E75 o)] (E81 r7) [],
                             (true || ((E81 r7).nv && nvL [])) = true,
                             Fn Try.prog 48 [(false, E81 r4), (false, E81 r7)] (E4 r8) [],
                             (false || ((E4 r8).nv && nvL [])) = true,
                             (!r8) = false,
                             Fn Try.prog 49 [(true, E81 r4), (false, E3 1)] (E3 r9.1) [V.sl true 58 (List.map E58 r9.2.1), V.sl true 137 (List.map E137 r9.2.2)],
                             (true || ((E3 r9.1).nv && nvL [V.sl true 58 (List.map E58 r9.2.1), V.sl true 137 (List.map E137 r9.2.2)])) = true,
                             (decide (r9.1 < 0)) = false,
                             (decide (r9.1 < 0)) = false,
                             (decide (r9.1 < 0)) = false,
                             Fn Try.prog 47 [(false, E77 r5), (false, E77 r3)] (E4 r10) [],
                             (false || ((E4 r10).nv && nvL [])) = true,
                             (decide (r9.1 < 0)) = false,
                             (decide (r9.1 < 0)) = false,
                             (!r10) = false,
                             Fn Try.prog 50 [(true, E77 r5), (false, E3 1)] (E3 r11.1) [V.sl true 140 (List.map E140 r11.2)],
                             (true || ((E3 r11.1).nv && nvL [V.sl true 140 (List.map E140 r11.2)])) = true,
                             Fn Try.prog 51 [(false, E77 r11.2), (false, E3 1)] (E3 r12) [],
                             (false || ((E3 r12).nv && nvL [])) = true,
                             (decide (r12 < 0)) = false,
                             (r12 != r11.1) = false,
                             Fn Try.prog 45 [(false, E75 o)] (E81 r13) [],
                             (true || ((E81 r13).nv && nvL [])) = true,
                             Fn Try.prog 46 [(false, E81 r13)] (E77 r14) [],
                             (false || ((E77 r14).nv && nvL [])) = true,
                             Fn Try.prog 47 [(false, E77 r14), (false, E77 r3)] (E4 r15) [],
                             (false || ((E4 r15).nv && nvL [])) = true,
                             (!r15) = false,
                             Fn Try.prog 51 [(false, E77 r11.2), (false, E3 1)] (E3 r16) [],
                             (false || ((E3 r16).nv && nvL [])) = true,
                             (decide (r16 < 0)) = true]) (by kernel_rfl) (cj (laws_szWorld_ok o 1048576 r1 h1) (cj rfl (cj h2 (cj (laws_toWorld_ok o r2 h3) (cj rfl (cj (spec_DonesOf_ok r2 r3 h4) (cj (by simp [V.nv, nvL, nvL_all, nv_E3, nv_E5, nv_E22, nv_E77, nv_E140]) (cj (laws_toWorld_ok o r4 h5) (cj rfl (cj (impl_DonesOf_ok r4 r5 h6) (cj (by simp [V.nv, nvL, nvL_all, nv_E3, nv_E5, nv_E22, nv_E77, nv_E140]) (cj (laws_eqDoneS_ok r5 r3 r6 h7) (cj (by simp [V.nv, nvL, nvL_all, nv_E4]) (cj (nf h8) (cj (laws_toWorld_ok o r7 h9) (cj rfl (cj (laws_eqWorld_ok r4 r7 r8 h10) (cj (by simp [V.nv, nvL, nvL_all, nv_E4]) (cj (nf h11) (cj (laws_markWorld_ok r4 1 r9 h12) (cj rfl (cj h13 (cj h13 (cj h13 (cj (laws_eqDoneS_ok r5 r3 r10 h14) (cj (by simp [V.nv, nvL, nvL_all, nv_E4]) (cj h13 (cj h13 (cj (nf h15) (cj (laws_markDoneS_ok r5 1 r11 h16) (cj rfl (cj (laws_heldDoneS_ok r11.2 1 r12 h17) (cj (by simp [V.nv, nvL, nvL_all, nv_E3]) (cj h18 (cj h19 (cj (laws_toWorld_ok o r13 h20) (cj rfl (cj (impl_DonesOf_ok r13 r14 h21) (cj (by simp [V.nv, nvL, nvL_all, nv_E3, nv_E5, nv_E22, nv_E77, nv_E140]) (cj (laws_eqDoneS_ok r14 r3 r15 h22) (cj (by simp [V.nv, nvL, nvL_all, nv_E4]) (cj (nf h23) (cj (laws_heldDoneS_ok r11.2 1 r16 h24) (cj (by simp [V.nv, nvL, nvL_all, nv_E3]) (cj1 h25))))))))))))))))))))))))))))))))))))))))))))))) (fun h25 =>
                            Pn.ite (fun h26 =>
                             Pn.some (Fn.of [.call [] (E3 r1) [], .bit false, .call [] (E81 r2) [], .call [] (E77 r3) [], .call [] (E81 r4) [], .call [] (E77 r5) [], .call [] (E4 r6) [], .bit false, .draw [], .call [] (E81 r7) [], .call [] (E4 r8) [], .bit false, .call [true, false] (E3 r9.1) [V.sl true 58 (List.map E58 r9.2.1), V.sl true 137 (List.map E137 r9.2.2)], .bit false, .bit false, .bit false, .call [] (E4 r10) [], .bit false, .bit false, .bit false, .call [true, false] (E3 r11.1) [V.sl true 140 (List.map E140 r11.2)], .call [] (E3 r12) [], .bit false, .bit false, .call [] (E81 r13) [], .call [] (E77 r14) [], .call [] (E4 r15) [], .bit false, .call [] (E3 r16) [], .bit false, .bit true] (p := [Fn Try.prog 43 [(false, E75 o), (false, E3 1048576)] (E3 r1) [],
                              (true || ((E3 r1).nv && nvL [])) = true,
                              (decide (r1 < 0)) = false,
                              Fn Try.prog 45 [(false, E75 o)] (E81 r2) [],
                              (true || ((E81 r2).nv && nvL [])) = true,
                              Fn Try.prog 44 [(false, E81 r2)] (E77 r3) [],
                              (false || ((E77 r3).nv && nvL [])) = true,
                              Fn Try.prog 45 [(false, E75 o)] (E81 r4) [],
                              (true || ((E81 r4).nv && nvL [])) = true,
                              Fn Try.prog 46 [(false, E81 r4)] (E77 r5) [],
                              (false || ((E77 r5).nv && nvL [])) = true,
                              Fn Try.prog 47 [(false, E77 r5), (false, E77 r3)] (E4 r6) [],
                              (false || ((E4 r6).nv && nvL [])) = true,
                              (!r6) = false,
                              Fn Try.prog 45 [(false, E75 o)] (E81 r7) [],
                              (true || ((E81 r7).nv && nvL [])) = true,
                              Fn Try.prog 48 [(false, E81 r4), (false, E81 r7)] (E4 r8) [],
                              (false || ((E4 r8).nv && nvL [])) = true,
                              (!r8) = false,
                              Fn Try.prog 49 [(true, E81 r4), (false, E3 1)] (E3 r9.1) [V.sl true 58 (List.map E58 r9.2.1), V.sl true 137 (List.map E137 r9.2.2)],
                              (true || ((E3 r9.1).nv && nvL [V.sl true 58 (List.map E58 r9.2.1), V.sl true 137 (List.map E137 r9.2.2)])) = true,
                              (decide (r9.1 < 0)) = false,
                              (decide (r9.1 < 0)) = false,
                              (decide (r9.1 < 0)) = false,
                              Fn Try.prog 47 [(false, E77 r5), (false, E77 r3)] (E4 r10) [],
                              (false || ((E4 r10).nv && nvL [])) = true,
                              (decide (r9.1 < 0)) = false,
                              (decide (r9.1 < 0)) = false,
                              (!r10) = false,
                              Fn Try.prog 50 [(true, E77 r5), (false, E3 1)] (E3 r11.1) [V.sl true 140 (List.map E140 r11.2)],
                              (true || ((E3 r11.1).nv && nvL [V.sl true 140 (List.map E140 r11.2)])) = true,
                              Fn Try.prog 51 [(false, E77 r11.2), (false, E3 1)] (E3 r12) [],
                              (false || ((E3 r12).nv && nvL [])) = true,
                              (decide (r12 < 0)) = false,
                              (r12 != r11.1) = false,
                              Fn Try.prog 45 [(false, E75 o)] (E81 r13) [],
                              (true || ((E81 r13).nv && nvL [])) = true,
                              Fn Try.prog 46 [(false, E81 r13)] (E77 r14) [],
                              (false || ((E77 r14).nv && nvL [])) = true,
                              Fn Try.prog 47 [(false, E77 r14), (false, E77 r3)] (E4 r15) [],
                              (false || ((E4 r15).nv && nvL [])) = true,
                              (!r15) = false,
                              Fn Try.prog 51 [(false, E77 r11.2), (false, E3 1)] (E3 r16) [],
                              (false || ((E3 r16).nv && nvL [])) = true,
                              (decide (r16 < 0)) = false,
                              (r16 != r11.1) = true]) (by kernel_rfl) (cj (laws_szWorld_ok o 1048576 r1 h1) (cj rfl (cj h2 (cj (laws_toWorld_ok o r2 h3) (cj rfl (cj (spec_DonesOf_ok r2 r3 h4) (cj (by simp [V.nv, nvL, nvL_all, nv_E3, nv_E5, nv_E22, nv_E77, nv_E140]) (cj (laws_toWorld_ok o r4 h5) (cj rfl (cj (impl_DonesOf_ok r4 r5 h6) (cj (by simp [V.nv, nvL, nvL_all, nv_E3, nv_E5, nv_E22, nv_E77, nv_E140]) (cj (laws_eqDoneS_ok r5 r3 r6 h7) (cj (by simp [V.nv, nvL, nvL_all, nv_E4]) (cj (nf h8) (cj (laws_toWorld_ok o r7 h9) (cj rfl (cj (laws_eqWorld_ok r4 r7 r8 h10) (cj (by simp [V.nv, nvL, nvL_all, nv_E4]) (cj (nf h11) (cj (laws_markWorld_ok r4 1 r9 h12) (cj rfl (cj h13 (cj h13 (cj h13 (cj (laws_eqDoneS_ok r5 r3 r10 h14) (cj (by simp [V.nv, nvL, nvL_all, nv_E4]) (cj h13 (cj h13 (cj (nf h15) (cj (laws_markDoneS_ok r5 1 r11 h16) (cj rfl (cj (laws_heldDoneS_ok r11.2 1 r12 h17) (cj (by simp [V.nv, nvL, nvL_all, nv_E3]) (cj h18 (cj h19 (cj (laws_toWorld_ok o r13 h20) (cj rfl (cj (impl_DonesOf_ok r13 r14 h21) (cj (by simp [V.nv, nvL, nvL_all, nv_E3, nv_E5, nv_E22, nv_E77, nv_E140]) (cj (laws_eqDoneS_ok r14 r3 r15 h22) (cj (by simp [V.nv, nvL, nvL_all, nv_E4]) (cj (nf h23) (cj (laws_heldDoneS_ok r11.2 1 r16 h24) (cj (by simp [V.nv, nvL, nvL_all, nv_E3]) (cj h25 (cj1 h26)))))))))))))))))))))))))))))))))))))))))))))))) (fun h26 =>
                             Pn.some (Fn.of [.call [] (E3 r1) [], .bit false, .call [] (E81 r2) [], .call [] (E77 r3) [], .call [] (E81 r4) [], .call [] (E77 r5) [], .call [] (E4 r6) [], .bit false, .draw [], .call [] (E81 r7) [], .call [] (E4 r8) [], .bit false, .call [true, false] (E3 r9.1) [V.sl true 58 (List.map E58 r9.2.1), V.sl true 137 (List.map E137 r9.2.2)], .bit false, .bit false, .bit false, .call [] (E4 r10) [], .bit false, .bit false, .bit false, .call [true, false] (E3 r11.1) [V.sl true 140 (List.map E140 r11.2)], .call [] (E3 r12) [], .bit false, .bit false, .call [] (E81 r13) [], .call [] (E77 r14) [], .call [] (E4 r15) [], .bit false, .call [] (E3 r16) [], .bit false, .bit false] (p := [Fn Try.prog 43 [(false, E75 o), (false, E3 1048576)] (E3 r1) [],
                              (true || ((E3 r1).nv && nvL [])) = true,
                              (decide (r1 < 0)) = false,
                              Fn Try.prog 45 [(false, E75 o)] (E81 r2) [],
                              (true || ((E81 r2).nv && nvL [])) = true,
                              Fn Try.prog 44 [(false, E81 r2)] (E77 r3) [],
                              (false || ((E77 r3).nv && nvL [])) = true,
                              Fn Try.prog 45 [(false, E75 o)] (E81 r4) [],
                              (true || ((E81 r4).nv && nvL [])) = true,
                              Fn Try.prog 46 [(false, E81 r4)] (E77 r5) [],
                              (false || ((E77 r5).nv && nvL [])) = true,
                              Fn Try.prog 47 [(false, E77 r5), (false, E77 r3)] (E4 r6) [],
                              (false || ((E4 r6).nv && nvL [])) = true,
                              (!r6) = false,
                              Fn Try.prog 45 [(false, E75 o)] (E81 r7) [],
                              (true || ((E81 r7).nv && nvL [])) = true,
                              Fn Try.prog 48 [(false, E81 r4), (false, E81 r7)] (E4 r8) [],
                              (false || ((E4 r8).nv && nvL [])) = true,
                              (!r8) = false,
                              Fn Try.prog 49 [(true, E81 r4), (false, E3 1)] (E3 r9.1) [V.sl true 58 (List.map E58 r9.2.1), V.sl true 137 (List.map E137 r9.2.2)],
                              (true || ((E3 r9.1).nv && nvL [V.sl true 58 (List.map E58 r9.2.1), V.sl true 137 (List.map E137 r9.2.2)])) = true,
                              (decide (r9.1 < 0)) = false,
                              (decide (r9.1 < 0)) = false,
                              (decide (r9.1 < 0)) = false,
                              Fn Try.prog 47 [(false, E77 r5), (false, E77 r3)] (E4 r10) [],
                              (false || ((E4 r10).nv && nvL [])) = true,
                              (decide (r9.1 < 0)) = false,
                              (decide (r9.1 < 0)) = false,
                              (!r10) = false,
                              Fn Try.prog 50 [(true, E77 r5), (false, E3 1)] (E3 r11.1) [V.sl true 140 (List.map E140 r11.2)],
                              (true || ((E3 r11.1).nv && nvL [V.sl true 140 (List.map E140 r11.2)])) = true,
                              Fn Try.prog 51 [(false, E77 r11.2), (false, E3 1)] (E3 r12) [],
                              (false || ((E3 r12).nv && nvL [])) = true,
                              (decide (r12 < 0)) = false,
                              (r12 != r11.1) = false,
                              Fn Try.prog 45 [(false, E75 o)] (E81 r13) [],
                              (true || ((E81 r13).nv && nvL [])) = true,
                              Fn Try.prog 46 [(false, E81 r13)] (E77 r14) [],
                              (false || ((E77 r14).nv && nvL [])) = true,
                              Fn Try.prog 47 [(false, E77 r14), (false, E77 r3)] (E4 r15) [],
                              (false || ((E4 r15).nv && nvL [])) = true,
                              (!r15) = false,
                              Fn Try.prog 51 [(false, E77 r11.2), (false, E3 1)] (E3 r16) [],
                              (false || ((E3 r16).nv && nvL [])) = true,
                              (decide (r16 < 0)) = false,
                              (r16 != r11.1) = false]) (by kernel_rfl) (cj (laws_szWorld_ok o 1048576 r1 h1) (cj rfl (cj h2 (cj (laws_toWorld_ok o r2 h3) (cj rfl (cj (spec_DonesOf_ok r2 r3 h4) (cj (by simp [V.nv, nvL, nvL_all, nv_E3, nv_E5, nv_E22, nv_E77, nv_E140]) (cj (laws_toWorld_ok o r4 h5) (cj rfl (cj (impl_DonesOf_ok r4 r5 h6) (cj (by simp [V.nv, nvL, nvL_all, nv_E3, nv_E5, nv_E22, nv_E77, nv_E140]) (cj (laws_eqDoneS_ok r5 r3 r6 h7) (cj (by simp [V.nv, nvL, nvL_all, nv_E4]) (cj (nf h8) (cj (laws_toWorld_ok o r7 h9) (cj rfl (cj (laws_eqWorld_ok r4 r7 r8 h10) (cj (by simp [V.nv, nvL, nvL_all, nv_E4]) (cj (nf h11) (cj (laws_markWorld_ok r4 1 r9 h12) (cj rfl (cj h13 (cj h13 (cj h13 (cj (laws_eqDoneS_ok r5 r3 r10 h14) (cj (by simp [V.nv, nvL, nvL_all, nv_E4]) (cj h13 (cj h13 (cj (nf h15) (cj (laws_markDoneS_ok r5 1 r11 h16) (cj rfl (cj (laws_heldDoneS_ok r11.2 1 r12 h17) (cj (by simp [V.nv, nvL, nvL_all, nv_E3]) (cj h18 (cj h19 (cj (laws_toWorld_ok o r13 h20) (cj rfl (cj (impl_DonesOf_ok r13 r14 h21) (cj (by simp [V.nv, nvL, nvL_all, nv_E3, nv_E5, nv_E22, nv_E77, nv_E140]) (cj (laws_eqDoneS_ok r14 r3 r15 h22) (cj (by simp [V.nv, nvL, nvL_all, nv_E4]) (cj (nf h23) (cj (laws_heldDoneS_ok r11.2 1 r16 h24) (cj (by simp [V.nv, nvL, nvL_all, nv_E3]) (cj h25 (cj1 h26))))))))))))))))))))))))))))))))))))))))))))))))))) (fun h23 =>
                          Pn.some (Fn.of [.call [] (E3 r1) [], .bit false, .call [] (E81 r2) [], .call [] (E77 r3) [], .call [] (E81 r4) [], .call [] (E77 r5) [], .call [] (E4 r6) [], .bit false, .draw [], .call [] (E81 r7) [], .call [] (E4 r8) [], .bit false, .call [true, false] (E3 r9.1) [V.sl true 58 (List.map E58 r9.2.1), V.sl true 137 (List.map E137 r9.2.2)], .bit false, .bit false, .bit false, .call [] (E4 r10) [], .bit false, .bit false, .bit false, .call [true, false] (E3 r11.1) [V.sl true 140 (List.map E140 r11.2)], .call [] (E3 r12) [], .bit false, .bit false, .call [] (E81 r13) [], .call [] (E77 r14) [], .call [] (E4 r15) [], .bit true] (p := [Fn Try.prog 43 [(false, E75 o), (false, E3 1048576)] (E3 r1) [],
                           (true || ((E3 r1).nv && nvL [])) = true,
                           (decide (r1 < 0)) = false,
                           Fn Try.prog 45 [(false, E75 o)] (E81 r2) [],
                           (true || ((E81 r2).nv && nvL [])) = true,
                           Fn Try.prog 44 [(false, E81 r2)] (E77 r3) [],
                           (false || ((E77 r3).nv && nvL [])) = true,
                           Fn Try.prog 45 [(false, E75 o)] (E81 r4) [],
                           (true || ((E81 r4).nv && nvL [])) = true,
                           Fn Try.prog 46 [(false, E81 r4)] (E77 r5) [],
                           (false || ((E77 r5).nv && nvL [])) = true,
                           Fn Try.prog 47 [(false, E77 r5), (false, E77 r3)] (E4 r6) [],
                           (false || ((E4 r6).nv && nvL [])) = true,
                           (!r6) = false,
                           Fn Try.prog 45 [(false, E75 o)] (E81 r7) [],
                           (true || ((E81 r7).nv && nvL [])) = true,
                           Fn Try.prog 48 [(false, E81 r4), (false, E81 r7)] (E4 r8) [],
                           (false || ((E4 r8).nv && nvL [])) = true,
                           (!r8) = false,
                           Fn Try.prog 49 [(true, E81 r4), (false, E3 1)] (E3 r9.1) [V.sl true 58 (List.map E58 r9.2.1), V.sl true 137 (List.map E137 r9.2.2)],
                           (true || ((E3 r9.1).nv && nvL [V.sl true 58 (List.map E58 r9.2.1), V.sl true 137 (List.map E137 r9.2.2)])) = true,
                           (decide (r9.1 < 0)) = false,
                           (decide (r9.1 < 0)) = false,
                           (decide (r9.1 < 0)) = false,
                           Fn Try.prog 47 [(false, E77 r5), (false, E77 r3)] (E4 r10) [],
                           (false || ((E4 r10).nv && nvL [])) = true,
                           (decide (r9.1 < 0)) = false,
                           (decide (r9.1 < 0)) = false,
                           (!r10) = false,
                           Fn Try.prog 50 [(true, E77 r5), (false, E3 1)] (E3 r11.1) [V.sl true 140 (List.map E140 r11.2)],
                           (true || ((E3 r11.1).nv && nvL [V.sl true 140 (List.map E140 r11.2)])) = true,
                           Fn Try.prog 51 [(false, E77 r11.2), (false, E3 1)] (E3 r12) [],
                           (false || ((E3 r12).nv && nvL [])) = true,
                           (decide (r12 < 0)) = false,
                           (r12 != r11.1) = false,
                           Fn Try.prog 45 [(false, E75 o)] (E81 r13) [],
                           (true || ((E81 r13).nv && nvL [])) = true,
                           Fn Try.prog 46 [(false, E81 r13)] (E77 r14) [],
                           (false || ((E77 r14).nv && nvL [])) = true,
                           Fn Try.prog 47 [(false, E77 r14), (false, E77 r3)] (E4 r15) [],
                           (false || ((E4 r15).nv && nvL [])) = true,
                           (!r15) = true]) (by kernel_rfl) (cj (laws_szWorld_ok o 1048576 r1 h1) (cj rfl (cj h2 (cj (laws_toWorld_ok o r2 h3) (cj rfl (cj (spec_DonesOf_ok r2 r3 h4) (cj (by simp [V.nv, nvL, nvL_all, nv_E3, nv_E5, nv_E22, nv_E77, nv_E140]) (cj (laws_toWorld_ok o r4 h5) (cj rfl (cj (impl_DonesOf_ok r4 r5 h6) (cj (by simp [V.nv, nvL, nvL_all, nv_E3, nv_E5, nv_E22, nv_E77, nv_E140]) (cj (laws_eqDoneS_ok r5 r3 r6 h7) (cj (by simp [V.nv, nvL, nvL_all, nv_E4]) (cj (nf h8) (cj (laws_toWorld_ok o r7 h9) (cj rfl (cj (laws_eqWorld_ok r4 r7 r8 h10) (cj (by simp [V.nv, nvL, nvL_all, nv_E4]) (cj (nf h11) (cj (laws_markWorld_ok r4 1 r9 h12) (cj rfl (cj h13 (cj h13 (cj h13 (cj (laws_eqDoneS_ok r5 r3 r10 h14) (cj (by simp [V.nv, nvL, nvL_all, nv_E4]) (cj h13 (cj h13 (cj (nf h15) (cj (laws_markDoneS_ok r5 1 r11 h16) (cj rfl (cj (laws_heldDoneS_ok r11.2 1 r12 h17) (cj (by simp [V.nv, nvL, nvL_all, nv_E3]) (cj h18 (cj h19 (cj (laws_toWorld_ok o r13 h20) (cj rfl (cj (impl_DonesOf_ok r13 r14 h21) (cj (by simp [V.nv, nvL, nvL_all, nv_E3, nv_E5, nv_E22, nv_E77, nv_E140]) (cj (laws_eqDoneS_ok r14 r3 r15 h22) (cj (by simp [V.nv, nvL, nvL_all, nv_E4]) (cj1 (nt h23))))))))))))))))))))))))))))))))))))))))))))))))))))) (fun h15 =>
                  Pn.some (Fn.of [.call [] (E3 r1) [], .bit false, .call [] (E81 r2) [], .call [] (E77 r3) [], .call [] (E81 r4) [], .call [] (E77 r5) [], .call [] (E4 r6) [], .bit false, .draw [], .call [] (E81 r7) [], .call [] (E4 r8) [], .bit false, .call [true, false] (E3 r9.1) [V.sl true 58 (List.map E58 r9.2.1), V.sl true 137 (List.map E137 r9.2.2)], .bit false, .bit false, .bit false, .call [] (E4 r10) [], .bit false, .bit false, .bit true] (p := [Fn Try.prog 43 [(false, E75 o), (false, E3 1048576)] (E3 r1) [],
                   (true || ((E3 r1).nv && nvL [])) = true,
                   (decide (r1 < 0)) = false,
                   Fn Try.prog 45 [(false, E75 o)] (E81 r2) [],
                   (true || ((E81 r2).nv && nvL [])) = true,
                   Fn Try.prog 44 [(false, E81 r2)] (E77 r3) [],
                   (false || ((E77 r3).nv && nvL [])) = true,
                   Fn Try.prog 45 [(false, E75 o)] (E81 r4) [],
                   (true || ((E81 r4).nv && nvL [])) = true,
                   Fn Try.prog 46 [(false, E81 r4)] (E77 r5) [],
                   (false || ((E77 r5).nv && nvL [])) = true,
                   Fn Try.prog 47 [(false, E77 r5), (false, E77 r3)] (E4 r6) [],
                   (false || ((E4 r6).nv && nvL [])) = true,
                   (!r6) = false,
                   Fn Try.prog 45 [(false, E75 o)] (E81 r7) [],
                   (true || ((E81 r7).nv && nvL [])) = true,
                   Fn Try.prog 48 [(false, E81 r4), (false, E81 r7)] (E4 r8) [],
                   (false || ((E4 r8).nv && nvL [])) = true,
                   (!r8) = false,
                   Fn Try.prog 49 [(true, E81 r4), (false, E3 1)] (E3 r9.1) [V.sl true 58 (List.map E58 r9.2.1), V.sl true 137 (List.map E137 r9.2.2)],
                   (true || ((E3 r9.1).nv && nvL [V.sl true 58 (List.map E58 r9.2.1), V.sl true 137 (List.map E137 r9.2.2)])) = true,
                   (decide (r9.1 < 0)) = false,
                   (decide (r9.1 < 0)) = false,
                   (decide (r9.1 < 0)) = false,
                   Fn Try.prog 47 [(false, E77 r5), (false, E77 r3)] (E4 r10) [],
                   (false || ((E4 r10).nv && nvL [])) = true,
                   (decide (r9.1 < 0)) = false,
                   (decide (r9.1 < 0)) = false,
                   (!r10) = true]) (by kernel_rfl) (cj (laws_szWorld_ok o 1048576 r1 h1) (cj rfl (cj h2 (cj (laws_toWorld_ok o r2 h3) (cj rfl (cj (spec_DonesOf_ok r2 r3 h4) (cj (by simp [V.nv, nvL, nvL_all, nv_E3, nv_E5, nv_E22, nv_E77, nv_E140]) (cj (laws_toWorld_ok o r4 h5) (cj rfl (cj (impl_DonesOf_ok r4 r5 h6) (cj (by simp [V.nv, nvL, nvL_all, nv_E3, nv_E5, nv_E22, nv_E77, nv_E140]) (cj (laws_eqDoneS_ok r5 r3 r6 h7) (cj (by simp [V.nv, nvL, nvL_all, nv_E4]) (cj (nf h8) (cj (laws_toWorld_ok o r7 h9) (cj rfl (cj (laws_eqWorld_ok r4 r7 r8 h10) (cj (by simp [V.nv, nvL, nvL_all, nv_E4]) (cj (nf h11) (cj (laws_markWorld_ok r4 1 r9 h12) (cj rfl (cj h13 (cj h13 (cj h13 (cj (laws_eqDoneS_ok r5 r3 r10 h14) (cj (by simp [V.nv, nvL, nvL_all, nv_E4]) (cj h13 (cj h13 (cj1 (nt h15)))))))))))))))))))))))))))))))))))) (fun h11 =>
              Pn.some (Fn.of [.call [] (E3 r1) [], .bit false, .call [] (E81 r2) [], .call [] (E77 r3) [], .call [] (E81 r4) [], .call [] (E77 r5) [], .call [] (E4 r6) [], .bit false, .draw [], .call [] (E81 r7) [], .call [] (E4 r8) [], .bit true] (p := [Fn Try.prog 43 [(false, E75 o), (false, E3 1048576)] (E3 r1) [],
               (true || ((E3 r1).nv && nvL [])) = true,
               (decide (r1 < 0)) = false,
               Fn Try.prog 45 [(false, E75 o)] (E81 r2) [],
               (true || ((E81 r2).nv && nvL [])) = true,
               Fn Try.prog 44 [(false, E81 r2)] (E77 r3) [],
               (false || ((E77 r3).nv && nvL [])) = true,
               Fn Try.prog 45 [(false, E75 o)] (E81 r4) [],
               (true || ((E81 r4).nv && nvL [])) = true,
               Fn Try.prog 46 [(false, E81 r4)] (E77 r5) [],
               (false || ((E77 r5).nv && nvL [])) = true,
               Fn Try.prog 47 [(false, E77 r5), (false, E77 r3)] (E4 r6) [],
               (false || ((E4 r6).nv && nvL [])) = true,
               (!r6) = false,
               Fn Try.prog 45 [(false, E75 o)] (E81 r7) [],
               (true || ((E81 r7).nv && nvL [])) = true,
               Fn Try.prog 48 [(false, E81 r4), (false, E81 r7)] (E4 r8) [],
               (false || ((E4 r8).nv && nvL [])) = true,
               (!r8) = true]) (by kernel_rfl) (cj (laws_szWorld_ok o 1048576 r1 h1) (cj rfl (cj h2 (cj (laws_toWorld_ok o r2 h3) (cj rfl (cj (spec_DonesOf_ok r2 r3 h4) (cj (by simp [V.nv, nvL, nvL_all, nv_E3, nv_E5, nv_E22, nv_E77, nv_E140]) (cj (laws_toWorld_ok o r4 h5) (cj rfl (cj (impl_DonesOf_ok r4 r5 h6) (cj (by simp [V.nv, nvL, nvL_all, nv_E3, nv_E5, nv_E22, nv_E77, nv_E140]) (cj (laws_eqDoneS_ok r5 r3 r6 h7) (cj (by simp [V.nv, nvL, nvL_all, nv_E4]) (cj (nf h8) (cj (laws_toWorld_ok o r7 h9) (cj rfl (cj (laws_eqWorld_ok r4 r7 r8 h10) (cj (by simp [V.nv, nvL, nvL_all, nv_E4]) (cj1 (nt h11))))))))))))))))))))))))) (fun h8 =>
           Pn.some (Fn.of [.call [] (E3 r1) [], .bit false, .call [] (E81 r2) [], .call [] (E77 r3) [], .call [] (E81 r4) [], .call [] (E77 r5) [], .call [] (E4 r6) [], .bit true] (p := [Fn Try.prog 43 [(false, E75 o), (false, E3 1048576)] (E3 r1) [],
            (true || ((E3 r1).nv && nvL [])) = true,
            (decide (r1 < 0)) = false,
            Fn Try.prog 45 [(false, E75 o)] (E81 r2) [],
            (true || ((E81 r2).nv && nvL [])) = true,
            Fn Try.prog 44 [(false, E81 r2)] (E77 r3) [],
            (false || ((E77 r3).nv && nvL [])) = true,
            Fn Try.prog 45 [(false, E75 o)] (E81 r4) [],
            (true || ((E81 r4).nv && nvL [])) = true,
            Fn Try.prog 46 [(false, E81 r4)] (E77 r5) [],
            (false || ((E77 r5).nv && nvL [])) = true,
            Fn Try.prog 47 [(false, E77 r5), (false, E77 r3)] (E4 r6) [],
            (false || ((E4 r6).nv && nvL [])) = true,
            (!r6) = true]) (by kernel_rfl) (cj (laws_szWorld_ok o 1048576 r1 h1) (cj rfl (cj h2 (cj (laws_toWorld_ok o r2 h3) (cj rfl (cj (spec_DonesOf_ok r2 r3 h4) (cj (by simp [V.nv, nvL, nvL_all, nv_E3, nv_E5, nv_E22, nv_E77, nv_E140]) (cj (laws_toWorld_ok o r4 h5) (cj rfl (cj (impl_DonesOf_ok r4 r5 h6) (cj (by simp [V.nv, nvL, nvL_all, nv_E3, nv_E5, nv_E22, nv_E77, nv_E140]) (cj (laws_eqDoneS_ok r5 r3 r6 h7) (cj (by simp [V.nv, nvL, nvL_all, nv_E4]) (cj1 (nt h8))))))))))))))))))))))))
end Go.Proofs.YtdcejeemommkfaaM
