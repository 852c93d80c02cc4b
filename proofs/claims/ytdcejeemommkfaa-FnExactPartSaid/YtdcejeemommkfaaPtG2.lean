/- Printed by gen.py: functions on plain data, and that the program computes them. No condition. -/
import Derived.Test.YtdcejeemommkfaaPtG1
namespace Go.Proofs.YtdcejeemommkfaaM
set_option linter.unusedVariables false
set_option linter.unusedSimpArgs false
open Go.RowKit
set_option maxRecDepth 100000

def laws_markSlotS_l0  : Nat → Int → Int → (List Slot) → Option (Int × (List Slot))
  | 0, _, _, _ => none
  | fuel + 1, v1, v2, v3 =>
   if (decide (v2 < (v3.length : Int))) = true then
   (laws_markText v1).bind fun r1 =>
   if (decide (0 ≤ v2)) = true then
   (v3[v2.toNat]?).bind fun x1 =>
   (laws_markText (i64 (v1 + 1))).bind fun r2 =>
   (laws_markByteS x1.Reply (i64 ((i64 (v1 + 1)) + 1))).bind fun r3 =>
   laws_markSlotS_l0 fuel r3.1 (i64 (v2 + 1)) (v3.set v2.toNat (Slot.mk r1 r2 r3.2))
   else none
   else
   some (v1, v3)
theorem laws_markSlotS_l0_ok  : ∀ (fuel : Nat) (v1 : Int) (v2 : Int) (v3 : List Slot), Pn (LpO Try.prog (sub (codeOf Try.prog 155) [1, 0, 1, 0, 0]) (st 36 [(0, V.ow 0), (1, V.sc (.int .i64 v1)), (5, V.sc (.int .i64 v2))] [Blk.row 164 (List.map E164 v3) []] [some 0]) (fun (y : Int × (List Slot)) => (X.out 0, st 36 [(1, V.sc (.int .i64 y.1))] [Blk.row 164 (List.map E164 y.2) []] [some 0]))) (laws_markSlotS_l0 fuel v1 v2 v3)
  | 0, _, _, _ => Pn.none
  | fuel + 1, v1, v2, v3 => by
    unfold laws_markSlotS_l0
    exact
     Pn.ite (fun h1 =>
     Pn.bind (fun r1 h2 =>
     Pn.ite (fun h3 =>
     Pn.bind (fun x1 h4 =>
     Pn.bind (fun r2 h5 =>
     Pn.bind (fun r3 h6 =>
     LpO.go [.wait 3, .nm 8 (V.sc (.int .i64 (v3.length : Int))), .bit true, .call [] (E9 r1) [], .wait 1, .foc 0 v2.toNat (E164 x1), .fo 0, .call [] (E9 r2) [], .fo 0, .fo 0, .call [true, false] (E3 r3.1) [V.sl true 5 (List.map E5 r3.2)], .wait 5, .shut 0, .nb 0 (.row 164 (List.map E164 (v3.set v2.toNat (Slot.mk r1 r2 r3.2))) []), .mask [0, 1, 5], .ren [0]] (p := [V.sc (.int .i64 ((List.map E164 v3).length : Int)) = V.sc (.int .i64 (v3.length : Int)),
      (decide (v2 < (v3.length : Int))) = true,
      Fn Try.prog 153 [(false, E3 v1)] (E9 r1) [],
      (true || ((E9 r1).nv && nvL [])) = true,
      (0 : Int) ≤ v2,
      (v2 : Int) < ((List.map E164 v3).length : Int),
      look [] v2.toNat = none,
      (List.map E164 v3)[v2.toNat]? = some (E164 x1),
      look [(v2.toNat, V.agg [V.sc (.string x1.Trace), V.sc (.string x1.Mti), V.ow 1])] v2.toNat = some (V.agg [V.sc (.string x1.Trace), V.sc (.string x1.Mti), V.ow 1]),
      v2.toNat < (List.map E164 v3).length,
      v2.toNat = v2.toNat,
      Fn Try.prog 153 [(false, E3 (i64 (v1 + 1)))] (E9 r2) [],
      (true || ((E9 r2).nv && nvL [])) = true,
      (0 : Int) ≤ v2,
      (v2 : Int) < ((List.map E164 v3).length : Int),
      look [(v2.toNat, V.agg [V.sc (.string r1), V.sc (.string x1.Mti), V.ow 1])] v2.toNat = some (V.agg [V.sc (.string r1), V.sc (.string x1.Mti), V.ow 1]),
      v2.toNat < (List.map E164 v3).length,
      v2.toNat = v2.toNat,
      (0 : Int) ≤ v2,
      (v2 : Int) < ((List.map E164 v3).length : Int),
      look [(v2.toNat, V.agg [V.sc (.string r1), V.sc (.string r2), V.ow 1])] v2.toNat = some (V.agg [V.sc (.string r1), V.sc (.string r2), V.ow 1]),
      v2.toNat < (List.map E164 v3).length,
      Fn Try.prog 108 [(true, E22 x1.Reply), (false, E3 (i64 ((i64 (v1 + 1)) + 1)))] (E3 r3.1) [V.sl true 5 (List.map E5 r3.2)],
      (true || ((E3 r3.1).nv && nvL [V.sl true 5 (List.map E5 r3.2)])) = true,
      Blk.row 164 ((List.map E164 v3).set v2.toNat (V.agg [V.sc (.string r1), V.sc (.string r2), V.sl true 5 (List.map E5 r3.2)])) [] = Blk.row 164 (List.map E164 (v3.set v2.toNat (Slot.mk r1 r2 r3.2))) []]) (by kernel_rfl) (cj (len_nm _ _) (cj h1 (cj (laws_markText_ok v1 r1 h2) (cj rfl (cj (od h3) (cj (map_ltN (od h3) h4) (cj rfl (cj (map_get h4) (cj (look_cons_self _ _ _) (cj (map_lt h4) (cj rfl (cj (laws_markText_ok (i64 (v1 + 1)) r2 h5) (cj rfl (cj (od h3) (cj (map_ltN (od h3) h4) (cj (look_cons_self _ _ _) (cj (map_lt h4) (cj rfl (cj (od h3) (cj (map_ltN (od h3) h4) (cj (look_cons_self _ _ _) (cj (map_lt h4) (cj (laws_markByteS_ok x1.Reply (i64 ((i64 (v1 + 1)) + 1)) r3 h6) (cj rfl (cj1 (nb_set E164 _ _ (Slot.mk r1 r2 r3.2))))))))))))))))))))))))))) (laws_markSlotS_l0_ok fuel r3.1 (i64 (v2 + 1)) (v3.set v2.toNat (Slot.mk r1 r2 r3.2))))))) (fun h3 =>
     Pn.none))) (fun h1 =>
     Pn.some (LpO.out [.wait 3, .nm 8 (V.sc (.int .i64 (v3.length : Int))), .bit false, .mask [1], .ren [0]] (p := [V.sc (.int .i64 ((List.map E164 v3).length : Int)) = V.sc (.int .i64 (v3.length : Int)),
      (decide (v2 < (v3.length : Int))) = false]) (by kernel_rfl) (show X.out 0 ≠ X.go from nofun) (cj (len_nm _ _) (cj1 h1))))
def laws_markSlotS (a : List Slot) (k : Int) : Option (Int × (List Slot)) :=
 (laws_markSlotS_l0 FUEL k 0 a).bind fun r4 =>
 some (r4.1, r4.2)
theorem laws_markSlotS_ok (a : List Slot) (k : Int) : Pn (fun y => Fn Try.prog 155 [(true, E27 a), (false, E3 k)] (E3 y.1) [V.sl true 164 (List.map E164 y.2)]) (laws_markSlotS a k) := by
  unfold laws_markSlotS
  exact
   Pn.bind (fun r4 h7 =>
   Pn.some (Fn.of [.wait 3, .mask [0, 1, 5], .ren [0], .loop (X.out 0) (st 36 [(1, V.sc (.int .i64 r4.1))] [Blk.row 164 (List.map E164 r4.2) []] [some 0])] (p := [Loop Try.prog (sub (codeOf Try.prog 155) [1, 0, 1, 0, 0]) (st 36 [(0, V.ow 0), (1, V.sc (.int .i64 k)), (5, V.sc (.int .i64 0))] [Blk.row 164 (List.map E164 a) []] [some 0]) (X.out 0) (st 36 [(1, V.sc (.int .i64 r4.1))] [Blk.row 164 (List.map E164 r4.2) []] [some 0])]) (by kernel_rfl) (cj1 (laws_markSlotS_l0_ok FUEL k 0 a r4 h7))))
def laws_markAcctS_l0  : Nat → Int → Int → (List Acct) → Option (Int × (List Acct))
  | 0, _, _, _ => none
  | fuel + 1, v1, v2, v3 =>
   if (decide (v2 < (v3.length : Int))) = true then
   (laws_markText v1).bind fun r1 =>
   if (decide (0 ≤ v2)) = true then
   (v3[v2.toNat]?).bind fun x1 =>
   (laws_markHoldS x1.Holds (i64 ((i64 ((i64 ((i64 ((i64 (v1 + 1)) + 1)) + 1)) + 1)) + 1))).bind fun r2 =>
   (laws_markIntS x1.Ring.Counts (i64 ((i64 (r2.1 + 1)) + 1))).bind fun r3 =>
   (laws_markIntS x1.Ring.Sums r3.1).bind fun r4 =>
   (laws_markSlotS x1.Slots r4.1).bind fun r5 =>
   laws_markAcctS_l0 fuel r5.1 (i64 (v2 + 1)) (v3.set v2.toNat (Acct.mk r1 (i64 (v1 + 1)) (i64 ((i64 (v1 + 1)) + 1)) (i64 ((i64 ((i64 (v1 + 1)) + 1)) + 1)) (i64 ((i64 ((i64 ((i64 (v1 + 1)) + 1)) + 1)) + 1)) r2.2 (Ring.mk r2.1 (i64 (r2.1 + 1)) r3.2 r4.2) r5.2))
   else none
   else
   some (v1, v3)
theorem laws_markAcctS_l0_ok  : ∀ (fuel : Nat) (v1 : Int) (v2 : Int) (v3 : List Acct), Pn (LpO Try.prog (sub (codeOf Try.prog 95) [1, 0, 1, 0, 0]) (st 95 [(0, V.ow 0), (1, V.sc (.int .i64 v1)), (5, V.sc (.int .i64 v2))] [Blk.row 29 (List.map E29 v3) []] [some 0]) (fun (y : Int × (List Acct)) => (X.out 0, st 95 [(1, V.sc (.int .i64 y.1))] [Blk.row 29 (List.map E29 y.2) []] [some 0]))) (laws_markAcctS_l0 fuel v1 v2 v3)
  | 0, _, _, _ => Pn.none
  | fuel + 1, v1, v2, v3 => by
    unfold laws_markAcctS_l0
    exact
     Pn.ite (fun h1 =>
     Pn.bind (fun r1 h2 =>
     Pn.ite (fun h3 =>
     Pn.bind (fun x1 h4 =>
     Pn.bind (fun r2 h5 =>
     Pn.bind (fun r3 h6 =>
     Pn.bind (fun r4 h7 =>
     Pn.bind (fun r5 h8 =>
     LpO.go [.wait 3, .nm 8 (V.sc (.int .i64 (v3.length : Int))), .bit true, .call [] (E9 r1) [], .wait 1, .foc 0 v2.toNat (E29 x1), .fo 0, .fo 0, .fo 0, .fo 0, .fo 0, .fo 0, .call [true, false] (E3 r2.1) [V.sl true 36 (List.map E36 r2.2)], .fo 0, .fo 0, .fo 0, .call [true, false] (E3 r3.1) [V.sl true 3 (List.map E3 r3.2)], .fo 0, .call [true, false] (E3 r4.1) [V.sl true 3 (List.map E3 r4.2)], .fo 0, .call [true, false] (E3 r5.1) [V.sl true 164 (List.map E164 r5.2)], .wait 5, .shut 0, .nb 0 (.row 29 (List.map E29 (v3.set v2.toNat (Acct.mk r1 (i64 (v1 + 1)) (i64 ((i64 (v1 + 1)) + 1)) (i64 ((i64 ((i64 (v1 + 1)) + 1)) + 1)) (i64 ((i64 ((i64 ((i64 (v1 + 1)) + 1)) + 1)) + 1)) r2.2 (Ring.mk r2.1 (i64 (r2.1 + 1)) r3.2 r4.2) r5.2))) []), .mask [0, 1, 5], .ren [0]] (p := [V.sc (.int .i64 ((List.map E29 v3).length : Int)) = V.sc (.int .i64 (v3.length : Int)),
      (decide (v2 < (v3.length : Int))) = true,
      Fn Try.prog 153 [(false, E3 v1)] (E9 r1) [],
      (true || ((E9 r1).nv && nvL [])) = true,
      (0 : Int) ≤ v2,
      (v2 : Int) < ((List.map E29 v3).length : Int),
      look [] v2.toNat = none,
      (List.map E29 v3)[v2.toNat]? = some (E29 x1),
      look [(v2.toNat, V.agg [V.sc (.string x1.Id), V.sc (.int .i64 x1.Limit), V.sc (.int .i64 x1.Posted), V.sc (.int .i64 x1.Most), V.sc (.int .i64 x1.MostSum), V.ow 1, V.sc (.int .i64 x1.Ring.Span), V.sc (.int .i64 x1.Ring.Head), V.ow 2, V.ow 3, V.ow 4])] v2.toNat = some (V.agg [V.sc (.string x1.Id), V.sc (.int .i64 x1.Limit), V.sc (.int .i64 x1.Posted), V.sc (.int .i64 x1.Most), V.sc (.int .i64 x1.MostSum), V.ow 1, V.sc (.int .i64 x1.Ring.Span), V.sc (.int .i64 x1.Ring.Head), V.ow 2, V.ow 3, V.ow 4]),
      v2.toNat < (List.map E29 v3).length,
      v2.toNat = v2.toNat,
      (0 : Int) ≤ v2,
      (v2 : Int) < ((List.map E29 v3).length : Int),
      look [(v2.toNat, V.agg [V.sc (.string r1), V.sc (.int .i64 x1.Limit), V.sc (.int .i64 x1.Posted), V.sc (.int .i64 x1.Most), V.sc (.int .i64 x1.MostSum), V.ow 1, V.sc (.int .i64 x1.Ring.Span), V.sc (.int .i64 x1.Ring.Head), V.ow 2, V.ow 3, V.ow 4])] v2.toNat = some (V.agg [V.sc (.string r1), V.sc (.int .i64 x1.Limit), V.sc (.int .i64 x1.Posted), V.sc (.int .i64 x1.Most), V.sc (.int .i64 x1.MostSum), V.ow 1, V.sc (.int .i64 x1.Ring.Span), V.sc (.int .i64 x1.Ring.Head), V.ow 2, V.ow 3, V.ow 4]),
      v2.toNat < (List.map E29 v3).length,
      v2.toNat = v2.toNat,
      (0 : Int) ≤ v2,
      (v2 : Int) < ((List.map E29 v3).length : Int),
      look [(v2.toNat, V.agg [V.sc (.string r1), V.sc (.int .i64 (i64 (v1 + 1))), V.sc (.int .i64 x1.Posted), V.sc (.int .i64 x1.Most), V.sc (.int .i64 x1.MostSum), V.ow 1, V.sc (.int .i64 x1.Ring.Span), V.sc (.int .i64 x1.Ring.Head), V.ow 2, V.ow 3, V.ow 4])] v2.toNat = some (V.agg [V.sc (.string r1), V.sc (.int .i64 (i64 (v1 + 1))), V.sc (.int .i64 x1.Posted), V.sc (.int .i64 x1.Most), V.sc (.int .i64 x1.MostSum), V.ow 1, V.sc (.int .i64 x1.Ring.Span), V.sc (.int .i64 x1.Ring.Head), V.ow 2, V.ow 3, V.ow 4]),
      v2.toNat < (List.map E29 v3).length,
      v2.toNat = v2.toNat,
      (0 : Int) ≤ v2,
      (v2 : Int) < ((List.map E29 v3).length : Int),
      look [(v2.toNat, V.agg [V.sc (.string r1), V.sc (.int .i64 (i64 (v1 + 1))), V.sc (.int .i64 (i64 ((i64 (v1 + 1)) + 1))), V.sc (.int .i64 x1.Most), V.sc (.int .i64 x1.MostSum), V.ow 1, V.sc (.int .i64 x1.Ring.Span), V.sc (.int .i64 x1.Ring.Head), V.ow 2, V.ow 3, V.ow 4])] v2.toNat = some (V.agg [V.sc (.string r1), V.sc (.int .i64 (i64 (v1 + 1))), V.sc (.int .i64 (i64 ((i64 (v1 + 1)) + 1))), V.sc (.int .i64 x1.Most), V.sc (.int .i64 x1.MostSum), V.ow 1, V.sc (.int .i64 x1.Ring.Span), V.sc (.int .i64 x1.Ring.Head), V.ow 2, V.ow 3, V.ow 4]),
      v2.toNat < (List.map E29 v3).length,
      v2.toNat = v2.toNat,
      (0 : Int) ≤ v2,
      (v2 : Int) < ((List.map E29 v3).length : Int),
      look [(v2.toNat, V.agg [V.sc (.string r1), V.sc (.int .i64 (i64 (v1 + 1))), V.sc (.int .i64 (i64 ((i64 (v1 + 1)) + 1))), V.sc (.int .i64 (i64 ((i64 ((i64 (v1 + 1)) + 1)) + 1))), V.sc (.int .i64 x1.MostSum), V.ow 1, V.sc (.int .i64 x1.Ring.Span), V.sc (.int .i64 x1.Ring.Head), V.ow 2, V.ow 3, V.ow 4])] v2.toNat = some (V.agg [V.sc (.string r1), V.sc (.int .i64 (i64 (v1 + 1))), V.sc (.int .i64 (i64 ((i64 (v1 + 1)) + 1))), V.sc (.int .i64 (i64 ((i64 ((i64 (v1 + 1)) + 1)) + 1))), V.sc (.int .i64 x1.MostSum), V.ow 1, V.sc (.int .i64 x1.Ring.Span), V.sc (.int .i64 x1.Ring.Head), V.ow 2, V.ow 3, V.ow 4]),
      v2.toNat < (List.map E29 v3).length,
      v2.toNat = v2.toNat,
      (0 : Int) ≤ v2,
      (v2 : Int) < ((List.map E29 v3).length : Int),
      look [(v2.toNat, V.agg [V.sc (.string r1), V.sc (.int .i64 (i64 (v1 + 1))), V.sc (.int .i64 (i64 ((i64 (v1 + 1)) + 1))), V.sc (.int .i64 (i64 ((i64 ((i64 (v1 + 1)) + 1)) + 1))), V.sc (.int .i64 (i64 ((i64 ((i64 ((i64 (v1 + 1)) + 1)) + 1)) + 1))), V.ow 1, V.sc (.int .i64 x1.Ring.Span), V.sc (.int .i64 x1.Ring.Head), V.ow 2, V.ow 3, V.ow 4])] v2.toNat = some (V.agg [V.sc (.string r1), V.sc (.int .i64 (i64 (v1 + 1))), V.sc (.int .i64 (i64 ((i64 (v1 + 1)) + 1))), V.sc (.int .i64 (i64 ((i64 ((i64 (v1 + 1)) + 1)) + 1))), V.sc (.int .i64 (i64 ((i64 ((i64 ((i64 (v1 + 1)) + 1)) + 1)) + 1))), V.ow 1, V.sc (.int .i64 x1.Ring.Span), V.sc (.int .i64 x1.Ring.Head), V.ow 2, V.ow 3, V.ow 4]),
      v2.toNat < (List.map E29 v3).length,
      Fn Try.prog 154 [(true, E23 x1.Holds), (false, E3 (i64 ((i64 ((i64 ((i64 ((i64 (v1 + 1)) + 1)) + 1)) + 1)) + 1)))] (E3 r2.1) [V.sl true 36 (List.map E36 r2.2)],
      (true || ((E3 r2.1).nv && nvL [V.sl true 36 (List.map E36 r2.2)])) = true,
      (0 : Int) ≤ v2,
      (v2 : Int) < ((List.map E29 v3).length : Int),
      look [(v2.toNat, V.agg [V.sc (.string r1), V.sc (.int .i64 (i64 (v1 + 1))), V.sc (.int .i64 (i64 ((i64 (v1 + 1)) + 1))), V.sc (.int .i64 (i64 ((i64 ((i64 (v1 + 1)) + 1)) + 1))), V.sc (.int .i64 (i64 ((i64 ((i64 ((i64 (v1 + 1)) + 1)) + 1)) + 1))), V.ow 1, V.sc (.int .i64 x1.Ring.Span), V.sc (.int .i64 x1.Ring.Head), V.ow 2, V.ow 3, V.ow 4])] v2.toNat = some (V.agg [V.sc (.string r1), V.sc (.int .i64 (i64 (v1 + 1))), V.sc (.int .i64 (i64 ((i64 (v1 + 1)) + 1))), V.sc (.int .i64 (i64 ((i64 ((i64 (v1 + 1)) + 1)) + 1))), V.sc (.int .i64 (i64 ((i64 ((i64 ((i64 (v1 + 1)) + 1)) + 1)) + 1))), V.ow 1, V.sc (.int .i64 x1.Ring.Span), V.sc (.int .i64 x1.Ring.Head), V.ow 2, V.ow 3, V.ow 4]),
      v2.toNat < (List.map E29 v3).length,
      v2.toNat = v2.toNat,
      (0 : Int) ≤ v2,
      (v2 : Int) < ((List.map E29 v3).length : Int),
      look [(v2.toNat, V.agg [V.sc (.string r1), V.sc (.int .i64 (i64 (v1 + 1))), V.sc (.int .i64 (i64 ((i64 (v1 + 1)) + 1))), V.sc (.int .i64 (i64 ((i64 ((i64 (v1 + 1)) + 1)) + 1))), V.sc (.int .i64 (i64 ((i64 ((i64 ((i64 (v1 + 1)) + 1)) + 1)) + 1))), V.ow 1, V.sc (.int .i64 r2.1), V.sc (.int .i64 x1.Ring.Head), V.ow 2, V.ow 3, V.ow 4])] v2.toNat = some (V.agg [V.sc (.string r1), V.sc (.int .i64 (i64 (v1 + 1))), V.sc (.int .i64 (i64 ((i64 (v1 + 1)) + 1))), V.sc (.int .i64 (i64 ((i64 ((i64 (v1 + 1)) + 1)) + 1))), V.sc (.int .i64 (i64 ((i64 ((i64 ((i64 (v1 + 1)) + 1)) + 1)) + 1))), V.ow 1, V.sc (.int .i64 r2.1), V.sc (.int .i64 x1.Ring.Head), V.ow 2, V.ow 3, V.ow 4]),
      v2.toNat < (List.map E29 v3).length,
      v2.toNat = v2.toNat,
      (0 : Int) ≤ v2,
      (v2 : Int) < ((List.map E29 v3).length : Int),
      look [(v2.toNat, V.agg [V.sc (.string r1), V.sc (.int .i64 (i64 (v1 + 1))), V.sc (.int .i64 (i64 ((i64 (v1 + 1)) + 1))), V.sc (.int .i64 (i64 ((i64 ((i64 (v1 + 1)) + 1)) + 1))), V.sc (.int .i64 (i64 ((i64 ((i64 ((i64 (v1 + 1)) + 1)) + 1)) + 1))), V.ow 1, V.sc (.int .i64 r2.1), V.sc (.int .i64 (i64 (r2.1 + 1))), V.ow 2, V.ow 3, V.ow 4])] v2.toNat = some (V.agg [V.sc (.string r1), V.sc (.int .i64 (i64 (v1 + 1))), V.sc (.int .i64 (i64 ((i64 (v1 + 1)) + 1))), V.sc (.int .i64 (i64 ((i64 ((i64 (v1 + 1)) + 1)) + 1))), V.sc (.int .i64 (i64 ((i64 ((i64 ((i64 (v1 + 1)) + 1)) + 1)) + 1))), V.ow 1, V.sc (.int .i64 r2.1), V.sc (.int .i64 (i64 (r2.1 + 1))), V.ow 2, V.ow 3, V.ow 4]),
      v2.toNat < (List.map E29 v3).length,
      Fn Try.prog 42 [(true, E24 x1.Ring.Counts), (false, E3 (i64 ((i64 (r2.1 + 1)) + 1)))] (E3 r3.1) [V.sl true 3 (List.map E3 r3.2)],
      (true || ((E3 r3.1).nv && nvL [V.sl true 3 (List.map E3 r3.2)])) = true,
      (0 : Int) ≤ v2,
      (v2 : Int) < ((List.map E29 v3).length : Int),
      look [(v2.toNat, V.agg [V.sc (.string r1), V.sc (.int .i64 (i64 (v1 + 1))), V.sc (.int .i64 (i64 ((i64 (v1 + 1)) + 1))), V.sc (.int .i64 (i64 ((i64 ((i64 (v1 + 1)) + 1)) + 1))), V.sc (.int .i64 (i64 ((i64 ((i64 ((i64 (v1 + 1)) + 1)) + 1)) + 1))), V.ow 1, V.sc (.int .i64 r2.1), V.sc (.int .i64 (i64 (r2.1 + 1))), V.ow 2, V.ow 3, V.ow 4])] v2.toNat = some (V.agg [V.sc (.string r1), V.sc (.int .i64 (i64 (v1 + 1))), V.sc (.int .i64 (i64 ((i64 (v1 + 1)) + 1))), V.sc (.int .i64 (i64 ((i64 ((i64 (v1 + 1)) + 1)) + 1))), V.sc (.int .i64 (i64 ((i64 ((i64 ((i64 (v1 + 1)) + 1)) + 1)) + 1))), V.ow 1, V.sc (.int .i64 r2.1), V.sc (.int .i64 (i64 (r2.1 + 1))), V.ow 2, V.ow 3, V.ow 4]),
      v2.toNat < (List.map E29 v3).length,
      Fn Try.prog 42 [(true, E24 x1.Ring.Sums), (false, E3 r3.1)] (E3 r4.1) [V.sl true 3 (List.map E3 r4.2)],
      (true || ((E3 r4.1).nv && nvL [V.sl true 3 (List.map E3 r4.2)])) = true,
      (0 : Int) ≤ v2,
      (v2 : Int) < ((List.map E29 v3).length : Int),
      look [(v2.toNat, V.agg [V.sc (.string r1), V.sc (.int .i64 (i64 (v1 + 1))), V.sc (.int .i64 (i64 ((i64 (v1 + 1)) + 1))), V.sc (.int .i64 (i64 ((i64 ((i64 (v1 + 1)) + 1)) + 1))), V.sc (.int .i64 (i64 ((i64 ((i64 ((i64 (v1 + 1)) + 1)) + 1)) + 1))), V.ow 1, V.sc (.int .i64 r2.1), V.sc (.int .i64 (i64 (r2.1 + 1))), V.ow 2, V.ow 3, V.ow 4])] v2.toNat = some (V.agg [V.sc (.string r1), V.sc (.int .i64 (i64 (v1 + 1))), V.sc (.int .i64 (i64 ((i64 (v1 + 1)) + 1))), V.sc (.int .i64 (i64 ((i64 ((i64 (v1 + 1)) + 1)) + 1))), V.sc (.int .i64 (i64 ((i64 ((i64 ((i64 (v1 + 1)) + 1)) + 1)) + 1))), V.ow 1, V.sc (.int .i64 r2.1), V.sc (.int .i64 (i64 (r2.1 + 1))), V.ow 2, V.ow 3, V.ow 4]),
      v2.toNat < (List.map E29 v3).length,
      Fn Try.prog 155 [(true, E27 x1.Slots), (false, E3 r4.1)] (E3 r5.1) [V.sl true 164 (List.map E164 r5.2)],
      (true || ((E3 r5.1).nv && nvL [V.sl true 164 (List.map E164 r5.2)])) = true,
      Blk.row 29 ((List.map E29 v3).set v2.toNat (V.agg [V.sc (.string r1), V.sc (.int .i64 (i64 (v1 + 1))), V.sc (.int .i64 (i64 ((i64 (v1 + 1)) + 1))), V.sc (.int .i64 (i64 ((i64 ((i64 (v1 + 1)) + 1)) + 1))), V.sc (.int .i64 (i64 ((i64 ((i64 ((i64 (v1 + 1)) + 1)) + 1)) + 1))), V.sl true 36 (List.map E36 r2.2), V.sc (.int .i64 r2.1), V.sc (.int .i64 (i64 (r2.1 + 1))), V.sl true 3 (List.map E3 r3.2), V.sl true 3 (List.map E3 r4.2), V.sl true 164 (List.map E164 r5.2)])) [] = Blk.row 29 (List.map E29 (v3.set v2.toNat (Acct.mk r1 (i64 (v1 + 1)) (i64 ((i64 (v1 + 1)) + 1)) (i64 ((i64 ((i64 (v1 + 1)) + 1)) + 1)) (i64 ((i64 ((i64 ((i64 (v1 + 1)) + 1)) + 1)) + 1)) r2.2 (Ring.mk r2.1 (i64 (r2.1 + 1)) r3.2 r4.2) r5.2))) []]) (by kernel_rfl) (cj (len_nm _ _) (cj h1 (cj (laws_markText_ok v1 r1 h2) (cj rfl (cj (od h3) (cj (map_ltN (od h3) h4) (cj rfl (cj (map_get h4) (cj (look_cons_self _ _ _) (cj (map_lt h4) (cj rfl (cj (od h3) (cj (map_ltN (od h3) h4) (cj (look_cons_self _ _ _) (cj (map_lt h4) (cj rfl (cj (od h3) (cj (map_ltN (od h3) h4) (cj (look_cons_self _ _ _) (cj (map_lt h4) (cj rfl (cj (od h3) (cj (map_ltN (od h3) h4) (cj (look_cons_self _ _ _) (cj (map_lt h4) (cj rfl (cj (od h3) (cj (map_ltN (od h3) h4) (cj (look_cons_self _ _ _) (cj (map_lt h4) (cj rfl (cj (od h3) (cj (map_ltN (od h3) h4) (cj (look_cons_self _ _ _) (cj (map_lt h4) (cj (laws_markHoldS_ok x1.Holds (i64 ((i64 ((i64 ((i64 ((i64 (v1 + 1)) + 1)) + 1)) + 1)) + 1)) r2 h5) (cj rfl (cj (od h3) (cj (map_ltN (od h3) h4) (cj (look_cons_self _ _ _) (cj (map_lt h4) (cj rfl (cj (od h3) (cj (map_ltN (od h3) h4) (cj (look_cons_self _ _ _) (cj (map_lt h4) (cj rfl (cj (od h3) (cj (map_ltN (od h3) h4) (cj (look_cons_self _ _ _) (cj (map_lt h4) (cj (laws_markIntS_ok x1.Ring.Counts (i64 ((i64 (r2.1 + 1)) + 1)) r3 h6) (cj rfl (cj (od h3) (cj (map_ltN (od h3) h4) (cj (look_cons_self _ _ _) (cj (map_lt h4) (cj (laws_markIntS_ok x1.Ring.Sums r3.1 r4 h7) (cj rfl (cj (od h3) (cj (map_ltN (od h3) h4) (cj (look_cons_self _ _ _) (cj (map_lt h4) (cj (laws_markSlotS_ok x1.Slots r4.1 r5 h8) (cj rfl (cj1 (nb_set E29 _ _ (Acct.mk r1 (i64 (v1 + 1)) (i64 ((i64 (v1 + 1)) + 1)) (i64 ((i64 ((i64 (v1 + 1)) + 1)) + 1)) (i64 ((i64 ((i64 ((i64 (v1 + 1)) + 1)) + 1)) + 1)) r2.2 (Ring.mk r2.1 (i64 (r2.1 + 1)) r3.2 r4.2) r5.2)))))))))))))))))))))))))))))))))))))))))))))))))))))))))))))))))))) (laws_markAcctS_l0_ok fuel r5.1 (i64 (v2 + 1)) (v3.set v2.toNat (Acct.mk r1 (i64 (v1 + 1)) (i64 ((i64 (v1 + 1)) + 1)) (i64 ((i64 ((i64 (v1 + 1)) + 1)) + 1)) (i64 ((i64 ((i64 ((i64 (v1 + 1)) + 1)) + 1)) + 1)) r2.2 (Ring.mk r2.1 (i64 (r2.1 + 1)) r3.2 r4.2) r5.2))))))))) (fun h3 =>
     Pn.none))) (fun h1 =>
     Pn.some (LpO.out [.wait 3, .nm 8 (V.sc (.int .i64 (v3.length : Int))), .bit false, .mask [1], .ren [0]] (p := [V.sc (.int .i64 ((List.map E29 v3).length : Int)) = V.sc (.int .i64 (v3.length : Int)),
      (decide (v2 < (v3.length : Int))) = false]) (by kernel_rfl) (show X.out 0 ≠ X.go from nofun) (cj (len_nm _ _) (cj1 h1))))
def laws_markAcctS (o : List Acct) (o_ : Int) : Option (Int × (List Acct)) :=
 (laws_markAcctS_l0 FUEL o_ 0 o).bind fun r6 =>
 some (r6.1, r6.2)
theorem laws_markAcctS_ok (o : List Acct) (o_ : Int) : Pn (fun y => Fn Try.prog 95 [(true, E48 o), (false, E3 o_)] (E3 y.1) [V.sl true 29 (List.map E29 y.2)]) (laws_markAcctS o o_) := by
  unfold laws_markAcctS
  exact
   Pn.bind (fun r6 h9 =>
   Pn.some (Fn.of [.wait 3, .mask [0, 1, 5], .ren [0], .loop (X.out 0) (st 95 [(1, V.sc (.int .i64 r6.1))] [Blk.row 29 (List.map E29 r6.2) []] [some 0])] (p := [Loop Try.prog (sub (codeOf Try.prog 95) [1, 0, 1, 0, 0]) (st 95 [(0, V.ow 0), (1, V.sc (.int .i64 o_)), (5, V.sc (.int .i64 0))] [Blk.row 29 (List.map E29 o) []] [some 0]) (X.out 0) (st 95 [(1, V.sc (.int .i64 r6.1))] [Blk.row 29 (List.map E29 r6.2) []] [some 0])]) (by kernel_rfl) (cj1 (laws_markAcctS_l0_ok FUEL o_ 0 o r6 h9))))
def laws_markStripeS_l0  : Nat → Int → Int → (List Stripe) → Option (Int × (List Stripe))
  | 0, _, _, _ => none
  | fuel + 1, v1, v2, v3 =>
   if (decide (v2 < (v3.length : Int))) = true then
   if (decide (0 ≤ v2)) = true then
   (v3[v2.toNat]?).bind fun x1 =>
   (laws_markAcctS x1.Accts (i64 (v1 + 1))).bind fun r1 =>
   laws_markStripeS_l0 fuel r1.1 (i64 (v2 + 1)) (v3.set v2.toNat (Stripe.mk v1 r1.2))
   else none
   else
   some (v1, v3)
theorem laws_markStripeS_l0_ok  : ∀ (fuel : Nat) (v1 : Int) (v2 : Int) (v3 : List Stripe), Pn (LpO Try.prog (sub (codeOf Try.prog 35) [1, 0, 1, 0, 0]) (st 27 [(0, V.ow 0), (1, V.sc (.int .i64 v1)), (5, V.sc (.int .i64 v2))] [Blk.row 58 (List.map E58 v3) []] [some 0]) (fun (y : Int × (List Stripe)) => (X.out 0, st 27 [(1, V.sc (.int .i64 y.1))] [Blk.row 58 (List.map E58 y.2) []] [some 0]))) (laws_markStripeS_l0 fuel v1 v2 v3)
  | 0, _, _, _ => Pn.none
  | fuel + 1, v1, v2, v3 => by
    unfold laws_markStripeS_l0
    exact
     Pn.ite (fun h1 =>
     Pn.ite (fun h2 =>
     Pn.bind (fun x1 h3 =>
     Pn.bind (fun r1 h4 =>
     LpO.go [.wait 3, .nm 8 (V.sc (.int .i64 (v3.length : Int))), .bit true, .wait 3, .foc 0 v2.toNat (E58 x1), .fo 0, .fo 0, .call [true, false] (E3 r1.1) [V.sl true 29 (List.map E29 r1.2)], .wait 5, .shut 0, .nb 0 (.row 58 (List.map E58 (v3.set v2.toNat (Stripe.mk v1 r1.2))) []), .mask [0, 1, 5], .ren [0]] (p := [V.sc (.int .i64 ((List.map E58 v3).length : Int)) = V.sc (.int .i64 (v3.length : Int)),
      (decide (v2 < (v3.length : Int))) = true,
      (0 : Int) ≤ v2,
      (v2 : Int) < ((List.map E58 v3).length : Int),
      look [] v2.toNat = none,
      (List.map E58 v3)[v2.toNat]? = some (E58 x1),
      look [(v2.toNat, V.agg [V.sc (.int .i64 x1.Owner), V.ow 1])] v2.toNat = some (V.agg [V.sc (.int .i64 x1.Owner), V.ow 1]),
      v2.toNat < (List.map E58 v3).length,
      v2.toNat = v2.toNat,
      (0 : Int) ≤ v2,
      (v2 : Int) < ((List.map E58 v3).length : Int),
      look [(v2.toNat, V.agg [V.sc (.int .i64 v1), V.ow 1])] v2.toNat = some (V.agg [V.sc (.int .i64 v1), V.ow 1]),
      v2.toNat < (List.map E58 v3).length,
      Fn Try.prog 95 [(true, E48 x1.Accts), (false, E3 (i64 (v1 + 1)))] (E3 r1.1) [V.sl true 29 (List.map E29 r1.2)],
      (true || ((E3 r1.1).nv && nvL [V.sl true 29 (List.map E29 r1.2)])) = true,
      Blk.row 58 ((List.map E58 v3).set v2.toNat (V.agg [V.sc (.int .i64 v1), V.sl true 29 (List.map E29 r1.2)])) [] = Blk.row 58 (List.map E58 (v3.set v2.toNat (Stripe.mk v1 r1.2))) []]) (by kernel_rfl) (cj (len_nm _ _) (cj h1 (cj (od h2) (cj (map_ltN (od h2) h3) (cj rfl (cj (map_get h3) (cj (look_cons_self _ _ _) (cj (map_lt h3) (cj rfl (cj (od h2) (cj (map_ltN (od h2) h3) (cj (look_cons_self _ _ _) (cj (map_lt h3) (cj (laws_markAcctS_ok x1.Accts (i64 (v1 + 1)) r1 h4) (cj rfl (cj1 (nb_set E58 _ _ (Stripe.mk v1 r1.2)))))))))))))))))) (laws_markStripeS_l0_ok fuel r1.1 (i64 (v2 + 1)) (v3.set v2.toNat (Stripe.mk v1 r1.2)))))) (fun h2 =>
     Pn.none)) (fun h1 =>
     Pn.some (LpO.out [.wait 3, .nm 8 (V.sc (.int .i64 (v3.length : Int))), .bit false, .mask [1], .ren [0]] (p := [V.sc (.int .i64 ((List.map E58 v3).length : Int)) = V.sc (.int .i64 (v3.length : Int)),
      (decide (v2 < (v3.length : Int))) = false]) (by kernel_rfl) (show X.out 0 ≠ X.go from nofun) (cj (len_nm _ _) (cj1 h1))))
def laws_markStripeS (a : List Stripe) (k : Int) : Option (Int × (List Stripe)) :=
 (laws_markStripeS_l0 FUEL k 0 a).bind fun r2 =>
 some (r2.1, r2.2)
theorem laws_markStripeS_ok (a : List Stripe) (k : Int) : Pn (fun y => Fn Try.prog 35 [(true, E53 a), (false, E3 k)] (E3 y.1) [V.sl true 58 (List.map E58 y.2)]) (laws_markStripeS a k) := by
  unfold laws_markStripeS
  exact
   Pn.bind (fun r2 h5 =>
   Pn.some (Fn.of [.wait 3, .mask [0, 1, 5], .ren [0], .loop (X.out 0) (st 27 [(1, V.sc (.int .i64 r2.1))] [Blk.row 58 (List.map E58 r2.2) []] [some 0])] (p := [Loop Try.prog (sub (codeOf Try.prog 35) [1, 0, 1, 0, 0]) (st 27 [(0, V.ow 0), (1, V.sc (.int .i64 k)), (5, V.sc (.int .i64 0))] [Blk.row 58 (List.map E58 a) []] [some 0]) (X.out 0) (st 27 [(1, V.sc (.int .i64 r2.1))] [Blk.row 58 (List.map E58 r2.2) []] [some 0])]) (by kernel_rfl) (cj1 (laws_markStripeS_l0_ok FUEL k 0 a r2 h5))))
def laws_markBook (a : Book) (k : Int) : Option (Int × (List Acct)) :=
 (laws_markAcctS a.Accts k).bind fun r1 =>
 some (r1.1, r1.2)
theorem laws_markBook_ok (a : Book) (k : Int) : Pn (fun y => Fn Try.prog 36 [(true, E50 a), (false, E3 k)] (E3 y.1) [V.sl true 29 (List.map E29 y.2)]) (laws_markBook a k) := by
  unfold laws_markBook
  exact
   Pn.bind (fun r1 h1 =>
   Pn.some (Fn.of [.call [true, false] (E3 r1.1) [V.sl true 29 (List.map E29 r1.2)]] (p := [Fn Try.prog 95 [(true, E48 a.Accts), (false, E3 k)] (E3 r1.1) [V.sl true 29 (List.map E29 r1.2)],
    (true || ((E3 r1.1).nv && nvL [V.sl true 29 (List.map E29 r1.2)])) = true]) (by kernel_rfl) (cj (laws_markAcctS_ok a.Accts k r1 h1) (cj1 rfl))))
def laws_heldHoldS_l0 (a : List Hold) : List Hold → Int → Option (Lo Int Unit)
  | [], v1 =>
   some (.out v1)
  | x1 :: t1, v1 =>
   (laws_markText v1).bind fun r1 =>
   if (x1.Id == r1) = true then
   if (x1.Amount != (i64 (v1 + 1))) = true then
   some (.ret ())
   else
   if (x1.Due != (i64 ((i64 (v1 + 1)) + 1))) = true then
   some (.ret ())
   else
   laws_heldHoldS_l0 a t1 (i64 ((i64 ((i64 (v1 + 1)) + 1)) + 1))
   else
   some (.ret ())
theorem laws_heldHoldS_l0_ok (a : List Hold) (h2 : capOk a.length = true) : ∀ (t1 p1 : List Hold) (_ : a = p1 ++ t1) (v1 : Int), Pn (LpO Try.prog (sub (codeOf Try.prog 156) [1, 0, 1, 0, 0]) (st 41 [(0, V.sl false 36 (List.map E36 a)), (1, V.sc (.int .i64 v1)), (5, V.sc (.int .i64 (p1.length : Int)))] [] []) (fun (y : Lo Int Unit) => Lo.elim y (fun s => (X.out 0, st 41 [(1, V.sc (.int .i64 s))] [] [])) (fun s => (X.ret, st 41 [(4, V.sc (.int .i64 (-1)))] [] [])))) (laws_heldHoldS_l0 a t1 v1)
  | [], p1, h1, v1 => by
    unfold laws_heldHoldS_l0
    exact
     Pn.some (LpO.out [.wait 3, .nm 8 (V.sc (.int .i64 (a.length : Int))), .bit false, .mask [1], .ren []] (p := [V.sc (.int .i64 ((List.map E36 a).length : Int)) = V.sc (.int .i64 (a.length : Int)),
      (decide ((p1.length : Int) < (a.length : Int))) = false]) (by kernel_rfl) (show X.out 0 ≠ X.go from nofun) (cj (len_nm _ _) (cj1 (rng_end h1))))
  | x1 :: t1, p1, h1, v1 => by
    unfold laws_heldHoldS_l0
    exact
     Pn.bind (fun r1 h3 =>
     Pn.ite (fun h4 =>
     Pn.ite (fun h5 =>
     Pn.some (LpO.out [.wait 3, .nm 8 (V.sc (.int .i64 (a.length : Int))), .bit true, .draw [], .el (E36 x1), .call [] (E9 r1) [], .bit false, .el (E36 x1), .bit true, .wait 1, .mask [4], .ren []] (p := [V.sc (.int .i64 ((List.map E36 a).length : Int)) = V.sc (.int .i64 (a.length : Int)),
      (decide ((p1.length : Int) < (a.length : Int))) = true,
      (0 : Int) ≤ (p1.length : Int),
      (List.map E36 a)[(p1.length : Int).toNat]? = some (E36 x1),
      Fn Try.prog 153 [(false, E3 v1)] (E9 r1) [],
      (true || ((E9 r1).nv && nvL [])) = true,
      (!(x1.Id == r1)) = false,
      (0 : Int) ≤ (p1.length : Int),
      (List.map E36 a)[(p1.length : Int).toNat]? = some (E36 x1),
      (x1.Amount != (i64 (v1 + 1))) = true]) (by kernel_rfl) (show X.ret ≠ X.go from nofun) (cj (len_nm _ _) (cj (rng_lt h1) (cj (by omega) (cj (rng_get _ h1) (cj (laws_markText_ok v1 r1 h3) (cj rfl (cj (nf h4) (cj (by omega) (cj (rng_get _ h1) (cj1 h5)))))))))))) (fun h5 =>
     Pn.ite (fun h6 =>
     Pn.some (LpO.out [.wait 3, .nm 8 (V.sc (.int .i64 (a.length : Int))), .bit true, .draw [], .el (E36 x1), .call [] (E9 r1) [], .bit false, .el (E36 x1), .bit false, .el (E36 x1), .bit true, .wait 1, .mask [4], .ren []] (p := [V.sc (.int .i64 ((List.map E36 a).length : Int)) = V.sc (.int .i64 (a.length : Int)),
      (decide ((p1.length : Int) < (a.length : Int))) = true,
      (0 : Int) ≤ (p1.length : Int),
      (List.map E36 a)[(p1.length : Int).toNat]? = some (E36 x1),
      Fn Try.prog 153 [(false, E3 v1)] (E9 r1) [],
      (true || ((E9 r1).nv && nvL [])) = true,
      (!(x1.Id == r1)) = false,
      (0 : Int) ≤ (p1.length : Int),
      (List.map E36 a)[(p1.length : Int).toNat]? = some (E36 x1),
      (x1.Amount != (i64 (v1 + 1))) = false,
      (0 : Int) ≤ (p1.length : Int),
      (List.map E36 a)[(p1.length : Int).toNat]? = some (E36 x1),
      (x1.Due != (i64 ((i64 (v1 + 1)) + 1))) = true]) (by kernel_rfl) (show X.ret ≠ X.go from nofun) (cj (len_nm _ _) (cj (rng_lt h1) (cj (by omega) (cj (rng_get _ h1) (cj (laws_markText_ok v1 r1 h3) (cj rfl (cj (nf h4) (cj (by omega) (cj (rng_get _ h1) (cj h5 (cj (by omega) (cj (rng_get _ h1) (cj1 h6))))))))))))))) (fun h6 =>
     LpO.go [.wait 3, .nm 8 (V.sc (.int .i64 (a.length : Int))), .bit true, .draw [], .el (E36 x1), .call [] (E9 r1) [], .bit false, .el (E36 x1), .bit false, .el (E36 x1), .bit false, .wait 6, .mask [0, 1, 5], .ren [], .nm 5 (V.sc (.int .i64 ((p1 ++ [x1]).length : Int)))] (p := [V.sc (.int .i64 ((List.map E36 a).length : Int)) = V.sc (.int .i64 (a.length : Int)),
      (decide ((p1.length : Int) < (a.length : Int))) = true,
      (0 : Int) ≤ (p1.length : Int),
      (List.map E36 a)[(p1.length : Int).toNat]? = some (E36 x1),
      Fn Try.prog 153 [(false, E3 v1)] (E9 r1) [],
      (true || ((E9 r1).nv && nvL [])) = true,
      (!(x1.Id == r1)) = false,
      (0 : Int) ≤ (p1.length : Int),
      (List.map E36 a)[(p1.length : Int).toNat]? = some (E36 x1),
      (x1.Amount != (i64 (v1 + 1))) = false,
      (0 : Int) ≤ (p1.length : Int),
      (List.map E36 a)[(p1.length : Int).toNat]? = some (E36 x1),
      (x1.Due != (i64 ((i64 (v1 + 1)) + 1))) = false,
      V.sc (.int .i64 (i64 ((p1.length : Int) + 1))) = V.sc (.int .i64 ((p1 ++ [x1]).length : Int))]) (by kernel_rfl) (cj (len_nm _ _) (cj (rng_lt h1) (cj (by omega) (cj (rng_get _ h1) (cj (laws_markText_ok v1 r1 h3) (cj rfl (cj (nf h4) (cj (by omega) (cj (rng_get _ h1) (cj h5 (cj (by omega) (cj (rng_get _ h1) (cj h6 (cj1 (rng_next h1 h2))))))))))))))) (laws_heldHoldS_l0_ok a h2 t1 (p1 ++ [x1]) (rng_step h1) (i64 ((i64 ((i64 (v1 + 1)) + 1)) + 1)))))) (fun h4 =>
     Pn.some (LpO.out [.wait 3, .nm 8 (V.sc (.int .i64 (a.length : Int))), .bit true, .draw [], .el (E36 x1), .call [] (E9 r1) [], .bit true, .wait 1, .mask [4], .ren []] (p := [V.sc (.int .i64 ((List.map E36 a).length : Int)) = V.sc (.int .i64 (a.length : Int)),
      (decide ((p1.length : Int) < (a.length : Int))) = true,
      (0 : Int) ≤ (p1.length : Int),
      (List.map E36 a)[(p1.length : Int).toNat]? = some (E36 x1),
      Fn Try.prog 153 [(false, E3 v1)] (E9 r1) [],
      (true || ((E9 r1).nv && nvL [])) = true,
      (!(x1.Id == r1)) = true]) (by kernel_rfl) (show X.ret ≠ X.go from nofun) (cj (len_nm _ _) (cj (rng_lt h1) (cj (by omega) (cj (rng_get _ h1) (cj (laws_markText_ok v1 r1 h3) (cj rfl (cj1 (nt h4)))))))))))
def laws_heldHoldS (a : List Hold) (k : Int) : Option (Int) :=
 if (capOk a.length) = true then
 (laws_heldHoldS_l0 a a k).bind fun r2 =>
 Lo.elim r2 (fun s1 =>
 some s1) (fun s2 =>
 some (-1))
 else none
theorem laws_heldHoldS_ok (a : List Hold) (k : Int) : Pn (fun y => Fn Try.prog 156 [(false, E23 a), (false, E3 k)] (E3 y) []) (laws_heldHoldS a k) := by
  unfold laws_heldHoldS
  exact
   Pn.ite (fun h7 =>
   Pn.bind (fun r2 h8 =>
   Pn.lo (fun s1 h9 =>
   Pn.some (Fn.of [.wait 3, .mask [0, 1, 5], .ren [], .loop (X.out 0) (st 41 [(1, V.sc (.int .i64 s1))] [] [])] (p := [Loop Try.prog (sub (codeOf Try.prog 156) [1, 0, 1, 0, 0]) (st 41 [(0, V.sl false 36 (List.map E36 a)), (1, V.sc (.int .i64 k)), (5, V.sc (.int .i64 0))] [] []) (X.out 0) (st 41 [(1, V.sc (.int .i64 s1))] [] [])]) (by kernel_rfl) (cj1 ((laws_heldHoldS_l0_ok a h7 a [] rfl k r2 h8).at h9)))) (fun s2 h10 =>
   Pn.some (Fn.of [.wait 3, .mask [0, 1, 5], .ren [], .loop (X.ret) (st 41 [(4, V.sc (.int .i64 (-1)))] [] [])] (p := [Loop Try.prog (sub (codeOf Try.prog 156) [1, 0, 1, 0, 0]) (st 41 [(0, V.sl false 36 (List.map E36 a)), (1, V.sc (.int .i64 k)), (5, V.sc (.int .i64 0))] [] []) (X.ret) (st 41 [(4, V.sc (.int .i64 (-1)))] [] [])]) (by kernel_rfl) (cj1 ((laws_heldHoldS_l0_ok a h7 a [] rfl k r2 h8).at h10)))))) (fun h7 =>
   Pn.none)
def laws_heldIntS_l0 (a : List Int) : List Int → Int → Option (Lo Int Unit)
  | [], v1 =>
   some (.out v1)
  | x1 :: t1, v1 =>
   if (x1 != v1) = true then
   some (.ret ())
   else
   laws_heldIntS_l0 a t1 (i64 (v1 + 1))
theorem laws_heldIntS_l0_ok (a : List Int) (h2 : capOk a.length = true) : ∀ (t1 p1 : List Int) (_ : a = p1 ++ t1) (v1 : Int), Pn (LpO Try.prog (sub (codeOf Try.prog 157) [1, 0, 1, 0, 0]) (st 21 [(0, V.sl false 3 (List.map E3 a)), (1, V.sc (.int .i64 v1)), (5, V.sc (.int .i64 (p1.length : Int)))] [] []) (fun (y : Lo Int Unit) => Lo.elim y (fun s => (X.out 0, st 21 [(1, V.sc (.int .i64 s))] [] [])) (fun s => (X.ret, st 21 [(4, V.sc (.int .i64 (-1)))] [] [])))) (laws_heldIntS_l0 a t1 v1)
  | [], p1, h1, v1 => by
    unfold laws_heldIntS_l0
    exact
     Pn.some (LpO.out [.wait 3, .nm 8 (V.sc (.int .i64 (a.length : Int))), .bit false, .mask [1], .ren []] (p := [V.sc (.int .i64 ((List.map E3 a).length : Int)) = V.sc (.int .i64 (a.length : Int)),
      (decide ((p1.length : Int) < (a.length : Int))) = false]) (by kernel_rfl) (show X.out 0 ≠ X.go from nofun) (cj (len_nm _ _) (cj1 (rng_end h1))))
  | x1 :: t1, p1, h1, v1 => by
    unfold laws_heldIntS_l0
    exact
     Pn.ite (fun h3 =>
     Pn.some (LpO.out [.wait 3, .nm 8 (V.sc (.int .i64 (a.length : Int))), .bit true, .el (E3 x1), .bit true, .wait 1, .mask [4], .ren []] (p := [V.sc (.int .i64 ((List.map E3 a).length : Int)) = V.sc (.int .i64 (a.length : Int)),
      (decide ((p1.length : Int) < (a.length : Int))) = true,
      (0 : Int) ≤ (p1.length : Int),
      (List.map E3 a)[(p1.length : Int).toNat]? = some (E3 x1),
      (x1 != v1) = true]) (by kernel_rfl) (show X.ret ≠ X.go from nofun) (cj (len_nm _ _) (cj (rng_lt h1) (cj (by omega) (cj (rng_get _ h1) (cj1 h3))))))) (fun h3 =>
     LpO.go [.wait 3, .nm 8 (V.sc (.int .i64 (a.length : Int))), .bit true, .el (E3 x1), .bit false, .wait 6, .mask [0, 1, 5], .ren [], .nm 5 (V.sc (.int .i64 ((p1 ++ [x1]).length : Int)))] (p := [V.sc (.int .i64 ((List.map E3 a).length : Int)) = V.sc (.int .i64 (a.length : Int)),
      (decide ((p1.length : Int) < (a.length : Int))) = true,
      (0 : Int) ≤ (p1.length : Int),
      (List.map E3 a)[(p1.length : Int).toNat]? = some (E3 x1),
      (x1 != v1) = false,
      V.sc (.int .i64 (i64 ((p1.length : Int) + 1))) = V.sc (.int .i64 ((p1 ++ [x1]).length : Int))]) (by kernel_rfl) (cj (len_nm _ _) (cj (rng_lt h1) (cj (by omega) (cj (rng_get _ h1) (cj h3 (cj1 (rng_next h1 h2))))))) (laws_heldIntS_l0_ok a h2 t1 (p1 ++ [x1]) (rng_step h1) (i64 (v1 + 1))))
def laws_heldIntS (a : List Int) (k : Int) : Option (Int) :=
 if (capOk a.length) = true then
 (laws_heldIntS_l0 a a k).bind fun r1 =>
 Lo.elim r1 (fun s1 =>
 some s1) (fun s2 =>
 some (-1))
 else none
theorem laws_heldIntS_ok (a : List Int) (k : Int) : Pn (fun y => Fn Try.prog 157 [(false, E24 a), (false, E3 k)] (E3 y) []) (laws_heldIntS a k) := by
  unfold laws_heldIntS
  exact
   Pn.ite (fun h4 =>
   Pn.bind (fun r1 h5 =>
   Pn.lo (fun s1 h6 =>
   Pn.some (Fn.of [.wait 3, .mask [0, 1, 5], .ren [], .loop (X.out 0) (st 21 [(1, V.sc (.int .i64 s1))] [] [])] (p := [Loop Try.prog (sub (codeOf Try.prog 157) [1, 0, 1, 0, 0]) (st 21 [(0, V.sl false 3 (List.map E3 a)), (1, V.sc (.int .i64 k)), (5, V.sc (.int .i64 0))] [] []) (X.out 0) (st 21 [(1, V.sc (.int .i64 s1))] [] [])]) (by kernel_rfl) (cj1 ((laws_heldIntS_l0_ok a h4 a [] rfl k r1 h5).at h6)))) (fun s2 h7 =>
   Pn.some (Fn.of [.wait 3, .mask [0, 1, 5], .ren [], .loop (X.ret) (st 21 [(4, V.sc (.int .i64 (-1)))] [] [])] (p := [Loop Try.prog (sub (codeOf Try.prog 157) [1, 0, 1, 0, 0]) (st 21 [(0, V.sl false 3 (List.map E3 a)), (1, V.sc (.int .i64 k)), (5, V.sc (.int .i64 0))] [] []) (X.ret) (st 21 [(4, V.sc (.int .i64 (-1)))] [] [])]) (by kernel_rfl) (cj1 ((laws_heldIntS_l0_ok a h4 a [] rfl k r1 h5).at h7)))))) (fun h4 =>
   Pn.none)
def laws_heldByteS_l0 (a : List Int) : List Int → Int → Option (Lo Int Unit)
  | [], v1 =>
   some (.out v1)
  | x1 :: t1, v1 =>
   if (x1 != (u8 v1)) = true then
   some (.ret ())
   else
   laws_heldByteS_l0 a t1 (i64 (v1 + 1))
theorem laws_heldByteS_l0_ok (a : List Int) (h2 : capOk a.length = true) : ∀ (t1 p1 : List Int) (_ : a = p1 ++ t1) (v1 : Int), Pn (LpO Try.prog (sub (codeOf Try.prog 109) [1, 0, 1, 0, 0]) (st 22 [(0, V.sl false 5 (List.map E5 a)), (1, V.sc (.int .i64 v1)), (5, V.sc (.int .i64 (p1.length : Int)))] [] []) (fun (y : Lo Int Unit) => Lo.elim y (fun s => (X.out 0, st 22 [(1, V.sc (.int .i64 s))] [] [])) (fun s => (X.ret, st 22 [(4, V.sc (.int .i64 (-1)))] [] [])))) (laws_heldByteS_l0 a t1 v1)
  | [], p1, h1, v1 => by
    unfold laws_heldByteS_l0
    exact
     Pn.some (LpO.out [.wait 3, .nm 8 (V.sc (.int .i64 (a.length : Int))), .bit false, .mask [1], .ren []] (p := [V.sc (.int .i64 ((List.map E5 a).length : Int)) = V.sc (.int .i64 (a.length : Int)),
      (decide ((p1.length : Int) < (a.length : Int))) = false]) (by kernel_rfl) (show X.out 0 ≠ X.go from nofun) (cj (len_nm _ _) (cj1 (rng_end h1))))
  | x1 :: t1, p1, h1, v1 => by
    unfold laws_heldByteS_l0
    exact
     Pn.ite (fun h3 =>
     Pn.some (LpO.out [.wait 3, .nm 8 (V.sc (.int .i64 (a.length : Int))), .bit true, .el (E5 x1), .bit true, .wait 1, .mask [4], .ren []] (p := [V.sc (.int .i64 ((List.map E5 a).length : Int)) = V.sc (.int .i64 (a.length : Int)),
      (decide ((p1.length : Int) < (a.length : Int))) = true,
      (0 : Int) ≤ (p1.length : Int),
      (List.map E5 a)[(p1.length : Int).toNat]? = some (E5 x1),
      (x1 != (u8 v1)) = true]) (by kernel_rfl) (show X.ret ≠ X.go from nofun) (cj (len_nm _ _) (cj (rng_lt h1) (cj (by omega) (cj (rng_get _ h1) (cj1 h3))))))) (fun h3 =>
     LpO.go [.wait 3, .nm 8 (V.sc (.int .i64 (a.length : Int))), .bit true, .el (E5 x1), .bit false, .wait 6, .mask [0, 1, 5], .ren [], .nm 5 (V.sc (.int .i64 ((p1 ++ [x1]).length : Int)))] (p := [V.sc (.int .i64 ((List.map E5 a).length : Int)) = V.sc (.int .i64 (a.length : Int)),
      (decide ((p1.length : Int) < (a.length : Int))) = true,
      (0 : Int) ≤ (p1.length : Int),
      (List.map E5 a)[(p1.length : Int).toNat]? = some (E5 x1),
      (x1 != (u8 v1)) = false,
      V.sc (.int .i64 (i64 ((p1.length : Int) + 1))) = V.sc (.int .i64 ((p1 ++ [x1]).length : Int))]) (by kernel_rfl) (cj (len_nm _ _) (cj (rng_lt h1) (cj (by omega) (cj (rng_get _ h1) (cj h3 (cj1 (rng_next h1 h2))))))) (laws_heldByteS_l0_ok a h2 t1 (p1 ++ [x1]) (rng_step h1) (i64 (v1 + 1))))
def laws_heldByteS (a : List Int) (k : Int) : Option (Int) :=
 if (capOk a.length) = true then
 (laws_heldByteS_l0 a a k).bind fun r1 =>
 Lo.elim r1 (fun s1 =>
 some s1) (fun s2 =>
 some (-1))
 else none
theorem laws_heldByteS_ok (a : List Int) (k : Int) : Pn (fun y => Fn Try.prog 109 [(false, E22 a), (false, E3 k)] (E3 y) []) (laws_heldByteS a k) := by
  unfold laws_heldByteS
  exact
   Pn.ite (fun h4 =>
   Pn.bind (fun r1 h5 =>
   Pn.lo (fun s1 h6 =>
   Pn.some (Fn.of [.wait 3, .mask [0, 1, 5], .ren [], .loop (X.out 0) (st 22 [(1, V.sc (.int .i64 s1))] [] [])] (p := [Loop Try.prog (sub (codeOf Try.prog 109) [1, 0, 1, 0, 0]) (st 22 [(0, V.sl false 5 (List.map E5 a)), (1, V.sc (.int .i64 k)), (5, V.sc (.int .i64 0))] [] []) (X.out 0) (st 22 [(1, V.sc (.int .i64 s1))] [] [])]) (by kernel_rfl) (cj1 ((laws_heldByteS_l0_ok a h4 a [] rfl k r1 h5).at h6)))) (fun s2 h7 =>
   Pn.some (Fn.of [.wait 3, .mask [0, 1, 5], .ren [], .loop (X.ret) (st 22 [(4, V.sc (.int .i64 (-1)))] [] [])] (p := [Loop Try.prog (sub (codeOf Try.prog 109) [1, 0, 1, 0, 0]) (st 22 [(0, V.sl false 5 (List.map E5 a)), (1, V.sc (.int .i64 k)), (5, V.sc (.int .i64 0))] [] []) (X.ret) (st 22 [(4, V.sc (.int .i64 (-1)))] [] [])]) (by kernel_rfl) (cj1 ((laws_heldByteS_l0_ok a h4 a [] rfl k r1 h5).at h7)))))) (fun h4 =>
   Pn.none)
def laws_heldSlotS_l0 (a : List Slot) : List Slot → Int → Option (Lo Int Unit)
  | [], v1 =>
   some (.out v1)
  | x1 :: t1, v1 =>
   (laws_markText v1).bind fun r1 =>
   if (x1.Trace == r1) = true then
   (laws_markText (i64 (v1 + 1))).bind fun r2 =>
   if (x1.Mti == r2) = true then
   (laws_heldByteS x1.Reply (i64 ((i64 (v1 + 1)) + 1))).bind fun r3 =>
   if (decide (r3 < 0)) = true then
   some (.ret ())
   else
   laws_heldSlotS_l0 a t1 r3
   else
   some (.ret ())
   else
   some (.ret ())
theorem laws_heldSlotS_l0_ok (a : List Slot) (h2 : capOk a.length = true) : ∀ (t1 p1 : List Slot) (_ : a = p1 ++ t1) (v1 : Int), Pn (LpO Try.prog (sub (codeOf Try.prog 158) [1, 0, 1, 0, 0]) (st 42 [(0, V.sl false 164 (List.map E164 a)), (1, V.sc (.int .i64 v1)), (5, V.sc (.int .i64 (p1.length : Int)))] [] []) (fun (y : Lo Int Unit) => Lo.elim y (fun s => (X.out 0, st 42 [(1, V.sc (.int .i64 s))] [] [])) (fun s => (X.ret, st 42 [(4, V.sc (.int .i64 (-1)))] [] [])))) (laws_heldSlotS_l0 a t1 v1)
  | [], p1, h1, v1 => by
    unfold laws_heldSlotS_l0
    exact
     Pn.some (LpO.out [.wait 3, .nm 8 (V.sc (.int .i64 (a.length : Int))), .bit false, .mask [1], .ren []] (p := [V.sc (.int .i64 ((List.map E164 a).length : Int)) = V.sc (.int .i64 (a.length : Int)),
      (decide ((p1.length : Int) < (a.length : Int))) = false]) (by kernel_rfl) (show X.out 0 ≠ X.go from nofun) (cj (len_nm _ _) (cj1 (rng_end h1))))
  | x1 :: t1, p1, h1, v1 => by
    unfold laws_heldSlotS_l0
    exact
     Pn.bind (fun r1 h3 =>
     Pn.ite (fun h4 =>
     Pn.bind (fun r2 h5 =>
     Pn.ite (fun h6 =>
     Pn.bind (fun r3 h7 =>
     Pn.ite (fun h8 =>
     Pn.some (LpO.out [.wait 3, .nm 8 (V.sc (.int .i64 (a.length : Int))), .bit true, .draw [], .el (E164 x1), .call [] (E9 r1) [], .bit false, .draw [], .el (E164 x1), .call [] (E9 r2) [], .bit false, .el (E164 x1), .call [] (E3 r3) [], .bit true, .wait 1, .mask [4], .ren []] (p := [V.sc (.int .i64 ((List.map E164 a).length : Int)) = V.sc (.int .i64 (a.length : Int)),
      (decide ((p1.length : Int) < (a.length : Int))) = true,
      (0 : Int) ≤ (p1.length : Int),
      (List.map E164 a)[(p1.length : Int).toNat]? = some (E164 x1),
      Fn Try.prog 153 [(false, E3 v1)] (E9 r1) [],
      (true || ((E9 r1).nv && nvL [])) = true,
      (!(x1.Trace == r1)) = false,
      (0 : Int) ≤ (p1.length : Int),
      (List.map E164 a)[(p1.length : Int).toNat]? = some (E164 x1),
      Fn Try.prog 153 [(false, E3 (i64 (v1 + 1)))] (E9 r2) [],
      (true || ((E9 r2).nv && nvL [])) = true,
      (!(x1.Mti == r2)) = false,
      (0 : Int) ≤ (p1.length : Int),
      (List.map E164 a)[(p1.length : Int).toNat]? = some (E164 x1),
      Fn Try.prog 109 [(false, E22 x1.Reply), (false, E3 (i64 ((i64 (v1 + 1)) + 1)))] (E3 r3) [],
      (true || ((E3 r3).nv && nvL [])) = true,
      (decide (r3 < 0)) = true]) (by kernel_rfl) (show X.ret ≠ X.go from nofun) (cj (len_nm _ _) (cj (rng_lt h1) (cj (by omega) (cj (rng_get _ h1) (cj (laws_markText_ok v1 r1 h3) (cj rfl (cj (nf h4) (cj (by omega) (cj (rng_get _ h1) (cj (laws_markText_ok (i64 (v1 + 1)) r2 h5) (cj rfl (cj (nf h6) (cj (by omega) (cj (rng_get _ h1) (cj (laws_heldByteS_ok x1.Reply (i64 ((i64 (v1 + 1)) + 1)) r3 h7) (cj rfl (cj1 h8))))))))))))))))))) (fun h8 =>
     LpO.go [.wait 3, .nm 8 (V.sc (.int .i64 (a.length : Int))), .bit true, .draw [], .el (E164 x1), .call [] (E9 r1) [], .bit false, .draw [], .el (E164 x1), .call [] (E9 r2) [], .bit false, .el (E164 x1), .call [] (E3 r3) [], .bit false, .wait 3, .mask [0, 1, 5], .ren [], .nm 5 (V.sc (.int .i64 ((p1 ++ [x1]).length : Int)))] (p := [V.sc (.int .i64 ((List.map E164 a).length : Int)) = V.sc (.int .i64 (a.length : Int)),
      (decide ((p1.length : Int) < (a.length : Int))) = true,
      (0 : Int) ≤ (p1.length : Int),
      (List.map E164 a)[(p1.length : Int).toNat]? = some (E164 x1),
      Fn Try.prog 153 [(false, E3 v1)] (E9 r1) [],
      (true || ((E9 r1).nv && nvL [])) = true,
      (!(x1.Trace == r1)) = false,
      (0 : Int) ≤ (p1.length : Int),
      (List.map E164 a)[(p1.length : Int).toNat]? = some (E164 x1),
      Fn Try.prog 153 [(false, E3 (i64 (v1 + 1)))] (E9 r2) [],
      (true || ((E9 r2).nv && nvL [])) = true,
      (!(x1.Mti == r2)) = false,
      (0 : Int) ≤ (p1.length : Int),
      (List.map E164 a)[(p1.length : Int).toNat]? = some (E164 x1),
      Fn Try.prog 109 [(false, E22 x1.Reply), (false, E3 (i64 ((i64 (v1 + 1)) + 1)))] (E3 r3) [],
      (true || ((E3 r3).nv && nvL [])) = true,
      (decide (r3 < 0)) = false,
      V.sc (.int .i64 (i64 ((p1.length : Int) + 1))) = V.sc (.int .i64 ((p1 ++ [x1]).length : Int))]) (by kernel_rfl) (cj (len_nm _ _) (cj (rng_lt h1) (cj (by omega) (cj (rng_get _ h1) (cj (laws_markText_ok v1 r1 h3) (cj rfl (cj (nf h4) (cj (by omega) (cj (rng_get _ h1) (cj (laws_markText_ok (i64 (v1 + 1)) r2 h5) (cj rfl (cj (nf h6) (cj (by omega) (cj (rng_get _ h1) (cj (laws_heldByteS_ok x1.Reply (i64 ((i64 (v1 + 1)) + 1)) r3 h7) (cj rfl (cj h8 (cj1 (rng_next h1 h2))))))))))))))))))) (laws_heldSlotS_l0_ok a h2 t1 (p1 ++ [x1]) (rng_step h1) r3)))) (fun h6 =>
     Pn.some (LpO.out [.wait 3, .nm 8 (V.sc (.int .i64 (a.length : Int))), .bit true, .draw [], .el (E164 x1), .call [] (E9 r1) [], .bit false, .draw [], .el (E164 x1), .call [] (E9 r2) [], .bit true, .wait 1, .mask [4], .ren []] (p := [V.sc (.int .i64 ((List.map E164 a).length : Int)) = V.sc (.int .i64 (a.length : Int)),
      (decide ((p1.length : Int) < (a.length : Int))) = true,
      (0 : Int) ≤ (p1.length : Int),
      (List.map E164 a)[(p1.length : Int).toNat]? = some (E164 x1),
      Fn Try.prog 153 [(false, E3 v1)] (E9 r1) [],
      (true || ((E9 r1).nv && nvL [])) = true,
      (!(x1.Trace == r1)) = false,
      (0 : Int) ≤ (p1.length : Int),
      (List.map E164 a)[(p1.length : Int).toNat]? = some (E164 x1),
      Fn Try.prog 153 [(false, E3 (i64 (v1 + 1)))] (E9 r2) [],
      (true || ((E9 r2).nv && nvL [])) = true,
      (!(x1.Mti == r2)) = true]) (by kernel_rfl) (show X.ret ≠ X.go from nofun) (cj (len_nm _ _) (cj (rng_lt h1) (cj (by omega) (cj (rng_get _ h1) (cj (laws_markText_ok v1 r1 h3) (cj rfl (cj (nf h4) (cj (by omega) (cj (rng_get _ h1) (cj (laws_markText_ok (i64 (v1 + 1)) r2 h5) (cj rfl (cj1 (nt h6))))))))))))))))) (fun h4 =>
     Pn.some (LpO.out [.wait 3, .nm 8 (V.sc (.int .i64 (a.length : Int))), .bit true, .draw [], .el (E164 x1), .call [] (E9 r1) [], .bit true, .wait 1, .mask [4], .ren []] (p := [V.sc (.int .i64 ((List.map E164 a).length : Int)) = V.sc (.int .i64 (a.length : Int)),
      (decide ((p1.length : Int) < (a.length : Int))) = true,
      (0 : Int) ≤ (p1.length : Int),
      (List.map E164 a)[(p1.length : Int).toNat]? = some (E164 x1),
      Fn Try.prog 153 [(false, E3 v1)] (E9 r1) [],
      (true || ((E9 r1).nv && nvL [])) = true,
      (!(x1.Trace == r1)) = true]) (by kernel_rfl) (show X.ret ≠ X.go from nofun) (cj (len_nm _ _) (cj (rng_lt h1) (cj (by omega) (cj (rng_get _ h1) (cj (laws_markText_ok v1 r1 h3) (cj rfl (cj1 (nt h4)))))))))))
def laws_heldSlotS (a : List Slot) (k : Int) : Option (Int) :=
 if (capOk a.length) = true then
 (laws_heldSlotS_l0 a a k).bind fun r4 =>
 Lo.elim r4 (fun s1 =>
 some s1) (fun s2 =>
 some (-1))
 else none
theorem laws_heldSlotS_ok (a : List Slot) (k : Int) : Pn (fun y => Fn Try.prog 158 [(false, E27 a), (false, E3 k)] (E3 y) []) (laws_heldSlotS a k) := by
  unfold laws_heldSlotS
  exact
   Pn.ite (fun h9 =>
   Pn.bind (fun r4 h10 =>
   Pn.lo (fun s1 h11 =>
   Pn.some (Fn.of [.wait 3, .mask [0, 1, 5], .ren [], .loop (X.out 0) (st 42 [(1, V.sc (.int .i64 s1))] [] [])] (p := [Loop Try.prog (sub (codeOf Try.prog 158) [1, 0, 1, 0, 0]) (st 42 [(0, V.sl false 164 (List.map E164 a)), (1, V.sc (.int .i64 k)), (5, V.sc (.int .i64 0))] [] []) (X.out 0) (st 42 [(1, V.sc (.int .i64 s1))] [] [])]) (by kernel_rfl) (cj1 ((laws_heldSlotS_l0_ok a h9 a [] rfl k r4 h10).at h11)))) (fun s2 h12 =>
   Pn.some (Fn.of [.wait 3, .mask [0, 1, 5], .ren [], .loop (X.ret) (st 42 [(4, V.sc (.int .i64 (-1)))] [] [])] (p := [Loop Try.prog (sub (codeOf Try.prog 158) [1, 0, 1, 0, 0]) (st 42 [(0, V.sl false 164 (List.map E164 a)), (1, V.sc (.int .i64 k)), (5, V.sc (.int .i64 0))] [] []) (X.ret) (st 42 [(4, V.sc (.int .i64 (-1)))] [] [])]) (by kernel_rfl) (cj1 ((laws_heldSlotS_l0_ok a h9 a [] rfl k r4 h10).at h12)))))) (fun h9 =>
   Pn.none)
def laws_heldAcctS_l0 (o : List Acct) : List Acct → Int → Option (Lo Int Unit)
  | [], v1 =>
   some (.out v1)
  | x1 :: t1, v1 =>
   (laws_markText v1).bind fun r1 =>
   if (x1.Id == r1) = true then
   if (x1.Limit != (i64 (v1 + 1))) = true then
   some (.ret ())
   else
   if (x1.Posted != (i64 ((i64 (v1 + 1)) + 1))) = true then
   some (.ret ())
   else
   if (x1.Most != (i64 ((i64 ((i64 (v1 + 1)) + 1)) + 1))) = true then
   some (.ret ())
   else
   if (x1.MostSum != (i64 ((i64 ((i64 ((i64 (v1 + 1)) + 1)) + 1)) + 1))) = true then
   some (.ret ())
   else
   (laws_heldHoldS x1.Holds (i64 ((i64 ((i64 ((i64 ((i64 (v1 + 1)) + 1)) + 1)) + 1)) + 1))).bind fun r2 =>
   if (decide (r2 < 0)) = true then
   some (.ret ())
   else
   if (x1.Ring.Span != r2) = true then
   some (.ret ())
   else
   if (x1.Ring.Head != (i64 (r2 + 1))) = true then
   some (.ret ())
   else
   (laws_heldIntS x1.Ring.Counts (i64 ((i64 (r2 + 1)) + 1))).bind fun r3 =>
   if (decide (r3 < 0)) = true then
   some (.ret ())
   else
   (laws_heldIntS x1.Ring.Sums r3).bind fun r4 =>
   if (decide (r4 < 0)) = true then
   some (.ret ())
   else
   (laws_heldSlotS x1.Slots r4).bind fun r5 =>
   if (decide (r5 < 0)) = true then
   some (.ret ())
   else
   laws_heldAcctS_l0 o t1 r5
   else
   some (.ret ())
theorem laws_heldAcctS_l0_ok (o : List Acct) (h2 : capOk o.length = true) : ∀ (t1 p1 : List Acct) (_ : o = p1 ++ t1) (v1 : Int), Pn (LpO Try.prog (sub (codeOf Try.prog 96) [1, 0, 1, 0, 0]) (st 117 [(0, V.sl false 29 (List.map E29 o)), (1, V.sc (.int .i64 v1)), (5, V.sc (.int .i64 (p1.length : Int)))] [] []) (fun (y : Lo Int Unit) => Lo.elim y (fun s => (X.out 0, st 117 [(1, V.sc (.int .i64 s))] [] [])) (fun s => (X.ret, st 117 [(4, V.sc (.int .i64 (-1)))] [] [])))) (laws_heldAcctS_l0 o t1 v1)
  | [], p1, h1, v1 => by
    unfold laws_heldAcctS_l0
    exact
     Pn.some (LpO.out [.wait 3, .nm 8 (V.sc (.int .i64 (o.length : Int))), .bit false, .mask [1], .ren []] (p := [V.sc (.int .i64 ((List.map E29 o).length : Int)) = V.sc (.int .i64 (o.length : Int)),
      (decide ((p1.length : Int) < (o.length : Int))) = false]) (by kernel_rfl) (show X.out 0 ≠ X.go from nofun) (cj (len_nm _ _) (cj1 (rng_end h1))))
  | x1 :: t1, p1, h1, v1 => by
    unfold laws_heldAcctS_l0
    exact
     Pn.bind (fun r1 h3 =>
     Pn.ite (fun h4 =>
     Pn.ite (fun h5 =>
     Pn.some (LpO.out [.wait 3, .nm 8 (V.sc (.int .i64 (o.length : Int))), .bit true, .draw [], .el (E29 x1), .call [] (E9 r1) [], .bit false, .el (E29 x1), .bit true, .wait 1, .mask [4], .ren []] (p := [V.sc (.int .i64 ((List.map E29 o).length : Int)) = V.sc (.int .i64 (o.length : Int)),
      (decide ((p1.length : Int) < (o.length : Int))) = true,
      (0 : Int) ≤ (p1.length : Int),
      (List.map E29 o)[(p1.length : Int).toNat]? = some (E29 x1),
      Fn Try.prog 153 [(false, E3 v1)] (E9 r1) [],
      (true || ((E9 r1).nv && nvL [])) = true,
      (!(x1.Id == r1)) = false,
      (0 : Int) ≤ (p1.length : Int),
      (List.map E29 o)[(p1.length : Int).toNat]? = some (E29 x1),
      (x1.Limit != (i64 (v1 + 1))) = true]) (by kernel_rfl) (show X.ret ≠ X.go from nofun) (cj (len_nm _ _) (cj (rng_lt h1) (cj (by omega) (cj (rng_get _ h1) (cj (laws_markText_ok v1 r1 h3) (cj rfl (cj (nf h4) (cj (by omega) (cj (rng_get _ h1) (cj1 h5)))))))))))) (fun h5 =>
     Pn.ite (fun h6 =>
     Pn.some (LpO.out [.wait 3, .nm 8 (V.sc (.int .i64 (o.length : Int))), .bit true, .draw [], .el (E29 x1), .call [] (E9 r1) [], .bit false, .el (E29 x1), .bit false, .el (E29 x1), .bit true, .wait 1, .mask [4], .ren []] (p := [V.sc (.int .i64 ((List.map E29 o).length : Int)) = V.sc (.int .i64 (o.length : Int)),
      (decide ((p1.length : Int) < (o.length : Int))) = true,
      (0 : Int) ≤ (p1.length : Int),
      (List.map E29 o)[(p1.length : Int).toNat]? = some (E29 x1),
      Fn Try.prog 153 [(false, E3 v1)] (E9 r1) [],
      (true || ((E9 r1).nv && nvL [])) = true,
      (!(x1.Id == r1)) = false,
      (0 : Int) ≤ (p1.length : Int),
      (List.map E29 o)[(p1.length : Int).toNat]? = some (E29 x1),
      (x1.Limit != (i64 (v1 + 1))) = false,
      (0 : Int) ≤ (p1.length : Int),
      (List.map E29 o)[(p1.length : Int).toNat]? = some (E29 x1),
      (x1.Posted != (i64 ((i64 (v1 + 1)) + 1))) = true]) (by kernel_rfl) (show X.ret ≠ X.go from nofun) (cj (len_nm _ _) (cj (rng_lt h1) (cj (by omega) (cj (rng_get _ h1) (cj (laws_markText_ok v1 r1 h3) (cj rfl (cj (nf h4) (cj (by omega) (cj (rng_get _ h1) (cj h5 (cj (by omega) (cj (rng_get _ h1) (cj1 h6))))))))))))))) (fun h6 =>
     Pn.ite (fun h7 =>
     Pn.some (LpO.out [.wait 3, .nm 8 (V.sc (.int .i64 (o.length : Int))), .bit true, .draw [], .el (E29 x1), .call [] (E9 r1) [], .bit false, .el (E29 x1), .bit false, .el (E29 x1), .bit false, .el (E29 x1), .bit true, .wait 1, .mask [4], .ren []] (p := [V.sc (.int .i64 ((List.map E29 o).length : Int)) = V.sc (.int .i64 (o.length : Int)),
      (decide ((p1.length : Int) < (o.length : Int))) = true,
      (0 : Int) ≤ (p1.length : Int),
      (List.map E29 o)[(p1.length : Int).toNat]? = some (E29 x1),
      Fn Try.prog 153 [(false, E3 v1)] (E9 r1) [],
      (true || ((E9 r1).nv && nvL [])) = true,
      (!(x1.Id == r1)) = false,
      (0 : Int) ≤ (p1.length : Int),
      (List.map E29 o)[(p1.length : Int).toNat]? = some (E29 x1),
      (x1.Limit != (i64 (v1 + 1))) = false,
      (0 : Int) ≤ (p1.length : Int),
      (List.map E29 o)[(p1.length : Int).toNat]? = some (E29 x1),
      (x1.Posted != (i64 ((i64 (v1 + 1)) + 1))) = false,
      (0 : Int) ≤ (p1.length : Int),
      (List.map E29 o)[(p1.length : Int).toNat]? = some (E29 x1),
      (x1.Most != (i64 ((i64 ((i64 (v1 + 1)) + 1)) + 1))) = true]) (by kernel_rfl) (show X.ret ≠ X.go from nofun) (cj (len_nm _ _) (cj (rng_lt h1) (cj (by omega) (cj (rng_get _ h1) (cj (laws_markText_ok v1 r1 h3) (cj rfl (cj (nf h4) (cj (by omega) (cj (rng_get _ h1) (cj h5 (cj (by omega) (cj (rng_get _ h1) (cj h6 (cj (by omega) (cj (rng_get _ h1) (cj1 h7)))))))))))))))))) (fun h7 =>
     Pn.ite (fun h8 =>
     Pn.some (LpO.out [.wait 3, .nm 8 (V.sc (.int .i64 (o.length : Int))), .bit true, .draw [], .el (E29 x1), .call [] (E9 r1) [], .bit false, .el (E29 x1), .bit false, .el (E29 x1), .bit false, .el (E29 x1), .bit false, .el (E29 x1), .bit true, .wait 1, .mask [4], .ren []] (p := [V.sc (.int .i64 ((List.map E29 o).length : Int)) = V.sc (.int .i64 (o.length : Int)),
      (decide ((p1.length : Int) < (o.length : Int))) = true,
      (0 : Int) ≤ (p1.length : Int),
      (List.map E29 o)[(p1.length : Int).toNat]? = some (E29 x1),
      Fn Try.prog 153 [(false, E3 v1)] (E9 r1) [],
      (true || ((E9 r1).nv && nvL [])) = true,
      (!(x1.Id == r1)) = false,
      (0 : Int) ≤ (p1.length : Int),
      (List.map E29 o)[(p1.length : Int).toNat]? = some (E29 x1),
      (x1.Limit != (i64 (v1 + 1))) = false,
      (0 : Int) ≤ (p1.length : Int),
      (List.map E29 o)[(p1.length : Int).toNat]? = some (E29 x1),
      (x1.Posted != (i64 ((i64 (v1 + 1)) + 1))) = false,
      (0 : Int) ≤ (p1.length : Int),
      (List.map E29 o)[(p1.length : Int).toNat]? = some (E29 x1),
      (x1.Most != (i64 ((i64 ((i64 (v1 + 1)) + 1)) + 1))) = false,
      (0 : Int) ≤ (p1.length : Int),
      (List.map E29 o)[(p1.length : Int).toNat]? = some (E29 x1),
      (x1.MostSum != (i64 ((i64 ((i64 ((i64 (v1 + 1)) + 1)) + 1)) + 1))) = true]) (by kernel_rfl) (show X.ret ≠ X.go from nofun) (cj (len_nm _ _) (cj (rng_lt h1) (cj (by omega) (cj (rng_get _ h1) (cj (laws_markText_ok v1 r1 h3) (cj rfl (cj (nf h4) (cj (by omega) (cj (rng_get _ h1) (cj h5 (cj (by omega) (cj (rng_get _ h1) (cj h6 (cj (by omega) (cj (rng_get _ h1) (cj h7 (cj (by omega) (cj (rng_get _ h1) (cj1 h8))))))))))))))))))))) (fun h8 =>
     Pn.bind (fun r2 h9 =>
     Pn.ite (fun h10 =>
     Pn.some (LpO.out [.wait 3, .nm 8 (V.sc (.int .i64 (o.length : Int))), .bit true, .draw [], .el (E29 x1), .call [] (E9 r1) [], .bit false, .el (E29 x1), .bit false, .el (E29 x1), .bit false, .el (E29 x1), .bit false, .el (E29 x1), .bit false, .el (E29 x1), .call [] (E3 r2) [], .bit true, .wait 1, .mask [4], .ren []] (p := [V.sc (.int .i64 ((List.map E29 o).length : Int)) = V.sc (.int .i64 (o.length : Int)),
      (decide ((p1.length : Int) < (o.length : Int))) = true,
      (0 : Int) ≤ (p1.length : Int),
      (List.map E29 o)[(p1.length : Int).toNat]? = some (E29 x1),
      Fn Try.prog 153 [(false, E3 v1)] (E9 r1) [],
      (true || ((E9 r1).nv && nvL [])) = true,
      (!(x1.Id == r1)) = false,
      (0 : Int) ≤ (p1.length : Int),
      (List.map E29 o)[(p1.length : Int).toNat]? = some (E29 x1),
      (x1.Limit != (i64 (v1 + 1))) = false,
      (0 : Int) ≤ (p1.length : Int),
      (List.map E29 o)[(p1.length : Int).toNat]? = some (E29 x1),
      (x1.Posted != (i64 ((i64 (v1 + 1)) + 1))) = false,
      (0 : Int) ≤ (p1.length : Int),
      (List.map E29 o)[(p1.length : Int).toNat]? = some (E29 x1),
      (x1.Most != (i64 ((i64 ((i64 (v1 + 1)) + 1)) + 1))) = false,
      (0 : Int) ≤ (p1.length : Int),
      (List.map E29 o)[(p1.length : Int).toNat]? = some (E29 x1),
      (x1.MostSum != (i64 ((i64 ((i64 ((i64 (v1 + 1)) + 1)) + 1)) + 1))) = false,
      (0 : Int) ≤ (p1.length : Int),
      (List.map E29 o)[(p1.length : Int).toNat]? = some (E29 x1),
      Fn Try.prog 156 [(false, E23 x1.Holds), (false, E3 (i64 ((i64 ((i64 ((i64 ((i64 (v1 + 1)) + 1)) + 1)) + 1)) + 1)))] (E3 r2) [],
      (true || ((E3 r2).nv && nvL [])) = true,
      (decide (r2 < 0)) = true]) (by kernel_rfl) (show X.ret ≠ X.go from nofun) (cj (len_nm _ _) (cj (rng_lt h1) (cj (by omega) (cj (rng_get _ h1) (cj (laws_markText_ok v1 r1 h3) (cj rfl (cj (nf h4) (cj (by omega) (cj (rng_get _ h1) (cj h5 (cj (by omega) (cj (rng_get _ h1) (cj h6 (cj (by omega) (cj (rng_get _ h1) (cj h7 (cj (by omega) (cj (rng_get _ h1) (cj h8 (cj (by omega) (cj (rng_get _ h1) (cj (laws_heldHoldS_ok x1.Holds (i64 ((i64 ((i64 ((i64 ((i64 (v1 + 1)) + 1)) + 1)) + 1)) + 1)) r2 h9) (cj rfl (cj1 h10)))))))))))))))))))))))))) (fun h10 =>
     Pn.ite (fun h11 =>
     Pn.some (LpO.out [.wait 3, .nm 8 (V.sc (.int .i64 (o.length : Int))), .bit true, .draw [], .el (E29 x1), .call [] (E9 r1) [], .bit false, .el (E29 x1), .bit false, .el (E29 x1), .bit false, .el (E29 x1), .bit false, .el (E29 x1), .bit false, .el (E29 x1), .call [] (E3 r2) [], .bit false, .el (E29 x1), .bit true, .wait 1, .mask [4], .ren []] (p := [V.sc (.int .i64 ((List.map E29 o).length : Int)) = V.sc (.int .i64 (o.length : Int)),
      (decide ((p1.length : Int) < (o.length : Int))) = true,
      (0 : Int) ≤ (p1.length : Int),
      (List.map E29 o)[(p1.length : Int).toNat]? = some (E29 x1),
      Fn Try.prog 153 [(false, E3 v1)] (E9 r1) [],
      (true || ((E9 r1).nv && nvL [])) = true,
      (!(x1.Id == r1)) = false,
      (0 : Int) ≤ (p1.length : Int),
      (List.map E29 o)[(p1.length : Int).toNat]? = some (E29 x1),
      (x1.Limit != (i64 (v1 + 1))) = false,
      (0 : Int) ≤ (p1.length : Int),
      (List.map E29 o)[(p1.length : Int).toNat]? = some (E29 x1),
      (x1.Posted != (i64 ((i64 (v1 + 1)) + 1))) = false,
      (0 : Int) ≤ (p1.length : Int),
      (List.map E29 o)[(p1.length : Int).toNat]? = some (E29 x1),
      (x1.Most != (i64 ((i64 ((i64 (v1 + 1)) + 1)) + 1))) = false,
      (0 : Int) ≤ (p1.length : Int),
      (List.map E29 o)[(p1.length : Int).toNat]? = some (E29 x1),
      (x1.MostSum != (i64 ((i64 ((i64 ((i64 (v1 + 1)) + 1)) + 1)) + 1))) = false,
      (0 : Int) ≤ (p1.length : Int),
      (List.map E29 o)[(p1.length : Int).toNat]? = some (E29 x1),
      Fn Try.prog 156 [(false, E23 x1.Holds), (false, E3 (i64 ((i64 ((i64 ((i64 ((i64 (v1 + 1)) + 1)) + 1)) + 1)) + 1)))] (E3 r2) [],
      (true || ((E3 r2).nv && nvL [])) = true,
      (decide (r2 < 0)) = false,
      (0 : Int) ≤ (p1.length : Int),
      (List.map E29 o)[(p1.length : Int).toNat]? = some (E29 x1),
      (x1.Ring.Span != r2) = true]) (by kernel_rfl) (show X.ret ≠ X.go from nofun) (cj (len_nm _ _) (cj (rng_lt h1) (cj (by omega) (cj (rng_get _ h1) (cj (laws_markText_ok v1 r1 h3) (cj rfl (cj (nf h4) (cj (by omega) (cj (rng_get _ h1) (cj h5 (cj (by omega) (cj (rng_get _ h1) (cj h6 (cj (by omega) (cj (rng_get _ h1) (cj h7 (cj (by omega) (cj (rng_get _ h1) (cj h8 (cj (by omega) (cj (rng_get _ h1) (cj (laws_heldHoldS_ok x1.Holds (i64 ((i64 ((i64 ((i64 ((i64 (v1 + 1)) + 1)) + 1)) + 1)) + 1)) r2 h9) (cj rfl (cj h10 (cj (by omega) (cj (rng_get _ h1) (cj1 h11))))))))))))))))))))))))))))) (fun h11 =>
     Pn.ite (fun h12 =>
     Pn.some (LpO.out [.wait 3, .nm 8 (V.sc (.int .i64 (o.length : Int))), .bit true, .draw [], .el (E29 x1), .call [] (E9 r1) [], .bit false, .el (E29 x1), .bit false, .el (E29 x1), .bit false, .el (E29 x1), .bit false, .el (E29 x1), .bit false, .el (E29 x1), .call [] (E3 r2) [], .bit false, .el (E29 x1), .bit false, .el (E29 x1), .bit true, .wait 1, .mask [4], .ren []] (p := [V.sc (.int .i64 ((List.map E29 o).length : Int)) = V.sc (.int .i64 (o.length : Int)),
      (decide ((p1.length : Int) < (o.length : Int))) = true,
      (0 : Int) ≤ (p1.length : Int),
      (List.map E29 o)[(p1.length : Int).toNat]? = some (E29 x1),
      Fn Try.prog 153 [(false, E3 v1)] (E9 r1) [],
      (true || ((E9 r1).nv && nvL [])) = true,
      (!(x1.Id == r1)) = false,
      (0 : Int) ≤ (p1.length : Int),
      (List.map E29 o)[(p1.length : Int).toNat]? = some (E29 x1),
      (x1.Limit != (i64 (v1 + 1))) = false,
      (0 : Int) ≤ (p1.length : Int),
      (List.map E29 o)[(p1.length : Int).toNat]? = some (E29 x1),
      (x1.Posted != (i64 ((i64 (v1 + 1)) + 1))) = false,
      (0 : Int) ≤ (p1.length : Int),
      (List.map E29 o)[(p1.length : Int).toNat]? = some (E29 x1),
      (x1.Most != (i64 ((i64 ((i64 (v1 + 1)) + 1)) + 1))) = false,
      (0 : Int) ≤ (p1.length : Int),
      (List.map E29 o)[(p1.length : Int).toNat]? = some (E29 x1),
      (x1.MostSum != (i64 ((i64 ((i64 ((i64 (v1 + 1)) + 1)) + 1)) + 1))) = false,
      (0 : Int) ≤ (p1.length : Int),
      (List.map E29 o)[(p1.length : Int).toNat]? = some (E29 x1),
      Fn Try.prog 156 [(false, E23 x1.Holds), (false, E3 (i64 ((i64 ((i64 ((i64 ((i64 (v1 + 1)) + 1)) + 1)) + 1)) + 1)))] (E3 r2) [],
      (true || ((E3 r2).nv && nvL [])) = true,
      (decide (r2 < 0)) = false,
      (0 : Int) ≤ (p1.length : Int),
      (List.map E29 o)[(p1.length : Int).toNat]? = some (E29 x1),
      (x1.Ring.Span != r2) = false,
      (0 : Int) ≤ (p1.length : Int),
      (List.map E29 o)[(p1.length : Int).toNat]? = some (E29 x1),
      (x1.Ring.Head != (i64 (r2 + 1))) = true]) (by kernel_rfl) (show X.ret ≠ X.go from nofun) (cj (len_nm _ _) (cj (rng_lt h1) (cj (by omega) (cj (rng_get _ h1) (cj (laws_markText_ok v1 r1 h3) (cj rfl (cj (nf h4) (cj (by omega) (cj (rng_get _ h1) (cj h5 (cj (by omega) (cj (rng_get _ h1) (cj h6 (cj (by omega) (cj (rng_get _ h1) (cj h7 (cj (by omega) (cj (rng_get _ h1) (cj h8 (cj (by omega) (cj (rng_get _ h1) (cj (laws_heldHoldS_ok x1.Holds (i64 ((i64 ((i64 ((i64 ((i64 (v1 + 1)) + 1)) + 1)) + 1)) + 1)) r2 h9) (cj rfl (cj h10 (cj (by omega) (cj (rng_get _ h1) (cj h11 (cj (by omega) (cj (rng_get _ h1) (cj1 h12)))))))))))))))))))))))))))))))) (fun h12 =>
     Pn.bind (fun r3 h13 =>
     Pn.ite (fun h14 =>
     Pn.some (LpO.out [.wait 3, .nm 8 (V.sc (.int .i64 (o.length : Int))), .bit true, .draw [], .el (E29 x1), .call [] (E9 r1) [], .bit false, .el (E29 x1), .bit false, .el (E29 x1), .bit false, .el (E29 x1), .bit false, .el (E29 x1), .bit false, .el (E29 x1), .call [] (E3 r2) [], .bit false, .el (E29 x1), .bit false, .el (E29 x1), .bit false, .el (E29 x1), .call [] (E3 r3) [], .bit true, .wait 1, .mask [4], .ren []] (p := [V.sc (.int .i64 ((List.map E29 o).length : Int)) = V.sc (.int .i64 (o.length : Int)),
      (decide ((p1.length : Int) < (o.length : Int))) = true,
      (0 : Int) ≤ (p1.length : Int),
      (List.map E29 o)[(p1.length : Int).toNat]? = some (E29 x1),
      Fn Try.prog 153 [(false, E3 v1)] (E9 r1) [],
      (true || ((E9 r1).nv && nvL [])) = true,
      (!(x1.Id == r1)) = false,
      (0 : Int) ≤ (p1.length : Int),
      (List.map E29 o)[(p1.length : Int).toNat]? = some (E29 x1),
      (x1.Limit != (i64 (v1 + 1))) = false,
      (0 : Int) ≤ (p1.length : Int),
      (List.map E29 o)[(p1.length : Int).toNat]? = some (E29 x1),
      (x1.Posted != (i64 ((i64 (v1 + 1)) + 1))) = false,
      (0 : Int) ≤ (p1.length : Int),
      (List.map E29 o)[(p1.length : Int).toNat]? = some (E29 x1),
      (x1.Most != (i64 ((i64 ((i64 (v1 + 1)) + 1)) + 1))) = false,
      (0 : Int) ≤ (p1.length : Int),
      (List.map E29 o)[(p1.length : Int).toNat]? = some (E29 x1),
      (x1.MostSum != (i64 ((i64 ((i64 ((i64 (v1 + 1)) + 1)) + 1)) + 1))) = false,
      (0 : Int) ≤ (p1.length : Int),
      (List.map E29 o)[(p1.length : Int).toNat]? = some (E29 x1),
      Fn Try.prog 156 [(false, E23 x1.Holds), (false, E3 (i64 ((i64 ((i64 ((i64 ((i64 (v1 + 1)) + 1)) + 1)) + 1)) + 1)))] (E3 r2) [],
      (true || ((E3 r2).nv && nvL [])) = true,
      (decide (r2 < 0)) = false,
      (0 : Int) ≤ (p1.length : Int),
      (List.map E29 o)[(p1.length : Int).toNat]? = some (E29 x1),
      (x1.Ring.Span != r2) = false,
      (0 : Int) ≤ (p1.length : Int),
      (List.map E29 o)[(p1.length : Int).toNat]? = some (E29 x1),
      (x1.Ring.Head != (i64 (r2 + 1))) = false,
      (0 : Int) ≤ (p1.length : Int),
      (List.map E29 o)[(p1.length : Int).toNat]? = some (E29 x1),
      Fn Try.prog 157 [(false, E24 x1.Ring.Counts), (false, E3 (i64 ((i64 (r2 + 1)) + 1)))] (E3 r3) [],
      (true || ((E3 r3).nv && nvL [])) = true,
      (decide (r3 < 0)) = true]) (by kernel_rfl) (show X.ret ≠ X.go from nofun) (cj (len_nm _ _) (cj (rng_lt h1) (cj (by omega) (cj (rng_get _ h1) (cj (laws_markText_ok v1 r1 h3) (cj rfl (cj (nf h4) (cj (by omega) (cj (rng_get _ h1) (cj h5 (cj (by omega) (cj (rng_get _ h1) (cj h6 (cj (by omega) (cj (rng_get _ h1) (cj h7 (cj (by omega) (cj (rng_get _ h1) (cj h8 (cj (by omega) (cj (rng_get _ h1) (cj (laws_heldHoldS_ok x1.Holds (i64 ((i64 ((i64 ((i64 ((i64 (v1 + 1)) + 1)) + 1)) + 1)) + 1)) r2 h9) (cj rfl (cj h10 (cj (by omega) (cj (rng_get _ h1) (cj h11 (cj (by omega) (cj (rng_get _ h1) (cj h12 (cj (by omega) (cj (rng_get _ h1) (cj (laws_heldIntS_ok x1.Ring.Counts (i64 ((i64 (r2 + 1)) + 1)) r3 h13) (cj rfl (cj1 h14))))))))))))))))))))))))))))))))))))) (fun h14 =>
     Pn.bind (fun r4 h15 =>
     Pn.ite (fun h16 =>
     Pn.some (LpO.out [.wait 3, .nm 8 (V.sc (.int .i64 (o.length : Int))), .bit true, .draw [], .el (E29 x1), .call [] (E9 r1) [], .bit false, .el (E29 x1), .bit false, .el (E29 x1), .bit false, .el (E29 x1), .bit false, .el (E29 x1), .bit false, .el (E29 x1), .call [] (E3 r2) [], .bit false, .el (E29 x1), .bit false, .el (E29 x1), .bit false, .el (E29 x1), .call [] (E3 r3) [], .bit false, .el (E29 x1), .call [] (E3 r4) [], .bit true, .wait 1, .mask [4], .ren []] (p := [V.sc (.int .i64 ((List.map E29 o).length : Int)) = V.sc (.int .i64 (o.length : Int)),
      (decide ((p1.length : Int) < (o.length : Int))) = true,
      (0 : Int) ≤ (p1.length : Int),
      (List.map E29 o)[(p1.length : Int).toNat]? = some (E29 x1),
      Fn Try.prog 153 [(false, E3 v1)] (E9 r1) [],
      (true || ((E9 r1).nv && nvL [])) = true,
      (!(x1.Id == r1)) = false,
      (0 : Int) ≤ (p1.length : Int),
      (List.map E29 o)[(p1.length : Int).toNat]? = some (E29 x1),
      (x1.Limit != (i64 (v1 + 1))) = false,
      (0 : Int) ≤ (p1.length : Int),
      (List.map E29 o)[(p1.length : Int).toNat]? = some (E29 x1),
      (x1.Posted != (i64 ((i64 (v1 + 1)) + 1))) = false,
      (0 : Int) ≤ (p1.length : Int),
      (List.map E29 o)[(p1.length : Int).toNat]? = some (E29 x1),
      (x1.Most != (i64 ((i64 ((i64 (v1 + 1)) + 1)) + 1))) = false,
      (0 : Int) ≤ (p1.length : Int),
      (List.map E29 o)[(p1.length : Int).toNat]? = some (E29 x1),
      (x1.MostSum != (i64 ((i64 ((i64 ((i64 (v1 + 1)) + 1)) + 1)) + 1))) = false,
      (0 : Int) ≤ (p1.length : Int),
      (List.map E29 o)[(p1.length : Int).toNat]? = some (E29 x1),
      Fn Try.prog 156 [(false, E23 x1.Holds), (false, E3 (i64 ((i64 ((i64 ((i64 ((i64 (v1 + 1)) + 1)) + 1)) + 1)) + 1)))] (E3 r2) [],
      (true || ((E3 r2).nv && nvL [])) = true,
      (decide (r2 < 0)) = false,
      (0 : Int) ≤ (p1.length : Int),
      (List.map E29 o)[(p1.length : Int).toNat]? = some (E29 x1),
      (x1.Ring.Span != r2) = false,
      (0 : Int) ≤ (p1.length : Int),
      (List.map E29 o)[(p1.length : Int).toNat]? = some (E29 x1),
      (x1.Ring.Head != (i64 (r2 + 1))) = false,
      (0 : Int) ≤ (p1.length : Int),
      (List.map E29 o)[(p1.length : Int).toNat]? = some (E29 x1),
      Fn Try.prog 157 [(false, E24 x1.Ring.Counts), (false, E3 (i64 ((i64 (r2 + 1)) + 1)))] (E3 r3) [],
      (true || ((E3 r3).nv && nvL [])) = true,
      (decide (r3 < 0)) = false,
      (0 : Int) ≤ (p1.length : Int),
      (List.map E29 o)[(p1.length : Int).toNat]? = some (E29 x1),
      Fn Try.prog 157 [(false, E24 x1.Ring.Sums), (false, E3 r3)] (E3 r4) [],
      (true || ((E3 r4).nv && nvL [])) = true,
      (decide (r4 < 0)) = true]) (by kernel_rfl) (show X.ret ≠ X.go from nofun) (cj (len_nm _ _) (cj (rng_lt h1) (cj (by omega) (cj (rng_get _ h1) (cj (laws_markText_ok v1 r1 h3) (cj rfl (cj (nf h4) (cj (by omega) (cj (rng_get _ h1) (cj h5 (cj (by omega) (cj (rng_get _ h1) (cj h6 (cj (by omega) (cj (rng_get _ h1) (cj h7 (cj (by omega) (cj (rng_get _ h1) (cj h8 (cj (by omega) (cj (rng_get _ h1) (cj (laws_heldHoldS_ok x1.Holds (i64 ((i64 ((i64 ((i64 ((i64 (v1 + 1)) + 1)) + 1)) + 1)) + 1)) r2 h9) (cj rfl (cj h10 (cj (by omega) (cj (rng_get _ h1) (cj h11 (cj (by omega) (cj (rng_get _ h1) (cj h12 (cj (by omega) (cj (rng_get _ h1) (cj (laws_heldIntS_ok x1.Ring.Counts (i64 ((i64 (r2 + 1)) + 1)) r3 h13) (cj rfl (cj h14 (cj (by omega) (cj (rng_get _ h1) (cj (laws_heldIntS_ok x1.Ring.Sums r3 r4 h15) (cj rfl (cj1 h16)))))))))))))))))))))))))))))))))))))))))) (fun h16 =>
     Pn.bind (fun r5 h17 =>
     Pn.ite (fun h18 =>
     Pn.some (LpO.out [.wait 3, .nm 8 (V.sc (.int .i64 (o.length : Int))), .bit true, .draw [], .el (E29 x1), .call [] (E9 r1) [], .bit false, .el (E29 x1), .bit false, .el (E29 x1), .bit false, .el (E29 x1), .bit false, .el (E29 x1), .bit false, .el (E29 x1), .call [] (E3 r2) [], .bit false, .el (E29 x1), .bit false, .el (E29 x1), .bit false, .el (E29 x1), .call [] (E3 r3) [], .bit false, .el (E29 x1), .call [] (E3 r4) [], .bit false, .el (E29 x1), .call [] (E3 r5) [], .bit true, .wait 1, .mask [4], .ren []] (p := [V.sc (.int .i64 ((List.map E29 o).length : Int)) = V.sc (.int .i64 (o.length : Int)),
      (decide ((p1.length : Int) < (o.length : Int))) = true,
      (0 : Int) ≤ (p1.length : Int),
      (List.map E29 o)[(p1.length : Int).toNat]? = some (E29 x1),
      Fn Try.prog 153 [(false, E3 v1)] (E9 r1) [],
      (true || ((E9 r1).nv && nvL [])) = true,
      (!(x1.Id == r1)) = false,
      (0 : Int) ≤ (p1.length : Int),
      (List.map E29 o)[(p1.length : Int).toNat]? = some (E29 x1),
      (x1.Limit != (i64 (v1 + 1))) = false,
      (0 : Int) ≤ (p1.length : Int),
      (List.map E29 o)[(p1.length : Int).toNat]? = some (E29 x1),
      (x1.Posted != (i64 ((i64 (v1 + 1)) + 1))) = false,
      (0 : Int) ≤ (p1.length : Int),
      (List.map E29 o)[(p1.length : Int).toNat]? = some (E29 x1),
      (x1.Most != (i64 ((i64 ((i64 (v1 + 1)) + 1)) + 1))) = false,
      (0 : Int) ≤ (p1.length : Int),
      (List.map E29 o)[(p1.length : Int).toNat]? = some (E29 x1),
      (x1.MostSum != (i64 ((i64 ((i64 ((i64 (v1 + 1)) + 1)) + 1)) + 1))) = false,
      (0 : Int) ≤ (p1.length : Int),
      (List.map E29 o)[(p1.length : Int).toNat]? = some (E29 x1),
      Fn Try.prog 156 [(false, E23 x1.Holds), (false, E3 (i64 ((i64 ((i64 ((i64 ((i64 (v1 + 1)) + 1)) + 1)) + 1)) + 1)))] (E3 r2) [],
      (true || ((E3 r2).nv && nvL [])) = true,
      (decide (r2 < 0)) = false,
      (0 : Int) ≤ (p1.length : Int),
      (List.map E29 o)[(p1.length : Int).toNat]? = some (E29 x1),
      (x1.Ring.Span != r2) = false,
      (0 : Int) ≤ (p1.length : Int),
      (List.map E29 o)[(p1.length : Int).toNat]? = some (E29 x1),
      (x1.Ring.Head != (i64 (r2 + 1))) = false,
      (0 : Int) ≤ (p1.length : Int),
      (List.map E29 o)[(p1.length : Int).toNat]? = some (E29 x1),
      Fn Try.prog 157 [(false, E24 x1.Ring.Counts), (false, E3 (i64 ((i64 (r2 + 1)) + 1)))] (E3 r3) [],
      (true || ((E3 r3).nv && nvL [])) = true,
      (decide (r3 < 0)) = false,
      (0 : Int) ≤ (p1.length : Int),
      (List.map E29 o)[(p1.length : Int).toNat]? = some (E29 x1),
      Fn Try.prog 157 [(false, E24 x1.Ring.Sums), (false, E3 r3)] (E3 r4) [],
      (true || ((E3 r4).nv && nvL [])) = true,
      (decide (r4 < 0)) = false,
      (0 : Int) ≤ (p1.length : Int),
      (List.map E29 o)[(p1.length : Int).toNat]? = some (E29 x1),
      Fn Try.prog 158 [(false, E27 x1.Slots), (false, E3 r4)] (E3 r5) [],
      (true || ((E3 r5).nv && nvL [])) = true,
      (decide (r5 < 0)) = true]) (by kernel_rfl) (show X.ret ≠ X.go from nofun) (cj (len_nm _ _) (cj (rng_lt h1) (cj (by omega) (cj (rng_get _ h1) (cj (laws_markText_ok v1 r1 h3) (cj rfl (cj (nf h4) (cj (by omega) (cj (rng_get _ h1) (cj h5 (cj (by omega) (cj (rng_get _ h1) (cj h6 (cj (by omega) (cj (rng_get _ h1) (cj h7 (cj (by omega) (cj (rng_get _ h1) (cj h8 (cj (by omega) (cj (rng_get _ h1) (cj (laws_heldHoldS_ok x1.Holds (i64 ((i64 ((i64 ((i64 ((i64 (v1 + 1)) + 1)) + 1)) + 1)) + 1)) r2 h9) (cj rfl (cj h10 (cj (by omega) (cj (rng_get _ h1) (cj h11 (cj (by omega) (cj (rng_get _ h1) (cj h12 (cj (by omega) (cj (rng_get _ h1) (cj (laws_heldIntS_ok x1.Ring.Counts (i64 ((i64 (r2 + 1)) + 1)) r3 h13) (cj rfl (cj h14 (cj (by omega) (cj (rng_get _ h1) (cj (laws_heldIntS_ok x1.Ring.Sums r3 r4 h15) (cj rfl (cj h16 (cj (by omega) (cj (rng_get _ h1) (cj (laws_heldSlotS_ok x1.Slots r4 r5 h17) (cj rfl (cj1 h18))))))))))))))))))))))))))))))))))))))))))))))) (fun h18 =>
     LpO.go [.wait 3, .nm 8 (V.sc (.int .i64 (o.length : Int))), .bit true, .draw [], .el (E29 x1), .call [] (E9 r1) [], .bit false, .el (E29 x1), .bit false, .el (E29 x1), .bit false, .el (E29 x1), .bit false, .el (E29 x1), .bit false, .el (E29 x1), .call [] (E3 r2) [], .bit false, .el (E29 x1), .bit false, .el (E29 x1), .bit false, .el (E29 x1), .call [] (E3 r3) [], .bit false, .el (E29 x1), .call [] (E3 r4) [], .bit false, .el (E29 x1), .call [] (E3 r5) [], .bit false, .wait 3, .mask [0, 1, 5], .ren [], .nm 5 (V.sc (.int .i64 ((p1 ++ [x1]).length : Int)))] (p := [V.sc (.int .i64 ((List.map E29 o).length : Int)) = V.sc (.int .i64 (o.length : Int)),
      (decide ((p1.length : Int) < (o.length : Int))) = true,
      (0 : Int) ≤ (p1.length : Int),
      (List.map E29 o)[(p1.length : Int).toNat]? = some (E29 x1),
      Fn Try.prog 153 [(false, E3 v1)] (E9 r1) [],
      (true || ((E9 r1).nv && nvL [])) = true,
      (!(x1.Id == r1)) = false,
      (0 : Int) ≤ (p1.length : Int),
      (List.map E29 o)[(p1.length : Int).toNat]? = some (E29 x1),
      (x1.Limit != (i64 (v1 + 1))) = false,
      (0 : Int) ≤ (p1.length : Int),
      (List.map E29 o)[(p1.length : Int).toNat]? = some (E29 x1),
      (x1.Posted != (i64 ((i64 (v1 + 1)) + 1))) = false,
      (0 : Int) ≤ (p1.length : Int),
      (List.map E29 o)[(p1.length : Int).toNat]? = some (E29 x1),
      (x1.Most != (i64 ((i64 ((i64 (v1 + 1)) + 1)) + 1))) = false,
      (0 : Int) ≤ (p1.length : Int),
      (List.map E29 o)[(p1.length : Int).toNat]? = some (E29 x1),
      (x1.MostSum != (i64 ((i64 ((i64 ((i64 (v1 + 1)) + 1)) + 1)) + 1))) = false,
      (0 : Int) ≤ (p1.length : Int),
      (List.map E29 o)[(p1.length : Int).toNat]? = some (E29 x1),
      Fn Try.prog 156 [(false, E23 x1.Holds), (false, E3 (i64 ((i64 ((i64 ((i64 ((i64 (v1 + 1)) + 1)) + 1)) + 1)) + 1)))] (E3 r2) [],
      (true || ((E3 r2).nv && nvL [])) = true,
      (decide (r2 < 0)) = false,
      (0 : Int) ≤ (p1.length : Int),
      (List.map E29 o)[(p1.length : Int).toNat]? = some (E29 x1),
      (x1.Ring.Span != r2) = false,
      (0 : Int) ≤ (p1.length : Int),
      (List.map E29 o)[(p1.length : Int).toNat]? = some (E29 x1),
      (x1.Ring.Head != (i64 (r2 + 1))) = false,
      (0 : Int) ≤ (p1.length : Int),
      (List.map E29 o)[(p1.length : Int).toNat]? = some (E29 x1),
      Fn Try.prog 157 [(false, E24 x1.Ring.Counts), (false, E3 (i64 ((i64 (r2 + 1)) + 1)))] (E3 r3) [],
      (true || ((E3 r3).nv && nvL [])) = true,
      (decide (r3 < 0)) = false,
      (0 : Int) ≤ (p1.length : Int),
      (List.map E29 o)[(p1.length : Int).toNat]? = some (E29 x1),
      Fn Try.prog 157 [(false, E24 x1.Ring.Sums), (false, E3 r3)] (E3 r4) [],
      (true || ((E3 r4).nv && nvL [])) = true,
      (decide (r4 < 0)) = false,
      (0 : Int) ≤ (p1.length : Int),
      (List.map E29 o)[(p1.length : Int).toNat]? = some (E29 x1),
      Fn Try.prog 158 [(false, E27 x1.Slots), (false, E3 r4)] (E3 r5) [],
      (true || ((E3 r5).nv && nvL [])) = true,
      (decide (r5 < 0)) = false,
      V.sc (.int .i64 (i64 ((p1.length : Int) + 1))) = V.sc (.int .i64 ((p1 ++ [x1]).length : Int))]) (by kernel_rfl) (cj (len_nm _ _) (cj (rng_lt h1) (cj (by omega) (cj (rng_get _ h1) (cj (laws_markText_ok v1 r1 h3) (cj rfl (cj (nf h4) (cj (by omega) (cj (rng_get _ h1) (cj h5 (cj (by omega) (cj (rng_get _ h1) (cj h6 (cj (by omega) (cj (rng_get _ h1) (cj h7 (cj (by omega) (cj (rng_get _ h1) (cj h8 (cj (by omega) (cj (rng_get _ h1) (cj (laws_heldHoldS_ok x1.Holds (i64 ((i64 ((i64 ((i64 ((i64 (v1 + 1)) + 1)) + 1)) + 1)) + 1)) r2 h9) (cj rfl (cj h10 (cj (by omega) (cj (rng_get _ h1) (cj h11 (cj (by omega) (cj (rng_get _ h1) (cj h12 (cj (by omega) (cj (rng_get _ h1) (cj (laws_heldIntS_ok x1.Ring.Counts (i64 ((i64 (r2 + 1)) + 1)) r3 h13) (cj rfl (cj h14 (cj (by omega) (cj (rng_get _ h1) (cj (laws_heldIntS_ok x1.Ring.Sums r3 r4 h15) (cj rfl (cj h16 (cj (by omega) (cj (rng_get _ h1) (cj (laws_heldSlotS_ok x1.Slots r4 r5 h17) (cj rfl (cj h18 (cj1 (rng_next h1 h2))))))))))))))))))))))))))))))))))))))))))))))) (laws_heldAcctS_l0_ok o h2 t1 (p1 ++ [x1]) (rng_step h1) r5)))))))))))))))) (fun h4 =>
     Pn.some (LpO.out [.wait 3, .nm 8 (V.sc (.int .i64 (o.length : Int))), .bit true, .draw [], .el (E29 x1), .call [] (E9 r1) [], .bit true, .wait 1, .mask [4], .ren []] (p := [V.sc (.int .i64 ((List.map E29 o).length : Int)) = V.sc (.int .i64 (o.length : Int)),
      (decide ((p1.length : Int) < (o.length : Int))) = true,
      (0 : Int) ≤ (p1.length : Int),
      (List.map E29 o)[(p1.length : Int).toNat]? = some (E29 x1),
      Fn Try.prog 153 [(false, E3 v1)] (E9 r1) [],
      (true || ((E9 r1).nv && nvL [])) = true,
      (!(x1.Id == r1)) = true]) (by kernel_rfl) (show X.ret ≠ X.go from nofun) (cj (len_nm _ _) (cj (rng_lt h1) (cj (by omega) (cj (rng_get _ h1) (cj (laws_markText_ok v1 r1 h3) (cj rfl (cj1 (nt h4)))))))))))
def laws_heldAcctS (o : List Acct) (o_ : Int) : Option (Int) :=
 if (capOk o.length) = true then
 (laws_heldAcctS_l0 o o o_).bind fun r6 =>
 Lo.elim r6 (fun s1 =>
 some s1) (fun s2 =>
 some (-1))
 else none
theorem laws_heldAcctS_ok (o : List Acct) (o_ : Int) : Pn (fun y => Fn Try.prog 96 [(false, E48 o), (false, E3 o_)] (E3 y) []) (laws_heldAcctS o o_) := by
  unfold laws_heldAcctS
  exact
   Pn.ite (fun h19 =>
   Pn.bind (fun r6 h20 =>
   Pn.lo (fun s1 h21 =>
   Pn.some (Fn.of [.wait 3, .mask [0, 1, 5], .ren [], .loop (X.out 0) (st 117 [(1, V.sc (.int .i64 s1))] [] [])] (p := [Loop Try.prog (sub (codeOf Try.prog 96) [1, 0, 1, 0, 0]) (st 117 [(0, V.sl false 29 (List.map E29 o)), (1, V.sc (.int .i64 o_)), (5, V.sc (.int .i64 0))] [] []) (X.out 0) (st 117 [(1, V.sc (.int .i64 s1))] [] [])]) (by kernel_rfl) (cj1 ((laws_heldAcctS_l0_ok o h19 o [] rfl o_ r6 h20).at h21)))) (fun s2 h22 =>
   Pn.some (Fn.of [.wait 3, .mask [0, 1, 5], .ren [], .loop (X.ret) (st 117 [(4, V.sc (.int .i64 (-1)))] [] [])] (p := [Loop Try.prog (sub (codeOf Try.prog 96) [1, 0, 1, 0, 0]) (st 117 [(0, V.sl false 29 (List.map E29 o)), (1, V.sc (.int .i64 o_)), (5, V.sc (.int .i64 0))] [] []) (X.ret) (st 117 [(4, V.sc (.int .i64 (-1)))] [] [])]) (by kernel_rfl) (cj1 ((laws_heldAcctS_l0_ok o h19 o [] rfl o_ r6 h20).at h22)))))) (fun h19 =>
   Pn.none)
def laws_heldBook (a : Book) (k : Int) : Option (Int) :=
 (laws_heldAcctS a.Accts k).bind fun r1 =>
 if (decide (r1 < 0)) = true then
 some (-1)
 else
 some r1
theorem laws_heldBook_ok (a : Book) (k : Int) : Pn (fun y => Fn Try.prog 37 [(false, E50 a), (false, E3 k)] (E3 y) []) (laws_heldBook a k) := by
  unfold laws_heldBook
  exact
   Pn.bind (fun r1 h1 =>
   Pn.ite (fun h2 =>
   Pn.some (Fn.of [.call [] (E3 r1) [], .bit true] (p := [Fn Try.prog 96 [(false, E48 a.Accts), (false, E3 k)] (E3 r1) [],
    (true || ((E3 r1).nv && nvL [])) = true,
    (decide (r1 < 0)) = true]) (by kernel_rfl) (cj (laws_heldAcctS_ok a.Accts k r1 h1) (cj rfl (cj1 h2))))) (fun h2 =>
   Pn.some (Fn.of [.call [] (E3 r1) [], .bit false] (p := [Fn Try.prog 96 [(false, E48 a.Accts), (false, E3 k)] (E3 r1) [],
    (true || ((E3 r1).nv && nvL [])) = true,
    (decide (r1 < 0)) = false]) (by kernel_rfl) (cj (laws_heldAcctS_ok a.Accts k r1 h1) (cj rfl (cj1 h2))))))
def laws_FnExactPart (o : List Stripe) (o_ : List Int) : Option (Bool) :=
 if (decide (1048576 < (o_.length : Int))) = true then
 some true
 else
 (laws_szStripeS o 1048576).bind fun r1 =>
 if (decide (r1 < 0)) = true then
 some true
 else
 (laws_toStripeS o).bind fun r2 =>
 (laws_toIntS o_).bind fun r3 =>
 (spec_Part r2 r3).bind fun r4 =>
 (laws_toStripeS o).bind fun r5 =>
 (laws_toIntS o_).bind fun r6 =>
 (impl_Part r5 r6).bind fun r7 =>
 (laws_eqBook r7 r4).bind fun r8 =>
 if r8 = true then
 (laws_toStripeS o).bind fun r9 =>
 (laws_eqStripeS r5 r9).bind fun r10 =>
 if r10 = true then
 (laws_toIntS o_).bind fun r11 =>
 (laws_eqIntS r6 r11).bind fun r12 =>
 if r12 = true then
 (laws_markStripeS r5 1).bind fun r13 =>
 (laws_markIntS r6 r13.1).bind fun r14 =>
 if (decide (r14.1 < 0)) = true then
 some false
 else
 (laws_eqBook r7 r4).bind fun r15 =>
 if r15 = true then
 (laws_markBook r7 1).bind fun r16 =>
 (laws_heldBook (Book.mk r16.2) 1).bind fun r17 =>
 if (decide (r17 < 0)) = true then
 some false
 else
 if (r17 != r16.1) = true then
 some false
 else
 (laws_toStripeS o).bind fun r18 =>
 (laws_toIntS o_).bind fun r19 =>
 (impl_Part r18 r19).bind fun r20 =>
 (laws_eqBook r20 r4).bind fun r21 =>
 if r21 = true then
 (laws_heldBook (Book.mk r16.2) 1).bind fun r22 =>
 if (decide (r22 < 0)) = true then
 some false
 else
 if (r22 != r16.1) = true then
 some false
 else
 some true
 else
 some false
 else
 some false
 else
 some false
 else
 some false
 else
 some false
theorem laws_FnExactPart_ok (o : List Stripe) (o_ : List Int) : Pn (fun y => Fn Try.prog 7 [(false, E61 o), (false, E24 o_)] (E4 y) []) (laws_FnExactPart o o_) := by
  unfold laws_FnExactPart
  exact
   Pn.ite (fun h1 =>
   Pn.some (Fn.of [.wait 3, .nm 15 (V.sc (.int .i64 (o_.length : Int))), .bit true] (p := [V.sc (.int .i64 ((List.map E3 o_).length : Int)) = V.sc (.int .i64 (o_.length : Int)),
    (decide (1048576 < (o_.length : Int))) = true]) (by kernel_rfl) (cj (len_nm _ _) (cj1 h1)))) (fun h1 =>
   Pn.bind (fun r1 h2 =>
   Pn.ite (fun h3 =>
   Pn.some (Fn.of [.wait 3, .nm 15 (V.sc (.int .i64 (o_.length : Int))), .bit false, .call [] (E3 r1) [], .bit true] (p := [V.sc (.int .i64 ((List.map E3 o_).length : Int)) = V.sc (.int .i64 (o_.length : Int)),
    (decide (1048576 < (o_.length : Int))) = false,
    Fn Try.prog 30 [(false, E61 o), (false, E3 1048576)] (E3 r1) [],
    (true || ((E3 r1).nv && nvL [])) = true,
    (decide (r1 < 0)) = true]) (by kernel_rfl) (cj (len_nm _ _) (cj h1 (cj (laws_szStripeS_ok o 1048576 r1 h2) (cj rfl (cj1 h3))))))) (fun h3 =>
   Pn.bind (fun r2 h4 =>
   Pn.bind (fun r3 h5 =>
   Pn.bind (fun r4 h6 =>
   Pn.bind (fun r5 h7 =>
   Pn.bind (fun r6 h8 =>
   Pn.bind (fun r7 h9 =>
   Pn.bind (fun r8 h10 =>
   Pn.ite (fun h11 =>
   Pn.bind (fun r9 h12 =>
   Pn.bind (fun r10 h13 =>
   Pn.ite (fun h14 =>
   Pn.bind (fun r11 h15 =>
   Pn.bind (fun r12 h16 =>
   Pn.ite (fun h17 =>
   Pn.bind (fun r13 h18 =>
   Pn.bind (fun r14 h19 =>
   Pn.ite (fun h20 =>
   Pn.some (Fn.of [.wait 3, .nm 15 (V.sc (.int .i64 (o_.length : Int))), .bit false, .call [] (E3 r1) [], .bit false, .call [] (E53 r2) [], .call [] (E24 r3) [], .call [] (E50 r4) [], .call [] (E53 r5) [], .call [] (E24 r6) [], .call [] (E50 r7) [], .call [] (E4 r8) [], .bit false, .call [] (E53 r9) [], .call [] (E4 r10) [], .bit false, .call [] (E24 r11) [], .call [] (E4 r12) [], .bit false, .call [true, false] (E3 r13.1) [V.sl true 58 (List.map E58 r13.2)], .call [true, false] (E3 r14.1) [V.sl true 3 (List.map E3 r14.2)], .bit true, .bit true, .bit true, .bit true, .bit true, .bit true] (p := [V.sc (.int .i64 ((List.map E3 o_).length : Int)) = V.sc (.int .i64 (o_.length : Int)),
    (decide (1048576 < (o_.length : Int))) = false,
    Fn Try.prog 30 [(false, E61 o), (false, E3 1048576)] (E3 r1) [],
    (true || ((E3 r1).nv && nvL [])) = true,
    (decide (r1 < 0)) = false,
    Fn Try.prog 32 [(false, E61 o)] (E53 r2) [],
    (true || ((E53 r2).nv && nvL [])) = true,
    Fn Try.prog 39 [(false, E24 o_)] (E24 r3) [],
    (true || ((E24 r3).nv && nvL [])) = true,
    Fn Try.prog 38 [(false, E53 r2), (false, E24 r3)] (E50 r4) [],
    (false || ((E50 r4).nv && nvL [])) = true,
    Fn Try.prog 32 [(false, E61 o)] (E53 r5) [],
    (true || ((E53 r5).nv && nvL [])) = true,
    Fn Try.prog 39 [(false, E24 o_)] (E24 r6) [],
    (true || ((E24 r6).nv && nvL [])) = true,
    Fn Try.prog 40 [(false, E53 r5), (false, E24 r6)] (E50 r7) [],
    (false || ((E50 r7).nv && nvL [])) = true,
    Fn Try.prog 33 [(false, E50 r7), (false, E50 r4)] (E4 r8) [],
    (false || ((E4 r8).nv && nvL [])) = true,
    (!r8) = false,
    Fn Try.prog 32 [(false, E61 o)] (E53 r9) [],
    (true || ((E53 r9).nv && nvL [])) = true,
    Fn Try.prog 34 [(false, E53 r5), (false, E53 r9)] (E4 r10) [],
    (false || ((E4 r10).nv && nvL [])) = true,
    (!r10) = false,
    Fn Try.prog 39 [(false, E24 o_)] (E24 r11) [],
    (true || ((E24 r11).nv && nvL [])) = true,
    Fn Try.prog 41 [(false, E24 r6), (false, E24 r11)] (E4 r12) [],
    (false || ((E4 r12).nv && nvL [])) = true,
    (!r12) = false,
    Fn Try.prog 35 [(true, E53 r5), (false, E3 1)] (E3 r13.1) [V.sl true 58 (List.map E58 r13.2)],
    (true || ((E3 r13.1).nv && nvL [V.sl true 58 (List.map E58 r13.2)])) = true,
    Fn Try.prog 42 [(true, E24 r6), (false, E3 r13.1)] (E3 r14.1) [V.sl true 3 (List.map E3 r14.2)],
    (true || ((E3 r14.1).nv && nvL [V.sl true 3 (List.map E3 r14.2)])) = true,
    (decide (r14.1 < 0)) = true,
    (decide (r14.1 < 0)) = true,
    (decide (r14.1 < 0)) = true,
    (decide (r14.1 < 0)) = true,
    (decide (r14.1 < 0)) = true,
    true = true]) (by kernel_rfl) (cj (len_nm _ _) (cj h1 (cj (laws_szStripeS_ok o 1048576 r1 h2) (cj rfl (cj h3 (cj (laws_toStripeS_ok o r2 h4) (cj rfl (cj (laws_toIntS_ok o_ r3 h5) (cj rfl (cj (spec_Part_ok r2 r3 r4 h6) (cj (by simp [V.nv, nvL, nvL_all, nv_E3, nv_E5, nv_E9, nv_E22, nv_E23, nv_E24, nv_E26, nv_E27, nv_E29, nv_E36, nv_E48, nv_E50, nv_E164]) (cj (laws_toStripeS_ok o r5 h7) (cj rfl (cj (laws_toIntS_ok o_ r6 h8) (cj rfl (cj (impl_Part_ok r5 r6 r7 h9) (cj (by simp [V.nv, nvL, nvL_all, nv_E3, nv_E5, nv_E9, nv_E22, nv_E23, nv_E24, nv_E26, nv_E27, nv_E29, nv_E36, nv_E48, nv_E50, nv_E164]) (cj (laws_eqBook_ok r7 r4 r8 h10) (cj (by simp [V.nv, nvL, nvL_all, nv_E4]) (cj (nf h11) (cj (laws_toStripeS_ok o r9 h12) (cj rfl (cj (laws_eqStripeS_ok r5 r9 r10 h13) (cj (by simp [V.nv, nvL, nvL_all, nv_E4]) (cj (nf h14) (cj (laws_toIntS_ok o_ r11 h15) (cj rfl (cj (laws_eqIntS_ok r6 r11 r12 h16) (cj (by simp [V.nv, nvL, nvL_all, nv_E4]) (cj (nf h17) (cj (laws_markStripeS_ok r5 1 r13 h18) (cj rfl (cj (laws_markIntS_ok r6 r13.1 r14 h19) (cj rfl (cj h20 (cj h20 (cj h20 (cj h20 (cj h20 (cj1 rfl)))))))))))))))))))))))))))))))))))))))))) (fun h20 =>
   Pn.bind (fun r15 h21 =>
   Pn.ite (fun h22 =>
   Pn.bind (fun r16 h23 =>
   Pn.bind (fun r17 h24 =>
   Pn.ite (fun h25 =>
   Pn.some (Fn.of [.wait 3, .nm 15 (V.sc (.int .i64 (o_.length : Int))), .bit false, .call [] (E3 r1) [], .bit false, .call [] (E53 r2) [], .call [] (E24 r3) [], .call [] (E50 r4) [], .call [] (E53 r5) [], .call [] (E24 r6) [], .call [] (E50 r7) [], .call [] (E4 r8) [], .bit false, .call [] (E53 r9) [], .call [] (E4 r10) [], .bit false, .call [] (E24 r11) [], .call [] (E4 r12) [], .bit false, .call [true, false] (E3 r13.1) [V.sl true 58 (List.map E58 r13.2)], .call [true, false] (E3 r14.1) [V.sl true 3 (List.map E3 r14.2)], .bit false, .bit false, .bit false, .call [] (E4 r15) [], .bit false, .bit false, .bit false, .call [true, false] (E3 r16.1) [V.sl true 29 (List.map E29 r16.2)], .call [] (E3 r17) [], .bit true] (p := [V.sc (.int .i64 ((List.map E3 o_).length : Int)) = V.sc (.int .i64 (o_.length : Int)),
    (decide (1048576 < (o_.length : Int))) = false,
    Fn Try.prog 30 [(false, E61 o), (false, E3 1048576)] (E3 r1) [],
    (true || ((E3 r1).nv && nvL [])) = true,
    (decide (r1 < 0)) = false,
    Fn Try.prog 32 [(false, E61 o)] (E53 r2) [],
    (true || ((E53 r2).nv && nvL [])) = true,
    Fn Try.prog 39 [(false, E24 o_)] (E24 r3) [],
    (true || ((E24 r3).nv && nvL [])) = true,
    Fn Try.prog 38 [(false, E53 r2), (false, E24 r3)] (E50 r4) [],
    (false || ((E50 r4).nv && nvL [])) = true,
    Fn Try.prog 32 [(false, E61 o)] (E53 r5) [],
    (true || ((E53 r5).nv && nvL [])) = true,
    Fn Try.prog 39 [(false, E24 o_)] (E24 r6) [],
    (true || ((E24 r6).nv && nvL [])) = true,
    Fn Try.prog 40 [(false, E53 r5), (false, E24 r6)] (E50 r7) [],
    (false || ((E50 r7).nv && nvL [])) = true,
    Fn Try.prog 33 [(false, E50 r7), (false, E50 r4)] (E4 r8) [],
    (false || ((E4 r8).nv && nvL [])) = true,
    (!r8) = false,
    Fn Try.prog 32 [(false, E61 o)] (E53 r9) [],
    (true || ((E53 r9).nv && nvL [])) = true,
    Fn Try.prog 34 [(false, E53 r5), (false, E53 r9)] (E4 r10) [],
    (false || ((E4 r10).nv && nvL [])) = true,
    (!r10) = false,
    Fn Try.prog 39 [(false, E24 o_)] (E24 r11) [],
    (true || ((E24 r11).nv && nvL [])) = true,
    Fn Try.prog 41 [(false, E24 r6), (false, E24 r11)] (E4 r12) [],
    (false || ((E4 r12).nv && nvL [])) = true,
    (!r12) = false,
    Fn Try.prog 35 [(true, E53 r5), (false, E3 1)] (E3 r13.1) [V.sl true 58 (List.map E58 r13.2)],
    (true || ((E3 r13.1).nv && nvL [V.sl true 58 (List.map E58 r13.2)])) = true,
    Fn Try.prog 42 [(true, E24 r6), (false, E3 r13.1)] (E3 r14.1) [V.sl true 3 (List.map E3 r14.2)],
    (true || ((E3 r14.1).nv && nvL [V.sl true 3 (List.map E3 r14.2)])) = true,
    (decide (r14.1 < 0)) = false,
    (decide (r14.1 < 0)) = false,
    (decide (r14.1 < 0)) = false,
    Fn Try.prog 33 [(false, E50 r7), (false, E50 r4)] (E4 r15) [],
    (false || ((E4 r15).nv && nvL [])) = true,
    (decide (r14.1 < 0)) = false,
    (decide (r14.1 < 0)) = false,
    (!r15) = false,
    Fn Try.prog 36 [(true, E50 r7), (false, E3 1)] (E3 r16.1) [V.sl true 29 (List.map E29 r16.2)],
    (true || ((E3 r16.1).nv && nvL [V.sl true 29 (List.map E29 r16.2)])) = true,
    Fn Try.prog 37 [(false, E50 (Book.mk r16.2)), (false, E3 1)] (E3 r17) [],
    (false || ((E3 r17).nv && nvL [])) = true,
    (decide (r17 < 0)) = true]) (by kernel_rfl) (cj (len_nm _ _) (cj h1 (cj (laws_szStripeS_ok o 1048576 r1 h2) (cj rfl (cj h3 (cj (laws_toStripeS_ok o r2 h4) (cj rfl (cj (laws_toIntS_ok o_ r3 h5) (cj rfl (cj (spec_Part_ok r2 r3 r4 h6) (cj (by simp [V.nv, nvL, nvL_all, nv_E3, nv_E5, nv_E9, nv_E22, nv_E23, nv_E24, nv_E26, nv_E27, nv_E29, nv_E36, nv_E48, nv_E50, nv_E164]) (cj (laws_toStripeS_ok o r5 h7) (cj rfl (cj (laws_toIntS_ok o_ r6 h8) (cj rfl (cj (impl_Part_ok r5 r6 r7 h9) (cj (by simp [V.nv, nvL, nvL_all, nv_E3, nv_E5, nv_E9, nv_E22, nv_E23, nv_E24, nv_E26, nv_E27, nv_E29, nv_E36, nv_E48, nv_E50, nv_E164]) (cj (laws_eqBook_ok r7 r4 r8 h10) (cj (by simp [V.nv, nvL, nvL_all, nv_E4]) (cj (nf h11) (cj (laws_toStripeS_ok o r9 h12) (cj rfl (cj (laws_eqStripeS_ok r5 r9 r10 h13) (cj (by simp [V.nv, nvL, nvL_all, nv_E4]) (cj (nf h14) (cj (laws_toIntS_ok o_ r11 h15) (cj rfl (cj (laws_eqIntS_ok r6 r11 r12 h16) (cj (by simp [V.nv, nvL, nvL_all, nv_E4]) (cj (nf h17) (cj (laws_markStripeS_ok r5 1 r13 h18) (cj rfl (cj (laws_markIntS_ok r6 r13.1 r14 h19) (cj rfl (cj h20 (cj h20 (cj h20 (cj (laws_eqBook_ok r7 r4 r15 h21) (cj (by simp [V.nv, nvL, nvL_all, nv_E4]) (cj h20 (cj h20 (cj (nf h22) (cj (laws_markBook_ok r7 1 r16 h23) (cj rfl (cj (laws_heldBook_ok (Book.mk r16.2) 1 r17 h24) (cj (by simp [V.nv, nvL, nvL_all, nv_E3]) (cj1 h25))))))))))))))))))))))))))))))))))))))))))))))))) (fun h25 =>
   Pn.ite (fun h26 =>
   Pn.some (Fn.of [.wait 3, .nm 15 (V.sc (.int .i64 (o_.length : Int))), .bit false, .call [] (E3 r1) [], .bit false, .call [] (E53 r2) [], .call [] (E24 r3) [], .call [] (E50 r4) [], .call [] (E53 r5) [], .call [] (E24 r6) [], .call [] (E50 r7) [], .call [] (E4 r8) [], .bit false, .call [] (E53 r9) [], .call [] (E4 r10) [], .bit false, .call [] (E24 r11) [], .call [] (E4 r12) [], .bit false, .call [true, false] (E3 r13.1) [V.sl true 58 (List.map E58 r13.2)], .call [true, false] (E3 r14.1) [V.sl true 3 (List.map E3 r14.2)], .bit false, .bit false, .bit false, .call [] (E4 r15) [], .bit false, .bit false, .bit false, .call [true, false] (E3 r16.1) [V.sl true 29 (List.map E29 r16.2)], .call [] (E3 r17) [], .bit false, .bit true] (p := [V.sc (.int .i64 ((List.map E3 o_).length : Int)) = V.sc (.int .i64 (o_.length : Int)),
    (decide (1048576 < (o_.length : Int))) = false,
    Fn Try.prog 30 [(false, E61 o), (false, E3 1048576)] (E3 r1) [],
    (true || ((E3 r1).nv && nvL [])) = true,
    (decide (r1 < 0)) = false,
    Fn Try.prog 32 [(false, E61 o)] (E53 r2) [],
    (true || ((E53 r2).nv && nvL [])) = true,
    Fn Try.prog 39 [(false, E24 o_)] (E24 r3) [],
    (true || ((E24 r3).nv && nvL [])) = true,
    Fn Try.prog 38 [(false, E53 r2), (false, E24 r3)] (E50 r4) [],
    (false || ((E50 r4).nv && nvL [])) = true,
    Fn Try.prog 32 [(false, E61 o)] (E53 r5) [],
    (true || ((E53 r5).nv && nvL [])) = true,
    Fn Try.prog 39 [(false, E24 o_)] (E24 r6) [],
    (true || ((E24 r6).nv && nvL [])) = true,
    Fn Try.prog 40 [(false, E53 r5), (false, E24 r6)] (E50 r7) [],
    (false || ((E50 r7).nv && nvL [])) = true,
    Fn Try.prog 33 [(false, E50 r7), (false, E50 r4)] (E4 r8) [],
    (false || ((E4 r8).nv && nvL [])) = true,
    (!r8) = false,
    Fn Try.prog 32 [(false, E61 o)] (E53 r9) [],
    (true || ((E53 r9).nv && nvL [])) = true,
    Fn Try.prog 34 [(false, E53 r5), (false, E53 r9)] (E4 r10) [],
    (false || ((E4 r10).nv && nvL [])) = true,
    (!r10) = false,
    Fn Try.prog 39 [(false, E24 o_)] (E24 r11) [],
    (true || ((E24 r11).nv && nvL [])) = true,
    Fn Try.prog 41 [(false, E24 r6), (false, E24 r11)] (E4 r12) [],
    (false || ((E4 r12).nv && nvL [])) = true,
    (!r12) = false,
    Fn Try.prog 35 [(true, E53 r5), (false, E3 1)] (E3 r13.1) [V.sl true 58 (List.map E58 r13.2)],
    (true || ((E3 r13.1).nv && nvL [V.sl true 58 (List.map E58 r13.2)])) = true,
    Fn Try.prog 42 [(true, E24 r6), (false, E3 r13.1)] (E3 r14.1) [V.sl true 3 (List.map E3 r14.2)],
    (true || ((E3 r14.1).nv && nvL [V.sl true 3 (List.map E3 r14.2)])) = true,
    (decide (r14.1 < 0)) = false,
    (decide (r14.1 < 0)) = false,
    (decide (r14.1 < 0)) = false,
    Fn Try.prog 33 [(false, E50 r7), (false, E50 r4)] (E4 r15) [],
    (false || ((E4 r15).nv && nvL [])) = true,
    (decide (r14.1 < 0)) = false,
    (decide (r14.1 < 0)) = false,
    (!r15) = false,
    Fn Try.prog 36 [(true, E50 r7), (false, E3 1)] (E3 r16.1) [V.sl true 29 (List.map E29 r16.2)],
    (true || ((E3 r16.1).nv && nvL [V.sl true 29 (List.map E29 r16.2)])) = true,
    Fn Try.prog 37 [(false, E50 (Book.mk r16.2)), (false, E3 1)] (E3 r17) [],
    (false || ((E3 r17).nv && nvL [])) = true,
    (decide (r17 < 0)) = false,
    (r17 != r16.1) = true]) (by kernel_rfl) (cj (len_nm _ _) (cj h1 (cj (laws_szStripeS_ok o 1048576 r1 h2) (cj rfl (cj h3 (cj (laws_toStripeS_ok o r2 h4) (cj rfl (cj (laws_toIntS_ok o_ r3 h5) (cj rfl (cj (spec_Part_ok r2 r3 r4 h6) (cj (by simp [V.nv, nvL, nvL_all, nv_E3, nv_E5, nv_E9, nv_E22, nv_E23, nv_E24, nv_E26, nv_E27, nv_E29, nv_E36, nv_E48, nv_E50, nv_E164]) (cj (laws_toStripeS_ok o r5 h7) (cj rfl (cj (laws_toIntS_ok o_ r6 h8) (cj rfl (cj (impl_Part_ok r5 r6 r7 h9) (cj (by simp [V.nv, nvL, nvL_all, nv_E3, nv_E5, nv_E9, nv_E22, nv_E23, nv_E24, nv_E26, nv_E27, nv_E29, nv_E36, nv_E48, nv_E50, nv_E164]) (cj (laws_eqBook_ok r7 r4 r8 h10) (cj (by simp [V.nv, nvL, nvL_all, nv_E4]) (cj (nf h11) (cj (laws_toStripeS_ok o r9 h12) (cj rfl (cj (laws_eqStripeS_ok r5 r9 r10 h13) (cj (by simp [V.nv, nvL, nvL_all, nv_E4]) (cj (nf h14) (cj (laws_toIntS_ok o_ r11 h15) (cj rfl (cj (laws_eqIntS_ok r6 r11 r12 h16) (cj (by simp [V.nv, nvL, nvL_all, nv_E4]) (cj (nf h17) (cj (laws_markStripeS_ok r5 1 r13 h18) (cj rfl (cj (laws_markIntS_ok r6 r13.1 r14 h19) (cj rfl (cj h20 (cj h20 (cj h20 (cj (laws_eqBook_ok r7 r4 r15 h21) (cj (by simp [V.nv, nvL, nvL_all, nv_E4]) (cj h20 (cj h20 (cj (nf h22) (cj (laws_markBook_ok r7 1 r16 h23) (cj rfl (cj (laws_heldBook_ok (Book.mk r16.2) 1 r17 h24) (cj (by simp [V.nv, nvL, nvL_all, nv_E3]) (cj h25 (cj1 h26)))))))))))))))))))))))))))))))))))))))))))))))))) (fun h26 =>
   Pn.bind (fun r18 h27 =>
   Pn.bind (fun r19 h28 =>
   Pn.bind (fun r20 h29 =>
   Pn.bind (fun r21 h30 =>
   Pn.ite (fun h31 =>
   Pn.bind (fun r22 h32 =>
   Pn.ite (fun h33 =>
   Pn.some (Fn.of [.wait 3, .nm 15 (V.sc (.int .i64 (o_.length : Int))), .bit false, .call [] (E3 r1) [], .bit false, .call [] (E53 r2) [], .call [] (E24 r3) [], .call [] (E50 r4) [], .call [] (E53 r5) [], .call [] (E24 r6) [], .call [] (E50 r7) [], .call [] (E4 r8) [], .bit false, .call [] (E53 r9) [], .call [] (E4 r10) [], .bit false, .call [] (E24 r11) [], .call [] (E4 r12) [], .bit false, .call [true, false] (E3 r13.1) [V.sl true 58 (List.map E58 r13.2)], .call [true, false] (E3 r14.1) [V.sl true 3 (List.map E3 r14.2)], .bit false, .bit false, .bit false, .call [] (E4 r15) [], .bit false, .bit false, .bit false, .call [true, false] (E3 r16.1) [V.sl true 29 (List.map E29 r16.2)], .call [] (E3 r17) [], .bit false, .bit false, .call [] (E53 r18) [], .call [] (E24 r19) [], .call [] (E50 r20) [], .call [] (E4 r21) [], .bit false, .call [] (E3 r22) [], .bit true] (p := [V.sc (.int .i64 ((List.map E3 o_).length : Int)) = V.sc (.int .i64 (o_.length : Int)),
    (decide (1048576 < (o_.length : Int))) = false,
    Fn Try.prog 30 [(false, E61 o), (false, E3 1048576)] (E3 r1) [],
    (true || ((E3 r1).nv && nvL [])) = true,
    (decide (r1 < 0)) = false,
    Fn Try.prog 32 [(false, E61 o)] (E53 r2) [],
    (true || ((E53 r2).nv && nvL [])) = true,
    Fn Try.prog 39 [(false, E24 o_)] (E24 r3) [],
    (true || ((E24 r3).nv && nvL [])) = true,
    Fn Try.prog 38 [(false, E53 r2), (false, E24 r3)] (E50 r4) [],
    (false || ((E50 r4).nv && nvL [])) = true,
    Fn Try.prog 32 [(false, E61 o)] (E53 r5) [],
    (true || ((E53 r5).nv && nvL [])) = true,
    Fn Try.prog 39 [(false, E24 o_)] (E24 r6) [],
    (true || ((E24 r6).nv && nvL [])) = true,
    Fn Try.prog 40 [(false, E53 r5), (false, E24 r6)] (E50 r7) [],
    (false || ((E50 r7).nv && nvL [])) = true,
    Fn Try.prog 33 [(false, E50 r7), (false, E50 r4)] (E4 r8) [],
    (false || ((E4 r8).nv && nvL [])) = true,
    (!r8) = false,
    Fn Try.prog 32 [(false, E61 o)] (E53 r9) [],
    (true || ((E53 r9).nv && nvL [])) = true,
    Fn Try.prog 34 [(false, E53 r5), (false, E53 r9)] (E4 r10) [],
    (false || ((E4 r10).nv && nvL [])) = true,
    (!r10) = false,
    Fn Try.prog 39 [(false, E24 o_)] (E24 r11) [],
    (true || ((E24 r11).nv && nvL [])) = true,
    Fn Try.prog 41 [(false, E24 r6), (false, E24 r11)] (E4 r12) [],
    (false || ((E4 r12).nv && nvL [])) = true,
    (!r12) = false,
    Fn Try.prog 35 [(true, E53 r5), (false, E3 1)] (E3 r13.1) [V.sl true 58 (List.map E58 r13.2)],
    (true || ((E3 r13.1).nv && nvL [V.sl true 58 (List.map E58 r13.2)])) = true,
    Fn Try.prog 42 [(true, E24 r6), (false, E3 r13.1)] (E3 r14.1) [V.sl true 3 (List.map E3 r14.2)],
    (true || ((E3 r14.1).nv && nvL [V.sl true 3 (List.map E3 r14.2)])) = true,
    (decide (r14.1 < 0)) = false,
    (decide (r14.1 < 0)) = false,
    (decide (r14.1 < 0)) = false,
    Fn Try.prog 33 [(false, E50 r7), (false, E50 r4)] (E4 r15) [],
    (false || ((E4 r15).nv && nvL [])) = true,
    (decide (r14.1 < 0)) = false,
    (decide (r14.1 < 0)) = false,
    (!r15) = false,
    Fn Try.prog 36 [(true, E50 r7), (false, E3 1)] (E3 r16.1) [V.sl true 29 (List.map E29 r16.2)],
    (true || ((E3 r16.1).nv && nvL [V.sl true 29 (List.map E29 r16.2)])) = true,
    Fn Try.prog 37 [(false, E50 (Book.mk r16.2)), (false, E3 1)] (E3 r17) [],
    (false || ((E3 r17).nv && nvL [])) = true,
    (decide (r17 < 0)) = false,
    (r17 != r16.1) = false,
    Fn Try.prog 32 [(false, E61 o)] (E53 r18) [],
    (true || ((E53 r18).nv && nvL [])) = true,
    Fn Try.prog 39 [(false, E24 o_)] (E24 r19) [],
    (true || ((E24 r19).nv && nvL [])) = true,
    Fn Try.prog 40 [(false, E53 r18), (false, E24 r19)] (E50 r20) [],
    (false || ((E50 r20).nv && nvL [])) = true,
    Fn Try.prog 33 [(false, E50 r20), (false, E50 r4)] (E4 r21) [],
    (false || ((E4 r21).nv && nvL [])) = true,
    (!r21) = false,
    Fn Try.prog 37 [(false, E50 (Book.mk r16.2)), (false, E3 1)] (E3 r22) [],
    (false || ((E3 r22).nv && nvL [])) = true,
    (decide (r22 < 0)) = true]) (by kernel_rfl) (cj (len_nm _ _) (cj h1 (cj (laws_szStripeS_ok o 1048576 r1 h2) (cj rfl (cj h3 (cj (laws_toStripeS_ok o r2 h4) (cj rfl (cj (laws_toIntS_ok o_ r3 h5) (cj rfl (cj (spec_Part_ok r2 r3 r4 h6) (cj (by simp [V.nv, nvL, nvL_all, nv_E3, nv_E5, nv_E9, nv_E22, nv_E23, nv_E24, nv_E26, nv_E27, nv_E29, nv_E36, nv_E48, nv_E50, nv_E164]) (cj (laws_toStripeS_ok o r5 h7) (cj rfl (cj (laws_toIntS_ok o_ r6 h8) (cj rfl (cj (impl_Part_ok r5 r6 r7 h9) (cj (by simp [V.nv, nvL, nvL_all, nv_E3, nv_E5, nv_E9, nv_E22, nv_E23, nv_E24, nv_E26, nv_E27, nv_E29, nv_E36, nv_E48, nv_E50, nv_E164]) (cj (laws_eqBook_ok r7 r4 r8 h10) (cj (by simp [V.nv, nvL, nvL_all, nv_E4]) (cj (nf h11) (cj (laws_toStripeS_ok o r9 h12) (cj rfl (cj (laws_eqStripeS_ok r5 r9 r10 h13) (cj (by simp [V.nv, nvL, nvL_all, nv_E4]) (cj (nf h14) (cj (laws_toIntS_ok o_ r11 h15) (cj rfl (cj (laws_eqIntS_ok r6 r11 r12 h16) (cj (by simp [V.nv, nvL, nvL_all, nv_E4]) (cj (nf h17) (cj (laws_markStripeS_ok r5 1 r13 h18) (cj rfl (cj (laws_markIntS_ok r6 r13.1 r14 h19) (cj rfl (cj h20 (cj h20 (cj h20 (cj (laws_eqBook_ok r7 r4 r15 h21) (cj (by simp [V.nv, nvL, nvL_all, nv_E4]) (cj h20 (cj h20 (cj (nf h22) (cj (laws_markBook_ok r7 1 r16 h23) (cj rfl (cj (laws_heldBook_ok (Book.mk r16.2) 1 r17 h24) (cj (by simp [V.nv, nvL, nvL_all, nv_E3]) (cj h25 (cj h26 (cj (laws_toStripeS_ok o r18 h27) (cj rfl (cj (laws_toIntS_ok o_ r19 h28) (cj rfl (cj (impl_Part_ok r18 r19 r20 h29) (cj (by simp [V.nv, nvL, nvL_all, nv_E3, nv_E5, nv_E9, nv_E22, nv_E23, nv_E24, nv_E26, nv_E27, nv_E29, nv_E36, nv_E48, nv_E50, nv_E164]) (cj (laws_eqBook_ok r20 r4 r21 h30) (cj (by simp [V.nv, nvL, nvL_all, nv_E4]) (cj (nf h31) (cj (laws_heldBook_ok (Book.mk r16.2) 1 r22 h32) (cj (by simp [V.nv, nvL, nvL_all, nv_E3]) (cj1 h33)))))))))))))))))))))))))))))))))))))))))))))))))))))))))))))) (fun h33 =>
   Pn.ite (fun h34 =>
   Pn.some (Fn.of [.wait 3, .nm 15 (V.sc (.int .i64 (o_.length : Int))), .bit false, .call [] (E3 r1) [], .bit false, .call [] (E53 r2) [], .call [] (E24 r3) [], .call [] (E50 r4) [], .call [] (E53 r5) [], .call [] (E24 r6) [], .call [] (E50 r7) [], .call [] (E4 r8) [], .bit false, .call [] (E53 r9) [], .call [] (E4 r10) [], .bit false, .call [] (E24 r11) [], .call [] (E4 r12) [], .bit false, .call [true, false] (E3 r13.1) [V.sl true 58 (List.map E58 r13.2)], .call [true, false] (E3 r14.1) [V.sl true 3 (List.map E3 r14.2)], .bit false, .bit false, .bit false, .call [] (E4 r15) [], .bit false, .bit false, .bit false, .call [true, false] (E3 r16.1) [V.sl true 29 (List.map E29 r16.2)], .call [] (E3 r17) [], .bit false, .bit false, .call [] (E53 r18) [], .call [] (E24 r19) [], .call [] (E50 r20) [], .call [] (E4 r21) [], .bit false, .call [] (E3 r22) [], .bit false, .bit true] (p := [V.sc (.int .i64 ((List.map E3 o_).length : Int)) = V.sc (.int .i64 (o_.length : Int)),
    (decide (1048576 < (o_.length : Int))) = false,
    Fn Try.prog 30 [(false, E61 o), (false, E3 1048576)] (E3 r1) [],
    (true || ((E3 r1).nv && nvL [])) = true,
    (decide (r1 < 0)) = false,
    Fn Try.prog 32 [(false, E61 o)] (E53 r2) [],
    (true || ((E53 r2).nv && nvL [])) = true,
    Fn Try.prog 39 [(false, E24 o_)] (E24 r3) [],
    (true || ((E24 r3).nv && nvL [])) = true,
    Fn Try.prog 38 [(false, E53 r2), (false, E24 r3)] (E50 r4) [],
    (false || ((E50 r4).nv && nvL [])) = true,
    Fn Try.prog 32 [(false, E61 o)] (E53 r5) [],
    (true || ((E53 r5).nv && nvL [])) = true,
    Fn Try.prog 39 [(false, E24 o_)] (E24 r6) [],
    (true || ((E24 r6).nv && nvL [])) = true,
    Fn Try.prog 40 [(false, E53 r5), (false, E24 r6)] (E50 r7) [],
    (false || ((E50 r7).nv && nvL [])) = true,
    Fn Try.prog 33 [(false, E50 r7), (false, E50 r4)] (E4 r8) [],
    (false || ((E4 r8).nv && nvL [])) = true,
    (!r8) = false,
    Fn Try.prog 32 [(false, E61 o)] (E53 r9) [],
    (true || ((E53 r9).nv && nvL [])) = true,
    Fn Try.prog 34 [(false, E53 r5), (false, E53 r9)] (E4 r10) [],
    (false || ((E4 r10).nv && nvL [])) = true,
    (!r10) = false,
    Fn Try.prog 39 [(false, E24 o_)] (E24 r11) [],
    (true || ((E24 r11).nv && nvL [])) = true,
    Fn Try.prog 41 [(false, E24 r6), (false, E24 r11)] (E4 r12) [],
    (false || ((E4 r12).nv && nvL [])) = true,
    (!r12) = false,
    Fn Try.prog 35 [(true, E53 r5), (false, E3 1)] (E3 r13.1) [V.sl true 58 (List.map E58 r13.2)],
    (true || ((E3 r13.1).nv && nvL [V.sl true 58 (List.map E58 r13.2)])) = true,
    Fn Try.prog 42 [(true, E24 r6), (false, E3 r13.1)] (E3 r14.1) [V.sl true 3 (List.map E3 r14.2)],
    (true || ((E3 r14.1).nv && nvL [V.sl true 3 (List.map E3 r14.2)])) = true,
    (decide (r14.1 < 0)) = false,
    (decide (r14.1 < 0)) = false,
    (decide (r14.1 < 0)) = false,
    Fn Try.prog 33 [(false, E50 r7), (false, E50 r4)] (E4 r15) [],
    (false || ((E4 r15).nv && nvL [])) = true,
    (decide (r14.1 < 0)) = false,
    (decide (r14.1 < 0)) = false,
    (!r15) = false,
    Fn Try.prog 36 [(true, E50 r7), (false, E3 1)] (E3 r16.1) [V.sl true 29 (List.map E29 r16.2)],
    (true || ((E3 r16.1).nv && nvL [V.sl true 29 (List.map E29 r16.2)])) = true,
    Fn Try.prog 37 [(false, E50 (Book.mk r16.2)), (false, E3 1)] (E3 r17) [],
    (false || ((E3 r17).nv && nvL [])) = true,
    (decide (r17 < 0)) = false,
    (r17 != r16.1) = false,
    Fn Try.prog 32 [(false, E61 o)] (E53 r18) [],
    (true || ((E53 r18).nv && nvL [])) = true,
    Fn Try.prog 39 [(false, E24 o_)] (E24 r19) [],
    (true || ((E24 r19).nv && nvL [])) = true,
    Fn Try.prog 40 [(false, E53 r18), (false, E24 r19)] (E50 r20) [],
    (false || ((E50 r20).nv && nvL [])) = true,
    Fn Try.prog 33 [(false, E50 r20), (false, E50 r4)] (E4 r21) [],
    (false || ((E4 r21).nv && nvL [])) = true,
    (!r21) = false,
    Fn Try.prog 37 [(false, E50 (Book.mk r16.2)), (false, E3 1)] (E3 r22) [],
    (false || ((E3 r22).nv && nvL [])) = true,
    (decide (r22 < 0)) = false,
    (r22 != r16.1) = true]) (by kernel_rfl) (cj (len_nm _ _) (cj h1 (cj (laws_szStripeS_ok o 1048576 r1 h2) (cj rfl (cj h3 (cj (laws_toStripeS_ok o r2 h4) (cj rfl (cj (laws_toIntS_ok o_ r3 h5) (cj rfl (cj (spec_Part_ok r2 r3 r4 h6) (cj (by simp [V.nv, nvL, nvL_all, nv_E3, nv_E5, nv_E9, nv_E22, nv_E23, nv_E24, nv_E26, nv_E27, nv_E29, nv_E36, nv_E48, nv_E50, nv_E164]) (cj (laws_toStripeS_ok o r5 h7) (cj rfl (cj (laws_toIntS_ok o_ r6 h8) (cj rfl (cj (impl_Part_ok r5 r6 r7 h9) (cj (by simp [V.nv, nvL, nvL_all, nv_E3, nv_E5, nv_E9, nv_E22, nv_E23, nv_E24, nv_E26, nv_E27, nv_E29, nv_E36, nv_E48, nv_E50, nv_E164]) (cj (laws_eqBook_ok r7 r4 r8 h10) (cj (by simp [V.nv, nvL, nvL_all, nv_E4]) (cj (nf h11) (cj (laws_toStripeS_ok o r9 h12) (cj rfl (cj (laws_eqStripeS_ok r5 r9 r10 h13) (cj (by simp [V.nv, nvL, nvL_all, nv_E4]) (cj (nf h14) (cj (laws_toIntS_ok o_ r11 h15) (cj rfl (cj (laws_eqIntS_ok r6 r11 r12 h16) (cj (by simp [V.nv, nvL, nvL_all, nv_E4]) (cj (nf h17) (cj (laws_markStripeS_ok r5 1 r13 h18) (cj rfl (cj (laws_markIntS_ok r6 r13.1 r14 h19) (cj rfl (cj h20 (cj h20 (cj h20 (cj (laws_eqBook_ok r7 r4 r15 h21) (cj (by simp [V.nv, nvL, nvL_all, nv_E4]) (cj h20 (cj h20 (cj (nf h22) (cj (laws_markBook_ok r7 1 r16 h23) (cj rfl (cj (laws_heldBook_ok (Book.mk r16.2) 1 r17 h24) (cj (by simp [V.nv, nvL, nvL_all, nv_E3]) (cj h25 (cj h26 (cj (laws_toStripeS_ok o r18 h27) (cj rfl (cj (laws_toIntS_ok o_ r19 h28) (cj rfl (cj (impl_Part_ok r18 r19 r20 h29) (cj (by simp [V.nv, nvL, nvL_all, nv_E3, nv_E5, nv_E9, nv_E22, nv_E23, nv_E24, nv_E26, nv_E27, nv_E29, nv_E36, nv_E48, nv_E50, nv_E164]) (cj (laws_eqBook_ok r20 r4 r21 h30) (cj (by simp [V.nv, nvL, nvL_all, nv_E4]) (cj (nf h31) (cj (laws_heldBook_ok (Book.mk r16.2) 1 r22 h32) (cj (by simp [V.nv, nvL, nvL_all, nv_E3]) (cj h33 (cj1 h34))))))))))))))))))))))))))))))))))))))))))))))))))))))))))))))) (fun h34 =>
   Pn.some (Fn.of [.wait 3, .nm 15 (V.sc (.int .i64 (o_.length : Int))), .bit false, .call [] (E3 r1) [], .bit false, .call [] (E53 r2) [], .call [] (E24 r3) [], .call [] (E50 r4) [], .call [] (E53 r5) [], .call [] (E24 r6) [], .call [] (E50 r7) [], .call [] (E4 r8) [], .bit false, .call [] (E53 r9) [], .call [] (E4 r10) [], .bit false, .call [] (E24 r11) [], .call [] (E4 r12) [], .bit false, .call [true, false] (E3 r13.1) [V.sl true 58 (List.map E58 r13.2)], .call [true, false] (E3 r14.1) [V.sl true 3 (List.map E3 r14.2)], .bit false, .bit false, .bit false, .call [] (E4 r15) [], .bit false, .bit false, .bit false, .call [true, false] (E3 r16.1) [V.sl true 29 (List.map E29 r16.2)], .call [] (E3 r17) [], .bit false, .bit false, .call [] (E53 r18) [], .call [] (E24 r19) [], .call [] (E50 r20) [], .call [] (E4 r21) [], .bit false, .call [] (E3 r22) [], .bit false, .bit false] (p := [V.sc (.int .i64 ((List.map E3 o_).length : Int)) = V.sc (.int .i64 (o_.length : Int)),
    (decide (1048576 < (o_.length : Int))) = false,
    Fn Try.prog 30 [(false, E61 o), (false, E3 1048576)] (E3 r1) [],
    (true || ((E3 r1).nv && nvL [])) = true,
    (decide (r1 < 0)) = false,
    Fn Try.prog 32 [(false, E61 o)] (E53 r2) [],
    (true || ((E53 r2).nv && nvL [])) = true,
    Fn Try.prog 39 [(false, E24 o_)] (E24 r3) [],
    (true || ((E24 r3).nv && nvL [])) = true,
    Fn Try.prog 38 [(false, E53 r2), (false, E24 r3)] (E50 r4) [],
    (false || ((E50 r4).nv && nvL [])) = true,
    Fn Try.prog 32 [(false, E61 o)] (E53 r5) [],
    (true || ((E53 r5).nv && nvL [])) = true,
    Fn Try.prog 39 [(false, E24 o_)] (E24 r6) [],
    (true || ((E24 r6).nv && nvL [])) = true,
    Fn Try.prog 40 [(false, E53 r5), (false, E24 r6)] (E50 r7) [],
    (false || ((E50 r7).nv && nvL [])) = true,
    Fn Try.prog 33 [(false, E50 r7), (false, E50 r4)] (E4 r8) [],
    (false || ((E4 r8).nv && nvL [])) = true,
    (!r8) = false,
    Fn Try.prog 32 [(false, E61 o)] (E53 r9) [],
    (true || ((E53 r9).nv && nvL [])) = true,
    Fn Try.prog 34 [(false, E53 r5), (false, E53 r9)] (E4 r10) [],
    (false || ((E4 r10).nv && nvL [])) = true,
    (!r10) = false,
    Fn Try.prog 39 [(false, E24 o_)] (E24 r11) [],
    (true || ((E24 r11).nv && nvL [])) = true,
    Fn Try.prog 41 [(false, E24 r6), (false, E24 r11)] (E4 r12) [],
    (false || ((E4 r12).nv && nvL [])) = true,
    (!r12) = false,
    Fn Try.prog 35 [(true, E53 r5), (false, E3 1)] (E3 r13.1) [V.sl true 58 (List.map E58 r13.2)],
    (true || ((E3 r13.1).nv && nvL [V.sl true 58 (List.map E58 r13.2)])) = true,
    Fn Try.prog 42 [(true, E24 r6), (false, E3 r13.1)] (E3 r14.1) [V.sl true 3 (List.map E3 r14.2)],
    (true || ((E3 r14.1).nv && nvL [V.sl true 3 (List.map E3 r14.2)])) = true,
    (decide (r14.1 < 0)) = false,
    (decide (r14.1 < 0)) = false,
    (decide (r14.1 < 0)) = false,
    Fn Try.prog 33 [(false, E50 r7), (false, E50 r4)] (E4 r15) [],
    (false || ((E4 r15).nv && nvL [])) = true,
    (decide (r14.1 < 0)) = false,
    (decide (r14.1 < 0)) = false,
    (!r15) = false,
    Fn Try.prog 36 [(true, E50 r7), (false, E3 1)] (E3 r16.1) [V.sl true 29 (List.map E29 r16.2)],
    (true || ((E3 r16.1).nv && nvL [V.sl true 29 (List.map E29 r16.2)])) = true,
    Fn Try.prog 37 [(false, E50 (Book.mk r16.2)), (false, E3 1)] (E3 r17) [],
    (false || ((E3 r17).nv && nvL [])) = true,
    (decide (r17 < 0)) = false,
    (r17 != r16.1) = false,
    Fn Try.prog 32 [(false, E61 o)] (E53 r18) [],
    (true || ((E53 r18).nv && nvL [])) = true,
    Fn Try.prog 39 [(false, E24 o_)] (E24 r19) [],
    (true || ((E24 r19).nv && nvL [])) = true,
    Fn Try.prog 40 [(false, E53 r18), (false, E24 r19)] (E50 r20) [],
    (false || ((E50 r20).nv && nvL [])) = true,
    Fn Try.prog 33 [(false, E50 r20), (false, E50 r4)] (E4 r21) [],
    (false || ((E4 r21).nv && nvL [])) = true,
    (!r21) = false,
    Fn Try.prog 37 [(false, E50 (Book.mk r16.2)), (false, E3 1)] (E3 r22) [],
    (false || ((E3 r22).nv && nvL [])) = true,
    (decide (r22 < 0)) = false,
    (r22 != r16.1) = false]) (by kernel_rfl) (cj (len_nm _ _) (cj h1 (cj (laws_szStripeS_ok o 1048576 r1 h2) (cj rfl (cj h3 (cj (laws_toStripeS_ok o r2 h4) (cj rfl (cj (laws_toIntS_ok o_ r3 h5) (cj rfl (cj (spec_Part_ok r2 r3 r4 h6) (cj (by simp [V.nv, nvL, nvL_all, nv_E3, nv_E5, nv_E9, nv_E22, nv_E23, nv_E24, nv_E26, nv_E27, nv_E29, nv_E36, nv_E48, nv_E50, nv_E164]) (cj (laws_toStripeS_ok o r5 h7) (cj rfl (cj (laws_toIntS_ok o_ r6 h8) (cj rfl (cj (impl_Part_ok r5 r6 r7 h9) (cj (by simp [V.nv, nvL, nvL_all, nv_E3, nv_E5, nv_E9, nv_E22, nv_E23, nv_E24, nv_E26, nv_E27, nv_E29, nv_E36, nv_E48, nv_E50, nv_E164]) (cj (laws_eqBook_ok r7 r4 r8 h10) (cj (by simp [V.nv, nvL, nvL_all, nv_E4]) (cj (nf h11) (cj (laws_toStripeS_ok o r9 h12) (cj rfl (cj (laws_eqStripeS_ok r5 r9 r10 h13) (cj (by simp [V.nv, nvL, nvL_all, nv_E4]) (cj (nf h14) (cj (laws_toIntS_ok o_ r11 h15) (cj rfl (cj (laws_eqIntS_ok r6 r11 r12 h16) (cj (by simp [V.nv, nvL, nvL_all, nv_E4]) (cj (nf h17) (cj (laws_markStripeS_ok r5 1 r13 h18) (cj rfl (cj (laws_markIntS_ok r6 r13.1 r14 h19) (cj rfl (cj h20 (cj h20 (cj h20 (cj (laws_eqBook_ok r7 r4 r15 h21) (cj (by simp [V.nv, nvL, nvL_all, nv_E4]) (cj h20 (cj h20 (cj (nf h22) (cj (laws_markBook_ok r7 1 r16 h23) (cj rfl (cj (laws_heldBook_ok (Book.mk r16.2) 1 r17 h24) (cj (by simp [V.nv, nvL, nvL_all, nv_E3]) (cj h25 (cj h26 (cj (laws_toStripeS_ok o r18 h27) (cj rfl (cj (laws_toIntS_ok o_ r19 h28) (cj rfl (cj (impl_Part_ok r18 r19 r20 h29) (cj (by simp [V.nv, nvL, nvL_all, nv_E3, nv_E5, nv_E9, nv_E22, nv_E23, nv_E24, nv_E26, nv_E27, nv_E29, nv_E36, nv_E48, nv_E50, nv_E164]) (cj (laws_eqBook_ok r20 r4 r21 h30) (cj (by simp [V.nv, nvL, nvL_all, nv_E4]) (cj (nf h31) (cj (laws_heldBook_ok (Book.mk r16.2) 1 r22 h32) (cj (by simp [V.nv, nvL, nvL_all, nv_E3]) (cj h33 (cj1 h34)))))))))))))))))))))))))))))))))))))))))))))))))))))))))))))))))) (fun h31 =>
   Pn.some (Fn.of [.wait 3, .nm 15 (V.sc (.int .i64 (o_.length : Int))), .bit false, .call [] (E3 r1) [], .bit false, .call [] (E53 r2) [], .call [] (E24 r3) [], .call [] (E50 r4) [], .call [] (E53 r5) [], .call [] (E24 r6) [], .call [] (E50 r7) [], .call [] (E4 r8) [], .bit false, .call [] (E53 r9) [], .call [] (E4 r10) [], .bit false, .call [] (E24 r11) [], .call [] (E4 r12) [], .bit false, .call [true, false] (E3 r13.1) [V.sl true 58 (List.map E58 r13.2)], .call [true, false] (E3 r14.1) [V.sl true 3 (List.map E3 r14.2)], .bit false, .bit false, .bit false, .call [] (E4 r15) [], .bit false, .bit false, .bit false, .call [true, false] (E3 r16.1) [V.sl true 29 (List.map E29 r16.2)], .call [] (E3 r17) [], .bit false, .bit false, .call [] (E53 r18) [], .call [] (E24 r19) [], .call [] (E50 r20) [], .call [] (E4 r21) [], .bit true] (p := [V.sc (.int .i64 ((List.map E3 o_).length : Int)) = V.sc (.int .i64 (o_.length : Int)),
    (decide (1048576 < (o_.length : Int))) = false,
    Fn Try.prog 30 [(false, E61 o), (false, E3 1048576)] (E3 r1) [],
    (true || ((E3 r1).nv && nvL [])) = true,
    (decide (r1 < 0)) = false,
    Fn Try.prog 32 [(false, E61 o)] (E53 r2) [],
    (true || ((E53 r2).nv && nvL [])) = true,
    Fn Try.prog 39 [(false, E24 o_)] (E24 r3) [],
    (true || ((E24 r3).nv && nvL [])) = true,
    Fn Try.prog 38 [(false, E53 r2), (false, E24 r3)] (E50 r4) [],
    (false || ((E50 r4).nv && nvL [])) = true,
    Fn Try.prog 32 [(false, E61 o)] (E53 r5) [],
    (true || ((E53 r5).nv && nvL [])) = true,
    Fn Try.prog 39 [(false, E24 o_)] (E24 r6) [],
    (true || ((E24 r6).nv && nvL [])) = true,
    Fn Try.prog 40 [(false, E53 r5), (false, E24 r6)] (E50 r7) [],
    (false || ((E50 r7).nv && nvL [])) = true,
    Fn Try.prog 33 [(false, E50 r7), (false, E50 r4)] (E4 r8) [],
    (false || ((E4 r8).nv && nvL [])) = true,
    (!r8) = false,
    Fn Try.prog 32 [(false, E61 o)] (E53 r9) [],
    (true || ((E53 r9).nv && nvL [])) = true,
    Fn Try.prog 34 [(false, E53 r5), (false, E53 r9)] (E4 r10) [],
    (false || ((E4 r10).nv && nvL [])) = true,
    (!r10) = false,
    Fn Try.prog 39 [(false, E24 o_)] (E24 r11) [],
    (true || ((E24 r11).nv && nvL [])) = true,
    Fn Try.prog 41 [(false, E24 r6), (false, E24 r11)] (E4 r12) [],
    (false || ((E4 r12).nv && nvL [])) = true,
    (!r12) = false,
    Fn Try.prog 35 [(true, E53 r5), (false, E3 1)] (E3 r13.1) [V.sl true 58 (List.map E58 r13.2)],
    (true || ((E3 r13.1).nv && nvL [V.sl true 58 (List.map E58 r13.2)])) = true,
    Fn Try.prog 42 [(true, E24 r6), (false, E3 r13.1)] (E3 r14.1) [V.sl true 3 (List.map E3 r14.2)],
    (true || ((E3 r14.1).nv && nvL [V.sl true 3 (List.map E3 r14.2)])) = true,
    (decide (r14.1 < 0)) = false,
    (decide (r14.1 < 0)) = false,
    (decide (r14.1 < 0)) = false,
    Fn Try.prog 33 [(false, E50 r7), (false, E50 r4)] (E4 r15) [],
    (false || ((E4 r15).nv && nvL [])) = true,
    (decide (r14.1 < 0)) = false,
    (decide (r14.1 < 0)) = false,
    (!r15) = false,
    Fn Try.prog 36 [(true, E50 r7), (false, E3 1)] (E3 r16.1) [V.sl true 29 (List.map E29 r16.2)],
    (true || ((E3 r16.1).nv && nvL [V.sl true 29 (List.map E29 r16.2)])) = true,
    Fn Try.prog 37 [(false, E50 (Book.mk r16.2)), (false, E3 1)] (E3 r17) [],
    (false || ((E3 r17).nv && nvL [])) = true,
    (decide (r17 < 0)) = false,
    (r17 != r16.1) = false,
    Fn Try.prog 32 [(false, E61 o)] (E53 r18) [],
    (true || ((E53 r18).nv && nvL [])) = true,
    Fn Try.prog 39 [(false, E24 o_)] (E24 r19) [],
    (true || ((E24 r19).nv && nvL [])) = true,
    Fn Try.prog 40 [(false, E53 r18), (false, E24 r19)] (E50 r20) [],
    (false || ((E50 r20).nv && nvL [])) = true,
    Fn Try.prog 33 [(false, E50 r20), (false, E50 r4)] (E4 r21) [],
    (false || ((E4 r21).nv && nvL [])) = true,
    (!r21) = true]) (by kernel_rfl) (cj (len_nm _ _) (cj h1 (cj (laws_szStripeS_ok o 1048576 r1 h2) (cj rfl (cj h3 (cj (laws_toStripeS_ok o r2 h4) (cj rfl (cj (laws_toIntS_ok o_ r3 h5) (cj rfl (cj (spec_Part_ok r2 r3 r4 h6) (cj (by simp [V.nv, nvL, nvL_all, nv_E3, nv_E5, nv_E9, nv_E22, nv_E23, nv_E24, nv_E26, nv_E27, nv_E29, nv_E36, nv_E48, nv_E50, nv_E164]) (cj (laws_toStripeS_ok o r5 h7) (cj rfl (cj (laws_toIntS_ok o_ r6 h8) (cj rfl (cj (impl_Part_ok r5 r6 r7 h9) (cj (by simp [V.nv, nvL, nvL_all, nv_E3, nv_E5, nv_E9, nv_E22, nv_E23, nv_E24, nv_E26, nv_E27, nv_E29, nv_E36, nv_E48, nv_E50, nv_E164]) (cj (laws_eqBook_ok r7 r4 r8 h10) (cj (by simp [V.nv, nvL, nvL_all, nv_E4]) (cj (nf h11) (cj (laws_toStripeS_ok o r9 h12) (cj rfl (cj (laws_eqStripeS_ok r5 r9 r10 h13) (cj (by simp [V.nv, nvL, nvL_all, nv_E4]) (cj (nf h14) (cj (laws_toIntS_ok o_ r11 h15) (cj rfl (cj (laws_eqIntS_ok r6 r11 r12 h16) (cj (by simp [V.nv, nvL, nvL_all, nv_E4]) (cj (nf h17) (cj (laws_markStripeS_ok r5 1 r13 h18) (cj rfl (cj (laws_markIntS_ok r6 r13.1 r14 h19) (cj rfl (cj h20 (cj h20 (cj h20 (cj (laws_eqBook_ok r7 r4 r15 h21) (cj (by simp [V.nv, nvL, nvL_all, nv_E4]) (cj h20 (cj h20 (cj (nf h22) (cj (laws_markBook_ok r7 1 r16 h23) (cj rfl (cj (laws_heldBook_ok (Book.mk r16.2) 1 r17 h24) (cj (by simp [V.nv, nvL, nvL_all, nv_E3]) (cj h25 (cj h26 (cj (laws_toStripeS_ok o r18 h27) (cj rfl (cj (laws_toIntS_ok o_ r19 h28) (cj rfl (cj (impl_Part_ok r18 r19 r20 h29) (cj (by simp [V.nv, nvL, nvL_all, nv_E3, nv_E5, nv_E9, nv_E22, nv_E23, nv_E24, nv_E26, nv_E27, nv_E29, nv_E36, nv_E48, nv_E50, nv_E164]) (cj (laws_eqBook_ok r20 r4 r21 h30) (cj (by simp [V.nv, nvL, nvL_all, nv_E4]) (cj1 (nt h31))))))))))))))))))))))))))))))))))))))))))))))))))))))))))))))))))))) (fun h22 =>
   Pn.some (Fn.of [.wait 3, .nm 15 (V.sc (.int .i64 (o_.length : Int))), .bit false, .call [] (E3 r1) [], .bit false, .call [] (E53 r2) [], .call [] (E24 r3) [], .call [] (E50 r4) [], .call [] (E53 r5) [], .call [] (E24 r6) [], .call [] (E50 r7) [], .call [] (E4 r8) [], .bit false, .call [] (E53 r9) [], .call [] (E4 r10) [], .bit false, .call [] (E24 r11) [], .call [] (E4 r12) [], .bit false, .call [true, false] (E3 r13.1) [V.sl true 58 (List.map E58 r13.2)], .call [true, false] (E3 r14.1) [V.sl true 3 (List.map E3 r14.2)], .bit false, .bit false, .bit false, .call [] (E4 r15) [], .bit false, .bit false, .bit true] (p := [V.sc (.int .i64 ((List.map E3 o_).length : Int)) = V.sc (.int .i64 (o_.length : Int)),
    (decide (1048576 < (o_.length : Int))) = false,
    Fn Try.prog 30 [(false, E61 o), (false, E3 1048576)] (E3 r1) [],
    (true || ((E3 r1).nv && nvL [])) = true,
    (decide (r1 < 0)) = false,
    Fn Try.prog 32 [(false, E61 o)] (E53 r2) [],
    (true || ((E53 r2).nv && nvL [])) = true,
    Fn Try.prog 39 [(false, E24 o_)] (E24 r3) [],
    (true || ((E24 r3).nv && nvL [])) = true,
    Fn Try.prog 38 [(false, E53 r2), (false, E24 r3)] (E50 r4) [],
    (false || ((E50 r4).nv && nvL [])) = true,
    Fn Try.prog 32 [(false, E61 o)] (E53 r5) [],
    (true || ((E53 r5).nv && nvL [])) = true,
    Fn Try.prog 39 [(false, E24 o_)] (E24 r6) [],
    (true || ((E24 r6).nv && nvL [])) = true,
    Fn Try.prog 40 [(false, E53 r5), (false, E24 r6)] (E50 r7) [],
    (false || ((E50 r7).nv && nvL [])) = true,
    Fn Try.prog 33 [(false, E50 r7), (false, E50 r4)] (E4 r8) [],
    (false || ((E4 r8).nv && nvL [])) = true,
    (!r8) = false,
    Fn Try.prog 32 [(false, E61 o)] (E53 r9) [],
    (true || ((E53 r9).nv && nvL [])) = true,
    Fn Try.prog 34 [(false, E53 r5), (false, E53 r9)] (E4 r10) [],
    (false || ((E4 r10).nv && nvL [])) = true,
    (!r10) = false,
    Fn Try.prog 39 [(false, E24 o_)] (E24 r11) [],
    (true || ((E24 r11).nv && nvL [])) = true,
    Fn Try.prog 41 [(false, E24 r6), (false, E24 r11)] (E4 r12) [],
    (false || ((E4 r12).nv && nvL [])) = true,
    (!r12) = false,
    Fn Try.prog 35 [(true, E53 r5), (false, E3 1)] (E3 r13.1) [V.sl true 58 (List.map E58 r13.2)],
    (true || ((E3 r13.1).nv && nvL [V.sl true 58 (List.map E58 r13.2)])) = true,
    Fn Try.prog 42 [(true, E24 r6), (false, E3 r13.1)] (E3 r14.1) [V.sl true 3 (List.map E3 r14.2)],
    (true || ((E3 r14.1).nv && nvL [V.sl true 3 (List.map E3 r14.2)])) = true,
    (decide (r14.1 < 0)) = false,
    (decide (r14.1 < 0)) = false,
    (decide (r14.1 < 0)) = false,
    Fn Try.prog 33 [(false, E50 r7), (false, E50 r4)] (E4 r15) [],
    (false || ((E4 r15).nv && nvL [])) = true,
    (decide (r14.1 < 0)) = false,
    (decide (r14.1 < 0)) = false,
    (!r15) = true]) (by kernel_rfl) (cj (len_nm _ _) (cj h1 (cj (laws_szStripeS_ok o 1048576 r1 h2) (cj rfl (cj h3 (cj (laws_toStripeS_ok o r2 h4) (cj rfl (cj (laws_toIntS_ok o_ r3 h5) (cj rfl (cj (spec_Part_ok r2 r3 r4 h6) (cj (by simp [V.nv, nvL, nvL_all, nv_E3, nv_E5, nv_E9, nv_E22, nv_E23, nv_E24, nv_E26, nv_E27, nv_E29, nv_E36, nv_E48, nv_E50, nv_E164]) (cj (laws_toStripeS_ok o r5 h7) (cj rfl (cj (laws_toIntS_ok o_ r6 h8) (cj rfl (cj (impl_Part_ok r5 r6 r7 h9) (cj (by simp [V.nv, nvL, nvL_all, nv_E3, nv_E5, nv_E9, nv_E22, nv_E23, nv_E24, nv_E26, nv_E27, nv_E29, nv_E36, nv_E48, nv_E50, nv_E164]) (cj (laws_eqBook_ok r7 r4 r8 h10) (cj (by simp [V.nv, nvL, nvL_all, nv_E4]) (cj (nf h11) (cj (laws_toStripeS_ok o r9 h12) (cj rfl (cj (laws_eqStripeS_ok r5 r9 r10 h13) (cj (by simp [V.nv, nvL, nvL_all, nv_E4]) (cj (nf h14) (cj (laws_toIntS_ok o_ r11 h15) (cj rfl (cj (laws_eqIntS_ok r6 r11 r12 h16) (cj (by simp [V.nv, nvL, nvL_all, nv_E4]) (cj (nf h17) (cj (laws_markStripeS_ok r5 1 r13 h18) (cj rfl (cj (laws_markIntS_ok r6 r13.1 r14 h19) (cj rfl (cj h20 (cj h20 (cj h20 (cj (laws_eqBook_ok r7 r4 r15 h21) (cj (by simp [V.nv, nvL, nvL_all, nv_E4]) (cj h20 (cj h20 (cj1 (nt h22)))))))))))))))))))))))))))))))))))))))))))))))))) (fun h17 =>
   Pn.some (Fn.of [.wait 3, .nm 15 (V.sc (.int .i64 (o_.length : Int))), .bit false, .call [] (E3 r1) [], .bit false, .call [] (E53 r2) [], .call [] (E24 r3) [], .call [] (E50 r4) [], .call [] (E53 r5) [], .call [] (E24 r6) [], .call [] (E50 r7) [], .call [] (E4 r8) [], .bit false, .call [] (E53 r9) [], .call [] (E4 r10) [], .bit false, .call [] (E24 r11) [], .call [] (E4 r12) [], .bit true] (p := [V.sc (.int .i64 ((List.map E3 o_).length : Int)) = V.sc (.int .i64 (o_.length : Int)),
    (decide (1048576 < (o_.length : Int))) = false,
    Fn Try.prog 30 [(false, E61 o), (false, E3 1048576)] (E3 r1) [],
    (true || ((E3 r1).nv && nvL [])) = true,
    (decide (r1 < 0)) = false,
    Fn Try.prog 32 [(false, E61 o)] (E53 r2) [],
    (true || ((E53 r2).nv && nvL [])) = true,
    Fn Try.prog 39 [(false, E24 o_)] (E24 r3) [],
    (true || ((E24 r3).nv && nvL [])) = true,
    Fn Try.prog 38 [(false, E53 r2), (false, E24 r3)] (E50 r4) [],
    (false || ((E50 r4).nv && nvL [])) = true,
    Fn Try.prog 32 [(false, E61 o)] (E53 r5) [],
    (true || ((E53 r5).nv && nvL [])) = true,
    Fn Try.prog 39 [(false, E24 o_)] (E24 r6) [],
    (true || ((E24 r6).nv && nvL [])) = true,
    Fn Try.prog 40 [(false, E53 r5), (false, E24 r6)] (E50 r7) [],
    (false || ((E50 r7).nv && nvL [])) = true,
    Fn Try.prog 33 [(false, E50 r7), (false, E50 r4)] (E4 r8) [],
    (false || ((E4 r8).nv && nvL [])) = true,
    (!r8) = false,
    Fn Try.prog 32 [(false, E61 o)] (E53 r9) [],
    (true || ((E53 r9).nv && nvL [])) = true,
    Fn Try.prog 34 [(false, E53 r5), (false, E53 r9)] (E4 r10) [],
    (false || ((E4 r10).nv && nvL [])) = true,
    (!r10) = false,
    Fn Try.prog 39 [(false, E24 o_)] (E24 r11) [],
    (true || ((E24 r11).nv && nvL [])) = true,
    Fn Try.prog 41 [(false, E24 r6), (false, E24 r11)] (E4 r12) [],
    (false || ((E4 r12).nv && nvL [])) = true,
    (!r12) = true]) (by kernel_rfl) (cj (len_nm _ _) (cj h1 (cj (laws_szStripeS_ok o 1048576 r1 h2) (cj rfl (cj h3 (cj (laws_toStripeS_ok o r2 h4) (cj rfl (cj (laws_toIntS_ok o_ r3 h5) (cj rfl (cj (spec_Part_ok r2 r3 r4 h6) (cj (by simp [V.nv, nvL, nvL_all, nv_E3, nv_E5, nv_E9, nv_E22, nv_E23, nv_E24, nv_E26, nv_E27, nv_E29, nv_E36, nv_E48, nv_E50, nv_E164]) (cj (laws_toStripeS_ok o r5 h7) (cj rfl (cj (laws_toIntS_ok o_ r6 h8) (cj rfl (cj (impl_Part_ok r5 r6 r7 h9) (cj (by simp [V.nv, nvL, nvL_all, nv_E3, nv_E5, nv_E9, nv_E22, nv_E23, nv_E24, nv_E26, nv_E27, nv_E29, nv_E36, nv_E48, nv_E50, nv_E164]) (cj (laws_eqBook_ok r7 r4 r8 h10) (cj (by simp [V.nv, nvL, nvL_all, nv_E4]) (cj (nf h11) (cj (laws_toStripeS_ok o r9 h12) (cj rfl (cj (laws_eqStripeS_ok r5 r9 r10 h13) (cj (by simp [V.nv, nvL, nvL_all, nv_E4]) (cj (nf h14) (cj (laws_toIntS_ok o_ r11 h15) (cj rfl (cj (laws_eqIntS_ok r6 r11 r12 h16) (cj (by simp [V.nv, nvL, nvL_all, nv_E4]) (cj1 (nt h17)))))))))))))))))))))))))))))))))))) (fun h14 =>
   Pn.some (Fn.of [.wait 3, .nm 15 (V.sc (.int .i64 (o_.length : Int))), .bit false, .call [] (E3 r1) [], .bit false, .call [] (E53 r2) [], .call [] (E24 r3) [], .call [] (E50 r4) [], .call [] (E53 r5) [], .call [] (E24 r6) [], .call [] (E50 r7) [], .call [] (E4 r8) [], .bit false, .call [] (E53 r9) [], .call [] (E4 r10) [], .bit true] (p := [V.sc (.int .i64 ((List.map E3 o_).length : Int)) = V.sc (.int .i64 (o_.length : Int)),
    (decide (1048576 < (o_.length : Int))) = false,
    Fn Try.prog 30 [(false, E61 o), (false, E3 1048576)] (E3 r1) [],
    (true || ((E3 r1).nv && nvL [])) = true,
    (decide (r1 < 0)) = false,
    Fn Try.prog 32 [(false, E61 o)] (E53 r2) [],
    (true || ((E53 r2).nv && nvL [])) = true,
    Fn Try.prog 39 [(false, E24 o_)] (E24 r3) [],
    (true || ((E24 r3).nv && nvL [])) = true,
    Fn Try.prog 38 [(false, E53 r2), (false, E24 r3)] (E50 r4) [],
    (false || ((E50 r4).nv && nvL [])) = true,
    Fn Try.prog 32 [(false, E61 o)] (E53 r5) [],
    (true || ((E53 r5).nv && nvL [])) = true,
    Fn Try.prog 39 [(false, E24 o_)] (E24 r6) [],
    (true || ((E24 r6).nv && nvL [])) = true,
    Fn Try.prog 40 [(false, E53 r5), (false, E24 r6)] (E50 r7) [],
    (false || ((E50 r7).nv && nvL [])) = true,
    Fn Try.prog 33 [(false, E50 r7), (false, E50 r4)] (E4 r8) [],
    (false || ((E4 r8).nv && nvL [])) = true,
    (!r8) = false,
    Fn Try.prog 32 [(false, E61 o)] (E53 r9) [],
    (true || ((E53 r9).nv && nvL [])) = true,
    Fn Try.prog 34 [(false, E53 r5), (false, E53 r9)] (E4 r10) [],
    (false || ((E4 r10).nv && nvL [])) = true,
    (!r10) = true]) (by kernel_rfl) (cj (len_nm _ _) (cj h1 (cj (laws_szStripeS_ok o 1048576 r1 h2) (cj rfl (cj h3 (cj (laws_toStripeS_ok o r2 h4) (cj rfl (cj (laws_toIntS_ok o_ r3 h5) (cj rfl (cj (spec_Part_ok r2 r3 r4 h6) (cj (by simp [V.nv, nvL, nvL_all, nv_E3, nv_E5, nv_E9, nv_E22, nv_E23, nv_E24, nv_E26, nv_E27, nv_E29, nv_E36, nv_E48, nv_E50, nv_E164]) (cj (laws_toStripeS_ok o r5 h7) (cj rfl (cj (laws_toIntS_ok o_ r6 h8) (cj rfl (cj (impl_Part_ok r5 r6 r7 h9) (cj (by simp [V.nv, nvL, nvL_all, nv_E3, nv_E5, nv_E9, nv_E22, nv_E23, nv_E24, nv_E26, nv_E27, nv_E29, nv_E36, nv_E48, nv_E50, nv_E164]) (cj (laws_eqBook_ok r7 r4 r8 h10) (cj (by simp [V.nv, nvL, nvL_all, nv_E4]) (cj (nf h11) (cj (laws_toStripeS_ok o r9 h12) (cj rfl (cj (laws_eqStripeS_ok r5 r9 r10 h13) (cj (by simp [V.nv, nvL, nvL_all, nv_E4]) (cj1 (nt h14))))))))))))))))))))))))))))))) (fun h11 =>
   Pn.some (Fn.of [.wait 3, .nm 15 (V.sc (.int .i64 (o_.length : Int))), .bit false, .call [] (E3 r1) [], .bit false, .call [] (E53 r2) [], .call [] (E24 r3) [], .call [] (E50 r4) [], .call [] (E53 r5) [], .call [] (E24 r6) [], .call [] (E50 r7) [], .call [] (E4 r8) [], .bit true] (p := [V.sc (.int .i64 ((List.map E3 o_).length : Int)) = V.sc (.int .i64 (o_.length : Int)),
    (decide (1048576 < (o_.length : Int))) = false,
    Fn Try.prog 30 [(false, E61 o), (false, E3 1048576)] (E3 r1) [],
    (true || ((E3 r1).nv && nvL [])) = true,
    (decide (r1 < 0)) = false,
    Fn Try.prog 32 [(false, E61 o)] (E53 r2) [],
    (true || ((E53 r2).nv && nvL [])) = true,
    Fn Try.prog 39 [(false, E24 o_)] (E24 r3) [],
    (true || ((E24 r3).nv && nvL [])) = true,
    Fn Try.prog 38 [(false, E53 r2), (false, E24 r3)] (E50 r4) [],
    (false || ((E50 r4).nv && nvL [])) = true,
    Fn Try.prog 32 [(false, E61 o)] (E53 r5) [],
    (true || ((E53 r5).nv && nvL [])) = true,
    Fn Try.prog 39 [(false, E24 o_)] (E24 r6) [],
    (true || ((E24 r6).nv && nvL [])) = true,
    Fn Try.prog 40 [(false, E53 r5), (false, E24 r6)] (E50 r7) [],
    (false || ((E50 r7).nv && nvL [])) = true,
    Fn Try.prog 33 [(false, E50 r7), (false, E50 r4)] (E4 r8) [],
    (false || ((E4 r8).nv && nvL [])) = true,
    (!r8) = true]) (by kernel_rfl) (cj (len_nm _ _) (cj h1 (cj (laws_szStripeS_ok o 1048576 r1 h2) (cj rfl (cj h3 (cj (laws_toStripeS_ok o r2 h4) (cj rfl (cj (laws_toIntS_ok o_ r3 h5) (cj rfl (cj (spec_Part_ok r2 r3 r4 h6) (cj (by simp [V.nv, nvL, nvL_all, nv_E3, nv_E5, nv_E9, nv_E22, nv_E23, nv_E24, nv_E26, nv_E27, nv_E29, nv_E36, nv_E48, nv_E50, nv_E164]) (cj (laws_toStripeS_ok o r5 h7) (cj rfl (cj (laws_toIntS_ok o_ r6 h8) (cj rfl (cj (impl_Part_ok r5 r6 r7 h9) (cj (by simp [V.nv, nvL, nvL_all, nv_E3, nv_E5, nv_E9, nv_E22, nv_E23, nv_E24, nv_E26, nv_E27, nv_E29, nv_E36, nv_E48, nv_E50, nv_E164]) (cj (laws_eqBook_ok r7 r4 r8 h10) (cj (by simp [V.nv, nvL, nvL_all, nv_E4]) (cj1 (nt h11)))))))))))))))))))))))))))))))))
end Go.Proofs.YtdcejeemommkfaaM
