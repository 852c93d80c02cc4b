/- Printed by gen.py: functions on plain data, and that the program computes them. No condition. -/
import Derived.Test.YtjnnbcdakaabbaaDoorTkG0
namespace Go.Proofs.YtjnnbcdakaabbaaDoorM
set_option linter.unusedVariables false
set_option linter.unusedSimpArgs false
open Go.RowKit
set_option maxRecDepth 100000

def impl_GetBits_c0 (at_ : Int) (r1 : (List Int) × Bool) : Option (Lo Unit Unit) :=
 if r1.2 = true then
 some (.out ())
 else
 some (.ret ())
theorem impl_GetBits_c0_ok (at_ : Int) (r1 : (List Int) × Bool) : Pn (JnO Tryd.prog (sub (codeOf Tryd.prog 140) [1, 1, 0]) (st 43 [(1, V.sc (.int .i64 at_)), (7, V.sl false 5 (List.map E5 r1.1)), (8, V.sc (.bool r1.2))] [] []) (fun (y : Lo Unit Unit) => Lo.elim y (fun s => (X.go, st 43 [(1, V.sc (.int .i64 at_)), (7, V.sl false 5 (List.map E5 r1.1))] [] [])) (fun s => (X.ret, st 43 [(4, V.nl 3), (5, V.sc (.int .i64 0)), (6, V.sc (.bool false))] [] [])))) (impl_GetBits_c0 at_ r1) := by
  unfold impl_GetBits_c0
  exact
   Pn.ite (fun h2 =>
   Pn.some (JnO.of [.bit false, .mask [1, 7], .ren []] (p := [(!r1.2) = false]) (by kernel_rfl) (cj1 (nf h2)))) (fun h2 =>
   Pn.some (JnO.of [.bit true, .wait 3, .mask [4, 5, 6], .ren []] (p := [(!r1.2) = true]) (by kernel_rfl) (cj1 (nt h2))))
def impl_GetBits_c3 (at_ : Int) (r1 : (List Int) × Bool) (v1 : Int) (v2 : List Int) : Option (Lo Unit Unit) :=
 if (decide (v1 ≤ 64)) = true then
 some (.out ())
 else
 some (.ret ())
theorem impl_GetBits_c3_ok (at_ : Int) (r1 : (List Int) × Bool) (v1 : Int) (v2 : List Int) : Pn (JnO Tryd.prog (sub (codeOf Tryd.prog 140) [1, 1, 1, 1, 0, 1, 0, 0, 0]) (st 43 [(1, V.sc (.int .i64 at_)), (7, V.sl false 5 (List.map E5 r1.1)), (9, V.ow 0), (10, V.sc (.int .i64 v1))] [Blk.row 3 (List.map E3 v2) []] []) (fun (y : Lo Unit Unit) => Lo.elim y (fun s => (X.go, st 43 [(1, V.sc (.int .i64 at_)), (7, V.sl false 5 (List.map E5 r1.1)), (9, V.ow 0), (10, V.sc (.int .i64 v1))] [Blk.row 3 (List.map E3 v2) []] [])) (fun s => (X.out 0, st 43 [(1, V.sc (.int .i64 at_)), (9, V.ow 0)] [Blk.row 3 (List.map E3 v2) []] [])))) (impl_GetBits_c3 at_ r1 v1 v2) := by
  unfold impl_GetBits_c3
  exact
   Pn.ite (fun h6 =>
   Pn.some (JnO.of [.bit true, .mask [1, 7, 9, 10], .ren [0]] (p := [(decide (v1 ≤ 64)) = true]) (by kernel_rfl) (cj1 h6))) (fun h6 =>
   Pn.some (JnO.of [.bit false, .mask [1, 9], .ren [0]] (p := [(decide (v1 ≤ 64)) = false]) (by kernel_rfl) (cj1 h6)))
def impl_GetBits_c4 (at_ : Int) (r1 : (List Int) × Bool) (v1 : Int) (v2 : List Int) : Option ((List Int)) :=
 if (decide (0 ≤ (i64 (Int.tdiv (i64 (v1 - 1)) 8)))) = true then
 (r1.1[(i64 (Int.tdiv (i64 (v1 - 1)) 8)).toNat]?).bind fun x1 =>
 if (decide (¬ (Int.tmod (i64 (v1 - 1)) 8) < 0)) = true then
 if ((band .u8 x1 (bshr .u8 128 (Int.tmod (i64 (v1 - 1)) 8))) != 0) = true then
 if (capOk (v2.length + 1)) = true then
 some (v2 ++ [v1])
 else none
 else
 some v2
 else none
 else none
theorem impl_GetBits_c4_ok (at_ : Int) (r1 : (List Int) × Bool) (v1 : Int) (v2 : List Int) : Pn (JnO Tryd.prog (sub (codeOf Tryd.prog 140) [1, 1, 1, 1, 0, 1, 0, 0, 1, 0]) (st 43 [(1, V.sc (.int .i64 at_)), (7, V.sl false 5 (List.map E5 r1.1)), (9, V.ow 0), (10, V.sc (.int .i64 v1))] [Blk.row 3 (List.map E3 v2) []] []) (fun (y : (List Int)) => (X.go, st 43 [(1, V.sc (.int .i64 at_)), (7, V.sl false 5 (List.map E5 r1.1)), (9, V.ow 0), (10, V.sc (.int .i64 v1))] [Blk.row 3 (List.map E3 y) []] []))) (impl_GetBits_c4 at_ r1 v1 v2) := by
  unfold impl_GetBits_c4
  exact
   Pn.ite (fun h10 =>
   Pn.bind (fun x1 h11 =>
   Pn.ite (fun h12 =>
   Pn.ite (fun h13 =>
   Pn.ite (fun h14 =>
   Pn.some (JnO.of [.draw [], .el (E5 x1), .bit true, .cp [V.sc (.int .i64 v1)], .nb 2 (.row 3 (List.map E3 (v2 ++ [v1])) []), .wait 2, .mask [1, 7, 9, 10], .ren [2]] (p := [(8 : Int) ≠ 0,
    (0 : Int) ≤ (i64 (Int.tdiv (i64 (v1 - 1)) 8)),
    (List.map E5 r1.1)[(i64 (Int.tdiv (i64 (v1 - 1)) 8)).toNat]? = some (E5 x1),
    (8 : Int) ≠ 0,
    ¬ ((Int.tmod (i64 (v1 - 1)) 8) : Int) < 0,
    ((band .u8 x1 (bshr .u8 128 (Int.tmod (i64 (v1 - 1)) 8))) != 0) = true,
    [V.sc (.int .i64 v1)] = [V.sc (.int .i64 v1)],
    [V.sc (.int .i64 v1)].all V.flatE = true,
    (List.map E3 v2).length + [V.sc (.int .i64 v1)].length ≤ 9223372036854775807,
    ((List.map E3 v2).length + [V.sc (.int .i64 v1)].length) * 8 ≤ 140737488355328,
    Blk.row 3 ((List.map E3 v2) ++ [V.sc (.int .i64 v1)]) [] = Blk.row 3 (List.map E3 (v2 ++ [v1])) []]) (by kernel_rfl) (cj (by decide) (cj (od h10) (cj (map_get h11) (cj (by decide) (cj (od h12) (cj h13 (cj rfl (cj rfl (cj (cap1 (capN (by simp) h14)) (cj (cap2 (capN (by simp) h14) (by decide)) (cj1 (nb_app E3 v2 [v1])))))))))))))) (fun h14 =>
   Pn.none)) (fun h13 =>
   Pn.some (JnO.of [.draw [], .el (E5 x1), .bit false, .mask [1, 7, 9, 10], .ren [0]] (p := [(8 : Int) ≠ 0,
    (0 : Int) ≤ (i64 (Int.tdiv (i64 (v1 - 1)) 8)),
    (List.map E5 r1.1)[(i64 (Int.tdiv (i64 (v1 - 1)) 8)).toNat]? = some (E5 x1),
    (8 : Int) ≠ 0,
    ¬ ((Int.tmod (i64 (v1 - 1)) 8) : Int) < 0,
    ((band .u8 x1 (bshr .u8 128 (Int.tmod (i64 (v1 - 1)) 8))) != 0) = false]) (by kernel_rfl) (cj (by decide) (cj (od h10) (cj (map_get h11) (cj (by decide) (cj (od h12) (cj1 h13))))))))) (fun h12 =>
   Pn.none))) (fun h10 =>
   Pn.none)
def impl_GetBits_l0 (at_ : Int) (r1 : (List Int) × Bool) : Nat → Int → (List Int) → Option ((List Int))
  | 0, _, _ => none
  | fuel + 1, v1, v2 =>
   (impl_GetBits_c3 at_ r1 v1 v2).bind fun r3 =>
   Lo.elim r3 (fun s3 =>
   (impl_GetBits_c4 at_ r1 v1 v2).bind fun r4 =>
   impl_GetBits_l0 at_ r1 fuel (i64 (v1 + 1)) r4) (fun s4 =>
   some v2)
theorem impl_GetBits_l0_ok (at_ : Int) (r1 : (List Int) × Bool) : ∀ (fuel : Nat) (v1 : Int) (v2 : List Int), Pn (LpO Tryd.prog (sub (codeOf Tryd.prog 140) [1, 1, 1, 1, 0, 1, 0, 0]) (st 43 [(1, V.sc (.int .i64 at_)), (7, V.sl false 5 (List.map E5 r1.1)), (9, V.ow 0), (10, V.sc (.int .i64 v1))] [Blk.row 3 (List.map E3 v2) []] []) (fun (y : (List Int)) => (X.out 0, st 43 [(1, V.sc (.int .i64 at_)), (9, V.ow 0)] [Blk.row 3 (List.map E3 y) []] []))) (impl_GetBits_l0 at_ r1 fuel v1 v2)
  | 0, _, _ => Pn.none
  | fuel + 1, v1, v2 => by
    unfold impl_GetBits_l0
    exact
     Pn.bind (fun r3 h7 =>
     Pn.lo (fun s3 h8 =>
     Pn.bind (fun r4 h15 =>
     LpO.go [.wait 1, .mask [1, 7, 9, 10], .ren [0], .join 5 (X.go) (st 43 [(1, V.sc (.int .i64 at_)), (7, V.sl false 5 (List.map E5 r1.1)), (9, V.ow 0), (10, V.sc (.int .i64 v1))] [Blk.row 3 (List.map E3 v2) []] []), .wait 1, .mask [1, 7, 9, 10], .ren [0], .join 6 (X.go) (st 43 [(1, V.sc (.int .i64 at_)), (7, V.sl false 5 (List.map E5 r1.1)), (9, V.ow 0), (10, V.sc (.int .i64 v1))] [Blk.row 3 (List.map E3 r4) []] []), .wait 4, .mask [1, 7, 9, 10], .ren [0]] (p := [HT Tryd.prog (sub (codeOf Tryd.prog 140) [1, 1, 1, 1, 0, 1, 0, 0, 0]) (st 43 [(1, V.sc (.int .i64 at_)), (7, V.sl false 5 (List.map E5 r1.1)), (9, V.ow 0), (10, V.sc (.int .i64 v1))] [Blk.row 3 (List.map E3 v2) []] []) (X.go) (st 43 [(1, V.sc (.int .i64 at_)), (7, V.sl false 5 (List.map E5 r1.1)), (9, V.ow 0), (10, V.sc (.int .i64 v1))] [Blk.row 3 (List.map E3 v2) []] []),
      HT Tryd.prog (sub (codeOf Tryd.prog 140) [1, 1, 1, 1, 0, 1, 0, 0, 1, 0]) (st 43 [(1, V.sc (.int .i64 at_)), (7, V.sl false 5 (List.map E5 r1.1)), (9, V.ow 0), (10, V.sc (.int .i64 v1))] [Blk.row 3 (List.map E3 v2) []] []) (X.go) (st 43 [(1, V.sc (.int .i64 at_)), (7, V.sl false 5 (List.map E5 r1.1)), (9, V.ow 0), (10, V.sc (.int .i64 v1))] [Blk.row 3 (List.map E3 r4) []] [])]) (by kernel_rfl) (cj ((impl_GetBits_c3_ok at_ r1 v1 v2 r3 h7).at h8) (cj1 (impl_GetBits_c4_ok at_ r1 v1 v2 r4 h15))) (impl_GetBits_l0_ok at_ r1 fuel (i64 (v1 + 1)) r4))) (fun s4 h9 =>
     Pn.some (LpO.out [.wait 1, .mask [1, 7, 9, 10], .ren [0], .join 5 (X.out 0) (st 43 [(1, V.sc (.int .i64 at_)), (9, V.ow 0)] [Blk.row 3 (List.map E3 v2) []] []), .wait 1, .mask [1, 9], .ren [0]] (p := [HT Tryd.prog (sub (codeOf Tryd.prog 140) [1, 1, 1, 1, 0, 1, 0, 0, 0]) (st 43 [(1, V.sc (.int .i64 at_)), (7, V.sl false 5 (List.map E5 r1.1)), (9, V.ow 0), (10, V.sc (.int .i64 v1))] [Blk.row 3 (List.map E3 v2) []] []) (X.out 0) (st 43 [(1, V.sc (.int .i64 at_)), (9, V.ow 0)] [Blk.row 3 (List.map E3 v2) []] [])]) (by kernel_rfl) (show X.out 0 ≠ X.go from nofun) (cj1 ((impl_GetBits_c3_ok at_ r1 v1 v2 r3 h7).at h9)))))
def impl_GetBits (b : List Int) (at_ : Int) : Option ((List Int) × Int × Bool) :=
 (impl_piece b at_ 8).bind fun r1 =>
 (impl_GetBits_c0 at_ r1).bind fun r2 =>
 Lo.elim r2 (fun s1 =>
 (impl_GetBits_l0 at_ r1 FUEL 1 []).bind fun r5 =>
 some (r5, i64 (at_ + 8), true)) (fun s2 =>
 some ([], 0, false))
theorem impl_GetBits_ok (b : List Int) (at_ : Int) : Pn (fun y => Fn Tryd.prog 140 [(false, E40 b), (false, E3 at_)] (V.tup [E53 y.1, E3 y.2.1, E4 y.2.2]) []) (impl_GetBits b at_) := by
  unfold impl_GetBits
  exact
   Pn.bind (fun r1 h1 =>
   Pn.bind (fun r2 h3 =>
   Pn.lo (fun s1 h4 =>
   Pn.bind (fun r5 h16 =>
   Pn.some (Fn.of [.call [] (V.tup [(E40 r1.1).vw, E4 r1.2]) [], .wait 6, .mask [1, 7, 8], .ren [], .join 7 (X.go) (st 43 [(1, V.sc (.int .i64 at_)), (7, V.sl false 5 (List.map E5 r1.1))] [] []), .wait 4, .mask [1, 7, 9, 10], .ren [0], .loop (X.out 0) (st 43 [(1, V.sc (.int .i64 at_)), (9, V.ow 0)] [Blk.row 3 (List.map E3 r5) []] [])] (p := [Fn Tryd.prog 166 [(false, E40 b), (false, E3 at_), (false, E3 8)] (V.tup [(E40 r1.1).vw, E4 r1.2]) [],
    (true || ((V.tup [(E40 r1.1).vw, E4 r1.2]).nv && nvL [])) = true,
    HT Tryd.prog (sub (codeOf Tryd.prog 140) [1, 1, 0]) (st 43 [(1, V.sc (.int .i64 at_)), (7, V.sl false 5 (List.map E5 r1.1)), (8, V.sc (.bool r1.2))] [] []) (X.go) (st 43 [(1, V.sc (.int .i64 at_)), (7, V.sl false 5 (List.map E5 r1.1))] [] []),
    Loop Tryd.prog (sub (codeOf Tryd.prog 140) [1, 1, 1, 1, 0, 1, 0, 0]) (st 43 [(1, V.sc (.int .i64 at_)), (7, V.sl false 5 (List.map E5 r1.1)), (9, V.ow 0), (10, V.sc (.int .i64 1))] [Blk.row 3 ([] : List V) []] []) (X.out 0) (st 43 [(1, V.sc (.int .i64 at_)), (9, V.ow 0)] [Blk.row 3 (List.map E3 r5) []] [])]) (by kernel_rfl) (cj (impl_piece_ok b at_ 8 r1 h1) (cj rfl (cj ((impl_GetBits_c0_ok at_ r1 r2 h3).at h4) (cj1 (impl_GetBits_l0_ok at_ r1 FUEL 1 [] r5 h16)))))))) (fun s2 h5 =>
   Pn.some (Fn.of [.call [] (V.tup [(E40 r1.1).vw, E4 r1.2]) [], .wait 6, .mask [1, 7, 8], .ren [], .join 7 (X.ret) (st 43 [(4, V.nl 3), (5, V.sc (.int .i64 0)), (6, V.sc (.bool false))] [] [])] (p := [Fn Tryd.prog 166 [(false, E40 b), (false, E3 at_), (false, E3 8)] (V.tup [(E40 r1.1).vw, E4 r1.2]) [],
    (true || ((V.tup [(E40 r1.1).vw, E4 r1.2]).nv && nvL [])) = true,
    HT Tryd.prog (sub (codeOf Tryd.prog 140) [1, 1, 0]) (st 43 [(1, V.sc (.int .i64 at_)), (7, V.sl false 5 (List.map E5 r1.1)), (8, V.sc (.bool r1.2))] [] []) (X.ret) (st 43 [(4, V.nl 3), (5, V.sc (.int .i64 0)), (6, V.sc (.bool false))] [] [])]) (by kernel_rfl) (cj (impl_piece_ok b at_ 8 r1 h1) (cj rfl (cj1 ((impl_GetBits_c0_ok at_ r1 r2 h3).at h5))))))))
def impl_fieldRows  : Option ((List fieldRow)) :=
 some [(fieldRow.mk 2 3 19), (fieldRow.mk 3 1 6), (fieldRow.mk 4 1 12), (fieldRow.mk 7 1 10), (fieldRow.mk 11 1 6), (fieldRow.mk 14 1 4), (fieldRow.mk 37 2 12), (fieldRow.mk 38 2 6), (fieldRow.mk 39 2 2), (fieldRow.mk 41 2 8), (fieldRow.mk 48 5 60), (fieldRow.mk 49 1 3), (fieldRow.mk 54 5 60), (fieldRow.mk 95 2 12), (fieldRow.mk 102 4 20), (fieldRow.mk 103 4 20)]
theorem impl_fieldRows_ok  : Pn (fun y => Fn Tryd.prog 149 [] (E146 y) []) (impl_fieldRows) := by
  unfold impl_fieldRows
  exact
   Pn.some (Fn.of [] (p := []) (by kernel_rfl) trivial)
def impl_rowOf_l0 (no : Int) (r1 : (List fieldRow)) : List fieldRow → Option (Lo Unit (Int × Int × Int))
  | [] =>
   some (.out ())
  | x1 :: t1 =>
   if (x1.no == no) = true then
   some (.ret (x1.no, x1.kind, x1.size))
   else
   impl_rowOf_l0 no r1 t1
theorem impl_rowOf_l0_ok (no : Int) (r1 : (List fieldRow)) (h3 : capOk r1.length = true) : ∀ (t1 p1 : List fieldRow) (_ : r1 = p1 ++ t1) , Pn (LpO Tryd.prog (sub (codeOf Tryd.prog 126) [1, 0, 1, 0, 0]) (st 18 [(0, V.sc (.int .i64 no)), (2, V.ptr 0 0), (5, V.ow 1), (6, V.sc (.int .i64 (r1.length : Int))), (7, V.sc (.int .i64 (p1.length : Int)))] [Blk.box 127 [V.sc (.int .i64 0), V.sc (.int .i64 0), V.sc (.int .i64 0)], Blk.row 127 (List.map E127 r1) []] []) (fun (y : Lo Unit (Int × Int × Int)) => Lo.elim y (fun s => (X.out 0, st 18 [(2, V.ptr 0 0)] [Blk.box 127 [V.sc (.int .i64 0), V.sc (.int .i64 0), V.sc (.int .i64 0)]] [])) (fun s => (X.ret, st 18 [(2, V.ptr 0 0)] [Blk.box 127 [V.sc (.int .i64 s.1), V.sc (.int .i64 s.2.1), V.sc (.int .i64 s.2.2)]] [])))) (impl_rowOf_l0 no r1 t1)
  | [], p1, h2 => by
    unfold impl_rowOf_l0
    exact
     Pn.some (LpO.out [.bit false, .mask [2], .ren [0]] (p := [(decide ((p1.length : Int) < (r1.length : Int))) = false]) (by kernel_rfl) (show X.out 0 ≠ X.go from nofun) (cj1 (rng_end h2)))
  | x1 :: t1, p1, h2 => by
    unfold impl_rowOf_l0
    exact
     Pn.ite (fun h4 =>
     Pn.some (LpO.out [.bit true, .el (E127 x1), .bit true, .wait 2, .mask [2], .ren [0]] (p := [(decide ((p1.length : Int) < (r1.length : Int))) = true,
      (0 : Int) ≤ (p1.length : Int),
      ((p1.length : Int) : Int) < ((List.map E127 r1).length : Int),
      look [] ((p1.length : Int).toNat) = none,
      (List.map E127 r1)[(p1.length : Int).toNat]? = some (E127 x1),
      (x1.no == no) = true]) (by kernel_rfl) (show X.ret ≠ X.go from nofun) (cj (rng_lt h2) (cj (by omega) (cj (rng_ltI _ h2) (cj rfl (cj (rng_get _ h2) (cj1 h4)))))))) (fun h4 =>
     LpO.go [.bit true, .el (E127 x1), .bit false, .wait 2, .mask [0, 2, 5, 6, 7], .ren [0, 1], .nm 7 (V.sc (.int .i64 ((p1 ++ [x1]).length : Int)))] (p := [(decide ((p1.length : Int) < (r1.length : Int))) = true,
      (0 : Int) ≤ (p1.length : Int),
      ((p1.length : Int) : Int) < ((List.map E127 r1).length : Int),
      look [] ((p1.length : Int).toNat) = none,
      (List.map E127 r1)[(p1.length : Int).toNat]? = some (E127 x1),
      (x1.no == no) = false,
      V.sc (.int .i64 (i64 ((p1.length : Int) + 1))) = V.sc (.int .i64 ((p1 ++ [x1]).length : Int))]) (by kernel_rfl) (cj (rng_lt h2) (cj (by omega) (cj (rng_ltI _ h2) (cj rfl (cj (rng_get _ h2) (cj h4 (cj1 (rng_next h2 h3)))))))) (impl_rowOf_l0_ok no r1 h3 t1 (p1 ++ [x1]) (rng_step h2)))
def impl_rowOf (no : Int) : Option (fieldRow) :=
 (impl_fieldRows).bind fun r1 =>
 if (capOk r1.length) = true then
 (impl_rowOf_l0 no r1 r1).bind fun r2 =>
 Lo.elim r2 (fun s1 =>
 some (fieldRow.mk 0 0 0)) (fun s2 =>
 some (fieldRow.mk s2.1 s2.2.1 s2.2.2))
 else none
theorem impl_rowOf_ok (no : Int) : Pn (fun y => Fn Tryd.prog 126 [(false, E3 no)] (E127 y) []) (impl_rowOf no) := by
  unfold impl_rowOf
  exact
   Pn.bind (fun r1 h1 =>
   Pn.ite (fun h5 =>
   Pn.bind (fun r2 h6 =>
   Pn.lo (fun s1 h7 =>
   Pn.some (Fn.of [.call [] (E146 r1) [], .wait 1, .nm 6 (V.sc (.int .i64 (r1.length : Int))), .wait 2, .mask [0, 2, 5, 6, 7], .ren [0, 1], .loop (X.out 0) (st 18 [(2, V.ptr 0 0)] [Blk.box 127 [V.sc (.int .i64 0), V.sc (.int .i64 0), V.sc (.int .i64 0)]] [])] (p := [Fn Tryd.prog 149 [] (E146 r1) [],
    (true || ((E146 r1).nv && nvL [])) = true,
    V.sc (.int .i64 ((List.map E127 r1).length : Int)) = V.sc (.int .i64 (r1.length : Int)),
    Loop Tryd.prog (sub (codeOf Tryd.prog 126) [1, 0, 1, 0, 0]) (st 18 [(0, V.sc (.int .i64 no)), (2, V.ptr 0 0), (5, V.ow 1), (6, V.sc (.int .i64 (r1.length : Int))), (7, V.sc (.int .i64 0))] [Blk.box 127 [V.sc (.int .i64 0), V.sc (.int .i64 0), V.sc (.int .i64 0)], Blk.row 127 (List.map E127 r1) []] []) (X.out 0) (st 18 [(2, V.ptr 0 0)] [Blk.box 127 [V.sc (.int .i64 0), V.sc (.int .i64 0), V.sc (.int .i64 0)]] [])]) (by kernel_rfl) (cj (impl_fieldRows_ok  r1 h1) (cj rfl (cj (len_nm _ _) (cj1 ((impl_rowOf_l0_ok no r1 h5 r1 [] rfl r2 h6).at h7))))))) (fun s2 h8 =>
   Pn.some (Fn.of [.call [] (E146 r1) [], .wait 1, .nm 6 (V.sc (.int .i64 (r1.length : Int))), .wait 2, .mask [0, 2, 5, 6, 7], .ren [0, 1], .loop (X.ret) (st 18 [(2, V.ptr 0 0)] [Blk.box 127 [V.sc (.int .i64 s2.1), V.sc (.int .i64 s2.2.1), V.sc (.int .i64 s2.2.2)]] [])] (p := [Fn Tryd.prog 149 [] (E146 r1) [],
    (true || ((E146 r1).nv && nvL [])) = true,
    V.sc (.int .i64 ((List.map E127 r1).length : Int)) = V.sc (.int .i64 (r1.length : Int)),
    Loop Tryd.prog (sub (codeOf Tryd.prog 126) [1, 0, 1, 0, 0]) (st 18 [(0, V.sc (.int .i64 no)), (2, V.ptr 0 0), (5, V.ow 1), (6, V.sc (.int .i64 (r1.length : Int))), (7, V.sc (.int .i64 0))] [Blk.box 127 [V.sc (.int .i64 0), V.sc (.int .i64 0), V.sc (.int .i64 0)], Blk.row 127 (List.map E127 r1) []] []) (X.ret) (st 18 [(2, V.ptr 0 0)] [Blk.box 127 [V.sc (.int .i64 s2.1), V.sc (.int .i64 s2.2.1), V.sc (.int .i64 s2.2.2)]] [])]) (by kernel_rfl) (cj (impl_fieldRows_ok  r1 h1) (cj rfl (cj (len_nm _ _) (cj1 ((impl_rowOf_l0_ok no r1 h5 r1 [] rfl r2 h6).at h8))))))))) (fun h5 =>
   Pn.none))
def impl_FieldKind (no : Int) : Option (Int) :=
 (impl_rowOf no).bind fun r1 =>
 some r1.kind
theorem impl_FieldKind_ok (no : Int) : Pn (fun y => Fn Tryd.prog 141 [(false, E3 no)] (E3 y) []) (impl_FieldKind no) := by
  unfold impl_FieldKind
  exact
   Pn.bind (fun r1 h1 =>
   Pn.some (Fn.of [.call [] (E127 r1) []] (p := [Fn Tryd.prog 126 [(false, E3 no)] (E127 r1) [],
    (true || ((E127 r1).nv && nvL [])) = true]) (by kernel_rfl) (cj (impl_rowOf_ok no r1 h1) (cj1 rfl))))
def impl_FieldSize (no : Int) : Option (Int) :=
 (impl_rowOf no).bind fun r1 =>
 some r1.size
theorem impl_FieldSize_ok (no : Int) : Pn (fun y => Fn Tryd.prog 167 [(false, E3 no)] (E3 y) []) (impl_FieldSize no) := by
  unfold impl_FieldSize
  exact
   Pn.bind (fun r1 h1 =>
   Pn.some (Fn.of [.call [] (E127 r1) []] (p := [Fn Tryd.prog 126 [(false, E3 no)] (E127 r1) [],
    (true || ((E127 r1).nv && nvL [])) = true]) (by kernel_rfl) (cj (impl_rowOf_ok no r1 h1) (cj1 rfl))))
def impl_lenDigits (no : Int) : Option (Int) :=
 (impl_FieldKind no).bind fun r1 =>
 if (r1 == 5) = true then
 some 3
 else
 some 2
theorem impl_lenDigits_ok (no : Int) : Pn (fun y => Fn Tryd.prog 169 [(false, E3 no)] (E3 y) []) (impl_lenDigits no) := by
  unfold impl_lenDigits
  exact
   Pn.bind (fun r1 h1 =>
   Pn.ite (fun h2 =>
   Pn.some (Fn.of [.call [] (E3 r1) [], .bit true] (p := [Fn Tryd.prog 141 [(false, E3 no)] (E3 r1) [],
    (true || ((E3 r1).nv && nvL [])) = true,
    (r1 == 5) = true]) (by kernel_rfl) (cj (impl_FieldKind_ok no r1 h1) (cj rfl (cj1 h2))))) (fun h2 =>
   Pn.some (Fn.of [.call [] (E3 r1) [], .bit false] (p := [Fn Tryd.prog 141 [(false, E3 no)] (E3 r1) [],
    (true || ((E3 r1).nv && nvL [])) = true,
    (r1 == 5) = false]) (by kernel_rfl) (cj (impl_FieldKind_ok no r1 h1) (cj rfl (cj1 h2))))))
def impl_Narrow (s_ : ByteArray) : Option (Int × Bool) := (impl_Digits s_).bind fun r1 => if (r1 && decide (s_.size ≤ 18)) = true then (match Lib.atoiAll s_.data.toList with | .ok v => some (v, true) | _ => none) else (if (decide (s_.size ≤ 140737488355328)) = true then some (0, false) else none)
theorem impl_Narrow_ok (s_ : ByteArray) : Pn (fun y => Fn Tryd.prog 179 [(false, E9 s_)] (V.tup [E3 y.1, E4 y.2]) []) (impl_Narrow s_) := by
  unfold impl_Narrow
  refine Pn.bind (fun r1 h1 => ?_)
  have hD := fun w hw => Fn.calls [.string s_] (impl_Digits_ok s_ r1 h1) (r := .bool r1) rfl w hw
  rcases tfB (r1 && decide (s_.size ≤ 18)) with hr | hr
  · rw [hr, if_pos rfl]
    simp only [Bool.and_eq_true, decide_eq_true_eq] at hr
    obtain ⟨rfl, hs⟩ := hr
    have hs2 : ¬ (18 : Int) < (s_.size : Int) := by omega
    cases hv : Lib.atoiAll s_.data.toList with
    | ok v =>
      refine Pn.some (Fn.flats [.string s_] (by kernel_rfl) rfl (rs := [.int .i64 v, .bool true]) (fun w hw => ?_))
      have hA := fun w => Go.Proofs.Any.strconv_Atoi_ok Tryd.laysC172 s_ (by omega) v hv w
      go_enter Tryd.func179, Tryd.ntmps179
      go_wp2_with (go_at_call 118; refine (hD _ hw).mono ?_; rintro e w1 ⟨rfl, hb1⟩)
      go_wp2_with (go_at_call 102; refine (hA _).mono ?_; rintro e w2 ⟨rfl, hb2⟩)
      go_wp2
      go_ret2
      exact ⟨rfl, below_then hb1 (below_bytes hb2)⟩
    | «syntax» => exact Pn.none
    | range => exact Pn.none
  · rw [hr, if_neg (by simp)]
    refine Pn.ite (fun hz => ?_) (fun _ => Pn.none)
    have hz := of_decide_eq_true hz
    refine Pn.some (Fn.flats [.string s_] (by kernel_rfl) rfl (rs := [.int .i64 0, .bool false]) (fun w hw => ?_))
    cases r1 with
    | true =>
      simp only [Bool.true_and, decide_eq_false_iff_not] at hr
      have hs2 : (18 : Int) < (s_.size : Int) := by omega
      go_enter Tryd.func179, Tryd.ntmps179
      go_wp2_with (go_at_call 118; refine (hD _ hw).mono ?_; rintro e w1 ⟨rfl, hb1⟩)
      go_wp2
      go_ret2
      exact ⟨rfl, hb1⟩
    | false =>
      go_enter Tryd.func179, Tryd.ntmps179
      go_wp2_with (go_at_call 118; refine (hD _ hw).mono ?_; rintro e w1 ⟨rfl, hb1⟩)
      go_wp2
      go_ret2
      exact ⟨rfl, hb1⟩
def impl_GetLen_c0 (b : List Int) (at_ : Int) (digits : Int) : Option (Lo Unit Unit) :=
 (impl_within digits 2 3).bind fun r1 =>
 if r1 = true then
 some (.out ())
 else
 some (.ret ())
theorem impl_GetLen_c0_ok (b : List Int) (at_ : Int) (digits : Int) : Pn (JnO Tryd.prog (sub (codeOf Tryd.prog 168) [1, 0]) (st 34 [(0, V.sl false 5 (List.map E5 b)), (1, V.sc (.int .i64 at_)), (2, V.sc (.int .i64 digits))] [] []) (fun (y : Lo Unit Unit) => Lo.elim y (fun s => (X.go, st 34 [(0, V.sl false 5 (List.map E5 b)), (1, V.sc (.int .i64 at_)), (2, V.sc (.int .i64 digits))] [] [])) (fun s => (X.ret, st 34 [(6, V.sc (.int .i64 0)), (7, V.sc (.int .i64 0)), (8, V.sc (.bool false))] [] [])))) (impl_GetLen_c0 b at_ digits) := by
  unfold impl_GetLen_c0
  exact
   Pn.bind (fun r1 h1 =>
   Pn.ite (fun h2 =>
   Pn.some (JnO.of [.call [] (E4 r1) [], .bit false, .mask [0, 1, 2], .ren []] (p := [Fn Tryd.prog 83 [(false, E3 digits), (false, E3 2), (false, E3 3)] (E4 r1) [],
    (true || ((E4 r1).nv && nvL [])) = true,
    (!r1) = false]) (by kernel_rfl) (cj (impl_within_ok digits 2 3 r1 h1) (cj rfl (cj1 (nf h2)))))) (fun h2 =>
   Pn.some (JnO.of [.call [] (E4 r1) [], .bit true, .wait 3, .mask [6, 7, 8], .ren []] (p := [Fn Tryd.prog 83 [(false, E3 digits), (false, E3 2), (false, E3 3)] (E4 r1) [],
    (true || ((E4 r1).nv && nvL [])) = true,
    (!r1) = true]) (by kernel_rfl) (cj (impl_within_ok digits 2 3 r1 h1) (cj rfl (cj1 (nt h2)))))))
def impl_GetLen_c1 (r3 : ByteArray × Int × Bool) : Option (Lo Unit Unit) :=
 if r3.2.2 = true then
 some (.out ())
 else
 some (.ret ())
theorem impl_GetLen_c1_ok (r3 : ByteArray × Int × Bool) : Pn (JnO Tryd.prog (sub (codeOf Tryd.prog 168) [1, 1, 1, 0]) (st 34 [(9, V.sc (.string r3.1)), (10, V.sc (.int .i64 r3.2.1)), (11, V.sc (.bool r3.2.2))] [] []) (fun (y : Lo Unit Unit) => Lo.elim y (fun s => (X.go, st 34 [(9, V.sc (.string r3.1)), (10, V.sc (.int .i64 r3.2.1))] [] [])) (fun s => (X.ret, st 34 [(6, V.sc (.int .i64 0)), (7, V.sc (.int .i64 0)), (8, V.sc (.bool false))] [] [])))) (impl_GetLen_c1 r3) := by
  unfold impl_GetLen_c1
  exact
   Pn.ite (fun h7 =>
   Pn.some (JnO.of [.bit false, .mask [9, 10], .ren []] (p := [(!r3.2.2) = false]) (by kernel_rfl) (cj1 (nf h7)))) (fun h7 =>
   Pn.some (JnO.of [.bit true, .wait 3, .mask [6, 7, 8], .ren []] (p := [(!r3.2.2) = true]) (by kernel_rfl) (cj1 (nt h7))))
def impl_GetLen (b : List Int) (at_ : Int) (digits : Int) : Option (Int × Int × Bool) :=
 (impl_GetLen_c0 b at_ digits).bind fun r2 =>
 Lo.elim r2 (fun s1 =>
 (impl_GetBcd b at_ digits).bind fun r3 =>
 (impl_GetLen_c1 r3).bind fun r4 =>
 Lo.elim r4 (fun s3 =>
 (impl_Narrow r3.1).bind fun r5 =>
 some (r5.1, r3.2.1, true)) (fun s4 =>
 some (0, 0, false))) (fun s2 =>
 some (0, 0, false))
theorem impl_GetLen_ok (b : List Int) (at_ : Int) (digits : Int) : Pn (fun y => Fn Tryd.prog 168 [(false, E40 b), (false, E3 at_), (false, E3 digits)] (V.tup [E3 y.1, E3 y.2.1, E4 y.2.2]) []) (impl_GetLen b at_ digits) := by
  unfold impl_GetLen
  exact
   Pn.bind (fun r2 h3 =>
   Pn.lo (fun s1 h4 =>
   Pn.bind (fun r3 h6 =>
   Pn.bind (fun r4 h8 =>
   Pn.lo (fun s3 h9 =>
   Pn.bind (fun r5 h11 =>
   Pn.some (Fn.of [.wait 4, .mask [0, 1, 2], .ren [], .join 7 (X.go) (st 34 [(0, V.sl false 5 (List.map E5 b)), (1, V.sc (.int .i64 at_)), (2, V.sc (.int .i64 digits))] [] []), .call [] (V.tup [E9 r3.1, E3 r3.2.1, E4 r3.2.2]) [], .wait 8, .mask [9, 10, 11], .ren [], .join 7 (X.go) (st 34 [(9, V.sc (.string r3.1)), (10, V.sc (.int .i64 r3.2.1))] [] []), .call [] (V.tup [E3 r5.1, E4 r5.2]) []] (p := [HT Tryd.prog (sub (codeOf Tryd.prog 168) [1, 0]) (st 34 [(0, V.sl false 5 (List.map E5 b)), (1, V.sc (.int .i64 at_)), (2, V.sc (.int .i64 digits))] [] []) (X.go) (st 34 [(0, V.sl false 5 (List.map E5 b)), (1, V.sc (.int .i64 at_)), (2, V.sc (.int .i64 digits))] [] []),
    Fn Tryd.prog 139 [(false, E40 b), (false, E3 at_), (false, E3 digits)] (V.tup [E9 r3.1, E3 r3.2.1, E4 r3.2.2]) [],
    (true || ((V.tup [E9 r3.1, E3 r3.2.1, E4 r3.2.2]).nv && nvL [])) = true,
    HT Tryd.prog (sub (codeOf Tryd.prog 168) [1, 1, 1, 0]) (st 34 [(9, V.sc (.string r3.1)), (10, V.sc (.int .i64 r3.2.1)), (11, V.sc (.bool r3.2.2))] [] []) (X.go) (st 34 [(9, V.sc (.string r3.1)), (10, V.sc (.int .i64 r3.2.1))] [] []),
    Fn Tryd.prog 179 [(false, E9 r3.1)] (V.tup [E3 r5.1, E4 r5.2]) [],
    (true || ((V.tup [E3 r5.1, E4 r5.2]).nv && nvL [])) = true]) (by kernel_rfl) (cj ((impl_GetLen_c0_ok b at_ digits r2 h3).at h4) (cj (impl_GetBcd_ok b at_ digits r3 h6) (cj rfl (cj ((impl_GetLen_c1_ok r3 r4 h8).at h9) (cj (impl_Narrow_ok r3.1 r5 h11) (cj1 rfl))))))))) (fun s4 h10 =>
   Pn.some (Fn.of [.wait 4, .mask [0, 1, 2], .ren [], .join 7 (X.go) (st 34 [(0, V.sl false 5 (List.map E5 b)), (1, V.sc (.int .i64 at_)), (2, V.sc (.int .i64 digits))] [] []), .call [] (V.tup [E9 r3.1, E3 r3.2.1, E4 r3.2.2]) [], .wait 8, .mask [9, 10, 11], .ren [], .join 7 (X.ret) (st 34 [(6, V.sc (.int .i64 0)), (7, V.sc (.int .i64 0)), (8, V.sc (.bool false))] [] [])] (p := [HT Tryd.prog (sub (codeOf Tryd.prog 168) [1, 0]) (st 34 [(0, V.sl false 5 (List.map E5 b)), (1, V.sc (.int .i64 at_)), (2, V.sc (.int .i64 digits))] [] []) (X.go) (st 34 [(0, V.sl false 5 (List.map E5 b)), (1, V.sc (.int .i64 at_)), (2, V.sc (.int .i64 digits))] [] []),
    Fn Tryd.prog 139 [(false, E40 b), (false, E3 at_), (false, E3 digits)] (V.tup [E9 r3.1, E3 r3.2.1, E4 r3.2.2]) [],
    (true || ((V.tup [E9 r3.1, E3 r3.2.1, E4 r3.2.2]).nv && nvL [])) = true,
    HT Tryd.prog (sub (codeOf Tryd.prog 168) [1, 1, 1, 0]) (st 34 [(9, V.sc (.string r3.1)), (10, V.sc (.int .i64 r3.2.1)), (11, V.sc (.bool r3.2.2))] [] []) (X.ret) (st 34 [(6, V.sc (.int .i64 0)), (7, V.sc (.int .i64 0)), (8, V.sc (.bool false))] [] [])]) (by kernel_rfl) (cj ((impl_GetLen_c0_ok b at_ digits r2 h3).at h4) (cj (impl_GetBcd_ok b at_ digits r3 h6) (cj rfl (cj1 ((impl_GetLen_c1_ok r3 r4 h8).at h10)))))))))) (fun s2 h5 =>
   Pn.some (Fn.of [.wait 4, .mask [0, 1, 2], .ren [], .join 7 (X.ret) (st 34 [(6, V.sc (.int .i64 0)), (7, V.sc (.int .i64 0)), (8, V.sc (.bool false))] [] [])] (p := [HT Tryd.prog (sub (codeOf Tryd.prog 168) [1, 0]) (st 34 [(0, V.sl false 5 (List.map E5 b)), (1, V.sc (.int .i64 at_)), (2, V.sc (.int .i64 digits))] [] []) (X.ret) (st 34 [(6, V.sc (.int .i64 0)), (7, V.sc (.int .i64 0)), (8, V.sc (.bool false))] [] [])]) (by kernel_rfl) (cj1 ((impl_GetLen_c0_ok b at_ digits r2 h3).at h5)))))
def impl_Printable_l0 (s_ : ByteArray) : Nat → Int → Option (Lo Unit Unit)
  | 0, _ => none
  | fuel + 1, v1 =>
   if (decide (v1 < (s_.size : Int))) = true then
   if (decide (0 ≤ v1)) = true then
   if (decide ((v1 : Int) < (s_.size : Int))) = true then
   if (decide ((sAt s_ v1) < 32)) = true then
   some (.ret ())
   else
   if (decide (126 < (sAt s_ v1))) = true then
   some (.ret ())
   else
   impl_Printable_l0 s_ fuel (i64 (v1 + 1))
   else none
   else none
   else
   some (.out ())
theorem impl_Printable_l0_ok (s_ : ByteArray) : ∀ (fuel : Nat) (v1 : Int), Pn (LpO Tryd.prog (sub (codeOf Tryd.prog 127) [1, 0, 1, 0, 0]) (st 20 [(0, V.sc (.string s_)), (5, V.sc (.int .i64 (s_.size : Int))), (6, V.sc (.int .i64 v1))] [] []) (fun (y : Lo Unit Unit) => Lo.elim y (fun s => (X.out 0, st 20 [] [] [])) (fun s => (X.ret, st 20 [(2, V.sc (.bool false))] [] [])))) (impl_Printable_l0 s_ fuel v1)
  | 0, _ => Pn.none
  | fuel + 1, v1 => by
    unfold impl_Printable_l0
    exact
     Pn.ite (fun h1 =>
     Pn.ite (fun h2 =>
     Pn.ite (fun h3 =>
     Pn.ite (fun h4 =>
     Pn.some (LpO.out [.bit true, .bit true, .bit true, .bit true, .bit true, .bit true, .bit true, .wait 1, .mask [2], .ren []] (p := [(decide (v1 < (s_.size : Int))) = true,
      (0 : Int) ≤ v1,
      (v1 : Int) < s_.size,
      (decide ((sAt s_ v1) < 32)) = true,
      (decide ((sAt s_ v1) < 32)) = true,
      (decide ((sAt s_ v1) < 32)) = true,
      (decide ((sAt s_ v1) < 32)) = true,
      (decide ((sAt s_ v1) < 32)) = true,
      true = true]) (by kernel_rfl) (show X.ret ≠ X.go from nofun) (cj h1 (cj (od h2) (cj (od h3) (cj h4 (cj h4 (cj h4 (cj h4 (cj h4 (cj1 rfl))))))))))) (fun h4 =>
     Pn.ite (fun h5 =>
     Pn.some (LpO.out [.bit true, .bit false, .bit false, .bit false, .bit false, .bit false, .bit true, .wait 1, .mask [2], .ren []] (p := [(decide (v1 < (s_.size : Int))) = true,
      (0 : Int) ≤ v1,
      (v1 : Int) < s_.size,
      (decide ((sAt s_ v1) < 32)) = false,
      (decide ((sAt s_ v1) < 32)) = false,
      (decide ((sAt s_ v1) < 32)) = false,
      (0 : Int) ≤ v1,
      (v1 : Int) < s_.size,
      (decide ((sAt s_ v1) < 32)) = false,
      (decide ((sAt s_ v1) < 32)) = false,
      (decide (126 < (sAt s_ v1))) = true]) (by kernel_rfl) (show X.ret ≠ X.go from nofun) (cj h1 (cj (od h2) (cj (od h3) (cj h4 (cj h4 (cj h4 (cj (od h2) (cj (od h3) (cj h4 (cj h4 (cj1 h5))))))))))))) (fun h5 =>
     LpO.go [.bit true, .bit false, .bit false, .bit false, .bit false, .bit false, .bit false, .wait 2, .mask [0, 5, 6], .ren []] (p := [(decide (v1 < (s_.size : Int))) = true,
      (0 : Int) ≤ v1,
      (v1 : Int) < s_.size,
      (decide ((sAt s_ v1) < 32)) = false,
      (decide ((sAt s_ v1) < 32)) = false,
      (decide ((sAt s_ v1) < 32)) = false,
      (0 : Int) ≤ v1,
      (v1 : Int) < s_.size,
      (decide ((sAt s_ v1) < 32)) = false,
      (decide ((sAt s_ v1) < 32)) = false,
      (decide (126 < (sAt s_ v1))) = false]) (by kernel_rfl) (cj h1 (cj (od h2) (cj (od h3) (cj h4 (cj h4 (cj h4 (cj (od h2) (cj (od h3) (cj h4 (cj h4 (cj1 h5))))))))))) (impl_Printable_l0_ok s_ fuel (i64 (v1 + 1)))))) (fun h3 =>
     Pn.none)) (fun h2 =>
     Pn.none)) (fun h1 =>
     Pn.some (LpO.out [.bit false, .mask [], .ren []] (p := [(decide (v1 < (s_.size : Int))) = false]) (by kernel_rfl) (show X.out 0 ≠ X.go from nofun) (cj1 h1)))
def impl_Printable (s_ : ByteArray) : Option (Bool) :=
 (impl_Printable_l0 s_ FUEL 0).bind fun r1 =>
 Lo.elim r1 (fun s1 =>
 some true) (fun s2 =>
 some false)
theorem impl_Printable_ok (s_ : ByteArray) : Pn (fun y => Fn Tryd.prog 127 [(false, E9 s_)] (E4 y) []) (impl_Printable s_) := by
  unfold impl_Printable
  exact
   Pn.bind (fun r1 h6 =>
   Pn.lo (fun s1 h7 =>
   Pn.some (Fn.of [.wait 5, .mask [0, 5, 6], .ren [], .loop (X.out 0) (st 20 [] [] [])] (p := [Loop Tryd.prog (sub (codeOf Tryd.prog 127) [1, 0, 1, 0, 0]) (st 20 [(0, V.sc (.string s_)), (5, V.sc (.int .i64 (s_.size : Int))), (6, V.sc (.int .i64 0))] [] []) (X.out 0) (st 20 [] [] [])]) (by kernel_rfl) (cj1 ((impl_Printable_l0_ok s_ FUEL 0 r1 h6).at h7)))) (fun s2 h8 =>
   Pn.some (Fn.of [.wait 5, .mask [0, 5, 6], .ren [], .loop (X.ret) (st 20 [(2, V.sc (.bool false))] [] [])] (p := [Loop Tryd.prog (sub (codeOf Tryd.prog 127) [1, 0, 1, 0, 0]) (st 20 [(0, V.sc (.string s_)), (5, V.sc (.int .i64 (s_.size : Int))), (6, V.sc (.int .i64 0))] [] []) (X.ret) (st 20 [(2, V.sc (.bool false))] [] [])]) (by kernel_rfl) (cj1 ((impl_Printable_l0_ok s_ FUEL 0 r1 h6).at h8)))))
def impl_FieldOk_c1 (s_ : ByteArray) (r1 : fieldRow) : Option (Bool) :=
 if (r1.kind == 4) = true then
 some (r1.kind == 4)
 else
 some (r1.kind == 5)
theorem impl_FieldOk_c1_ok (s_ : ByteArray) (r1 : fieldRow) : Pn (JnO Tryd.prog (sub (codeOf Tryd.prog 93) [1, 1, 0, 1, 0, 1, 1, 1, 1, 1, 1, 0]) (st 55 [(1, V.sc (.string s_)), (5, V.ptr 0 0), (9, V.sc (.int .i64 r1.kind))] [Blk.box 127 [V.sc (.int .i64 r1.no), V.sc (.int .i64 r1.kind), V.sc (.int .i64 r1.size)]] []) (fun (y : Bool) => (X.go, st 55 [(1, V.sc (.string s_)), (5, V.ptr 0 0), (43, V.sc (.bool y))] [Blk.box 127 [V.sc (.int .i64 r1.no), V.sc (.int .i64 r1.kind), V.sc (.int .i64 r1.size)]] []))) (impl_FieldOk_c1 s_ r1) := by
  unfold impl_FieldOk_c1
  exact
   Pn.ite (fun h12 =>
   Pn.some (JnO.of [.bit true, .mask [1, 5, 43], .ren [0]] (p := [(r1.kind == 4) = true]) (by kernel_rfl) (cj1 h12))) (fun h12 =>
   Pn.some (JnO.of [.bit false, .wait 2, .mask [1, 5, 43], .ren [0]] (p := [(r1.kind == 4) = false]) (by kernel_rfl) (cj1 h12)))
def impl_FieldOk_c0 (s_ : ByteArray) (r1 : fieldRow) : Option (Lo Unit Bool) :=
 if (r1.kind == 1) = true then
 (impl_Digits s_).bind fun r2 =>
 if r2 = true then
 some (.ret ((s_.size : Int) == r1.size))
 else
 some (.ret false)
 else
 if (r1.kind == 2) = true then
 (impl_Printable s_).bind fun r3 =>
 if r3 = true then
 some (.ret ((s_.size : Int) == r1.size))
 else
 some (.ret false)
 else
 if (r1.kind == 3) = true then
 (impl_Digits s_).bind fun r4 =>
 if r4 = true then
 (impl_within (s_.size : Int) 1 r1.size).bind fun r5 =>
 some (.ret r5)
 else
 some (.ret false)
 else
 (impl_FieldOk_c1 s_ r1).bind fun r6 =>
 if r6 = true then
 (impl_Printable s_).bind fun r7 =>
 if r7 = true then
 (impl_within (s_.size : Int) 1 r1.size).bind fun r8 =>
 some (.ret r8)
 else
 some (.ret false)
 else
 some (.out ())
theorem impl_FieldOk_c0_ok (s_ : ByteArray) (r1 : fieldRow) : Pn (JnO Tryd.prog (sub (codeOf Tryd.prog 93) [1, 1, 0]) (st 55 [(1, V.sc (.string s_)), (5, V.ptr 0 0)] [Blk.box 127 [V.sc (.int .i64 r1.no), V.sc (.int .i64 r1.kind), V.sc (.int .i64 r1.size)]] []) (fun (y : Lo Unit Bool) => Lo.elim y (fun s => (X.go, st 55 [] [] [])) (fun s => (X.ret, st 55 [(4, V.sc (.bool s))] [] [])))) (impl_FieldOk_c0 s_ r1) := by
  unfold impl_FieldOk_c0
  exact
   Pn.ite (fun h2 =>
   Pn.bind (fun r2 h3 =>
   Pn.ite (fun h4 =>
   Pn.some (JnO.of [.bit true, .call [] (E4 r2) [], .bit true, .bit true, .bit true, .bit true, .bit true, .bit true, .wait 2, .mask [4], .ren []] (p := [(r1.kind == 1) = true,
    Fn Tryd.prog 118 [(false, E9 s_)] (E4 r2) [],
    (true || ((E4 r2).nv && nvL [])) = true,
    r2 = true,
    r2 = true,
    r2 = true,
    r2 = true,
    r2 = true,
    r2 = true]) (by kernel_rfl) (cj h2 (cj (impl_Digits_ok s_ r2 h3) (cj rfl (cj h4 (cj h4 (cj h4 (cj h4 (cj h4 (cj1 h4))))))))))) (fun h4 =>
   Pn.some (JnO.of [.bit true, .call [] (E4 r2) [], .bit false, .bit false, .bit false, .bit false, .bit false, .bit false, .wait 2, .mask [4], .ren []] (p := [(r1.kind == 1) = true,
    Fn Tryd.prog 118 [(false, E9 s_)] (E4 r2) [],
    (true || ((E4 r2).nv && nvL [])) = true,
    r2 = false,
    r2 = false,
    r2 = false,
    r2 = false,
    r2 = false,
    r2 = false]) (by kernel_rfl) (cj h2 (cj (impl_Digits_ok s_ r2 h3) (cj rfl (cj h4 (cj h4 (cj h4 (cj h4 (cj h4 (cj1 h4))))))))))))) (fun h2 =>
   Pn.ite (fun h5 =>
   Pn.bind (fun r3 h6 =>
   Pn.ite (fun h7 =>
   Pn.some (JnO.of [.bit false, .bit true, .call [] (E4 r3) [], .bit true, .bit true, .bit true, .bit true, .bit true, .bit true, .wait 2, .mask [4], .ren []] (p := [(r1.kind == 1) = false,
    (r1.kind == 2) = true,
    Fn Tryd.prog 127 [(false, E9 s_)] (E4 r3) [],
    (true || ((E4 r3).nv && nvL [])) = true,
    r3 = true,
    r3 = true,
    r3 = true,
    r3 = true,
    r3 = true,
    r3 = true]) (by kernel_rfl) (cj h2 (cj h5 (cj (impl_Printable_ok s_ r3 h6) (cj rfl (cj h7 (cj h7 (cj h7 (cj h7 (cj h7 (cj1 h7)))))))))))) (fun h7 =>
   Pn.some (JnO.of [.bit false, .bit true, .call [] (E4 r3) [], .bit false, .bit false, .bit false, .bit false, .bit false, .bit false, .wait 2, .mask [4], .ren []] (p := [(r1.kind == 1) = false,
    (r1.kind == 2) = true,
    Fn Tryd.prog 127 [(false, E9 s_)] (E4 r3) [],
    (true || ((E4 r3).nv && nvL [])) = true,
    r3 = false,
    r3 = false,
    r3 = false,
    r3 = false,
    r3 = false,
    r3 = false]) (by kernel_rfl) (cj h2 (cj h5 (cj (impl_Printable_ok s_ r3 h6) (cj rfl (cj h7 (cj h7 (cj h7 (cj h7 (cj h7 (cj1 h7)))))))))))))) (fun h5 =>
   Pn.ite (fun h8 =>
   Pn.bind (fun r4 h9 =>
   Pn.ite (fun h10 =>
   Pn.bind (fun r5 h11 =>
   Pn.some (JnO.of [.bit false, .bit false, .bit true, .call [] (E4 r4) [], .bit true, .bit true, .bit true, .bit true, .bit true, .call [] (E4 r5) [], .bit true, .wait 2, .mask [4], .ren []] (p := [(r1.kind == 1) = false,
    (r1.kind == 2) = false,
    (r1.kind == 3) = true,
    Fn Tryd.prog 118 [(false, E9 s_)] (E4 r4) [],
    (true || ((E4 r4).nv && nvL [])) = true,
    r4 = true,
    r4 = true,
    r4 = true,
    r4 = true,
    r4 = true,
    Fn Tryd.prog 83 [(false, E3 (s_.size : Int)), (false, E3 1), (false, E3 r1.size)] (E4 r5) [],
    (true || ((E4 r5).nv && nvL [])) = true,
    r4 = true]) (by kernel_rfl) (cj h2 (cj h5 (cj h8 (cj (impl_Digits_ok s_ r4 h9) (cj rfl (cj h10 (cj h10 (cj h10 (cj h10 (cj h10 (cj (impl_within_ok (s_.size : Int) 1 r1.size r5 h11) (cj rfl (cj1 h10)))))))))))))))) (fun h10 =>
   Pn.some (JnO.of [.bit false, .bit false, .bit true, .call [] (E4 r4) [], .bit false, .bit false, .bit false, .bit false, .bit false, .bit false, .wait 2, .mask [4], .ren []] (p := [(r1.kind == 1) = false,
    (r1.kind == 2) = false,
    (r1.kind == 3) = true,
    Fn Tryd.prog 118 [(false, E9 s_)] (E4 r4) [],
    (true || ((E4 r4).nv && nvL [])) = true,
    r4 = false,
    r4 = false,
    r4 = false,
    r4 = false,
    r4 = false,
    r4 = false]) (by kernel_rfl) (cj h2 (cj h5 (cj h8 (cj (impl_Digits_ok s_ r4 h9) (cj rfl (cj h10 (cj h10 (cj h10 (cj h10 (cj h10 (cj1 h10))))))))))))))) (fun h8 =>
   Pn.bind (fun r6 h13 =>
   Pn.ite (fun h14 =>
   Pn.bind (fun r7 h15 =>
   Pn.ite (fun h16 =>
   Pn.bind (fun r8 h17 =>
   Pn.some (JnO.of [.bit false, .bit false, .bit false, .mask [1, 5, 9], .ren [0], .join 5 (X.go) (st 55 [(1, V.sc (.string s_)), (5, V.ptr 0 0), (43, V.sc (.bool r6))] [Blk.box 127 [V.sc (.int .i64 r1.no), V.sc (.int .i64 r1.kind), V.sc (.int .i64 r1.size)]] []), .bit true, .call [] (E4 r7) [], .bit true, .bit true, .bit true, .bit true, .bit true, .call [] (E4 r8) [], .bit true, .wait 2, .mask [4], .ren []] (p := [(r1.kind == 1) = false,
    (r1.kind == 2) = false,
    (r1.kind == 3) = false,
    HT Tryd.prog (sub (codeOf Tryd.prog 93) [1, 1, 0, 1, 0, 1, 1, 1, 1, 1, 1, 0]) (st 55 [(1, V.sc (.string s_)), (5, V.ptr 0 0), (9, V.sc (.int .i64 r1.kind))] [Blk.box 127 [V.sc (.int .i64 r1.no), V.sc (.int .i64 r1.kind), V.sc (.int .i64 r1.size)]] []) (X.go) (st 55 [(1, V.sc (.string s_)), (5, V.ptr 0 0), (43, V.sc (.bool r6))] [Blk.box 127 [V.sc (.int .i64 r1.no), V.sc (.int .i64 r1.kind), V.sc (.int .i64 r1.size)]] []),
    r6 = true,
    Fn Tryd.prog 127 [(false, E9 s_)] (E4 r7) [],
    (true || ((E4 r7).nv && nvL [])) = true,
    r7 = true,
    r7 = true,
    r7 = true,
    r7 = true,
    r7 = true,
    Fn Tryd.prog 83 [(false, E3 (s_.size : Int)), (false, E3 1), (false, E3 r1.size)] (E4 r8) [],
    (true || ((E4 r8).nv && nvL [])) = true,
    r7 = true]) (by kernel_rfl) (cj h2 (cj h5 (cj h8 (cj (impl_FieldOk_c1_ok s_ r1 r6 h13) (cj h14 (cj (impl_Printable_ok s_ r7 h15) (cj rfl (cj h16 (cj h16 (cj h16 (cj h16 (cj h16 (cj (impl_within_ok (s_.size : Int) 1 r1.size r8 h17) (cj rfl (cj1 h16)))))))))))))))))) (fun h16 =>
   Pn.some (JnO.of [.bit false, .bit false, .bit false, .mask [1, 5, 9], .ren [0], .join 5 (X.go) (st 55 [(1, V.sc (.string s_)), (5, V.ptr 0 0), (43, V.sc (.bool r6))] [Blk.box 127 [V.sc (.int .i64 r1.no), V.sc (.int .i64 r1.kind), V.sc (.int .i64 r1.size)]] []), .bit true, .call [] (E4 r7) [], .bit false, .bit false, .bit false, .bit false, .bit false, .bit false, .wait 2, .mask [4], .ren []] (p := [(r1.kind == 1) = false,
    (r1.kind == 2) = false,
    (r1.kind == 3) = false,
    HT Tryd.prog (sub (codeOf Tryd.prog 93) [1, 1, 0, 1, 0, 1, 1, 1, 1, 1, 1, 0]) (st 55 [(1, V.sc (.string s_)), (5, V.ptr 0 0), (9, V.sc (.int .i64 r1.kind))] [Blk.box 127 [V.sc (.int .i64 r1.no), V.sc (.int .i64 r1.kind), V.sc (.int .i64 r1.size)]] []) (X.go) (st 55 [(1, V.sc (.string s_)), (5, V.ptr 0 0), (43, V.sc (.bool r6))] [Blk.box 127 [V.sc (.int .i64 r1.no), V.sc (.int .i64 r1.kind), V.sc (.int .i64 r1.size)]] []),
    r6 = true,
    Fn Tryd.prog 127 [(false, E9 s_)] (E4 r7) [],
    (true || ((E4 r7).nv && nvL [])) = true,
    r7 = false,
    r7 = false,
    r7 = false,
    r7 = false,
    r7 = false,
    r7 = false]) (by kernel_rfl) (cj h2 (cj h5 (cj h8 (cj (impl_FieldOk_c1_ok s_ r1 r6 h13) (cj h14 (cj (impl_Printable_ok s_ r7 h15) (cj rfl (cj h16 (cj h16 (cj h16 (cj h16 (cj h16 (cj1 h16))))))))))))))))) (fun h14 =>
   Pn.some (JnO.of [.bit false, .bit false, .bit false, .mask [1, 5, 9], .ren [0], .join 5 (X.go) (st 55 [(1, V.sc (.string s_)), (5, V.ptr 0 0), (43, V.sc (.bool r6))] [Blk.box 127 [V.sc (.int .i64 r1.no), V.sc (.int .i64 r1.kind), V.sc (.int .i64 r1.size)]] []), .bit false, .mask [], .ren []] (p := [(r1.kind == 1) = false,
    (r1.kind == 2) = false,
    (r1.kind == 3) = false,
    HT Tryd.prog (sub (codeOf Tryd.prog 93) [1, 1, 0, 1, 0, 1, 1, 1, 1, 1, 1, 0]) (st 55 [(1, V.sc (.string s_)), (5, V.ptr 0 0), (9, V.sc (.int .i64 r1.kind))] [Blk.box 127 [V.sc (.int .i64 r1.no), V.sc (.int .i64 r1.kind), V.sc (.int .i64 r1.size)]] []) (X.go) (st 55 [(1, V.sc (.string s_)), (5, V.ptr 0 0), (43, V.sc (.bool r6))] [Blk.box 127 [V.sc (.int .i64 r1.no), V.sc (.int .i64 r1.kind), V.sc (.int .i64 r1.size)]] []),
    r6 = false]) (by kernel_rfl) (cj h2 (cj h5 (cj h8 (cj (impl_FieldOk_c1_ok s_ r1 r6 h13) (cj1 h14)))))))))))
def impl_FieldOk (no : Int) (s_ : ByteArray) : Option (Bool) :=
 (impl_rowOf no).bind fun r1 =>
 (impl_FieldOk_c0 s_ r1).bind fun r9 =>
 Lo.elim r9 (fun s1 =>
 some false) (fun s2 =>
 some s2)
theorem impl_FieldOk_ok (no : Int) (s_ : ByteArray) : Pn (fun y => Fn Tryd.prog 93 [(false, E3 no), (false, E9 s_)] (E4 y) []) (impl_FieldOk no s_) := by
  unfold impl_FieldOk
  exact
   Pn.bind (fun r1 h1 =>
   Pn.bind (fun r9 h18 =>
   Pn.lo (fun s1 h19 =>
   Pn.some (Fn.of [.call [] (E127 r1) [], .wait 3, .mask [1, 5], .ren [0], .join 32 (X.go) (st 55 [] [] [])] (p := [Fn Tryd.prog 126 [(false, E3 no)] (E127 r1) [],
    (true || ((E127 r1).nv && nvL [])) = true,
    HT Tryd.prog (sub (codeOf Tryd.prog 93) [1, 1, 0]) (st 55 [(1, V.sc (.string s_)), (5, V.ptr 0 0)] [Blk.box 127 [V.sc (.int .i64 r1.no), V.sc (.int .i64 r1.kind), V.sc (.int .i64 r1.size)]] []) (X.go) (st 55 [] [] [])]) (by kernel_rfl) (cj (impl_rowOf_ok no r1 h1) (cj rfl (cj1 ((impl_FieldOk_c0_ok s_ r1 r9 h18).at h19)))))) (fun s2 h20 =>
   Pn.some (Fn.of [.call [] (E127 r1) [], .wait 3, .mask [1, 5], .ren [0], .join 32 (X.ret) (st 55 [(4, V.sc (.bool s2))] [] [])] (p := [Fn Tryd.prog 126 [(false, E3 no)] (E127 r1) [],
    (true || ((E127 r1).nv && nvL [])) = true,
    HT Tryd.prog (sub (codeOf Tryd.prog 93) [1, 1, 0]) (st 55 [(1, V.sc (.string s_)), (5, V.ptr 0 0)] [Blk.box 127 [V.sc (.int .i64 r1.no), V.sc (.int .i64 r1.kind), V.sc (.int .i64 r1.size)]] []) (X.ret) (st 55 [(4, V.sc (.bool s2))] [] [])]) (by kernel_rfl) (cj (impl_rowOf_ok no r1 h1) (cj rfl (cj1 ((impl_FieldOk_c0_ok s_ r1 r9 h18).at h20))))))))
def impl_GetField_c0 (o : List Int) (o_ : Int) (a2 : Int) (r1 : Int) (r2 : Int) : Option (Int × Int × Bool) :=
 if (r2 == 3) = true then
 (impl_lenDigits a2).bind fun r3 =>
 (impl_GetLen o o_ r3).bind fun r4 =>
 some (r4.2.1, r4.1, r4.2.2)
 else
 if (r2 == 4) = true then
 (impl_lenDigits a2).bind fun r5 =>
 (impl_GetLen o o_ r5).bind fun r6 =>
 some (r6.2.1, r6.1, r6.2.2)
 else
 if (r2 == 5) = true then
 (impl_lenDigits a2).bind fun r7 =>
 (impl_GetLen o o_ r7).bind fun r8 =>
 some (r8.2.1, r8.1, r8.2.2)
 else
 some (o_, r1, true)
theorem impl_GetField_c0_ok (o : List Int) (o_ : Int) (a2 : Int) (r1 : Int) (r2 : Int) : Pn (JnO Tryd.prog (sub (codeOf Tryd.prog 142) [1, 1, 0]) (st 75 [(0, V.sl false 5 (List.map E5 o)), (1, V.sc (.int .i64 o_)), (2, V.sc (.int .i64 a2)), (9, V.sc (.int .i64 r1)), (11, V.sc (.int .i64 r2)), (12, V.sc (.bool true))] [] []) (fun (y : Int × Int × Bool) => (X.go, st 75 [(0, V.sl false 5 (List.map E5 o)), (1, V.sc (.int .i64 y.1)), (2, V.sc (.int .i64 a2)), (9, V.sc (.int .i64 y.2.1)), (11, V.sc (.int .i64 r2)), (12, V.sc (.bool y.2.2))] [] []))) (impl_GetField_c0 o o_ a2 r1 r2) := by
  unfold impl_GetField_c0
  exact
   Pn.ite (fun h3 =>
   Pn.bind (fun r3 h4 =>
   Pn.bind (fun r4 h5 =>
   Pn.some (JnO.of [.bit true, .bit true, .bit true, .bit true, .bit true, .bit true, .bit true, .call [] (E3 r3) [], .call [] (V.tup [E3 r4.1, E3 r4.2.1, E4 r4.2.2]) [], .wait 8, .mask [0, 1, 2, 9, 11, 12], .ren []] (p := [(r2 == 3) = true,
    (r2 == 3) = true,
    (r2 == 3) = true,
    true = true,
    true = true,
    true = true,
    true = true,
    Fn Tryd.prog 169 [(false, E3 a2)] (E3 r3) [],
    (true || ((E3 r3).nv && nvL [])) = true,
    Fn Tryd.prog 168 [(false, E40 o), (false, E3 o_), (false, E3 r3)] (V.tup [E3 r4.1, E3 r4.2.1, E4 r4.2.2]) [],
    (true || ((V.tup [E3 r4.1, E3 r4.2.1, E4 r4.2.2]).nv && nvL [])) = true]) (by kernel_rfl) (cj h3 (cj h3 (cj h3 (cj rfl (cj rfl (cj rfl (cj rfl (cj (impl_lenDigits_ok a2 r3 h4) (cj rfl (cj (impl_GetLen_ok o o_ r3 r4 h5) (cj1 rfl))))))))))))))) (fun h3 =>
   Pn.ite (fun h6 =>
   Pn.bind (fun r5 h7 =>
   Pn.bind (fun r6 h8 =>
   Pn.some (JnO.of [.bit false, .bit false, .bit false, .bit true, .bit true, .bit true, .bit true, .call [] (E3 r5) [], .call [] (V.tup [E3 r6.1, E3 r6.2.1, E4 r6.2.2]) [], .wait 8, .mask [0, 1, 2, 9, 11, 12], .ren []] (p := [(r2 == 3) = false,
    (r2 == 3) = false,
    (r2 == 3) = false,
    (r2 == 4) = true,
    (r2 == 4) = true,
    (r2 == 4) = true,
    true = true,
    Fn Tryd.prog 169 [(false, E3 a2)] (E3 r5) [],
    (true || ((E3 r5).nv && nvL [])) = true,
    Fn Tryd.prog 168 [(false, E40 o), (false, E3 o_), (false, E3 r5)] (V.tup [E3 r6.1, E3 r6.2.1, E4 r6.2.2]) [],
    (true || ((V.tup [E3 r6.1, E3 r6.2.1, E4 r6.2.2]).nv && nvL [])) = true]) (by kernel_rfl) (cj h3 (cj h3 (cj h3 (cj h6 (cj h6 (cj h6 (cj rfl (cj (impl_lenDigits_ok a2 r5 h7) (cj rfl (cj (impl_GetLen_ok o o_ r5 r6 h8) (cj1 rfl))))))))))))))) (fun h6 =>
   Pn.ite (fun h9 =>
   Pn.bind (fun r7 h10 =>
   Pn.bind (fun r8 h11 =>
   Pn.some (JnO.of [.bit false, .bit false, .bit false, .bit false, .bit false, .bit false, .bit true, .call [] (E3 r7) [], .call [] (V.tup [E3 r8.1, E3 r8.2.1, E4 r8.2.2]) [], .wait 8, .mask [0, 1, 2, 9, 11, 12], .ren []] (p := [(r2 == 3) = false,
    (r2 == 3) = false,
    (r2 == 3) = false,
    (r2 == 4) = false,
    (r2 == 4) = false,
    (r2 == 4) = false,
    (r2 == 5) = true,
    Fn Tryd.prog 169 [(false, E3 a2)] (E3 r7) [],
    (true || ((E3 r7).nv && nvL [])) = true,
    Fn Tryd.prog 168 [(false, E40 o), (false, E3 o_), (false, E3 r7)] (V.tup [E3 r8.1, E3 r8.2.1, E4 r8.2.2]) [],
    (true || ((V.tup [E3 r8.1, E3 r8.2.1, E4 r8.2.2]).nv && nvL [])) = true]) (by kernel_rfl) (cj h3 (cj h3 (cj h3 (cj h6 (cj h6 (cj h6 (cj h9 (cj (impl_lenDigits_ok a2 r7 h10) (cj rfl (cj (impl_GetLen_ok o o_ r7 r8 h11) (cj1 rfl))))))))))))))) (fun h9 =>
   Pn.some (JnO.of [.bit false, .bit false, .bit false, .bit false, .bit false, .bit false, .bit false, .mask [0, 1, 2, 9, 11, 12], .ren []] (p := [(r2 == 3) = false,
    (r2 == 3) = false,
    (r2 == 3) = false,
    (r2 == 4) = false,
    (r2 == 4) = false,
    (r2 == 4) = false,
    (r2 == 5) = false]) (by kernel_rfl) (cj h3 (cj h3 (cj h3 (cj h6 (cj h6 (cj h6 (cj1 h9)))))))))))
def impl_GetField_c1 (o : List Int) (a2 : Int) (r2 : Int) (r9 : Int × Int × Bool) : Option (Lo Unit Unit) :=
 if r9.2.2 = true then
 some (.out ())
 else
 some (.ret ())
theorem impl_GetField_c1_ok (o : List Int) (a2 : Int) (r2 : Int) (r9 : Int × Int × Bool) : Pn (JnO Tryd.prog (sub (codeOf Tryd.prog 142) [1, 1, 1, 0]) (st 75 [(0, V.sl false 5 (List.map E5 o)), (1, V.sc (.int .i64 r9.1)), (2, V.sc (.int .i64 a2)), (9, V.sc (.int .i64 r9.2.1)), (11, V.sc (.int .i64 r2)), (12, V.sc (.bool r9.2.2))] [] []) (fun (y : Lo Unit Unit) => Lo.elim y (fun s => (X.go, st 75 [(0, V.sl false 5 (List.map E5 o)), (1, V.sc (.int .i64 r9.1)), (2, V.sc (.int .i64 a2)), (9, V.sc (.int .i64 r9.2.1)), (11, V.sc (.int .i64 r2))] [] [])) (fun s => (X.ret, st 75 [(6, V.sc (.string (bs []))), (7, V.sc (.int .i64 0)), (8, V.sc (.bool false))] [] [])))) (impl_GetField_c1 o a2 r2 r9) := by
  unfold impl_GetField_c1
  exact
   Pn.ite (fun h13 =>
   Pn.some (JnO.of [.bit false, .mask [0, 1, 2, 9, 11], .ren []] (p := [(!r9.2.2) = false]) (by kernel_rfl) (cj1 (nf h13)))) (fun h13 =>
   Pn.some (JnO.of [.bit true, .wait 3, .mask [6, 7, 8], .ren []] (p := [(!r9.2.2) = true]) (by kernel_rfl) (cj1 (nt h13))))
def impl_GetField_c2 (o : List Int) (a2 : Int) (r2 : Int) (r9 : Int × Int × Bool) : Option (Int × ByteArray × Bool) :=
 if (r2 == 1) = true then
 (impl_GetBcd o r9.1 r9.2.1).bind fun r11 =>
 some (r11.2.1, r11.1, r11.2.2)
 else
 if (r2 == 3) = true then
 (impl_GetBcd o r9.1 r9.2.1).bind fun r12 =>
 some (r12.2.1, r12.1, r12.2.2)
 else
 (impl_piece o r9.1 r9.2.1).bind fun r13 =>
 some (i64 (r9.1 + r9.2.1), bstr r13.1, r13.2)
theorem impl_GetField_c2_ok (o : List Int) (a2 : Int) (r2 : Int) (r9 : Int × Int × Bool) : Pn (JnO Tryd.prog (sub (codeOf Tryd.prog 142) [1, 1, 1, 1, 0]) (st 75 [(0, V.sl false 5 (List.map E5 o)), (1, V.sc (.int .i64 r9.1)), (2, V.sc (.int .i64 a2)), (9, V.sc (.int .i64 r9.2.1)), (11, V.sc (.int .i64 r2))] [] []) (fun (y : Int × ByteArray × Bool) => (X.go, st 75 [(1, V.sc (.int .i64 y.1)), (2, V.sc (.int .i64 a2)), (10, V.sc (.string y.2.1)), (12, V.sc (.bool y.2.2))] [] []))) (impl_GetField_c2 o a2 r2 r9) := by
  unfold impl_GetField_c2
  exact
   Pn.ite (fun h17 =>
   Pn.bind (fun r11 h18 =>
   Pn.some (JnO.of [.bit true, .bit true, .bit true, .bit true, .call [] (V.tup [E9 r11.1, E3 r11.2.1, E4 r11.2.2]) [], .wait 8, .mask [1, 2, 10, 12], .ren []] (p := [(r2 == 1) = true,
    (r2 == 1) = true,
    (r2 == 1) = true,
    true = true,
    Fn Tryd.prog 139 [(false, E40 o), (false, E3 r9.1), (false, E3 r9.2.1)] (V.tup [E9 r11.1, E3 r11.2.1, E4 r11.2.2]) [],
    (true || ((V.tup [E9 r11.1, E3 r11.2.1, E4 r11.2.2]).nv && nvL [])) = true]) (by kernel_rfl) (cj h17 (cj h17 (cj h17 (cj rfl (cj (impl_GetBcd_ok o r9.1 r9.2.1 r11 h18) (cj1 rfl))))))))) (fun h17 =>
   Pn.ite (fun h19 =>
   Pn.bind (fun r12 h20 =>
   Pn.some (JnO.of [.bit false, .bit false, .bit false, .bit true, .call [] (V.tup [E9 r12.1, E3 r12.2.1, E4 r12.2.2]) [], .wait 8, .mask [1, 2, 10, 12], .ren []] (p := [(r2 == 1) = false,
    (r2 == 1) = false,
    (r2 == 1) = false,
    (r2 == 3) = true,
    Fn Tryd.prog 139 [(false, E40 o), (false, E3 r9.1), (false, E3 r9.2.1)] (V.tup [E9 r12.1, E3 r12.2.1, E4 r12.2.2]) [],
    (true || ((V.tup [E9 r12.1, E3 r12.2.1, E4 r12.2.2]).nv && nvL [])) = true]) (by kernel_rfl) (cj h17 (cj h17 (cj h17 (cj h19 (cj (impl_GetBcd_ok o r9.1 r9.2.1 r12 h20) (cj1 rfl))))))))) (fun h19 =>
   Pn.bind (fun r13 h21 =>
   Pn.some (JnO.of [.bit false, .bit false, .bit false, .bit false, .call [] (V.tup [(E40 r13.1).vw, E4 r13.2]) [], .ints r13.1, .wait 6, .mask [1, 2, 10, 12], .ren []] (p := [(r2 == 1) = false,
    (r2 == 1) = false,
    (r2 == 1) = false,
    (r2 == 3) = false,
    Fn Tryd.prog 166 [(false, E40 o), (false, E3 r9.1), (false, E3 r9.2.1)] (V.tup [(E40 r13.1).vw, E4 r13.2]) [],
    (true || ((V.tup [(E40 r13.1).vw, E4 r13.2]).nv && nvL [])) = true,
    (List.map E5 r13.1) = r13.1.map fun n => V.sc (.int .u8 n)]) (by kernel_rfl) (cj h17 (cj h17 (cj h17 (cj h19 (cj (impl_piece_ok o r9.1 r9.2.1 r13 h21) (cj rfl (cj1 rfl)))))))))))
def impl_GetField_c3 (a2 : Int) (r14 : Int × ByteArray × Bool) : Option (Lo Unit Unit) :=
 if r14.2.2 = true then
 (impl_FieldOk a2 r14.2.1).bind fun r15 =>
 if r15 = true then
 some (.out ())
 else
 some (.ret ())
 else
 some (.ret ())
theorem impl_GetField_c3_ok (a2 : Int) (r14 : Int × ByteArray × Bool) : Pn (JnO Tryd.prog (sub (codeOf Tryd.prog 142) [1, 1, 1, 1, 1, 0]) (st 75 [(1, V.sc (.int .i64 r14.1)), (2, V.sc (.int .i64 a2)), (10, V.sc (.string r14.2.1)), (12, V.sc (.bool r14.2.2))] [] []) (fun (y : Lo Unit Unit) => Lo.elim y (fun s => (X.go, st 75 [(1, V.sc (.int .i64 r14.1)), (10, V.sc (.string r14.2.1))] [] [])) (fun s => (X.ret, st 75 [(6, V.sc (.string (bs []))), (7, V.sc (.int .i64 0)), (8, V.sc (.bool false))] [] [])))) (impl_GetField_c3 a2 r14) := by
  unfold impl_GetField_c3
  exact
   Pn.ite (fun h23 =>
   Pn.bind (fun r15 h24 =>
   Pn.ite (fun h25 =>
   Pn.some (JnO.of [.bit false, .bit false, .bit false, .call [] (E4 r15) [], .bit false, .bit false, .bit false, .mask [1, 10], .ren []] (p := [(!r14.2.2) = false,
    (!r14.2.2) = false,
    (!r14.2.2) = false,
    Fn Tryd.prog 93 [(false, E3 a2), (false, E9 r14.2.1)] (E4 r15) [],
    (true || ((E4 r15).nv && nvL [])) = true,
    (!r14.2.2) = false,
    (!r14.2.2) = false,
    (!r15) = false]) (by kernel_rfl) (cj (nf h23) (cj (nf h23) (cj (nf h23) (cj (impl_FieldOk_ok a2 r14.2.1 r15 h24) (cj rfl (cj (nf h23) (cj (nf h23) (cj1 (nf h25))))))))))) (fun h25 =>
   Pn.some (JnO.of [.bit false, .bit false, .bit false, .call [] (E4 r15) [], .bit false, .bit false, .bit true, .wait 3, .mask [6, 7, 8], .ren []] (p := [(!r14.2.2) = false,
    (!r14.2.2) = false,
    (!r14.2.2) = false,
    Fn Tryd.prog 93 [(false, E3 a2), (false, E9 r14.2.1)] (E4 r15) [],
    (true || ((E4 r15).nv && nvL [])) = true,
    (!r14.2.2) = false,
    (!r14.2.2) = false,
    (!r15) = true]) (by kernel_rfl) (cj (nf h23) (cj (nf h23) (cj (nf h23) (cj (impl_FieldOk_ok a2 r14.2.1 r15 h24) (cj rfl (cj (nf h23) (cj (nf h23) (cj1 (nt h25))))))))))))) (fun h23 =>
   Pn.some (JnO.of [.bit true, .bit true, .bit true, .bit true, .bit true, .bit true, .wait 3, .mask [6, 7, 8], .ren []] (p := [(!r14.2.2) = true,
    (!r14.2.2) = true,
    (!r14.2.2) = true,
    (!r14.2.2) = true,
    (!r14.2.2) = true,
    true = true]) (by kernel_rfl) (cj (nt h23) (cj (nt h23) (cj (nt h23) (cj (nt h23) (cj (nt h23) (cj1 rfl))))))))
def impl_GetField (o : List Int) (o_ : Int) (a2 : Int) : Option (ByteArray × Int × Bool) :=
 (impl_FieldSize a2).bind fun r1 =>
 (impl_FieldKind a2).bind fun r2 =>
 (impl_GetField_c0 o o_ a2 r1 r2).bind fun r9 =>
 (impl_GetField_c1 o a2 r2 r9).bind fun r10 =>
 Lo.elim r10 (fun s1 =>
 (impl_GetField_c2 o a2 r2 r9).bind fun r14 =>
 (impl_GetField_c3 a2 r14).bind fun r16 =>
 Lo.elim r16 (fun s3 =>
 some (r14.2.1, r14.1, true)) (fun s4 =>
 some (bs [], 0, false))) (fun s2 =>
 some (bs [], 0, false))
theorem impl_GetField_ok (o : List Int) (o_ : Int) (a2 : Int) : Pn (fun y => Fn Tryd.prog 142 [(false, E40 o), (false, E3 o_), (false, E3 a2)] (V.tup [E9 y.1, E3 y.2.1, E4 y.2.2]) []) (impl_GetField o o_ a2) := by
  unfold impl_GetField
  exact
   Pn.bind (fun r1 h1 =>
   Pn.bind (fun r2 h2 =>
   Pn.bind (fun r9 h12 =>
   Pn.bind (fun r10 h14 =>
   Pn.lo (fun s1 h15 =>
   Pn.bind (fun r14 h22 =>
   Pn.bind (fun r16 h26 =>
   Pn.lo (fun s3 h27 =>
   Pn.some (Fn.of [.call [] (E3 r1) [], .call [] (E3 r2) [], .wait 5, .mask [0, 1, 2, 9, 11, 12], .ren [], .join 5 (X.go) (st 75 [(0, V.sl false 5 (List.map E5 o)), (1, V.sc (.int .i64 r9.1)), (2, V.sc (.int .i64 a2)), (9, V.sc (.int .i64 r9.2.1)), (11, V.sc (.int .i64 r2)), (12, V.sc (.bool r9.2.2))] [] []), .wait 1, .mask [0, 1, 2, 9, 11, 12], .ren [], .join 7 (X.go) (st 75 [(0, V.sl false 5 (List.map E5 o)), (1, V.sc (.int .i64 r9.1)), (2, V.sc (.int .i64 a2)), (9, V.sc (.int .i64 r9.2.1)), (11, V.sc (.int .i64 r2))] [] []), .wait 1, .mask [0, 1, 2, 9, 11], .ren [], .join 9 (X.go) (st 75 [(1, V.sc (.int .i64 r14.1)), (2, V.sc (.int .i64 a2)), (10, V.sc (.string r14.2.1)), (12, V.sc (.bool r14.2.2))] [] []), .wait 1, .mask [1, 2, 10, 12], .ren [], .join 7 (X.go) (st 75 [(1, V.sc (.int .i64 r14.1)), (10, V.sc (.string r14.2.1))] [] [])] (p := [Fn Tryd.prog 167 [(false, E3 a2)] (E3 r1) [],
    (true || ((E3 r1).nv && nvL [])) = true,
    Fn Tryd.prog 141 [(false, E3 a2)] (E3 r2) [],
    (true || ((E3 r2).nv && nvL [])) = true,
    HT Tryd.prog (sub (codeOf Tryd.prog 142) [1, 1, 0]) (st 75 [(0, V.sl false 5 (List.map E5 o)), (1, V.sc (.int .i64 o_)), (2, V.sc (.int .i64 a2)), (9, V.sc (.int .i64 r1)), (11, V.sc (.int .i64 r2)), (12, V.sc (.bool true))] [] []) (X.go) (st 75 [(0, V.sl false 5 (List.map E5 o)), (1, V.sc (.int .i64 r9.1)), (2, V.sc (.int .i64 a2)), (9, V.sc (.int .i64 r9.2.1)), (11, V.sc (.int .i64 r2)), (12, V.sc (.bool r9.2.2))] [] []),
    HT Tryd.prog (sub (codeOf Tryd.prog 142) [1, 1, 1, 0]) (st 75 [(0, V.sl false 5 (List.map E5 o)), (1, V.sc (.int .i64 r9.1)), (2, V.sc (.int .i64 a2)), (9, V.sc (.int .i64 r9.2.1)), (11, V.sc (.int .i64 r2)), (12, V.sc (.bool r9.2.2))] [] []) (X.go) (st 75 [(0, V.sl false 5 (List.map E5 o)), (1, V.sc (.int .i64 r9.1)), (2, V.sc (.int .i64 a2)), (9, V.sc (.int .i64 r9.2.1)), (11, V.sc (.int .i64 r2))] [] []),
    HT Tryd.prog (sub (codeOf Tryd.prog 142) [1, 1, 1, 1, 0]) (st 75 [(0, V.sl false 5 (List.map E5 o)), (1, V.sc (.int .i64 r9.1)), (2, V.sc (.int .i64 a2)), (9, V.sc (.int .i64 r9.2.1)), (11, V.sc (.int .i64 r2))] [] []) (X.go) (st 75 [(1, V.sc (.int .i64 r14.1)), (2, V.sc (.int .i64 a2)), (10, V.sc (.string r14.2.1)), (12, V.sc (.bool r14.2.2))] [] []),
    HT Tryd.prog (sub (codeOf Tryd.prog 142) [1, 1, 1, 1, 1, 0]) (st 75 [(1, V.sc (.int .i64 r14.1)), (2, V.sc (.int .i64 a2)), (10, V.sc (.string r14.2.1)), (12, V.sc (.bool r14.2.2))] [] []) (X.go) (st 75 [(1, V.sc (.int .i64 r14.1)), (10, V.sc (.string r14.2.1))] [] [])]) (by kernel_rfl) (cj (impl_FieldSize_ok a2 r1 h1) (cj rfl (cj (impl_FieldKind_ok a2 r2 h2) (cj rfl (cj (impl_GetField_c0_ok o o_ a2 r1 r2 r9 h12) (cj ((impl_GetField_c1_ok o a2 r2 r9 r10 h14).at h15) (cj (impl_GetField_c2_ok o a2 r2 r9 r14 h22) (cj1 ((impl_GetField_c3_ok a2 r14 r16 h26).at h27))))))))))) (fun s4 h28 =>
   Pn.some (Fn.of [.call [] (E3 r1) [], .call [] (E3 r2) [], .wait 5, .mask [0, 1, 2, 9, 11, 12], .ren [], .join 5 (X.go) (st 75 [(0, V.sl false 5 (List.map E5 o)), (1, V.sc (.int .i64 r9.1)), (2, V.sc (.int .i64 a2)), (9, V.sc (.int .i64 r9.2.1)), (11, V.sc (.int .i64 r2)), (12, V.sc (.bool r9.2.2))] [] []), .wait 1, .mask [0, 1, 2, 9, 11, 12], .ren [], .join 7 (X.go) (st 75 [(0, V.sl false 5 (List.map E5 o)), (1, V.sc (.int .i64 r9.1)), (2, V.sc (.int .i64 a2)), (9, V.sc (.int .i64 r9.2.1)), (11, V.sc (.int .i64 r2))] [] []), .wait 1, .mask [0, 1, 2, 9, 11], .ren [], .join 9 (X.go) (st 75 [(1, V.sc (.int .i64 r14.1)), (2, V.sc (.int .i64 a2)), (10, V.sc (.string r14.2.1)), (12, V.sc (.bool r14.2.2))] [] []), .wait 1, .mask [1, 2, 10, 12], .ren [], .join 7 (X.ret) (st 75 [(6, V.sc (.string (bs []))), (7, V.sc (.int .i64 0)), (8, V.sc (.bool false))] [] [])] (p := [Fn Tryd.prog 167 [(false, E3 a2)] (E3 r1) [],
    (true || ((E3 r1).nv && nvL [])) = true,
    Fn Tryd.prog 141 [(false, E3 a2)] (E3 r2) [],
    (true || ((E3 r2).nv && nvL [])) = true,
    HT Tryd.prog (sub (codeOf Tryd.prog 142) [1, 1, 0]) (st 75 [(0, V.sl false 5 (List.map E5 o)), (1, V.sc (.int .i64 o_)), (2, V.sc (.int .i64 a2)), (9, V.sc (.int .i64 r1)), (11, V.sc (.int .i64 r2)), (12, V.sc (.bool true))] [] []) (X.go) (st 75 [(0, V.sl false 5 (List.map E5 o)), (1, V.sc (.int .i64 r9.1)), (2, V.sc (.int .i64 a2)), (9, V.sc (.int .i64 r9.2.1)), (11, V.sc (.int .i64 r2)), (12, V.sc (.bool r9.2.2))] [] []),
    HT Tryd.prog (sub (codeOf Tryd.prog 142) [1, 1, 1, 0]) (st 75 [(0, V.sl false 5 (List.map E5 o)), (1, V.sc (.int .i64 r9.1)), (2, V.sc (.int .i64 a2)), (9, V.sc (.int .i64 r9.2.1)), (11, V.sc (.int .i64 r2)), (12, V.sc (.bool r9.2.2))] [] []) (X.go) (st 75 [(0, V.sl false 5 (List.map E5 o)), (1, V.sc (.int .i64 r9.1)), (2, V.sc (.int .i64 a2)), (9, V.sc (.int .i64 r9.2.1)), (11, V.sc (.int .i64 r2))] [] []),
    HT Tryd.prog (sub (codeOf Tryd.prog 142) [1, 1, 1, 1, 0]) (st 75 [(0, V.sl false 5 (List.map E5 o)), (1, V.sc (.int .i64 r9.1)), (2, V.sc (.int .i64 a2)), (9, V.sc (.int .i64 r9.2.1)), (11, V.sc (.int .i64 r2))] [] []) (X.go) (st 75 [(1, V.sc (.int .i64 r14.1)), (2, V.sc (.int .i64 a2)), (10, V.sc (.string r14.2.1)), (12, V.sc (.bool r14.2.2))] [] []),
    HT Tryd.prog (sub (codeOf Tryd.prog 142) [1, 1, 1, 1, 1, 0]) (st 75 [(1, V.sc (.int .i64 r14.1)), (2, V.sc (.int .i64 a2)), (10, V.sc (.string r14.2.1)), (12, V.sc (.bool r14.2.2))] [] []) (X.ret) (st 75 [(6, V.sc (.string (bs []))), (7, V.sc (.int .i64 0)), (8, V.sc (.bool false))] [] [])]) (by kernel_rfl) (cj (impl_FieldSize_ok a2 r1 h1) (cj rfl (cj (impl_FieldKind_ok a2 r2 h2) (cj rfl (cj (impl_GetField_c0_ok o o_ a2 r1 r2 r9 h12) (cj ((impl_GetField_c1_ok o a2 r2 r9 r10 h14).at h15) (cj (impl_GetField_c2_ok o a2 r2 r9 r14 h22) (cj1 ((impl_GetField_c3_ok a2 r14 r16 h26).at h28)))))))))))))) (fun s2 h16 =>
   Pn.some (Fn.of [.call [] (E3 r1) [], .call [] (E3 r2) [], .wait 5, .mask [0, 1, 2, 9, 11, 12], .ren [], .join 5 (X.go) (st 75 [(0, V.sl false 5 (List.map E5 o)), (1, V.sc (.int .i64 r9.1)), (2, V.sc (.int .i64 a2)), (9, V.sc (.int .i64 r9.2.1)), (11, V.sc (.int .i64 r2)), (12, V.sc (.bool r9.2.2))] [] []), .wait 1, .mask [0, 1, 2, 9, 11, 12], .ren [], .join 7 (X.ret) (st 75 [(6, V.sc (.string (bs []))), (7, V.sc (.int .i64 0)), (8, V.sc (.bool false))] [] [])] (p := [Fn Tryd.prog 167 [(false, E3 a2)] (E3 r1) [],
    (true || ((E3 r1).nv && nvL [])) = true,
    Fn Tryd.prog 141 [(false, E3 a2)] (E3 r2) [],
    (true || ((E3 r2).nv && nvL [])) = true,
    HT Tryd.prog (sub (codeOf Tryd.prog 142) [1, 1, 0]) (st 75 [(0, V.sl false 5 (List.map E5 o)), (1, V.sc (.int .i64 o_)), (2, V.sc (.int .i64 a2)), (9, V.sc (.int .i64 r1)), (11, V.sc (.int .i64 r2)), (12, V.sc (.bool true))] [] []) (X.go) (st 75 [(0, V.sl false 5 (List.map E5 o)), (1, V.sc (.int .i64 r9.1)), (2, V.sc (.int .i64 a2)), (9, V.sc (.int .i64 r9.2.1)), (11, V.sc (.int .i64 r2)), (12, V.sc (.bool r9.2.2))] [] []),
    HT Tryd.prog (sub (codeOf Tryd.prog 142) [1, 1, 1, 0]) (st 75 [(0, V.sl false 5 (List.map E5 o)), (1, V.sc (.int .i64 r9.1)), (2, V.sc (.int .i64 a2)), (9, V.sc (.int .i64 r9.2.1)), (11, V.sc (.int .i64 r2)), (12, V.sc (.bool r9.2.2))] [] []) (X.ret) (st 75 [(6, V.sc (.string (bs []))), (7, V.sc (.int .i64 0)), (8, V.sc (.bool false))] [] [])]) (by kernel_rfl) (cj (impl_FieldSize_ok a2 r1 h1) (cj rfl (cj (impl_FieldKind_ok a2 r2 h2) (cj rfl (cj (impl_GetField_c0_ok o o_ a2 r1 r2 r9 h12) (cj1 ((impl_GetField_c1_ok o a2 r2 r9 r10 h14).at h16)))))))))))))
def impl_Parse_c0 (o : List Int) (r1 : ByteArray × Int × Bool) : Option (Lo Unit Unit) :=
 if r1.2.2 = true then
 some (.out ())
 else
 some (.ret ())
theorem impl_Parse_c0_ok (o : List Int) (r1 : ByteArray × Int × Bool) : Pn (JnO Tryd.prog (sub (codeOf Tryd.prog 110) [1, 1, 0]) (st 128 [(0, V.sl false 5 (List.map E5 o)), (2, V.ptr 0 0), (4, V.sc (.string r1.1)), (5, V.sc (.int .i64 r1.2.1)), (6, V.sc (.bool r1.2.2))] [Blk.box 36 [V.sc (.string ByteArray.empty), V.nl 71]] []) (fun (y : Lo Unit Unit) => Lo.elim y (fun s => (X.go, st 128 [(0, V.sl false 5 (List.map E5 o)), (2, V.ptr 0 0), (4, V.sc (.string r1.1)), (5, V.sc (.int .i64 r1.2.1))] [Blk.box 36 [V.sc (.string ByteArray.empty), V.nl 71]] [])) (fun s => (X.ret, st 128 [(2, V.ptr 0 0), (3, V.sc (.int .i64 1))] [Blk.box 36 [V.sc (.string ByteArray.empty), V.nl 71]] [])))) (impl_Parse_c0 o r1) := by
  unfold impl_Parse_c0
  exact
   Pn.ite (fun h2 =>
   Pn.some (JnO.of [.bit false, .mask [0, 2, 4, 5], .ren [0]] (p := [(!r1.2.2) = false]) (by kernel_rfl) (cj1 (nf h2)))) (fun h2 =>
   Pn.some (JnO.of [.bit true, .wait 3, .mask [2, 3], .ren [0]] (p := [(!r1.2.2) = true]) (by kernel_rfl) (cj1 (nt h2))))
def impl_Parse_c1 (o : List Int) (r1 : ByteArray × Int × Bool) (r3 : (List Int) × Int × Bool) : Option (Lo Unit Unit) :=
 if r3.2.2 = true then
 some (.out ())
 else
 some (.ret ())
theorem impl_Parse_c1_ok (o : List Int) (r1 : ByteArray × Int × Bool) (r3 : (List Int) × Int × Bool) : Pn (JnO Tryd.prog (sub (codeOf Tryd.prog 110) [1, 1, 1, 1, 0]) (st 128 [(0, V.sl false 5 (List.map E5 o)), (2, V.ptr 0 0), (4, V.sc (.string r1.1)), (5, V.sc (.int .i64 r3.2.1)), (6, V.sc (.bool r3.2.2)), (7, V.ow 1)] [Blk.box 36 [V.sc (.string ByteArray.empty), V.nl 71], Blk.row 3 (List.map E3 r3.1) []] []) (fun (y : Lo Unit Unit) => Lo.elim y (fun s => (X.go, st 128 [(0, V.sl false 5 (List.map E5 o)), (2, V.ptr 0 0), (4, V.sc (.string r1.1)), (5, V.sc (.int .i64 r3.2.1)), (7, V.ow 1)] [Blk.box 36 [V.sc (.string ByteArray.empty), V.nl 71], Blk.row 3 (List.map E3 r3.1) []] [])) (fun s => (X.ret, st 128 [(2, V.ptr 0 0), (3, V.sc (.int .i64 2))] [Blk.box 36 [V.sc (.string ByteArray.empty), V.nl 71]] [])))) (impl_Parse_c1 o r1 r3) := by
  unfold impl_Parse_c1
  exact
   Pn.ite (fun h7 =>
   Pn.some (JnO.of [.bit false, .mask [0, 2, 4, 5, 7], .ren [0, 1]] (p := [(!r3.2.2) = false]) (by kernel_rfl) (cj1 (nf h7)))) (fun h7 =>
   Pn.some (JnO.of [.bit true, .wait 3, .mask [2, 3], .ren [0]] (p := [(!r3.2.2) = true]) (by kernel_rfl) (cj1 (nt h7))))
def impl_Parse_c4 (o : List Int) (r1 : ByteArray × Int × Bool) (r3 : (List Int) × Int × Bool) (v1 : Int) (v2 : Bool) (v3 : List Int) : Option (Lo Unit Unit) :=
 if (decide (v1 < (r3.1.length : Int))) = true then
 some (.out ())
 else
 some (.ret ())
theorem impl_Parse_c4_ok (o : List Int) (r1 : ByteArray × Int × Bool) (r3 : (List Int) × Int × Bool) (v1 : Int) (v2 : Bool) (v3 : List Int) : Pn (JnO Tryd.prog (sub (codeOf Tryd.prog 110) [1, 1, 1, 1, 1, 1, 0, 1, 0, 0, 1, 0]) (st 128 [(0, V.sl false 5 (List.map E5 o)), (2, V.ptr 0 0), (4, V.sc (.string r1.1)), (5, V.sc (.int .i64 r3.2.1)), (8, V.ow 1), (9, V.sc (.bool v2)), (41, V.ow 2), (42, V.sc (.int .i64 (r3.1.length : Int))), (43, V.sc (.int .i64 v1)), (44, V.sc (.bool (decide (v1 < (r3.1.length : Int)))))] [Blk.box 36 [V.sc (.string ByteArray.empty), V.nl 71], Blk.row 3 (List.map E3 v3) [], Blk.row 3 (List.map E3 r3.1) []] []) (fun (y : Lo Unit Unit) => Lo.elim y (fun s => (X.go, st 128 [(0, V.sl false 5 (List.map E5 o)), (2, V.ptr 0 0), (4, V.sc (.string r1.1)), (5, V.sc (.int .i64 r3.2.1)), (8, V.ow 1), (9, V.sc (.bool v2)), (41, V.ow 2), (42, V.sc (.int .i64 (r3.1.length : Int))), (43, V.sc (.int .i64 v1))] [Blk.box 36 [V.sc (.string ByteArray.empty), V.nl 71], Blk.row 3 (List.map E3 v3) [], Blk.row 3 (List.map E3 r3.1) []] [])) (fun s => (X.out 0, st 128 [(0, V.sl false 5 (List.map E5 o)), (2, V.ptr 0 0), (4, V.sc (.string r1.1)), (5, V.sc (.int .i64 r3.2.1)), (8, V.ow 1), (9, V.sc (.bool v2))] [Blk.box 36 [V.sc (.string ByteArray.empty), V.nl 71], Blk.row 3 (List.map E3 v3) []] [])))) (impl_Parse_c4 o r1 r3 v1 v2 v3) := by
  unfold impl_Parse_c4
  exact
   Pn.ite (fun h11 =>
   Pn.some (JnO.of [.bit true, .mask [0, 2, 4, 5, 8, 9, 41, 42, 43], .ren [0, 1, 2]] (p := [(decide (v1 < (r3.1.length : Int))) = true]) (by kernel_rfl) (cj1 h11))) (fun h11 =>
   Pn.some (JnO.of [.bit false, .mask [0, 2, 4, 5, 8, 9], .ren [0, 1]] (p := [(decide (v1 < (r3.1.length : Int))) = false]) (by kernel_rfl) (cj1 h11)))
def impl_Parse_c5 (o : List Int) (r1 : ByteArray × Int × Bool) (r3 : (List Int) × Int × Bool) (v1 : Int) (v2 : Bool) (v3 : List Int) : Option (Lo (Bool × (List Int)) Unit) :=
 if (decide (0 ≤ v1)) = true then
 (r3.1[v1.toNat]?).bind fun x1 =>
 if (x1 == 1) = true then
 some (.out (true, v3))
 else
 (impl_FieldKind x1).bind fun r6 =>
 if (r6 == 0) = true then
 some (.ret ())
 else
 if (capOk (v3.length + 1)) = true then
 some (.out (v2, (v3 ++ [x1])))
 else none
 else none
theorem impl_Parse_c5_ok (o : List Int) (r1 : ByteArray × Int × Bool) (r3 : (List Int) × Int × Bool) (v1 : Int) (v2 : Bool) (v3 : List Int) : Pn (JnO Tryd.prog (sub (codeOf Tryd.prog 110) [1, 1, 1, 1, 1, 1, 0, 1, 0, 0, 1, 1, 0]) (st 128 [(0, V.sl false 5 (List.map E5 o)), (2, V.ptr 0 0), (4, V.sc (.string r1.1)), (5, V.sc (.int .i64 r3.2.1)), (8, V.ow 1), (9, V.sc (.bool v2)), (41, V.ow 2), (42, V.sc (.int .i64 (r3.1.length : Int))), (43, V.sc (.int .i64 v1))] [Blk.box 36 [V.sc (.string ByteArray.empty), V.nl 71], Blk.row 3 (List.map E3 v3) [], Blk.row 3 (List.map E3 r3.1) []] []) (fun (y : Lo (Bool × (List Int)) Unit) => Lo.elim y (fun s => (X.go, st 128 [(0, V.sl false 5 (List.map E5 o)), (2, V.ptr 0 0), (4, V.sc (.string r1.1)), (5, V.sc (.int .i64 r3.2.1)), (8, V.ow 1), (9, V.sc (.bool s.1)), (41, V.ow 2), (42, V.sc (.int .i64 (r3.1.length : Int))), (43, V.sc (.int .i64 v1))] [Blk.box 36 [V.sc (.string ByteArray.empty), V.nl 71], Blk.row 3 (List.map E3 s.2) [], Blk.row 3 (List.map E3 r3.1) []] [])) (fun s => (X.ret, st 128 [(2, V.ptr 0 0), (3, V.sc (.int .i64 2))] [Blk.box 36 [V.sc (.string ByteArray.empty), V.nl 71]] [])))) (impl_Parse_c5 o r1 r3 v1 v2 v3) := by
  unfold impl_Parse_c5
  exact
   Pn.ite (fun h15 =>
   Pn.bind (fun x1 h16 =>
   Pn.ite (fun h17 =>
   Pn.some (JnO.of [.el (E3 x1), .bit true, .wait 1, .mask [0, 2, 4, 5, 8, 9, 41, 42, 43], .ren [0, 1, 2]] (p := [(0 : Int) ≤ v1,
    (v1 : Int) < ((List.map E3 r3.1).length : Int),
    look [] v1.toNat = none,
    (List.map E3 r3.1)[v1.toNat]? = some (E3 x1),
    (x1 == 1) = true]) (by kernel_rfl) (cj (od h15) (cj (map_ltN (od h15) h16) (cj rfl (cj (map_get h16) (cj1 h17))))))) (fun h17 =>
   Pn.bind (fun r6 h18 =>
   Pn.ite (fun h19 =>
   Pn.some (JnO.of [.el (E3 x1), .bit false, .call [] (E3 r6) [], .bit true, .wait 3, .mask [2, 3], .ren [0]] (p := [(0 : Int) ≤ v1,
    (v1 : Int) < ((List.map E3 r3.1).length : Int),
    look [] v1.toNat = none,
    (List.map E3 r3.1)[v1.toNat]? = some (E3 x1),
    (x1 == 1) = false,
    Fn Tryd.prog 141 [(false, E3 x1)] (E3 r6) [],
    (true || ((E3 r6).nv && nvL [])) = true,
    (r6 == 0) = true]) (by kernel_rfl) (cj (od h15) (cj (map_ltN (od h15) h16) (cj rfl (cj (map_get h16) (cj h17 (cj (impl_FieldKind_ok x1 r6 h18) (cj rfl (cj1 h19)))))))))) (fun h19 =>
   Pn.ite (fun h20 =>
   Pn.some (JnO.of [.el (E3 x1), .bit false, .call [] (E3 r6) [], .bit false, .cp [V.sc (.int .i64 x1)], .nb 4 (.row 3 (List.map E3 (v3 ++ [x1])) []), .wait 2, .mask [0, 2, 4, 5, 8, 9, 41, 42, 43], .ren [0, 4, 2]] (p := [(0 : Int) ≤ v1,
    (v1 : Int) < ((List.map E3 r3.1).length : Int),
    look [] v1.toNat = none,
    (List.map E3 r3.1)[v1.toNat]? = some (E3 x1),
    (x1 == 1) = false,
    Fn Tryd.prog 141 [(false, E3 x1)] (E3 r6) [],
    (true || ((E3 r6).nv && nvL [])) = true,
    (r6 == 0) = false,
    [V.sc (.int .i64 x1)] = [V.sc (.int .i64 x1)],
    [V.sc (.int .i64 x1)].all V.flatE = true,
    (List.map E3 v3).length + [V.sc (.int .i64 x1)].length ≤ 9223372036854775807,
    ((List.map E3 v3).length + [V.sc (.int .i64 x1)].length) * 8 ≤ 140737488355328,
    Blk.row 3 ((List.map E3 v3) ++ [V.sc (.int .i64 x1)]) [] = Blk.row 3 (List.map E3 (v3 ++ [x1])) []]) (by kernel_rfl) (cj (od h15) (cj (map_ltN (od h15) h16) (cj rfl (cj (map_get h16) (cj h17 (cj (impl_FieldKind_ok x1 r6 h18) (cj rfl (cj h19 (cj rfl (cj rfl (cj (cap1 (capN (by simp) h20)) (cj (cap2 (capN (by simp) h20) (by decide)) (cj1 (nb_app E3 v3 [x1])))))))))))))))) (fun h20 =>
   Pn.none)))))) (fun h15 =>
   Pn.none)
def impl_Parse_l0 (o : List Int) (r1 : ByteArray × Int × Bool) (r3 : (List Int) × Int × Bool) : Nat → Int → Bool → (List Int) → Option (Lo (Bool × (List Int)) Unit)
  | 0, _, _, _ => none
  | fuel + 1, v1, v2, v3 =>
   (impl_Parse_c4 o r1 r3 v1 v2 v3).bind fun r5 =>
   Lo.elim r5 (fun s5 =>
   (impl_Parse_c5 o r1 r3 v1 v2 v3).bind fun r7 =>
   Lo.elim r7 (fun s7 =>
   impl_Parse_l0 o r1 r3 fuel (i64 (v1 + 1)) s7.1 s7.2) (fun s8 =>
   some (.ret ()))) (fun s6 =>
   some (.out (v2, v3)))
theorem impl_Parse_l0_ok (o : List Int) (r1 : ByteArray × Int × Bool) (r3 : (List Int) × Int × Bool) : ∀ (fuel : Nat) (v1 : Int) (v2 : Bool) (v3 : List Int), Pn (LpO Tryd.prog (sub (codeOf Tryd.prog 110) [1, 1, 1, 1, 1, 1, 0, 1, 0, 0]) (st 128 [(0, V.sl false 5 (List.map E5 o)), (2, V.ptr 0 0), (4, V.sc (.string r1.1)), (5, V.sc (.int .i64 r3.2.1)), (8, V.ow 1), (9, V.sc (.bool v2)), (41, V.ow 2), (42, V.sc (.int .i64 (r3.1.length : Int))), (43, V.sc (.int .i64 v1))] [Blk.box 36 [V.sc (.string ByteArray.empty), V.nl 71], Blk.row 3 (List.map E3 v3) [], Blk.row 3 (List.map E3 r3.1) []] []) (fun (y : Lo (Bool × (List Int)) Unit) => Lo.elim y (fun s => (X.out 0, st 128 [(0, V.sl false 5 (List.map E5 o)), (2, V.ptr 0 0), (4, V.sc (.string r1.1)), (5, V.sc (.int .i64 r3.2.1)), (8, V.ow 1), (9, V.sc (.bool s.1))] [Blk.box 36 [V.sc (.string ByteArray.empty), V.nl 71], Blk.row 3 (List.map E3 s.2) []] [])) (fun s => (X.ret, st 128 [(2, V.ptr 0 0), (3, V.sc (.int .i64 2))] [Blk.box 36 [V.sc (.string ByteArray.empty), V.nl 71]] [])))) (impl_Parse_l0 o r1 r3 fuel v1 v2 v3)
  | 0, _, _, _ => Pn.none
  | fuel + 1, v1, v2, v3 => by
    unfold impl_Parse_l0
    exact
     Pn.bind (fun r5 h12 =>
     Pn.lo (fun s5 h13 =>
     Pn.bind (fun r7 h21 =>
     Pn.lo (fun s7 h22 =>
     LpO.go [.wait 2, .mask [0, 2, 4, 5, 8, 9, 41, 42, 43, 44], .ren [0, 1, 2], .join 3 (X.go) (st 128 [(0, V.sl false 5 (List.map E5 o)), (2, V.ptr 0 0), (4, V.sc (.string r1.1)), (5, V.sc (.int .i64 r3.2.1)), (8, V.ow 1), (9, V.sc (.bool v2)), (41, V.ow 2), (42, V.sc (.int .i64 (r3.1.length : Int))), (43, V.sc (.int .i64 v1))] [Blk.box 36 [V.sc (.string ByteArray.empty), V.nl 71], Blk.row 3 (List.map E3 v3) [], Blk.row 3 (List.map E3 r3.1) []] []), .wait 1, .mask [0, 2, 4, 5, 8, 9, 41, 42, 43], .ren [0, 1, 2], .join 15 (X.go) (st 128 [(0, V.sl false 5 (List.map E5 o)), (2, V.ptr 0 0), (4, V.sc (.string r1.1)), (5, V.sc (.int .i64 r3.2.1)), (8, V.ow 1), (9, V.sc (.bool s7.1)), (41, V.ow 2), (42, V.sc (.int .i64 (r3.1.length : Int))), (43, V.sc (.int .i64 v1))] [Blk.box 36 [V.sc (.string ByteArray.empty), V.nl 71], Blk.row 3 (List.map E3 s7.2) [], Blk.row 3 (List.map E3 r3.1) []] []), .wait 3, .mask [0, 2, 4, 5, 8, 9, 41, 42, 43], .ren [0, 1, 2]] (p := [HT Tryd.prog (sub (codeOf Tryd.prog 110) [1, 1, 1, 1, 1, 1, 0, 1, 0, 0, 1, 0]) (st 128 [(0, V.sl false 5 (List.map E5 o)), (2, V.ptr 0 0), (4, V.sc (.string r1.1)), (5, V.sc (.int .i64 r3.2.1)), (8, V.ow 1), (9, V.sc (.bool v2)), (41, V.ow 2), (42, V.sc (.int .i64 (r3.1.length : Int))), (43, V.sc (.int .i64 v1)), (44, V.sc (.bool (decide (v1 < (r3.1.length : Int)))))] [Blk.box 36 [V.sc (.string ByteArray.empty), V.nl 71], Blk.row 3 (List.map E3 v3) [], Blk.row 3 (List.map E3 r3.1) []] []) (X.go) (st 128 [(0, V.sl false 5 (List.map E5 o)), (2, V.ptr 0 0), (4, V.sc (.string r1.1)), (5, V.sc (.int .i64 r3.2.1)), (8, V.ow 1), (9, V.sc (.bool v2)), (41, V.ow 2), (42, V.sc (.int .i64 (r3.1.length : Int))), (43, V.sc (.int .i64 v1))] [Blk.box 36 [V.sc (.string ByteArray.empty), V.nl 71], Blk.row 3 (List.map E3 v3) [], Blk.row 3 (List.map E3 r3.1) []] []),
      HT Tryd.prog (sub (codeOf Tryd.prog 110) [1, 1, 1, 1, 1, 1, 0, 1, 0, 0, 1, 1, 0]) (st 128 [(0, V.sl false 5 (List.map E5 o)), (2, V.ptr 0 0), (4, V.sc (.string r1.1)), (5, V.sc (.int .i64 r3.2.1)), (8, V.ow 1), (9, V.sc (.bool v2)), (41, V.ow 2), (42, V.sc (.int .i64 (r3.1.length : Int))), (43, V.sc (.int .i64 v1))] [Blk.box 36 [V.sc (.string ByteArray.empty), V.nl 71], Blk.row 3 (List.map E3 v3) [], Blk.row 3 (List.map E3 r3.1) []] []) (X.go) (st 128 [(0, V.sl false 5 (List.map E5 o)), (2, V.ptr 0 0), (4, V.sc (.string r1.1)), (5, V.sc (.int .i64 r3.2.1)), (8, V.ow 1), (9, V.sc (.bool s7.1)), (41, V.ow 2), (42, V.sc (.int .i64 (r3.1.length : Int))), (43, V.sc (.int .i64 v1))] [Blk.box 36 [V.sc (.string ByteArray.empty), V.nl 71], Blk.row 3 (List.map E3 s7.2) [], Blk.row 3 (List.map E3 r3.1) []] [])]) (by kernel_rfl) (cj ((impl_Parse_c4_ok o r1 r3 v1 v2 v3 r5 h12).at h13) (cj1 ((impl_Parse_c5_ok o r1 r3 v1 v2 v3 r7 h21).at h22))) (impl_Parse_l0_ok o r1 r3 fuel (i64 (v1 + 1)) s7.1 s7.2)) (fun s8 h23 =>
     Pn.some (LpO.out [.wait 2, .mask [0, 2, 4, 5, 8, 9, 41, 42, 43, 44], .ren [0, 1, 2], .join 3 (X.go) (st 128 [(0, V.sl false 5 (List.map E5 o)), (2, V.ptr 0 0), (4, V.sc (.string r1.1)), (5, V.sc (.int .i64 r3.2.1)), (8, V.ow 1), (9, V.sc (.bool v2)), (41, V.ow 2), (42, V.sc (.int .i64 (r3.1.length : Int))), (43, V.sc (.int .i64 v1))] [Blk.box 36 [V.sc (.string ByteArray.empty), V.nl 71], Blk.row 3 (List.map E3 v3) [], Blk.row 3 (List.map E3 r3.1) []] []), .wait 1, .mask [0, 2, 4, 5, 8, 9, 41, 42, 43], .ren [0, 1, 2], .join 15 (X.ret) (st 128 [(2, V.ptr 0 0), (3, V.sc (.int .i64 2))] [Blk.box 36 [V.sc (.string ByteArray.empty), V.nl 71]] []), .wait 1, .mask [2, 3], .ren [0]] (p := [HT Tryd.prog (sub (codeOf Tryd.prog 110) [1, 1, 1, 1, 1, 1, 0, 1, 0, 0, 1, 0]) (st 128 [(0, V.sl false 5 (List.map E5 o)), (2, V.ptr 0 0), (4, V.sc (.string r1.1)), (5, V.sc (.int .i64 r3.2.1)), (8, V.ow 1), (9, V.sc (.bool v2)), (41, V.ow 2), (42, V.sc (.int .i64 (r3.1.length : Int))), (43, V.sc (.int .i64 v1)), (44, V.sc (.bool (decide (v1 < (r3.1.length : Int)))))] [Blk.box 36 [V.sc (.string ByteArray.empty), V.nl 71], Blk.row 3 (List.map E3 v3) [], Blk.row 3 (List.map E3 r3.1) []] []) (X.go) (st 128 [(0, V.sl false 5 (List.map E5 o)), (2, V.ptr 0 0), (4, V.sc (.string r1.1)), (5, V.sc (.int .i64 r3.2.1)), (8, V.ow 1), (9, V.sc (.bool v2)), (41, V.ow 2), (42, V.sc (.int .i64 (r3.1.length : Int))), (43, V.sc (.int .i64 v1))] [Blk.box 36 [V.sc (.string ByteArray.empty), V.nl 71], Blk.row 3 (List.map E3 v3) [], Blk.row 3 (List.map E3 r3.1) []] []),
      HT Tryd.prog (sub (codeOf Tryd.prog 110) [1, 1, 1, 1, 1, 1, 0, 1, 0, 0, 1, 1, 0]) (st 128 [(0, V.sl false 5 (List.map E5 o)), (2, V.ptr 0 0), (4, V.sc (.string r1.1)), (5, V.sc (.int .i64 r3.2.1)), (8, V.ow 1), (9, V.sc (.bool v2)), (41, V.ow 2), (42, V.sc (.int .i64 (r3.1.length : Int))), (43, V.sc (.int .i64 v1))] [Blk.box 36 [V.sc (.string ByteArray.empty), V.nl 71], Blk.row 3 (List.map E3 v3) [], Blk.row 3 (List.map E3 r3.1) []] []) (X.ret) (st 128 [(2, V.ptr 0 0), (3, V.sc (.int .i64 2))] [Blk.box 36 [V.sc (.string ByteArray.empty), V.nl 71]] [])]) (by kernel_rfl) (show X.ret ≠ X.go from nofun) (cj ((impl_Parse_c4_ok o r1 r3 v1 v2 v3 r5 h12).at h13) (cj1 ((impl_Parse_c5_ok o r1 r3 v1 v2 v3 r7 h21).at h23))))))) (fun s6 h14 =>
     Pn.some (LpO.out [.wait 2, .mask [0, 2, 4, 5, 8, 9, 41, 42, 43, 44], .ren [0, 1, 2], .join 3 (X.out 0) (st 128 [(0, V.sl false 5 (List.map E5 o)), (2, V.ptr 0 0), (4, V.sc (.string r1.1)), (5, V.sc (.int .i64 r3.2.1)), (8, V.ow 1), (9, V.sc (.bool v2))] [Blk.box 36 [V.sc (.string ByteArray.empty), V.nl 71], Blk.row 3 (List.map E3 v3) []] []), .wait 1, .mask [0, 2, 4, 5, 8, 9], .ren [0, 1]] (p := [HT Tryd.prog (sub (codeOf Tryd.prog 110) [1, 1, 1, 1, 1, 1, 0, 1, 0, 0, 1, 0]) (st 128 [(0, V.sl false 5 (List.map E5 o)), (2, V.ptr 0 0), (4, V.sc (.string r1.1)), (5, V.sc (.int .i64 r3.2.1)), (8, V.ow 1), (9, V.sc (.bool v2)), (41, V.ow 2), (42, V.sc (.int .i64 (r3.1.length : Int))), (43, V.sc (.int .i64 v1)), (44, V.sc (.bool (decide (v1 < (r3.1.length : Int)))))] [Blk.box 36 [V.sc (.string ByteArray.empty), V.nl 71], Blk.row 3 (List.map E3 v3) [], Blk.row 3 (List.map E3 r3.1) []] []) (X.out 0) (st 128 [(0, V.sl false 5 (List.map E5 o)), (2, V.ptr 0 0), (4, V.sc (.string r1.1)), (5, V.sc (.int .i64 r3.2.1)), (8, V.ow 1), (9, V.sc (.bool v2))] [Blk.box 36 [V.sc (.string ByteArray.empty), V.nl 71], Blk.row 3 (List.map E3 v3) []] [])]) (by kernel_rfl) (show X.out 0 ≠ X.go from nofun) (cj1 ((impl_Parse_c4_ok o r1 r3 v1 v2 v3 r5 h12).at h14)))))
def impl_Parse_c7 (o : List Int) (r1 : ByteArray × Int × Bool) (s9 : Bool × (List Int)) (r9 : (List Int) × Int × Bool) : Option (Lo Unit Unit) :=
 if r9.2.2 = true then
 if ((r9.1.length : Int) == 0) = true then
 some (.ret ())
 else
 some (.out ())
 else
 some (.ret ())
theorem impl_Parse_c7_ok (o : List Int) (r1 : ByteArray × Int × Bool) (s9 : Bool × (List Int)) (r9 : (List Int) × Int × Bool) : Pn (JnO Tryd.prog (sub (codeOf Tryd.prog 110) [1, 1, 1, 1, 1, 1, 1, 0, 1, 0, 1, 1, 0]) (st 128 [(0, V.sl false 5 (List.map E5 o)), (2, V.ptr 0 0), (4, V.sc (.string r1.1)), (5, V.sc (.int .i64 r9.2.1)), (6, V.sc (.bool r9.2.2)), (8, V.ow 1), (12, V.ow 2)] [Blk.box 36 [V.sc (.string ByteArray.empty), V.nl 71], Blk.row 3 (List.map E3 s9.2) [], Blk.row 3 (List.map E3 r9.1) []] []) (fun (y : Lo Unit Unit) => Lo.elim y (fun s => (X.go, st 128 [(0, V.sl false 5 (List.map E5 o)), (2, V.ptr 0 0), (4, V.sc (.string r1.1)), (5, V.sc (.int .i64 r9.2.1)), (8, V.ow 1), (12, V.ow 2)] [Blk.box 36 [V.sc (.string ByteArray.empty), V.nl 71], Blk.row 3 (List.map E3 s9.2) [], Blk.row 3 (List.map E3 r9.1) []] [])) (fun s => (X.ret, st 128 [(2, V.ptr 0 0), (3, V.sc (.int .i64 2))] [Blk.box 36 [V.sc (.string ByteArray.empty), V.nl 71]] [])))) (impl_Parse_c7 o r1 s9 r9) := by
  unfold impl_Parse_c7
  exact
   Pn.ite (fun h29 =>
   Pn.ite (fun h30 =>
   Pn.some (JnO.of [.bit false, .bit false, .nm 72 (V.sc (.int .i64 (r9.1.length : Int))), .bit false, .bit false, .bit true, .wait 3, .mask [2, 3], .ren [0]] (p := [(!r9.2.2) = false,
    (!r9.2.2) = false,
    V.sc (.int .i64 ((List.map E3 r9.1).length : Int)) = V.sc (.int .i64 (r9.1.length : Int)),
    (!r9.2.2) = false,
    (!r9.2.2) = false,
    ((r9.1.length : Int) == 0) = true]) (by kernel_rfl) (cj (nf h29) (cj (nf h29) (cj (len_nm _ _) (cj (nf h29) (cj (nf h29) (cj1 h30)))))))) (fun h30 =>
   Pn.some (JnO.of [.bit false, .bit false, .nm 72 (V.sc (.int .i64 (r9.1.length : Int))), .bit false, .bit false, .bit false, .mask [0, 2, 4, 5, 8, 12], .ren [0, 1, 2]] (p := [(!r9.2.2) = false,
    (!r9.2.2) = false,
    V.sc (.int .i64 ((List.map E3 r9.1).length : Int)) = V.sc (.int .i64 (r9.1.length : Int)),
    (!r9.2.2) = false,
    (!r9.2.2) = false,
    ((r9.1.length : Int) == 0) = false]) (by kernel_rfl) (cj (nf h29) (cj (nf h29) (cj (len_nm _ _) (cj (nf h29) (cj (nf h29) (cj1 h30))))))))) (fun h29 =>
   Pn.some (JnO.of [.bit true, .bit true, .bit true, .bit true, .bit true, .wait 3, .mask [2, 3], .ren [0]] (p := [(!r9.2.2) = true,
    (!r9.2.2) = true,
    (!r9.2.2) = true,
    (!r9.2.2) = true,
    true = true]) (by kernel_rfl) (cj (nt h29) (cj (nt h29) (cj (nt h29) (cj (nt h29) (cj1 rfl)))))))
def impl_Parse_c11 (o : List Int) (r1 : ByteArray × Int × Bool) (r9 : (List Int) × Int × Bool) (v4 : Int) (v5 : List Int) : Option (Lo Unit Unit) :=
 if (decide (v4 < (r9.1.length : Int))) = true then
 some (.out ())
 else
 some (.ret ())
theorem impl_Parse_c11_ok (o : List Int) (r1 : ByteArray × Int × Bool) (r9 : (List Int) × Int × Bool) (v4 : Int) (v5 : List Int) : Pn (JnO Tryd.prog (sub (codeOf Tryd.prog 110) [1, 1, 1, 1, 1, 1, 1, 0, 1, 0, 1, 1, 1, 1, 0, 0, 1, 0]) (st 128 [(0, V.sl false 5 (List.map E5 o)), (2, V.ptr 0 0), (4, V.sc (.string r1.1)), (5, V.sc (.int .i64 r9.2.1)), (8, V.ow 1), (76, V.ow 2), (77, V.sc (.int .i64 (r9.1.length : Int))), (78, V.sc (.int .i64 v4)), (79, V.sc (.bool (decide (v4 < (r9.1.length : Int)))))] [Blk.box 36 [V.sc (.string ByteArray.empty), V.nl 71], Blk.row 3 (List.map E3 v5) [], Blk.row 3 (List.map E3 r9.1) []] []) (fun (y : Lo Unit Unit) => Lo.elim y (fun s => (X.go, st 128 [(0, V.sl false 5 (List.map E5 o)), (2, V.ptr 0 0), (4, V.sc (.string r1.1)), (5, V.sc (.int .i64 r9.2.1)), (8, V.ow 1), (76, V.ow 2), (77, V.sc (.int .i64 (r9.1.length : Int))), (78, V.sc (.int .i64 v4))] [Blk.box 36 [V.sc (.string ByteArray.empty), V.nl 71], Blk.row 3 (List.map E3 v5) [], Blk.row 3 (List.map E3 r9.1) []] [])) (fun s => (X.out 3, st 128 [(0, V.sl false 5 (List.map E5 o)), (2, V.ptr 0 0), (4, V.sc (.string r1.1)), (5, V.sc (.int .i64 r9.2.1)), (8, V.ow 1)] [Blk.box 36 [V.sc (.string ByteArray.empty), V.nl 71], Blk.row 3 (List.map E3 v5) []] [])))) (impl_Parse_c11 o r1 r9 v4 v5) := by
  unfold impl_Parse_c11
  exact
   Pn.ite (fun h34 =>
   Pn.some (JnO.of [.bit true, .mask [0, 2, 4, 5, 8, 76, 77, 78], .ren [0, 1, 2]] (p := [(decide (v4 < (r9.1.length : Int))) = true]) (by kernel_rfl) (cj1 h34))) (fun h34 =>
   Pn.some (JnO.of [.bit false, .mask [0, 2, 4, 5, 8], .ren [0, 1]] (p := [(decide (v4 < (r9.1.length : Int))) = false]) (by kernel_rfl) (cj1 h34)))
def impl_Parse_c13 (o : List Int) (r1 : ByteArray × Int × Bool) (r9 : (List Int) × Int × Bool) (v4 : Int) (v5 : List Int) (x2 : Int) : Option (Lo Unit Unit) :=
 (impl_FieldKind (i64 (x2 + 64))).bind fun r12 =>
 if (r12 == 0) = true then
 some (.ret ())
 else
 some (.out ())
theorem impl_Parse_c13_ok (o : List Int) (r1 : ByteArray × Int × Bool) (r9 : (List Int) × Int × Bool) (v4 : Int) (v5 : List Int) (x2 : Int) : Pn (JnO Tryd.prog (sub (codeOf Tryd.prog 110) [1, 1, 1, 1, 1, 1, 1, 0, 1, 0, 1, 1, 1, 1, 0, 0, 1, 1, 0, 0, 1, 0]) (st 128 [(0, V.sl false 5 (List.map E5 o)), (2, V.ptr 0 0), (4, V.sc (.string r1.1)), (5, V.sc (.int .i64 r9.2.1)), (8, V.ow 1), (14, V.sc (.int .i64 x2)), (76, V.ow 2), (77, V.sc (.int .i64 (r9.1.length : Int))), (78, V.sc (.int .i64 v4))] [Blk.box 36 [V.sc (.string ByteArray.empty), V.nl 71], Blk.row 3 (List.map E3 v5) [], Blk.row 3 (List.map E3 r9.1) []] []) (fun (y : Lo Unit Unit) => Lo.elim y (fun s => (X.go, st 128 [(0, V.sl false 5 (List.map E5 o)), (2, V.ptr 0 0), (4, V.sc (.string r1.1)), (5, V.sc (.int .i64 r9.2.1)), (8, V.ow 1), (14, V.sc (.int .i64 x2)), (76, V.ow 2), (77, V.sc (.int .i64 (r9.1.length : Int))), (78, V.sc (.int .i64 v4))] [Blk.box 36 [V.sc (.string ByteArray.empty), V.nl 71], Blk.row 3 (List.map E3 v5) [], Blk.row 3 (List.map E3 r9.1) []] [])) (fun s => (X.ret, st 128 [(2, V.ptr 0 0), (3, V.sc (.int .i64 2))] [Blk.box 36 [V.sc (.string ByteArray.empty), V.nl 71]] [])))) (impl_Parse_c13 o r1 r9 v4 v5 x2) := by
  unfold impl_Parse_c13
  exact
   Pn.bind (fun r12 h40 =>
   Pn.ite (fun h41 =>
   Pn.some (JnO.of [.call [] (E3 r12) [], .bit true, .wait 3, .mask [2, 3], .ren [0]] (p := [Fn Tryd.prog 141 [(false, E3 (i64 (x2 + 64)))] (E3 r12) [],
    (true || ((E3 r12).nv && nvL [])) = true,
    (r12 == 0) = true]) (by kernel_rfl) (cj (impl_FieldKind_ok (i64 (x2 + 64)) r12 h40) (cj rfl (cj1 h41))))) (fun h41 =>
   Pn.some (JnO.of [.call [] (E3 r12) [], .bit false, .mask [0, 2, 4, 5, 8, 14, 76, 77, 78], .ren [0, 1, 2]] (p := [Fn Tryd.prog 141 [(false, E3 (i64 (x2 + 64)))] (E3 r12) [],
    (true || ((E3 r12).nv && nvL [])) = true,
    (r12 == 0) = false]) (by kernel_rfl) (cj (impl_FieldKind_ok (i64 (x2 + 64)) r12 h40) (cj rfl (cj1 h41))))))
def impl_Parse_c12 (o : List Int) (r1 : ByteArray × Int × Bool) (r9 : (List Int) × Int × Bool) (v4 : Int) (v5 : List Int) : Option (Lo ((List Int)) Unit) :=
 if (decide (0 ≤ v4)) = true then
 (r9.1[v4.toNat]?).bind fun x2 =>
 (impl_Parse_c13 o r1 r9 v4 v5 x2).bind fun r13 =>
 Lo.elim r13 (fun s15 =>
 if (capOk (v5.length + 1)) = true then
 some (.out (v5 ++ [i64 (x2 + 64)]))
 else none) (fun s16 =>
 some (.ret ()))
 else none
theorem impl_Parse_c12_ok (o : List Int) (r1 : ByteArray × Int × Bool) (r9 : (List Int) × Int × Bool) (v4 : Int) (v5 : List Int) : Pn (JnO Tryd.prog (sub (codeOf Tryd.prog 110) [1, 1, 1, 1, 1, 1, 1, 0, 1, 0, 1, 1, 1, 1, 0, 0, 1, 1, 0]) (st 128 [(0, V.sl false 5 (List.map E5 o)), (2, V.ptr 0 0), (4, V.sc (.string r1.1)), (5, V.sc (.int .i64 r9.2.1)), (8, V.ow 1), (76, V.ow 2), (77, V.sc (.int .i64 (r9.1.length : Int))), (78, V.sc (.int .i64 v4))] [Blk.box 36 [V.sc (.string ByteArray.empty), V.nl 71], Blk.row 3 (List.map E3 v5) [], Blk.row 3 (List.map E3 r9.1) []] []) (fun (y : Lo ((List Int)) Unit) => Lo.elim y (fun s => (X.go, st 128 [(0, V.sl false 5 (List.map E5 o)), (2, V.ptr 0 0), (4, V.sc (.string r1.1)), (5, V.sc (.int .i64 r9.2.1)), (8, V.ow 1), (76, V.ow 2), (77, V.sc (.int .i64 (r9.1.length : Int))), (78, V.sc (.int .i64 v4))] [Blk.box 36 [V.sc (.string ByteArray.empty), V.nl 71], Blk.row 3 (List.map E3 s) [], Blk.row 3 (List.map E3 r9.1) []] [])) (fun s => (X.ret, st 128 [(2, V.ptr 0 0), (3, V.sc (.int .i64 2))] [Blk.box 36 [V.sc (.string ByteArray.empty), V.nl 71]] [])))) (impl_Parse_c12 o r1 r9 v4 v5) := by
  unfold impl_Parse_c12
  exact
   Pn.ite (fun h38 =>
   Pn.bind (fun x2 h39 =>
   Pn.bind (fun r13 h42 =>
   Pn.lo (fun s15 h43 =>
   Pn.ite (fun h45 =>
   Pn.some (JnO.of [.el (E3 x2), .wait 2, .mask [0, 2, 4, 5, 8, 14, 76, 77, 78], .ren [0, 1, 2], .join 7 (X.go) (st 128 [(0, V.sl false 5 (List.map E5 o)), (2, V.ptr 0 0), (4, V.sc (.string r1.1)), (5, V.sc (.int .i64 r9.2.1)), (8, V.ow 1), (14, V.sc (.int .i64 x2)), (76, V.ow 2), (77, V.sc (.int .i64 (r9.1.length : Int))), (78, V.sc (.int .i64 v4))] [Blk.box 36 [V.sc (.string ByteArray.empty), V.nl 71], Blk.row 3 (List.map E3 v5) [], Blk.row 3 (List.map E3 r9.1) []] []), .cp [V.sc (.int .i64 (i64 (x2 + 64)))], .nb 4 (.row 3 (List.map E3 (v5 ++ [i64 (x2 + 64)])) []), .wait 2, .mask [0, 2, 4, 5, 8, 76, 77, 78], .ren [0, 4, 2]] (p := [(0 : Int) ≤ v4,
    (v4 : Int) < ((List.map E3 r9.1).length : Int),
    look [] v4.toNat = none,
    (List.map E3 r9.1)[v4.toNat]? = some (E3 x2),
    HT Tryd.prog (sub (codeOf Tryd.prog 110) [1, 1, 1, 1, 1, 1, 1, 0, 1, 0, 1, 1, 1, 1, 0, 0, 1, 1, 0, 0, 1, 0]) (st 128 [(0, V.sl false 5 (List.map E5 o)), (2, V.ptr 0 0), (4, V.sc (.string r1.1)), (5, V.sc (.int .i64 r9.2.1)), (8, V.ow 1), (14, V.sc (.int .i64 x2)), (76, V.ow 2), (77, V.sc (.int .i64 (r9.1.length : Int))), (78, V.sc (.int .i64 v4))] [Blk.box 36 [V.sc (.string ByteArray.empty), V.nl 71], Blk.row 3 (List.map E3 v5) [], Blk.row 3 (List.map E3 r9.1) []] []) (X.go) (st 128 [(0, V.sl false 5 (List.map E5 o)), (2, V.ptr 0 0), (4, V.sc (.string r1.1)), (5, V.sc (.int .i64 r9.2.1)), (8, V.ow 1), (14, V.sc (.int .i64 x2)), (76, V.ow 2), (77, V.sc (.int .i64 (r9.1.length : Int))), (78, V.sc (.int .i64 v4))] [Blk.box 36 [V.sc (.string ByteArray.empty), V.nl 71], Blk.row 3 (List.map E3 v5) [], Blk.row 3 (List.map E3 r9.1) []] []),
    [V.sc (.int .i64 (i64 (x2 + 64)))] = [V.sc (.int .i64 (i64 (x2 + 64)))],
    [V.sc (.int .i64 (i64 (x2 + 64)))].all V.flatE = true,
    (List.map E3 v5).length + [V.sc (.int .i64 (i64 (x2 + 64)))].length ≤ 9223372036854775807,
    ((List.map E3 v5).length + [V.sc (.int .i64 (i64 (x2 + 64)))].length) * 8 ≤ 140737488355328,
    Blk.row 3 ((List.map E3 v5) ++ [V.sc (.int .i64 (i64 (x2 + 64)))]) [] = Blk.row 3 (List.map E3 (v5 ++ [i64 (x2 + 64)])) []]) (by kernel_rfl) (cj (od h38) (cj (map_ltN (od h38) h39) (cj rfl (cj (map_get h39) (cj ((impl_Parse_c13_ok o r1 r9 v4 v5 x2 r13 h42).at h43) (cj rfl (cj rfl (cj (cap1 (capN (by simp) h45)) (cj (cap2 (capN (by simp) h45) (by decide)) (cj1 (nb_app E3 v5 [i64 (x2 + 64)]))))))))))))) (fun h45 =>
   Pn.none)) (fun s16 h44 =>
   Pn.some (JnO.of [.el (E3 x2), .wait 2, .mask [0, 2, 4, 5, 8, 14, 76, 77, 78], .ren [0, 1, 2], .join 7 (X.ret) (st 128 [(2, V.ptr 0 0), (3, V.sc (.int .i64 2))] [Blk.box 36 [V.sc (.string ByteArray.empty), V.nl 71]] []), .wait 1, .mask [2, 3], .ren [0]] (p := [(0 : Int) ≤ v4,
    (v4 : Int) < ((List.map E3 r9.1).length : Int),
    look [] v4.toNat = none,
    (List.map E3 r9.1)[v4.toNat]? = some (E3 x2),
    HT Tryd.prog (sub (codeOf Tryd.prog 110) [1, 1, 1, 1, 1, 1, 1, 0, 1, 0, 1, 1, 1, 1, 0, 0, 1, 1, 0, 0, 1, 0]) (st 128 [(0, V.sl false 5 (List.map E5 o)), (2, V.ptr 0 0), (4, V.sc (.string r1.1)), (5, V.sc (.int .i64 r9.2.1)), (8, V.ow 1), (14, V.sc (.int .i64 x2)), (76, V.ow 2), (77, V.sc (.int .i64 (r9.1.length : Int))), (78, V.sc (.int .i64 v4))] [Blk.box 36 [V.sc (.string ByteArray.empty), V.nl 71], Blk.row 3 (List.map E3 v5) [], Blk.row 3 (List.map E3 r9.1) []] []) (X.ret) (st 128 [(2, V.ptr 0 0), (3, V.sc (.int .i64 2))] [Blk.box 36 [V.sc (.string ByteArray.empty), V.nl 71]] [])]) (by kernel_rfl) (cj (od h38) (cj (map_ltN (od h38) h39) (cj rfl (cj (map_get h39) (cj1 ((impl_Parse_c13_ok o r1 r9 v4 v5 x2 r13 h42).at h44))))))))))) (fun h38 =>
   Pn.none)
def impl_Parse_l1 (o : List Int) (r1 : ByteArray × Int × Bool) (r9 : (List Int) × Int × Bool) : Nat → Int → (List Int) → Option (Lo ((List Int)) Unit)
  | 0, _, _ => none
  | fuel + 1, v4, v5 =>
   (impl_Parse_c11 o r1 r9 v4 v5).bind fun r11 =>
   Lo.elim r11 (fun s13 =>
   (impl_Parse_c12 o r1 r9 v4 v5).bind fun r14 =>
   Lo.elim r14 (fun s17 =>
   impl_Parse_l1 o r1 r9 fuel (i64 (v4 + 1)) s17) (fun s18 =>
   some (.ret ()))) (fun s14 =>
   some (.out v5))
theorem impl_Parse_l1_ok (o : List Int) (r1 : ByteArray × Int × Bool) (r9 : (List Int) × Int × Bool) : ∀ (fuel : Nat) (v4 : Int) (v5 : List Int), Pn (LpO Tryd.prog (sub (codeOf Tryd.prog 110) [1, 1, 1, 1, 1, 1, 1, 0, 1, 0, 1, 1, 1, 1, 0, 0]) (st 128 [(0, V.sl false 5 (List.map E5 o)), (2, V.ptr 0 0), (4, V.sc (.string r1.1)), (5, V.sc (.int .i64 r9.2.1)), (8, V.ow 1), (76, V.ow 2), (77, V.sc (.int .i64 (r9.1.length : Int))), (78, V.sc (.int .i64 v4))] [Blk.box 36 [V.sc (.string ByteArray.empty), V.nl 71], Blk.row 3 (List.map E3 v5) [], Blk.row 3 (List.map E3 r9.1) []] []) (fun (y : Lo ((List Int)) Unit) => Lo.elim y (fun s => (X.out 3, st 128 [(0, V.sl false 5 (List.map E5 o)), (2, V.ptr 0 0), (4, V.sc (.string r1.1)), (5, V.sc (.int .i64 r9.2.1)), (8, V.ow 1)] [Blk.box 36 [V.sc (.string ByteArray.empty), V.nl 71], Blk.row 3 (List.map E3 s) []] [])) (fun s => (X.ret, st 128 [(2, V.ptr 0 0), (3, V.sc (.int .i64 2))] [Blk.box 36 [V.sc (.string ByteArray.empty), V.nl 71]] [])))) (impl_Parse_l1 o r1 r9 fuel v4 v5)
  | 0, _, _ => Pn.none
  | fuel + 1, v4, v5 => by
    unfold impl_Parse_l1
    exact
     Pn.bind (fun r11 h35 =>
     Pn.lo (fun s13 h36 =>
     Pn.bind (fun r14 h46 =>
     Pn.lo (fun s17 h47 =>
     LpO.go [.wait 2, .mask [0, 2, 4, 5, 8, 76, 77, 78, 79], .ren [0, 1, 2], .join 3 (X.go) (st 128 [(0, V.sl false 5 (List.map E5 o)), (2, V.ptr 0 0), (4, V.sc (.string r1.1)), (5, V.sc (.int .i64 r9.2.1)), (8, V.ow 1), (76, V.ow 2), (77, V.sc (.int .i64 (r9.1.length : Int))), (78, V.sc (.int .i64 v4))] [Blk.box 36 [V.sc (.string ByteArray.empty), V.nl 71], Blk.row 3 (List.map E3 v5) [], Blk.row 3 (List.map E3 r9.1) []] []), .wait 1, .mask [0, 2, 4, 5, 8, 76, 77, 78], .ren [0, 1, 2], .join 12 (X.go) (st 128 [(0, V.sl false 5 (List.map E5 o)), (2, V.ptr 0 0), (4, V.sc (.string r1.1)), (5, V.sc (.int .i64 r9.2.1)), (8, V.ow 1), (76, V.ow 2), (77, V.sc (.int .i64 (r9.1.length : Int))), (78, V.sc (.int .i64 v4))] [Blk.box 36 [V.sc (.string ByteArray.empty), V.nl 71], Blk.row 3 (List.map E3 s17) [], Blk.row 3 (List.map E3 r9.1) []] []), .wait 3, .mask [0, 2, 4, 5, 8, 76, 77, 78], .ren [0, 1, 2]] (p := [HT Tryd.prog (sub (codeOf Tryd.prog 110) [1, 1, 1, 1, 1, 1, 1, 0, 1, 0, 1, 1, 1, 1, 0, 0, 1, 0]) (st 128 [(0, V.sl false 5 (List.map E5 o)), (2, V.ptr 0 0), (4, V.sc (.string r1.1)), (5, V.sc (.int .i64 r9.2.1)), (8, V.ow 1), (76, V.ow 2), (77, V.sc (.int .i64 (r9.1.length : Int))), (78, V.sc (.int .i64 v4)), (79, V.sc (.bool (decide (v4 < (r9.1.length : Int)))))] [Blk.box 36 [V.sc (.string ByteArray.empty), V.nl 71], Blk.row 3 (List.map E3 v5) [], Blk.row 3 (List.map E3 r9.1) []] []) (X.go) (st 128 [(0, V.sl false 5 (List.map E5 o)), (2, V.ptr 0 0), (4, V.sc (.string r1.1)), (5, V.sc (.int .i64 r9.2.1)), (8, V.ow 1), (76, V.ow 2), (77, V.sc (.int .i64 (r9.1.length : Int))), (78, V.sc (.int .i64 v4))] [Blk.box 36 [V.sc (.string ByteArray.empty), V.nl 71], Blk.row 3 (List.map E3 v5) [], Blk.row 3 (List.map E3 r9.1) []] []),
      HT Tryd.prog (sub (codeOf Tryd.prog 110) [1, 1, 1, 1, 1, 1, 1, 0, 1, 0, 1, 1, 1, 1, 0, 0, 1, 1, 0]) (st 128 [(0, V.sl false 5 (List.map E5 o)), (2, V.ptr 0 0), (4, V.sc (.string r1.1)), (5, V.sc (.int .i64 r9.2.1)), (8, V.ow 1), (76, V.ow 2), (77, V.sc (.int .i64 (r9.1.length : Int))), (78, V.sc (.int .i64 v4))] [Blk.box 36 [V.sc (.string ByteArray.empty), V.nl 71], Blk.row 3 (List.map E3 v5) [], Blk.row 3 (List.map E3 r9.1) []] []) (X.go) (st 128 [(0, V.sl false 5 (List.map E5 o)), (2, V.ptr 0 0), (4, V.sc (.string r1.1)), (5, V.sc (.int .i64 r9.2.1)), (8, V.ow 1), (76, V.ow 2), (77, V.sc (.int .i64 (r9.1.length : Int))), (78, V.sc (.int .i64 v4))] [Blk.box 36 [V.sc (.string ByteArray.empty), V.nl 71], Blk.row 3 (List.map E3 s17) [], Blk.row 3 (List.map E3 r9.1) []] [])]) (by kernel_rfl) (cj ((impl_Parse_c11_ok o r1 r9 v4 v5 r11 h35).at h36) (cj1 ((impl_Parse_c12_ok o r1 r9 v4 v5 r14 h46).at h47))) (impl_Parse_l1_ok o r1 r9 fuel (i64 (v4 + 1)) s17)) (fun s18 h48 =>
     Pn.some (LpO.out [.wait 2, .mask [0, 2, 4, 5, 8, 76, 77, 78, 79], .ren [0, 1, 2], .join 3 (X.go) (st 128 [(0, V.sl false 5 (List.map E5 o)), (2, V.ptr 0 0), (4, V.sc (.string r1.1)), (5, V.sc (.int .i64 r9.2.1)), (8, V.ow 1), (76, V.ow 2), (77, V.sc (.int .i64 (r9.1.length : Int))), (78, V.sc (.int .i64 v4))] [Blk.box 36 [V.sc (.string ByteArray.empty), V.nl 71], Blk.row 3 (List.map E3 v5) [], Blk.row 3 (List.map E3 r9.1) []] []), .wait 1, .mask [0, 2, 4, 5, 8, 76, 77, 78], .ren [0, 1, 2], .join 12 (X.ret) (st 128 [(2, V.ptr 0 0), (3, V.sc (.int .i64 2))] [Blk.box 36 [V.sc (.string ByteArray.empty), V.nl 71]] []), .wait 1, .mask [2, 3], .ren [0]] (p := [HT Tryd.prog (sub (codeOf Tryd.prog 110) [1, 1, 1, 1, 1, 1, 1, 0, 1, 0, 1, 1, 1, 1, 0, 0, 1, 0]) (st 128 [(0, V.sl false 5 (List.map E5 o)), (2, V.ptr 0 0), (4, V.sc (.string r1.1)), (5, V.sc (.int .i64 r9.2.1)), (8, V.ow 1), (76, V.ow 2), (77, V.sc (.int .i64 (r9.1.length : Int))), (78, V.sc (.int .i64 v4)), (79, V.sc (.bool (decide (v4 < (r9.1.length : Int)))))] [Blk.box 36 [V.sc (.string ByteArray.empty), V.nl 71], Blk.row 3 (List.map E3 v5) [], Blk.row 3 (List.map E3 r9.1) []] []) (X.go) (st 128 [(0, V.sl false 5 (List.map E5 o)), (2, V.ptr 0 0), (4, V.sc (.string r1.1)), (5, V.sc (.int .i64 r9.2.1)), (8, V.ow 1), (76, V.ow 2), (77, V.sc (.int .i64 (r9.1.length : Int))), (78, V.sc (.int .i64 v4))] [Blk.box 36 [V.sc (.string ByteArray.empty), V.nl 71], Blk.row 3 (List.map E3 v5) [], Blk.row 3 (List.map E3 r9.1) []] []),
      HT Tryd.prog (sub (codeOf Tryd.prog 110) [1, 1, 1, 1, 1, 1, 1, 0, 1, 0, 1, 1, 1, 1, 0, 0, 1, 1, 0]) (st 128 [(0, V.sl false 5 (List.map E5 o)), (2, V.ptr 0 0), (4, V.sc (.string r1.1)), (5, V.sc (.int .i64 r9.2.1)), (8, V.ow 1), (76, V.ow 2), (77, V.sc (.int .i64 (r9.1.length : Int))), (78, V.sc (.int .i64 v4))] [Blk.box 36 [V.sc (.string ByteArray.empty), V.nl 71], Blk.row 3 (List.map E3 v5) [], Blk.row 3 (List.map E3 r9.1) []] []) (X.ret) (st 128 [(2, V.ptr 0 0), (3, V.sc (.int .i64 2))] [Blk.box 36 [V.sc (.string ByteArray.empty), V.nl 71]] [])]) (by kernel_rfl) (show X.ret ≠ X.go from nofun) (cj ((impl_Parse_c11_ok o r1 r9 v4 v5 r11 h35).at h36) (cj1 ((impl_Parse_c12_ok o r1 r9 v4 v5 r14 h46).at h48))))))) (fun s14 h37 =>
     Pn.some (LpO.out [.wait 2, .mask [0, 2, 4, 5, 8, 76, 77, 78, 79], .ren [0, 1, 2], .join 3 (X.out 3) (st 128 [(0, V.sl false 5 (List.map E5 o)), (2, V.ptr 0 0), (4, V.sc (.string r1.1)), (5, V.sc (.int .i64 r9.2.1)), (8, V.ow 1)] [Blk.box 36 [V.sc (.string ByteArray.empty), V.nl 71], Blk.row 3 (List.map E3 v5) []] []), .wait 1, .mask [0, 2, 4, 5, 8], .ren [0, 1]] (p := [HT Tryd.prog (sub (codeOf Tryd.prog 110) [1, 1, 1, 1, 1, 1, 1, 0, 1, 0, 1, 1, 1, 1, 0, 0, 1, 0]) (st 128 [(0, V.sl false 5 (List.map E5 o)), (2, V.ptr 0 0), (4, V.sc (.string r1.1)), (5, V.sc (.int .i64 r9.2.1)), (8, V.ow 1), (76, V.ow 2), (77, V.sc (.int .i64 (r9.1.length : Int))), (78, V.sc (.int .i64 v4)), (79, V.sc (.bool (decide (v4 < (r9.1.length : Int)))))] [Blk.box 36 [V.sc (.string ByteArray.empty), V.nl 71], Blk.row 3 (List.map E3 v5) [], Blk.row 3 (List.map E3 r9.1) []] []) (X.out 3) (st 128 [(0, V.sl false 5 (List.map E5 o)), (2, V.ptr 0 0), (4, V.sc (.string r1.1)), (5, V.sc (.int .i64 r9.2.1)), (8, V.ow 1)] [Blk.box 36 [V.sc (.string ByteArray.empty), V.nl 71], Blk.row 3 (List.map E3 v5) []] [])]) (by kernel_rfl) (show X.out 3 ≠ X.go from nofun) (cj1 ((impl_Parse_c11_ok o r1 r9 v4 v5 r11 h35).at h37)))))
def impl_Parse_c6 (o : List Int) (r1 : ByteArray × Int × Bool) (r3 : (List Int) × Int × Bool) (s9 : Bool × (List Int)) : Option (Lo (Int × (List Int)) Unit) :=
 if s9.1 = true then
 (impl_GetBits o r3.2.1).bind fun r9 =>
 (impl_Parse_c7 o r1 s9 r9).bind fun r10 =>
 Lo.elim r10 (fun s11 =>
 (impl_Parse_l1 o r1 r9 FUEL 0 s9.2).bind fun r15 =>
 Lo.elim r15 (fun s19 =>
 some (.out (r9.2.1, s19))) (fun s20 =>
 some (.ret ()))) (fun s12 =>
 some (.ret ()))
 else
 some (.out (r3.2.1, s9.2))
theorem impl_Parse_c6_ok (o : List Int) (r1 : ByteArray × Int × Bool) (r3 : (List Int) × Int × Bool) (s9 : Bool × (List Int)) : Pn (JnO Tryd.prog (sub (codeOf Tryd.prog 110) [1, 1, 1, 1, 1, 1, 1, 0]) (st 128 [(0, V.sl false 5 (List.map E5 o)), (2, V.ptr 0 0), (4, V.sc (.string r1.1)), (5, V.sc (.int .i64 r3.2.1)), (8, V.ow 1), (9, V.sc (.bool s9.1))] [Blk.box 36 [V.sc (.string ByteArray.empty), V.nl 71], Blk.row 3 (List.map E3 s9.2) []] []) (fun (y : Lo (Int × (List Int)) Unit) => Lo.elim y (fun s => (X.go, st 128 [(0, V.sl false 5 (List.map E5 o)), (2, V.ptr 0 0), (4, V.sc (.string r1.1)), (5, V.sc (.int .i64 s.1)), (8, V.ow 1)] [Blk.box 36 [V.sc (.string ByteArray.empty), V.nl 71], Blk.row 3 (List.map E3 s.2) []] [])) (fun s => (X.ret, st 128 [(2, V.ptr 0 0), (3, V.sc (.int .i64 2))] [Blk.box 36 [V.sc (.string ByteArray.empty), V.nl 71]] [])))) (impl_Parse_c6 o r1 r3 s9) := by
  unfold impl_Parse_c6
  exact
   Pn.ite (fun h27 =>
   Pn.bind (fun r9 h28 =>
   Pn.bind (fun r10 h31 =>
   Pn.lo (fun s11 h32 =>
   Pn.bind (fun r15 h49 =>
   Pn.lo (fun s19 h50 =>
   Pn.some (JnO.of [.bit true, .call [] (V.tup [E53 r9.1, E3 r9.2.1, E4 r9.2.2]) [], .wait 8, .mask [0, 2, 4, 5, 6, 8, 12], .ren [0, 1, 2], .join 7 (X.go) (st 128 [(0, V.sl false 5 (List.map E5 o)), (2, V.ptr 0 0), (4, V.sc (.string r1.1)), (5, V.sc (.int .i64 r9.2.1)), (8, V.ow 1), (12, V.ow 2)] [Blk.box 36 [V.sc (.string ByteArray.empty), V.nl 71], Blk.row 3 (List.map E3 s9.2) [], Blk.row 3 (List.map E3 r9.1) []] []), .wait 2, .nm 77 (V.sc (.int .i64 (r9.1.length : Int))), .wait 2, .mask [0, 2, 4, 5, 8, 76, 77, 78], .ren [0, 1, 2], .loop (X.out 3) (st 128 [(0, V.sl false 5 (List.map E5 o)), (2, V.ptr 0 0), (4, V.sc (.string r1.1)), (5, V.sc (.int .i64 r9.2.1)), (8, V.ow 1)] [Blk.box 36 [V.sc (.string ByteArray.empty), V.nl 71], Blk.row 3 (List.map E3 s19) []] []), .wait 1, .mask [0, 2, 4, 5, 8], .ren [0, 1]] (p := [s9.1 = true,
    Fn Tryd.prog 140 [(false, E40 o), (false, E3 r3.2.1)] (V.tup [E53 r9.1, E3 r9.2.1, E4 r9.2.2]) [],
    (true || ((V.tup [E53 r9.1, E3 r9.2.1, E4 r9.2.2]).nv && nvL [])) = true,
    HT Tryd.prog (sub (codeOf Tryd.prog 110) [1, 1, 1, 1, 1, 1, 1, 0, 1, 0, 1, 1, 0]) (st 128 [(0, V.sl false 5 (List.map E5 o)), (2, V.ptr 0 0), (4, V.sc (.string r1.1)), (5, V.sc (.int .i64 r9.2.1)), (6, V.sc (.bool r9.2.2)), (8, V.ow 1), (12, V.ow 2)] [Blk.box 36 [V.sc (.string ByteArray.empty), V.nl 71], Blk.row 3 (List.map E3 s9.2) [], Blk.row 3 (List.map E3 r9.1) []] []) (X.go) (st 128 [(0, V.sl false 5 (List.map E5 o)), (2, V.ptr 0 0), (4, V.sc (.string r1.1)), (5, V.sc (.int .i64 r9.2.1)), (8, V.ow 1), (12, V.ow 2)] [Blk.box 36 [V.sc (.string ByteArray.empty), V.nl 71], Blk.row 3 (List.map E3 s9.2) [], Blk.row 3 (List.map E3 r9.1) []] []),
    V.sc (.int .i64 ((List.map E3 r9.1).length : Int)) = V.sc (.int .i64 (r9.1.length : Int)),
    Loop Tryd.prog (sub (codeOf Tryd.prog 110) [1, 1, 1, 1, 1, 1, 1, 0, 1, 0, 1, 1, 1, 1, 0, 0]) (st 128 [(0, V.sl false 5 (List.map E5 o)), (2, V.ptr 0 0), (4, V.sc (.string r1.1)), (5, V.sc (.int .i64 r9.2.1)), (8, V.ow 1), (76, V.ow 2), (77, V.sc (.int .i64 (r9.1.length : Int))), (78, V.sc (.int .i64 0))] [Blk.box 36 [V.sc (.string ByteArray.empty), V.nl 71], Blk.row 3 (List.map E3 s9.2) [], Blk.row 3 (List.map E3 r9.1) []] []) (X.out 3) (st 128 [(0, V.sl false 5 (List.map E5 o)), (2, V.ptr 0 0), (4, V.sc (.string r1.1)), (5, V.sc (.int .i64 r9.2.1)), (8, V.ow 1)] [Blk.box 36 [V.sc (.string ByteArray.empty), V.nl 71], Blk.row 3 (List.map E3 s19) []] [])]) (by kernel_rfl) (cj h27 (cj (impl_GetBits_ok o r3.2.1 r9 h28) (cj rfl (cj ((impl_Parse_c7_ok o r1 s9 r9 r10 h31).at h32) (cj (len_nm _ _) (cj1 ((impl_Parse_l1_ok o r1 r9 FUEL 0 s9.2 r15 h49).at h50))))))))) (fun s20 h51 =>
   Pn.some (JnO.of [.bit true, .call [] (V.tup [E53 r9.1, E3 r9.2.1, E4 r9.2.2]) [], .wait 8, .mask [0, 2, 4, 5, 6, 8, 12], .ren [0, 1, 2], .join 7 (X.go) (st 128 [(0, V.sl false 5 (List.map E5 o)), (2, V.ptr 0 0), (4, V.sc (.string r1.1)), (5, V.sc (.int .i64 r9.2.1)), (8, V.ow 1), (12, V.ow 2)] [Blk.box 36 [V.sc (.string ByteArray.empty), V.nl 71], Blk.row 3 (List.map E3 s9.2) [], Blk.row 3 (List.map E3 r9.1) []] []), .wait 2, .nm 77 (V.sc (.int .i64 (r9.1.length : Int))), .wait 2, .mask [0, 2, 4, 5, 8, 76, 77, 78], .ren [0, 1, 2], .loop (X.ret) (st 128 [(2, V.ptr 0 0), (3, V.sc (.int .i64 2))] [Blk.box 36 [V.sc (.string ByteArray.empty), V.nl 71]] []), .wait 1, .mask [2, 3], .ren [0]] (p := [s9.1 = true,
    Fn Tryd.prog 140 [(false, E40 o), (false, E3 r3.2.1)] (V.tup [E53 r9.1, E3 r9.2.1, E4 r9.2.2]) [],
    (true || ((V.tup [E53 r9.1, E3 r9.2.1, E4 r9.2.2]).nv && nvL [])) = true,
    HT Tryd.prog (sub (codeOf Tryd.prog 110) [1, 1, 1, 1, 1, 1, 1, 0, 1, 0, 1, 1, 0]) (st 128 [(0, V.sl false 5 (List.map E5 o)), (2, V.ptr 0 0), (4, V.sc (.string r1.1)), (5, V.sc (.int .i64 r9.2.1)), (6, V.sc (.bool r9.2.2)), (8, V.ow 1), (12, V.ow 2)] [Blk.box 36 [V.sc (.string ByteArray.empty), V.nl 71], Blk.row 3 (List.map E3 s9.2) [], Blk.row 3 (List.map E3 r9.1) []] []) (X.go) (st 128 [(0, V.sl false 5 (List.map E5 o)), (2, V.ptr 0 0), (4, V.sc (.string r1.1)), (5, V.sc (.int .i64 r9.2.1)), (8, V.ow 1), (12, V.ow 2)] [Blk.box 36 [V.sc (.string ByteArray.empty), V.nl 71], Blk.row 3 (List.map E3 s9.2) [], Blk.row 3 (List.map E3 r9.1) []] []),
    V.sc (.int .i64 ((List.map E3 r9.1).length : Int)) = V.sc (.int .i64 (r9.1.length : Int)),
    Loop Tryd.prog (sub (codeOf Tryd.prog 110) [1, 1, 1, 1, 1, 1, 1, 0, 1, 0, 1, 1, 1, 1, 0, 0]) (st 128 [(0, V.sl false 5 (List.map E5 o)), (2, V.ptr 0 0), (4, V.sc (.string r1.1)), (5, V.sc (.int .i64 r9.2.1)), (8, V.ow 1), (76, V.ow 2), (77, V.sc (.int .i64 (r9.1.length : Int))), (78, V.sc (.int .i64 0))] [Blk.box 36 [V.sc (.string ByteArray.empty), V.nl 71], Blk.row 3 (List.map E3 s9.2) [], Blk.row 3 (List.map E3 r9.1) []] []) (X.ret) (st 128 [(2, V.ptr 0 0), (3, V.sc (.int .i64 2))] [Blk.box 36 [V.sc (.string ByteArray.empty), V.nl 71]] [])]) (by kernel_rfl) (cj h27 (cj (impl_GetBits_ok o r3.2.1 r9 h28) (cj rfl (cj ((impl_Parse_c7_ok o r1 s9 r9 r10 h31).at h32) (cj (len_nm _ _) (cj1 ((impl_Parse_l1_ok o r1 r9 FUEL 0 s9.2 r15 h49).at h51))))))))))) (fun s12 h33 =>
   Pn.some (JnO.of [.bit true, .call [] (V.tup [E53 r9.1, E3 r9.2.1, E4 r9.2.2]) [], .wait 8, .mask [0, 2, 4, 5, 6, 8, 12], .ren [0, 1, 2], .join 7 (X.ret) (st 128 [(2, V.ptr 0 0), (3, V.sc (.int .i64 2))] [Blk.box 36 [V.sc (.string ByteArray.empty), V.nl 71]] []), .wait 1, .mask [2, 3], .ren [0]] (p := [s9.1 = true,
    Fn Tryd.prog 140 [(false, E40 o), (false, E3 r3.2.1)] (V.tup [E53 r9.1, E3 r9.2.1, E4 r9.2.2]) [],
    (true || ((V.tup [E53 r9.1, E3 r9.2.1, E4 r9.2.2]).nv && nvL [])) = true,
    HT Tryd.prog (sub (codeOf Tryd.prog 110) [1, 1, 1, 1, 1, 1, 1, 0, 1, 0, 1, 1, 0]) (st 128 [(0, V.sl false 5 (List.map E5 o)), (2, V.ptr 0 0), (4, V.sc (.string r1.1)), (5, V.sc (.int .i64 r9.2.1)), (6, V.sc (.bool r9.2.2)), (8, V.ow 1), (12, V.ow 2)] [Blk.box 36 [V.sc (.string ByteArray.empty), V.nl 71], Blk.row 3 (List.map E3 s9.2) [], Blk.row 3 (List.map E3 r9.1) []] []) (X.ret) (st 128 [(2, V.ptr 0 0), (3, V.sc (.int .i64 2))] [Blk.box 36 [V.sc (.string ByteArray.empty), V.nl 71]] [])]) (by kernel_rfl) (cj h27 (cj (impl_GetBits_ok o r3.2.1 r9 h28) (cj rfl (cj1 ((impl_Parse_c7_ok o r1 s9 r9 r10 h31).at h33)))))))))) (fun h27 =>
   Pn.some (JnO.of [.bit false, .mask [0, 2, 4, 5, 8], .ren [0, 1]] (p := [s9.1 = false]) (by kernel_rfl) (cj1 h27)))
def impl_Parse_c20 (o : List Int) (r1 : ByteArray × Int × Bool) (s21 : Int × (List Int)) (v6 : Int) (v7 : Int) (v8 : List Field) : Option (Lo Unit Unit) :=
 if (decide (v7 < (s21.2.length : Int))) = true then
 some (.out ())
 else
 some (.ret ())
theorem impl_Parse_c20_ok (o : List Int) (r1 : ByteArray × Int × Bool) (s21 : Int × (List Int)) (v6 : Int) (v7 : Int) (v8 : List Field) : Pn (JnO Tryd.prog (sub (codeOf Tryd.prog 110) [1, 1, 1, 1, 1, 1, 1, 1, 1, 0, 1, 0, 0, 1, 0]) (st 128 [(0, V.sl false 5 (List.map E5 o)), (2, V.ptr 0 0), (5, V.sc (.int .i64 v6)), (15, V.ptr 1 0), (95, V.ow 3), (96, V.sc (.int .i64 (s21.2.length : Int))), (97, V.sc (.int .i64 v7)), (98, V.sc (.bool (decide (v7 < (s21.2.length : Int)))))] [Blk.box 36 [V.sc (.string ByteArray.empty), V.nl 71], Blk.box 36 [V.sc (.string r1.1), V.ow 2], Blk.row 71 (List.map E71 v8) [], Blk.row 3 (List.map E3 s21.2) []] []) (fun (y : Lo Unit Unit) => Lo.elim y (fun s => (X.go, st 128 [(0, V.sl false 5 (List.map E5 o)), (2, V.ptr 0 0), (5, V.sc (.int .i64 v6)), (15, V.ptr 1 0), (95, V.ow 3), (96, V.sc (.int .i64 (s21.2.length : Int))), (97, V.sc (.int .i64 v7))] [Blk.box 36 [V.sc (.string ByteArray.empty), V.nl 71], Blk.box 36 [V.sc (.string r1.1), V.ow 2], Blk.row 71 (List.map E71 v8) [], Blk.row 3 (List.map E3 s21.2) []] [])) (fun s => (X.out 5, st 128 [(0, V.sl false 5 (List.map E5 o)), (2, V.ptr 0 0), (5, V.sc (.int .i64 v6)), (15, V.ptr 1 0)] [Blk.box 36 [V.sc (.string ByteArray.empty), V.nl 71], Blk.box 36 [V.sc (.string r1.1), V.ow 2], Blk.row 71 (List.map E71 v8) []] [])))) (impl_Parse_c20 o r1 s21 v6 v7 v8) := by
  unfold impl_Parse_c20
  exact
   Pn.ite (fun h55 =>
   Pn.some (JnO.of [.bit true, .mask [0, 2, 5, 15, 95, 96, 97], .ren [0, 1, 2, 3]] (p := [(decide (v7 < (s21.2.length : Int))) = true]) (by kernel_rfl) (cj1 h55))) (fun h55 =>
   Pn.some (JnO.of [.bit false, .mask [0, 2, 5, 15], .ren [0, 1, 2]] (p := [(decide (v7 < (s21.2.length : Int))) = false]) (by kernel_rfl) (cj1 h55)))
def impl_Parse_c22 (o : List Int) (r1 : ByteArray × Int × Bool) (s21 : Int × (List Int)) (v7 : Int) (v8 : List Field) (x3 : Int) (r18 : ByteArray × Int × Bool) : Option (Lo Unit Unit) :=
 if r18.2.2 = true then
 some (.out ())
 else
 some (.ret ())
theorem impl_Parse_c22_ok (o : List Int) (r1 : ByteArray × Int × Bool) (s21 : Int × (List Int)) (v7 : Int) (v8 : List Field) (x3 : Int) (r18 : ByteArray × Int × Bool) : Pn (JnO Tryd.prog (sub (codeOf Tryd.prog 110) [1, 1, 1, 1, 1, 1, 1, 1, 1, 0, 1, 0, 0, 1, 1, 0, 0, 1, 1, 0]) (st 128 [(0, V.sl false 5 (List.map E5 o)), (2, V.ptr 0 0), (15, V.ptr 1 0), (17, V.sc (.int .i64 x3)), (18, V.sc (.string r18.1)), (19, V.sc (.int .i64 r18.2.1)), (20, V.sc (.bool r18.2.2)), (95, V.ow 3), (96, V.sc (.int .i64 (s21.2.length : Int))), (97, V.sc (.int .i64 v7))] [Blk.box 36 [V.sc (.string ByteArray.empty), V.nl 71], Blk.box 36 [V.sc (.string r1.1), V.ow 2], Blk.row 71 (List.map E71 v8) [], Blk.row 3 (List.map E3 s21.2) []] []) (fun (y : Lo Unit Unit) => Lo.elim y (fun s => (X.go, st 128 [(0, V.sl false 5 (List.map E5 o)), (2, V.ptr 0 0), (15, V.ptr 1 0), (17, V.sc (.int .i64 x3)), (18, V.sc (.string r18.1)), (19, V.sc (.int .i64 r18.2.1)), (95, V.ow 3), (96, V.sc (.int .i64 (s21.2.length : Int))), (97, V.sc (.int .i64 v7))] [Blk.box 36 [V.sc (.string ByteArray.empty), V.nl 71], Blk.box 36 [V.sc (.string r1.1), V.ow 2], Blk.row 71 (List.map E71 v8) [], Blk.row 3 (List.map E3 s21.2) []] [])) (fun s => (X.ret, st 128 [(2, V.ptr 0 0), (3, V.sc (.int .i64 3))] [Blk.box 36 [V.sc (.string ByteArray.empty), V.nl 71]] [])))) (impl_Parse_c22 o r1 s21 v7 v8 x3 r18) := by
  unfold impl_Parse_c22
  exact
   Pn.ite (fun h62 =>
   Pn.some (JnO.of [.bit false, .mask [0, 2, 15, 17, 18, 19, 95, 96, 97], .ren [0, 1, 2, 3]] (p := [(!r18.2.2) = false]) (by kernel_rfl) (cj1 (nf h62)))) (fun h62 =>
   Pn.some (JnO.of [.bit true, .wait 3, .mask [2, 3], .ren [0]] (p := [(!r18.2.2) = true]) (by kernel_rfl) (cj1 (nt h62))))
def impl_Parse_c21 (o : List Int) (r1 : ByteArray × Int × Bool) (s21 : Int × (List Int)) (v6 : Int) (v7 : Int) (v8 : List Field) : Option (Lo (Int × (List Field)) Unit) :=
 if (decide (0 ≤ v7)) = true then
 (s21.2[v7.toNat]?).bind fun x3 =>
 (impl_GetField o v6 x3).bind fun r18 =>
 (impl_Parse_c22 o r1 s21 v7 v8 x3 r18).bind fun r19 =>
 Lo.elim r19 (fun s25 =>
 if (capOk (v8.length + 1)) = true then
 some (.out (r18.2.1, (v8 ++ [(Field.mk x3 r18.1)])))
 else none) (fun s26 =>
 some (.ret ()))
 else none
theorem impl_Parse_c21_ok (o : List Int) (r1 : ByteArray × Int × Bool) (s21 : Int × (List Int)) (v6 : Int) (v7 : Int) (v8 : List Field) : Pn (JnO Tryd.prog (sub (codeOf Tryd.prog 110) [1, 1, 1, 1, 1, 1, 1, 1, 1, 0, 1, 0, 0, 1, 1, 0]) (st 128 [(0, V.sl false 5 (List.map E5 o)), (2, V.ptr 0 0), (5, V.sc (.int .i64 v6)), (15, V.ptr 1 0), (95, V.ow 3), (96, V.sc (.int .i64 (s21.2.length : Int))), (97, V.sc (.int .i64 v7))] [Blk.box 36 [V.sc (.string ByteArray.empty), V.nl 71], Blk.box 36 [V.sc (.string r1.1), V.ow 2], Blk.row 71 (List.map E71 v8) [], Blk.row 3 (List.map E3 s21.2) []] []) (fun (y : Lo (Int × (List Field)) Unit) => Lo.elim y (fun s => (X.go, st 128 [(0, V.sl false 5 (List.map E5 o)), (2, V.ptr 0 0), (5, V.sc (.int .i64 s.1)), (15, V.ptr 1 0), (95, V.ow 3), (96, V.sc (.int .i64 (s21.2.length : Int))), (97, V.sc (.int .i64 v7))] [Blk.box 36 [V.sc (.string ByteArray.empty), V.nl 71], Blk.box 36 [V.sc (.string r1.1), V.ow 2], Blk.row 71 (List.map E71 s.2) [], Blk.row 3 (List.map E3 s21.2) []] [])) (fun s => (X.ret, st 128 [(2, V.ptr 0 0), (3, V.sc (.int .i64 3))] [Blk.box 36 [V.sc (.string ByteArray.empty), V.nl 71]] [])))) (impl_Parse_c21 o r1 s21 v6 v7 v8) := by
  unfold impl_Parse_c21
  exact
   Pn.ite (fun h59 =>
   Pn.bind (fun x3 h60 =>
   Pn.bind (fun r18 h61 =>
   Pn.bind (fun r19 h63 =>
   Pn.lo (fun s25 h64 =>
   Pn.ite (fun h66 =>
   Pn.some (JnO.of [.el (E3 x3), .call [] (V.tup [E9 r18.1, E3 r18.2.1, E4 r18.2.2]) [], .wait 8, .mask [0, 2, 15, 17, 18, 19, 20, 95, 96, 97], .ren [0, 1, 2, 3], .join 7 (X.go) (st 128 [(0, V.sl false 5 (List.map E5 o)), (2, V.ptr 0 0), (15, V.ptr 1 0), (17, V.sc (.int .i64 x3)), (18, V.sc (.string r18.1)), (19, V.sc (.int .i64 r18.2.1)), (95, V.ow 3), (96, V.sc (.int .i64 (s21.2.length : Int))), (97, V.sc (.int .i64 v7))] [Blk.box 36 [V.sc (.string ByteArray.empty), V.nl 71], Blk.box 36 [V.sc (.string r1.1), V.ow 2], Blk.row 71 (List.map E71 v8) [], Blk.row 3 (List.map E3 s21.2) []] []), .cp [V.agg [V.sc (.int .i64 x3), V.sc (.string r18.1)]], .nb 5 (.row 71 (List.map E71 (v8 ++ [(Field.mk x3 r18.1)])) []), .wait 5, .mask [0, 2, 5, 15, 95, 96, 97], .ren [0, 1, 5, 3]] (p := [(0 : Int) ≤ v7,
    (v7 : Int) < ((List.map E3 s21.2).length : Int),
    look [] v7.toNat = none,
    (List.map E3 s21.2)[v7.toNat]? = some (E3 x3),
    Fn Tryd.prog 142 [(false, E40 o), (false, E3 v6), (false, E3 x3)] (V.tup [E9 r18.1, E3 r18.2.1, E4 r18.2.2]) [],
    (true || ((V.tup [E9 r18.1, E3 r18.2.1, E4 r18.2.2]).nv && nvL [])) = true,
    HT Tryd.prog (sub (codeOf Tryd.prog 110) [1, 1, 1, 1, 1, 1, 1, 1, 1, 0, 1, 0, 0, 1, 1, 0, 0, 1, 1, 0]) (st 128 [(0, V.sl false 5 (List.map E5 o)), (2, V.ptr 0 0), (15, V.ptr 1 0), (17, V.sc (.int .i64 x3)), (18, V.sc (.string r18.1)), (19, V.sc (.int .i64 r18.2.1)), (20, V.sc (.bool r18.2.2)), (95, V.ow 3), (96, V.sc (.int .i64 (s21.2.length : Int))), (97, V.sc (.int .i64 v7))] [Blk.box 36 [V.sc (.string ByteArray.empty), V.nl 71], Blk.box 36 [V.sc (.string r1.1), V.ow 2], Blk.row 71 (List.map E71 v8) [], Blk.row 3 (List.map E3 s21.2) []] []) (X.go) (st 128 [(0, V.sl false 5 (List.map E5 o)), (2, V.ptr 0 0), (15, V.ptr 1 0), (17, V.sc (.int .i64 x3)), (18, V.sc (.string r18.1)), (19, V.sc (.int .i64 r18.2.1)), (95, V.ow 3), (96, V.sc (.int .i64 (s21.2.length : Int))), (97, V.sc (.int .i64 v7))] [Blk.box 36 [V.sc (.string ByteArray.empty), V.nl 71], Blk.box 36 [V.sc (.string r1.1), V.ow 2], Blk.row 71 (List.map E71 v8) [], Blk.row 3 (List.map E3 s21.2) []] []),
    [V.agg [V.sc (.int .i64 x3), V.sc (.string r18.1)]] = [V.agg [V.sc (.int .i64 x3), V.sc (.string r18.1)]],
    [V.agg [V.sc (.int .i64 x3), V.sc (.string r18.1)]].all V.flatE = true,
    (List.map E71 v8).length + [V.agg [V.sc (.int .i64 x3), V.sc (.string r18.1)]].length ≤ 9223372036854775807,
    ((List.map E71 v8).length + [V.agg [V.sc (.int .i64 x3), V.sc (.string r18.1)]].length) * 24 ≤ 140737488355328,
    Blk.row 71 ((List.map E71 v8) ++ [V.agg [V.sc (.int .i64 x3), V.sc (.string r18.1)]]) [] = Blk.row 71 (List.map E71 (v8 ++ [(Field.mk x3 r18.1)])) []]) (by kernel_rfl) (cj (od h59) (cj (map_ltN (od h59) h60) (cj rfl (cj (map_get h60) (cj (impl_GetField_ok o v6 x3 r18 h61) (cj rfl (cj ((impl_Parse_c22_ok o r1 s21 v7 v8 x3 r18 r19 h63).at h64) (cj rfl (cj rfl (cj (cap1 (capN (by simp) h66)) (cj (cap2 (capN (by simp) h66) (by decide)) (cj1 (nb_app E71 v8 [(Field.mk x3 r18.1)]))))))))))))))) (fun h66 =>
   Pn.none)) (fun s26 h65 =>
   Pn.some (JnO.of [.el (E3 x3), .call [] (V.tup [E9 r18.1, E3 r18.2.1, E4 r18.2.2]) [], .wait 8, .mask [0, 2, 15, 17, 18, 19, 20, 95, 96, 97], .ren [0, 1, 2, 3], .join 7 (X.ret) (st 128 [(2, V.ptr 0 0), (3, V.sc (.int .i64 3))] [Blk.box 36 [V.sc (.string ByteArray.empty), V.nl 71]] []), .wait 1, .mask [2, 3], .ren [0]] (p := [(0 : Int) ≤ v7,
    (v7 : Int) < ((List.map E3 s21.2).length : Int),
    look [] v7.toNat = none,
    (List.map E3 s21.2)[v7.toNat]? = some (E3 x3),
    Fn Tryd.prog 142 [(false, E40 o), (false, E3 v6), (false, E3 x3)] (V.tup [E9 r18.1, E3 r18.2.1, E4 r18.2.2]) [],
    (true || ((V.tup [E9 r18.1, E3 r18.2.1, E4 r18.2.2]).nv && nvL [])) = true,
    HT Tryd.prog (sub (codeOf Tryd.prog 110) [1, 1, 1, 1, 1, 1, 1, 1, 1, 0, 1, 0, 0, 1, 1, 0, 0, 1, 1, 0]) (st 128 [(0, V.sl false 5 (List.map E5 o)), (2, V.ptr 0 0), (15, V.ptr 1 0), (17, V.sc (.int .i64 x3)), (18, V.sc (.string r18.1)), (19, V.sc (.int .i64 r18.2.1)), (20, V.sc (.bool r18.2.2)), (95, V.ow 3), (96, V.sc (.int .i64 (s21.2.length : Int))), (97, V.sc (.int .i64 v7))] [Blk.box 36 [V.sc (.string ByteArray.empty), V.nl 71], Blk.box 36 [V.sc (.string r1.1), V.ow 2], Blk.row 71 (List.map E71 v8) [], Blk.row 3 (List.map E3 s21.2) []] []) (X.ret) (st 128 [(2, V.ptr 0 0), (3, V.sc (.int .i64 3))] [Blk.box 36 [V.sc (.string ByteArray.empty), V.nl 71]] [])]) (by kernel_rfl) (cj (od h59) (cj (map_ltN (od h59) h60) (cj rfl (cj (map_get h60) (cj (impl_GetField_ok o v6 x3 r18 h61) (cj rfl (cj1 ((impl_Parse_c22_ok o r1 s21 v7 v8 x3 r18 r19 h63).at h65)))))))))))))) (fun h59 =>
   Pn.none)
def impl_Parse_l2 (o : List Int) (r1 : ByteArray × Int × Bool) (s21 : Int × (List Int)) : Nat → Int → Int → (List Field) → Option (Lo (Int × (List Field)) Unit)
  | 0, _, _, _ => none
  | fuel + 1, v6, v7, v8 =>
   (impl_Parse_c20 o r1 s21 v6 v7 v8).bind fun r17 =>
   Lo.elim r17 (fun s23 =>
   (impl_Parse_c21 o r1 s21 v6 v7 v8).bind fun r20 =>
   Lo.elim r20 (fun s27 =>
   impl_Parse_l2 o r1 s21 fuel s27.1 (i64 (v7 + 1)) s27.2) (fun s28 =>
   some (.ret ()))) (fun s24 =>
   some (.out (v6, v8)))
theorem impl_Parse_l2_ok (o : List Int) (r1 : ByteArray × Int × Bool) (s21 : Int × (List Int)) : ∀ (fuel : Nat) (v6 : Int) (v7 : Int) (v8 : List Field), Pn (LpO Tryd.prog (sub (codeOf Tryd.prog 110) [1, 1, 1, 1, 1, 1, 1, 1, 1, 0, 1, 0, 0]) (st 128 [(0, V.sl false 5 (List.map E5 o)), (2, V.ptr 0 0), (5, V.sc (.int .i64 v6)), (15, V.ptr 1 0), (95, V.ow 3), (96, V.sc (.int .i64 (s21.2.length : Int))), (97, V.sc (.int .i64 v7))] [Blk.box 36 [V.sc (.string ByteArray.empty), V.nl 71], Blk.box 36 [V.sc (.string r1.1), V.ow 2], Blk.row 71 (List.map E71 v8) [], Blk.row 3 (List.map E3 s21.2) []] []) (fun (y : Lo (Int × (List Field)) Unit) => Lo.elim y (fun s => (X.out 5, st 128 [(0, V.sl false 5 (List.map E5 o)), (2, V.ptr 0 0), (5, V.sc (.int .i64 s.1)), (15, V.ptr 1 0)] [Blk.box 36 [V.sc (.string ByteArray.empty), V.nl 71], Blk.box 36 [V.sc (.string r1.1), V.ow 2], Blk.row 71 (List.map E71 s.2) []] [])) (fun s => (X.ret, st 128 [(2, V.ptr 0 0), (3, V.sc (.int .i64 3))] [Blk.box 36 [V.sc (.string ByteArray.empty), V.nl 71]] [])))) (impl_Parse_l2 o r1 s21 fuel v6 v7 v8)
  | 0, _, _, _ => Pn.none
  | fuel + 1, v6, v7, v8 => by
    unfold impl_Parse_l2
    exact
     Pn.bind (fun r17 h56 =>
     Pn.lo (fun s23 h57 =>
     Pn.bind (fun r20 h67 =>
     Pn.lo (fun s27 h68 =>
     LpO.go [.wait 2, .mask [0, 2, 5, 15, 95, 96, 97, 98], .ren [0, 1, 2, 3], .join 3 (X.go) (st 128 [(0, V.sl false 5 (List.map E5 o)), (2, V.ptr 0 0), (5, V.sc (.int .i64 v6)), (15, V.ptr 1 0), (95, V.ow 3), (96, V.sc (.int .i64 (s21.2.length : Int))), (97, V.sc (.int .i64 v7))] [Blk.box 36 [V.sc (.string ByteArray.empty), V.nl 71], Blk.box 36 [V.sc (.string r1.1), V.ow 2], Blk.row 71 (List.map E71 v8) [], Blk.row 3 (List.map E3 s21.2) []] []), .wait 1, .mask [0, 2, 5, 15, 95, 96, 97], .ren [0, 1, 2, 3], .join 14 (X.go) (st 128 [(0, V.sl false 5 (List.map E5 o)), (2, V.ptr 0 0), (5, V.sc (.int .i64 s27.1)), (15, V.ptr 1 0), (95, V.ow 3), (96, V.sc (.int .i64 (s21.2.length : Int))), (97, V.sc (.int .i64 v7))] [Blk.box 36 [V.sc (.string ByteArray.empty), V.nl 71], Blk.box 36 [V.sc (.string r1.1), V.ow 2], Blk.row 71 (List.map E71 s27.2) [], Blk.row 3 (List.map E3 s21.2) []] []), .wait 3, .mask [0, 2, 5, 15, 95, 96, 97], .ren [0, 1, 2, 3]] (p := [HT Tryd.prog (sub (codeOf Tryd.prog 110) [1, 1, 1, 1, 1, 1, 1, 1, 1, 0, 1, 0, 0, 1, 0]) (st 128 [(0, V.sl false 5 (List.map E5 o)), (2, V.ptr 0 0), (5, V.sc (.int .i64 v6)), (15, V.ptr 1 0), (95, V.ow 3), (96, V.sc (.int .i64 (s21.2.length : Int))), (97, V.sc (.int .i64 v7)), (98, V.sc (.bool (decide (v7 < (s21.2.length : Int)))))] [Blk.box 36 [V.sc (.string ByteArray.empty), V.nl 71], Blk.box 36 [V.sc (.string r1.1), V.ow 2], Blk.row 71 (List.map E71 v8) [], Blk.row 3 (List.map E3 s21.2) []] []) (X.go) (st 128 [(0, V.sl false 5 (List.map E5 o)), (2, V.ptr 0 0), (5, V.sc (.int .i64 v6)), (15, V.ptr 1 0), (95, V.ow 3), (96, V.sc (.int .i64 (s21.2.length : Int))), (97, V.sc (.int .i64 v7))] [Blk.box 36 [V.sc (.string ByteArray.empty), V.nl 71], Blk.box 36 [V.sc (.string r1.1), V.ow 2], Blk.row 71 (List.map E71 v8) [], Blk.row 3 (List.map E3 s21.2) []] []),
      HT Tryd.prog (sub (codeOf Tryd.prog 110) [1, 1, 1, 1, 1, 1, 1, 1, 1, 0, 1, 0, 0, 1, 1, 0]) (st 128 [(0, V.sl false 5 (List.map E5 o)), (2, V.ptr 0 0), (5, V.sc (.int .i64 v6)), (15, V.ptr 1 0), (95, V.ow 3), (96, V.sc (.int .i64 (s21.2.length : Int))), (97, V.sc (.int .i64 v7))] [Blk.box 36 [V.sc (.string ByteArray.empty), V.nl 71], Blk.box 36 [V.sc (.string r1.1), V.ow 2], Blk.row 71 (List.map E71 v8) [], Blk.row 3 (List.map E3 s21.2) []] []) (X.go) (st 128 [(0, V.sl false 5 (List.map E5 o)), (2, V.ptr 0 0), (5, V.sc (.int .i64 s27.1)), (15, V.ptr 1 0), (95, V.ow 3), (96, V.sc (.int .i64 (s21.2.length : Int))), (97, V.sc (.int .i64 v7))] [Blk.box 36 [V.sc (.string ByteArray.empty), V.nl 71], Blk.box 36 [V.sc (.string r1.1), V.ow 2], Blk.row 71 (List.map E71 s27.2) [], Blk.row 3 (List.map E3 s21.2) []] [])]) (by kernel_rfl) (cj ((impl_Parse_c20_ok o r1 s21 v6 v7 v8 r17 h56).at h57) (cj1 ((impl_Parse_c21_ok o r1 s21 v6 v7 v8 r20 h67).at h68))) (impl_Parse_l2_ok o r1 s21 fuel s27.1 (i64 (v7 + 1)) s27.2)) (fun s28 h69 =>
     Pn.some (LpO.out [.wait 2, .mask [0, 2, 5, 15, 95, 96, 97, 98], .ren [0, 1, 2, 3], .join 3 (X.go) (st 128 [(0, V.sl false 5 (List.map E5 o)), (2, V.ptr 0 0), (5, V.sc (.int .i64 v6)), (15, V.ptr 1 0), (95, V.ow 3), (96, V.sc (.int .i64 (s21.2.length : Int))), (97, V.sc (.int .i64 v7))] [Blk.box 36 [V.sc (.string ByteArray.empty), V.nl 71], Blk.box 36 [V.sc (.string r1.1), V.ow 2], Blk.row 71 (List.map E71 v8) [], Blk.row 3 (List.map E3 s21.2) []] []), .wait 1, .mask [0, 2, 5, 15, 95, 96, 97], .ren [0, 1, 2, 3], .join 14 (X.ret) (st 128 [(2, V.ptr 0 0), (3, V.sc (.int .i64 3))] [Blk.box 36 [V.sc (.string ByteArray.empty), V.nl 71]] []), .wait 1, .mask [2, 3], .ren [0]] (p := [HT Tryd.prog (sub (codeOf Tryd.prog 110) [1, 1, 1, 1, 1, 1, 1, 1, 1, 0, 1, 0, 0, 1, 0]) (st 128 [(0, V.sl false 5 (List.map E5 o)), (2, V.ptr 0 0), (5, V.sc (.int .i64 v6)), (15, V.ptr 1 0), (95, V.ow 3), (96, V.sc (.int .i64 (s21.2.length : Int))), (97, V.sc (.int .i64 v7)), (98, V.sc (.bool (decide (v7 < (s21.2.length : Int)))))] [Blk.box 36 [V.sc (.string ByteArray.empty), V.nl 71], Blk.box 36 [V.sc (.string r1.1), V.ow 2], Blk.row 71 (List.map E71 v8) [], Blk.row 3 (List.map E3 s21.2) []] []) (X.go) (st 128 [(0, V.sl false 5 (List.map E5 o)), (2, V.ptr 0 0), (5, V.sc (.int .i64 v6)), (15, V.ptr 1 0), (95, V.ow 3), (96, V.sc (.int .i64 (s21.2.length : Int))), (97, V.sc (.int .i64 v7))] [Blk.box 36 [V.sc (.string ByteArray.empty), V.nl 71], Blk.box 36 [V.sc (.string r1.1), V.ow 2], Blk.row 71 (List.map E71 v8) [], Blk.row 3 (List.map E3 s21.2) []] []),
      HT Tryd.prog (sub (codeOf Tryd.prog 110) [1, 1, 1, 1, 1, 1, 1, 1, 1, 0, 1, 0, 0, 1, 1, 0]) (st 128 [(0, V.sl false 5 (List.map E5 o)), (2, V.ptr 0 0), (5, V.sc (.int .i64 v6)), (15, V.ptr 1 0), (95, V.ow 3), (96, V.sc (.int .i64 (s21.2.length : Int))), (97, V.sc (.int .i64 v7))] [Blk.box 36 [V.sc (.string ByteArray.empty), V.nl 71], Blk.box 36 [V.sc (.string r1.1), V.ow 2], Blk.row 71 (List.map E71 v8) [], Blk.row 3 (List.map E3 s21.2) []] []) (X.ret) (st 128 [(2, V.ptr 0 0), (3, V.sc (.int .i64 3))] [Blk.box 36 [V.sc (.string ByteArray.empty), V.nl 71]] [])]) (by kernel_rfl) (show X.ret ≠ X.go from nofun) (cj ((impl_Parse_c20_ok o r1 s21 v6 v7 v8 r17 h56).at h57) (cj1 ((impl_Parse_c21_ok o r1 s21 v6 v7 v8 r20 h67).at h69))))))) (fun s24 h58 =>
     Pn.some (LpO.out [.wait 2, .mask [0, 2, 5, 15, 95, 96, 97, 98], .ren [0, 1, 2, 3], .join 3 (X.out 5) (st 128 [(0, V.sl false 5 (List.map E5 o)), (2, V.ptr 0 0), (5, V.sc (.int .i64 v6)), (15, V.ptr 1 0)] [Blk.box 36 [V.sc (.string ByteArray.empty), V.nl 71], Blk.box 36 [V.sc (.string r1.1), V.ow 2], Blk.row 71 (List.map E71 v8) []] []), .wait 1, .mask [0, 2, 5, 15], .ren [0, 1, 2]] (p := [HT Tryd.prog (sub (codeOf Tryd.prog 110) [1, 1, 1, 1, 1, 1, 1, 1, 1, 0, 1, 0, 0, 1, 0]) (st 128 [(0, V.sl false 5 (List.map E5 o)), (2, V.ptr 0 0), (5, V.sc (.int .i64 v6)), (15, V.ptr 1 0), (95, V.ow 3), (96, V.sc (.int .i64 (s21.2.length : Int))), (97, V.sc (.int .i64 v7)), (98, V.sc (.bool (decide (v7 < (s21.2.length : Int)))))] [Blk.box 36 [V.sc (.string ByteArray.empty), V.nl 71], Blk.box 36 [V.sc (.string r1.1), V.ow 2], Blk.row 71 (List.map E71 v8) [], Blk.row 3 (List.map E3 s21.2) []] []) (X.out 5) (st 128 [(0, V.sl false 5 (List.map E5 o)), (2, V.ptr 0 0), (5, V.sc (.int .i64 v6)), (15, V.ptr 1 0)] [Blk.box 36 [V.sc (.string ByteArray.empty), V.nl 71], Blk.box 36 [V.sc (.string r1.1), V.ow 2], Blk.row 71 (List.map E71 v8) []] [])]) (by kernel_rfl) (show X.out 5 ≠ X.go from nofun) (cj1 ((impl_Parse_c20_ok o r1 s21 v6 v7 v8 r17 h56).at h58)))))
def impl_Parse_c23 (o : List Int) (r1 : ByteArray × Int × Bool) (s29 : Int × (List Field)) : Option (Lo Unit Unit) :=
 if (s29.1 != (o.length : Int)) = true then
 some (.ret ())
 else
 some (.out ())
theorem impl_Parse_c23_ok (o : List Int) (r1 : ByteArray × Int × Bool) (s29 : Int × (List Field)) : Pn (JnO Tryd.prog (sub (codeOf Tryd.prog 110) [1, 1, 1, 1, 1, 1, 1, 1, 1, 1, 0]) (st 128 [(0, V.sl false 5 (List.map E5 o)), (2, V.ptr 0 0), (5, V.sc (.int .i64 s29.1)), (15, V.ptr 1 0)] [Blk.box 36 [V.sc (.string ByteArray.empty), V.nl 71], Blk.box 36 [V.sc (.string r1.1), V.ow 2], Blk.row 71 (List.map E71 s29.2) []] []) (fun (y : Lo Unit Unit) => Lo.elim y (fun s => (X.go, st 128 [(2, V.ptr 0 0), (15, V.ptr 1 0)] [Blk.box 36 [V.sc (.string ByteArray.empty), V.nl 71], Blk.box 36 [V.sc (.string r1.1), V.ow 2], Blk.row 71 (List.map E71 s29.2) []] [])) (fun s => (X.ret, st 128 [(2, V.ptr 0 0), (3, V.sc (.int .i64 4))] [Blk.box 36 [V.sc (.string ByteArray.empty), V.nl 71]] [])))) (impl_Parse_c23 o r1 s29) := by
  unfold impl_Parse_c23
  exact
   Pn.ite (fun h73 =>
   Pn.some (JnO.of [.wait 3, .nm 124 (V.sc (.int .i64 (o.length : Int))), .bit true, .wait 3, .mask [2, 3], .ren [0]] (p := [V.sc (.int .i64 ((List.map E5 o).length : Int)) = V.sc (.int .i64 (o.length : Int)),
    (s29.1 != (o.length : Int)) = true]) (by kernel_rfl) (cj (len_nm _ _) (cj1 h73)))) (fun h73 =>
   Pn.some (JnO.of [.wait 3, .nm 124 (V.sc (.int .i64 (o.length : Int))), .bit false, .mask [2, 15], .ren [0, 1, 2]] (p := [V.sc (.int .i64 ((List.map E5 o).length : Int)) = V.sc (.int .i64 (o.length : Int)),
    (s29.1 != (o.length : Int)) = false]) (by kernel_rfl) (cj (len_nm _ _) (cj1 h73))))
def impl_Parse (o : List Int) : Option (Msg × Int) :=
 (impl_GetBcd o 0 4).bind fun r1 =>
 (impl_Parse_c0 o r1).bind fun r2 =>
 Lo.elim r2 (fun s1 =>
 (impl_GetBits o r1.2.1).bind fun r3 =>
 (impl_Parse_c1 o r1 r3).bind fun r4 =>
 Lo.elim r4 (fun s3 =>
 (impl_Parse_l0 o r1 r3 FUEL 0 false []).bind fun r8 =>
 Lo.elim r8 (fun s9 =>
 (impl_Parse_c6 o r1 r3 s9).bind fun r16 =>
 Lo.elim r16 (fun s21 =>
 (impl_Parse_l2 o r1 s21 FUEL s21.1 0 []).bind fun r21 =>
 Lo.elim r21 (fun s29 =>
 (impl_Parse_c23 o r1 s29).bind fun r22 =>
 Lo.elim r22 (fun s31 =>
 some ((Msg.mk r1.1 s29.2), 0)) (fun s32 =>
 some ((Msg.mk ByteArray.empty []), 4))) (fun s30 =>
 some ((Msg.mk ByteArray.empty []), 3))) (fun s22 =>
 some ((Msg.mk ByteArray.empty []), 2))) (fun s10 =>
 some ((Msg.mk ByteArray.empty []), 2))) (fun s4 =>
 some ((Msg.mk ByteArray.empty []), 2))) (fun s2 =>
 some ((Msg.mk ByteArray.empty []), 1))
theorem impl_Parse_ok (o : List Int) : Pn (fun y => Fn Tryd.prog 110 [(false, E40 o)] (V.tup [E36 y.1, E3 y.2]) []) (impl_Parse o) := by
  unfold impl_Parse
  exact
   Pn.bind (fun r1 h1 =>
   Pn.bind (fun r2 h3 =>
   Pn.lo (fun s1 h4 =>
   Pn.bind (fun r3 h6 =>
   Pn.bind (fun r4 h8 =>
   Pn.lo (fun s3 h9 =>
   Pn.bind (fun r8 h24 =>
   Pn.lo (fun s9 h25 =>
   Pn.bind (fun r16 h52 =>
   Pn.lo (fun s21 h53 =>
   Pn.bind (fun r21 h70 =>
   Pn.lo (fun s29 h71 =>
   Pn.bind (fun r22 h74 =>
   Pn.lo (fun s31 h75 =>
   Pn.some (Fn.of [.call [] (V.tup [E9 r1.1, E3 r1.2.1, E4 r1.2.2]) [], .wait 8, .mask [0, 2, 4, 5, 6], .ren [0], .join 7 (X.go) (st 128 [(0, V.sl false 5 (List.map E5 o)), (2, V.ptr 0 0), (4, V.sc (.string r1.1)), (5, V.sc (.int .i64 r1.2.1))] [Blk.box 36 [V.sc (.string ByteArray.empty), V.nl 71]] []), .call [] (V.tup [E53 r3.1, E3 r3.2.1, E4 r3.2.2]) [], .wait 8, .mask [0, 2, 4, 5, 6, 7], .ren [0, 1], .join 7 (X.go) (st 128 [(0, V.sl false 5 (List.map E5 o)), (2, V.ptr 0 0), (4, V.sc (.string r1.1)), (5, V.sc (.int .i64 r3.2.1)), (7, V.ow 1)] [Blk.box 36 [V.sc (.string ByteArray.empty), V.nl 71], Blk.row 3 (List.map E3 r3.1) []] []), .wait 5, .nm 42 (V.sc (.int .i64 (r3.1.length : Int))), .wait 2, .mask [0, 2, 4, 5, 8, 9, 41, 42, 43], .ren [0, 2, 1], .loop (X.out 0) (st 128 [(0, V.sl false 5 (List.map E5 o)), (2, V.ptr 0 0), (4, V.sc (.string r1.1)), (5, V.sc (.int .i64 r3.2.1)), (8, V.ow 1), (9, V.sc (.bool s9.1))] [Blk.box 36 [V.sc (.string ByteArray.empty), V.nl 71], Blk.row 3 (List.map E3 s9.2) []] []), .wait 1, .mask [0, 2, 4, 5, 8, 9], .ren [0, 1], .join 40 (X.go) (st 128 [(0, V.sl false 5 (List.map E5 o)), (2, V.ptr 0 0), (4, V.sc (.string r1.1)), (5, V.sc (.int .i64 s21.1)), (8, V.ow 1)] [Blk.box 36 [V.sc (.string ByteArray.empty), V.nl 71], Blk.row 3 (List.map E3 s21.2) []] []), .wait 6, .nm 96 (V.sc (.int .i64 (s21.2.length : Int))), .wait 2, .mask [0, 2, 5, 15, 95, 96, 97], .ren [0, 2, 1], .ownb 1 1, .mask [0, 2, 5, 15, 95, 96, 97], .ren [0, 1, 3, 2], .loop (X.out 5) (st 128 [(0, V.sl false 5 (List.map E5 o)), (2, V.ptr 0 0), (5, V.sc (.int .i64 s29.1)), (15, V.ptr 1 0)] [Blk.box 36 [V.sc (.string ByteArray.empty), V.nl 71], Blk.box 36 [V.sc (.string r1.1), V.ow 2], Blk.row 71 (List.map E71 s29.2) []] []), .wait 1, .mask [0, 2, 5, 15], .ren [0, 1, 2], .join 7 (X.go) (st 128 [(2, V.ptr 0 0), (15, V.ptr 1 0)] [Blk.box 36 [V.sc (.string ByteArray.empty), V.nl 71], Blk.box 36 [V.sc (.string r1.1), V.ow 2], Blk.row 71 (List.map E71 s29.2) []] [])] (p := [Fn Tryd.prog 139 [(false, E40 o), (false, E3 0), (false, E3 4)] (V.tup [E9 r1.1, E3 r1.2.1, E4 r1.2.2]) [],
    (true || ((V.tup [E9 r1.1, E3 r1.2.1, E4 r1.2.2]).nv && nvL [])) = true,
    HT Tryd.prog (sub (codeOf Tryd.prog 110) [1, 1, 0]) (st 128 [(0, V.sl false 5 (List.map E5 o)), (2, V.ptr 0 0), (4, V.sc (.string r1.1)), (5, V.sc (.int .i64 r1.2.1)), (6, V.sc (.bool r1.2.2))] [Blk.box 36 [V.sc (.string ByteArray.empty), V.nl 71]] []) (X.go) (st 128 [(0, V.sl false 5 (List.map E5 o)), (2, V.ptr 0 0), (4, V.sc (.string r1.1)), (5, V.sc (.int .i64 r1.2.1))] [Blk.box 36 [V.sc (.string ByteArray.empty), V.nl 71]] []),
    Fn Tryd.prog 140 [(false, E40 o), (false, E3 r1.2.1)] (V.tup [E53 r3.1, E3 r3.2.1, E4 r3.2.2]) [],
    (true || ((V.tup [E53 r3.1, E3 r3.2.1, E4 r3.2.2]).nv && nvL [])) = true,
    HT Tryd.prog (sub (codeOf Tryd.prog 110) [1, 1, 1, 1, 0]) (st 128 [(0, V.sl false 5 (List.map E5 o)), (2, V.ptr 0 0), (4, V.sc (.string r1.1)), (5, V.sc (.int .i64 r3.2.1)), (6, V.sc (.bool r3.2.2)), (7, V.ow 1)] [Blk.box 36 [V.sc (.string ByteArray.empty), V.nl 71], Blk.row 3 (List.map E3 r3.1) []] []) (X.go) (st 128 [(0, V.sl false 5 (List.map E5 o)), (2, V.ptr 0 0), (4, V.sc (.string r1.1)), (5, V.sc (.int .i64 r3.2.1)), (7, V.ow 1)] [Blk.box 36 [V.sc (.string ByteArray.empty), V.nl 71], Blk.row 3 (List.map E3 r3.1) []] []),
    V.sc (.int .i64 ((List.map E3 r3.1).length : Int)) = V.sc (.int .i64 (r3.1.length : Int)),
    Loop Tryd.prog (sub (codeOf Tryd.prog 110) [1, 1, 1, 1, 1, 1, 0, 1, 0, 0]) (st 128 [(0, V.sl false 5 (List.map E5 o)), (2, V.ptr 0 0), (4, V.sc (.string r1.1)), (5, V.sc (.int .i64 r3.2.1)), (8, V.ow 1), (9, V.sc (.bool false)), (41, V.ow 2), (42, V.sc (.int .i64 (r3.1.length : Int))), (43, V.sc (.int .i64 0))] [Blk.box 36 [V.sc (.string ByteArray.empty), V.nl 71], Blk.row 3 ([] : List V) [], Blk.row 3 (List.map E3 r3.1) []] []) (X.out 0) (st 128 [(0, V.sl false 5 (List.map E5 o)), (2, V.ptr 0 0), (4, V.sc (.string r1.1)), (5, V.sc (.int .i64 r3.2.1)), (8, V.ow 1), (9, V.sc (.bool s9.1))] [Blk.box 36 [V.sc (.string ByteArray.empty), V.nl 71], Blk.row 3 (List.map E3 s9.2) []] []),
    HT Tryd.prog (sub (codeOf Tryd.prog 110) [1, 1, 1, 1, 1, 1, 1, 0]) (st 128 [(0, V.sl false 5 (List.map E5 o)), (2, V.ptr 0 0), (4, V.sc (.string r1.1)), (5, V.sc (.int .i64 r3.2.1)), (8, V.ow 1), (9, V.sc (.bool s9.1))] [Blk.box 36 [V.sc (.string ByteArray.empty), V.nl 71], Blk.row 3 (List.map E3 s9.2) []] []) (X.go) (st 128 [(0, V.sl false 5 (List.map E5 o)), (2, V.ptr 0 0), (4, V.sc (.string r1.1)), (5, V.sc (.int .i64 s21.1)), (8, V.ow 1)] [Blk.box 36 [V.sc (.string ByteArray.empty), V.nl 71], Blk.row 3 (List.map E3 s21.2) []] []),
    V.sc (.int .i64 ((List.map E3 s21.2).length : Int)) = V.sc (.int .i64 (s21.2.length : Int)),
    Loop Tryd.prog (sub (codeOf Tryd.prog 110) [1, 1, 1, 1, 1, 1, 1, 1, 1, 0, 1, 0, 0]) (st 128 [(0, V.sl false 5 (List.map E5 o)), (2, V.ptr 0 0), (5, V.sc (.int .i64 s21.1)), (15, V.ptr 1 0), (95, V.ow 3), (96, V.sc (.int .i64 (s21.2.length : Int))), (97, V.sc (.int .i64 0))] [Blk.box 36 [V.sc (.string ByteArray.empty), V.nl 71], Blk.box 36 [V.sc (.string r1.1), V.ow 2], Blk.row 71 ([] : List V) [], Blk.row 3 (List.map E3 s21.2) []] []) (X.out 5) (st 128 [(0, V.sl false 5 (List.map E5 o)), (2, V.ptr 0 0), (5, V.sc (.int .i64 s29.1)), (15, V.ptr 1 0)] [Blk.box 36 [V.sc (.string ByteArray.empty), V.nl 71], Blk.box 36 [V.sc (.string r1.1), V.ow 2], Blk.row 71 (List.map E71 s29.2) []] []),
    HT Tryd.prog (sub (codeOf Tryd.prog 110) [1, 1, 1, 1, 1, 1, 1, 1, 1, 1, 0]) (st 128 [(0, V.sl false 5 (List.map E5 o)), (2, V.ptr 0 0), (5, V.sc (.int .i64 s29.1)), (15, V.ptr 1 0)] [Blk.box 36 [V.sc (.string ByteArray.empty), V.nl 71], Blk.box 36 [V.sc (.string r1.1), V.ow 2], Blk.row 71 (List.map E71 s29.2) []] []) (X.go) (st 128 [(2, V.ptr 0 0), (15, V.ptr 1 0)] [Blk.box 36 [V.sc (.string ByteArray.empty), V.nl 71], Blk.box 36 [V.sc (.string r1.1), V.ow 2], Blk.row 71 (List.map E71 s29.2) []] [])]) (by kernel_rfl) (cj (impl_GetBcd_ok o 0 4 r1 h1) (cj rfl (cj ((impl_Parse_c0_ok o r1 r2 h3).at h4) (cj (impl_GetBits_ok o r1.2.1 r3 h6) (cj rfl (cj ((impl_Parse_c1_ok o r1 r3 r4 h8).at h9) (cj (len_nm _ _) (cj ((impl_Parse_l0_ok o r1 r3 FUEL 0 false [] r8 h24).at h25) (cj ((impl_Parse_c6_ok o r1 r3 s9 r16 h52).at h53) (cj (len_nm _ _) (cj ((impl_Parse_l2_ok o r1 s21 FUEL s21.1 0 [] r21 h70).at h71) (cj1 ((impl_Parse_c23_ok o r1 s29 r22 h74).at h75))))))))))))))) (fun s32 h76 =>
   Pn.some (Fn.of [.call [] (V.tup [E9 r1.1, E3 r1.2.1, E4 r1.2.2]) [], .wait 8, .mask [0, 2, 4, 5, 6], .ren [0], .join 7 (X.go) (st 128 [(0, V.sl false 5 (List.map E5 o)), (2, V.ptr 0 0), (4, V.sc (.string r1.1)), (5, V.sc (.int .i64 r1.2.1))] [Blk.box 36 [V.sc (.string ByteArray.empty), V.nl 71]] []), .call [] (V.tup [E53 r3.1, E3 r3.2.1, E4 r3.2.2]) [], .wait 8, .mask [0, 2, 4, 5, 6, 7], .ren [0, 1], .join 7 (X.go) (st 128 [(0, V.sl false 5 (List.map E5 o)), (2, V.ptr 0 0), (4, V.sc (.string r1.1)), (5, V.sc (.int .i64 r3.2.1)), (7, V.ow 1)] [Blk.box 36 [V.sc (.string ByteArray.empty), V.nl 71], Blk.row 3 (List.map E3 r3.1) []] []), .wait 5, .nm 42 (V.sc (.int .i64 (r3.1.length : Int))), .wait 2, .mask [0, 2, 4, 5, 8, 9, 41, 42, 43], .ren [0, 2, 1], .loop (X.out 0) (st 128 [(0, V.sl false 5 (List.map E5 o)), (2, V.ptr 0 0), (4, V.sc (.string r1.1)), (5, V.sc (.int .i64 r3.2.1)), (8, V.ow 1), (9, V.sc (.bool s9.1))] [Blk.box 36 [V.sc (.string ByteArray.empty), V.nl 71], Blk.row 3 (List.map E3 s9.2) []] []), .wait 1, .mask [0, 2, 4, 5, 8, 9], .ren [0, 1], .join 40 (X.go) (st 128 [(0, V.sl false 5 (List.map E5 o)), (2, V.ptr 0 0), (4, V.sc (.string r1.1)), (5, V.sc (.int .i64 s21.1)), (8, V.ow 1)] [Blk.box 36 [V.sc (.string ByteArray.empty), V.nl 71], Blk.row 3 (List.map E3 s21.2) []] []), .wait 6, .nm 96 (V.sc (.int .i64 (s21.2.length : Int))), .wait 2, .mask [0, 2, 5, 15, 95, 96, 97], .ren [0, 2, 1], .ownb 1 1, .mask [0, 2, 5, 15, 95, 96, 97], .ren [0, 1, 3, 2], .loop (X.out 5) (st 128 [(0, V.sl false 5 (List.map E5 o)), (2, V.ptr 0 0), (5, V.sc (.int .i64 s29.1)), (15, V.ptr 1 0)] [Blk.box 36 [V.sc (.string ByteArray.empty), V.nl 71], Blk.box 36 [V.sc (.string r1.1), V.ow 2], Blk.row 71 (List.map E71 s29.2) []] []), .wait 1, .mask [0, 2, 5, 15], .ren [0, 1, 2], .join 7 (X.ret) (st 128 [(2, V.ptr 0 0), (3, V.sc (.int .i64 4))] [Blk.box 36 [V.sc (.string ByteArray.empty), V.nl 71]] [])] (p := [Fn Tryd.prog 139 [(false, E40 o), (false, E3 0), (false, E3 4)] (V.tup [E9 r1.1, E3 r1.2.1, E4 r1.2.2]) [],
    (true || ((V.tup [E9 r1.1, E3 r1.2.1, E4 r1.2.2]).nv && nvL [])) = true,
    HT Tryd.prog (sub (codeOf Tryd.prog 110) [1, 1, 0]) (st 128 [(0, V.sl false 5 (List.map E5 o)), (2, V.ptr 0 0), (4, V.sc (.string r1.1)), (5, V.sc (.int .i64 r1.2.1)), (6, V.sc (.bool r1.2.2))] [Blk.box 36 [V.sc (.string ByteArray.empty), V.nl 71]] []) (X.go) (st 128 [(0, V.sl false 5 (List.map E5 o)), (2, V.ptr 0 0), (4, V.sc (.string r1.1)), (5, V.sc (.int .i64 r1.2.1))] [Blk.box 36 [V.sc (.string ByteArray.empty), V.nl 71]] []),
    Fn Tryd.prog 140 [(false, E40 o), (false, E3 r1.2.1)] (V.tup [E53 r3.1, E3 r3.2.1, E4 r3.2.2]) [],
    (true || ((V.tup [E53 r3.1, E3 r3.2.1, E4 r3.2.2]).nv && nvL [])) = true,
    HT Tryd.prog (sub (codeOf Tryd.prog 110) [1, 1, 1, 1, 0]) (st 128 [(0, V.sl false 5 (List.map E5 o)), (2, V.ptr 0 0), (4, V.sc (.string r1.1)), (5, V.sc (.int .i64 r3.2.1)), (6, V.sc (.bool r3.2.2)), (7, V.ow 1)] [Blk.box 36 [V.sc (.string ByteArray.empty), V.nl 71], Blk.row 3 (List.map E3 r3.1) []] []) (X.go) (st 128 [(0, V.sl false 5 (List.map E5 o)), (2, V.ptr 0 0), (4, V.sc (.string r1.1)), (5, V.sc (.int .i64 r3.2.1)), (7, V.ow 1)] [Blk.box 36 [V.sc (.string ByteArray.empty), V.nl 71], Blk.row 3 (List.map E3 r3.1) []] []),
    V.sc (.int .i64 ((List.map E3 r3.1).length : Int)) = V.sc (.int .i64 (r3.1.length : Int)),
    Loop Tryd.prog (sub (codeOf Tryd.prog 110) [1, 1, 1, 1, 1, 1, 0, 1, 0, 0]) (st 128 [(0, V.sl false 5 (List.map E5 o)), (2, V.ptr 0 0), (4, V.sc (.string r1.1)), (5, V.sc (.int .i64 r3.2.1)), (8, V.ow 1), (9, V.sc (.bool false)), (41, V.ow 2), (42, V.sc (.int .i64 (r3.1.length : Int))), (43, V.sc (.int .i64 0))] [Blk.box 36 [V.sc (.string ByteArray.empty), V.nl 71], Blk.row 3 ([] : List V) [], Blk.row 3 (List.map E3 r3.1) []] []) (X.out 0) (st 128 [(0, V.sl false 5 (List.map E5 o)), (2, V.ptr 0 0), (4, V.sc (.string r1.1)), (5, V.sc (.int .i64 r3.2.1)), (8, V.ow 1), (9, V.sc (.bool s9.1))] [Blk.box 36 [V.sc (.string ByteArray.empty), V.nl 71], Blk.row 3 (List.map E3 s9.2) []] []),
    HT Tryd.prog (sub (codeOf Tryd.prog 110) [1, 1, 1, 1, 1, 1, 1, 0]) (st 128 [(0, V.sl false 5 (List.map E5 o)), (2, V.ptr 0 0), (4, V.sc (.string r1.1)), (5, V.sc (.int .i64 r3.2.1)), (8, V.ow 1), (9, V.sc (.bool s9.1))] [Blk.box 36 [V.sc (.string ByteArray.empty), V.nl 71], Blk.row 3 (List.map E3 s9.2) []] []) (X.go) (st 128 [(0, V.sl false 5 (List.map E5 o)), (2, V.ptr 0 0), (4, V.sc (.string r1.1)), (5, V.sc (.int .i64 s21.1)), (8, V.ow 1)] [Blk.box 36 [V.sc (.string ByteArray.empty), V.nl 71], Blk.row 3 (List.map E3 s21.2) []] []),
    V.sc (.int .i64 ((List.map E3 s21.2).length : Int)) = V.sc (.int .i64 (s21.2.length : Int)),
    Loop Tryd.prog (sub (codeOf Tryd.prog 110) [1, 1, 1, 1, 1, 1, 1, 1, 1, 0, 1, 0, 0]) (st 128 [(0, V.sl false 5 (List.map E5 o)), (2, V.ptr 0 0), (5, V.sc (.int .i64 s21.1)), (15, V.ptr 1 0), (95, V.ow 3), (96, V.sc (.int .i64 (s21.2.length : Int))), (97, V.sc (.int .i64 0))] [Blk.box 36 [V.sc (.string ByteArray.empty), V.nl 71], Blk.box 36 [V.sc (.string r1.1), V.ow 2], Blk.row 71 ([] : List V) [], Blk.row 3 (List.map E3 s21.2) []] []) (X.out 5) (st 128 [(0, V.sl false 5 (List.map E5 o)), (2, V.ptr 0 0), (5, V.sc (.int .i64 s29.1)), (15, V.ptr 1 0)] [Blk.box 36 [V.sc (.string ByteArray.empty), V.nl 71], Blk.box 36 [V.sc (.string r1.1), V.ow 2], Blk.row 71 (List.map E71 s29.2) []] []),
    HT Tryd.prog (sub (codeOf Tryd.prog 110) [1, 1, 1, 1, 1, 1, 1, 1, 1, 1, 0]) (st 128 [(0, V.sl false 5 (List.map E5 o)), (2, V.ptr 0 0), (5, V.sc (.int .i64 s29.1)), (15, V.ptr 1 0)] [Blk.box 36 [V.sc (.string ByteArray.empty), V.nl 71], Blk.box 36 [V.sc (.string r1.1), V.ow 2], Blk.row 71 (List.map E71 s29.2) []] []) (X.ret) (st 128 [(2, V.ptr 0 0), (3, V.sc (.int .i64 4))] [Blk.box 36 [V.sc (.string ByteArray.empty), V.nl 71]] [])]) (by kernel_rfl) (cj (impl_GetBcd_ok o 0 4 r1 h1) (cj rfl (cj ((impl_Parse_c0_ok o r1 r2 h3).at h4) (cj (impl_GetBits_ok o r1.2.1 r3 h6) (cj rfl (cj ((impl_Parse_c1_ok o r1 r3 r4 h8).at h9) (cj (len_nm _ _) (cj ((impl_Parse_l0_ok o r1 r3 FUEL 0 false [] r8 h24).at h25) (cj ((impl_Parse_c6_ok o r1 r3 s9 r16 h52).at h53) (cj (len_nm _ _) (cj ((impl_Parse_l2_ok o r1 s21 FUEL s21.1 0 [] r21 h70).at h71) (cj1 ((impl_Parse_c23_ok o r1 s29 r22 h74).at h76))))))))))))))))) (fun s30 h72 =>
   Pn.some (Fn.of [.call [] (V.tup [E9 r1.1, E3 r1.2.1, E4 r1.2.2]) [], .wait 8, .mask [0, 2, 4, 5, 6], .ren [0], .join 7 (X.go) (st 128 [(0, V.sl false 5 (List.map E5 o)), (2, V.ptr 0 0), (4, V.sc (.string r1.1)), (5, V.sc (.int .i64 r1.2.1))] [Blk.box 36 [V.sc (.string ByteArray.empty), V.nl 71]] []), .call [] (V.tup [E53 r3.1, E3 r3.2.1, E4 r3.2.2]) [], .wait 8, .mask [0, 2, 4, 5, 6, 7], .ren [0, 1], .join 7 (X.go) (st 128 [(0, V.sl false 5 (List.map E5 o)), (2, V.ptr 0 0), (4, V.sc (.string r1.1)), (5, V.sc (.int .i64 r3.2.1)), (7, V.ow 1)] [Blk.box 36 [V.sc (.string ByteArray.empty), V.nl 71], Blk.row 3 (List.map E3 r3.1) []] []), .wait 5, .nm 42 (V.sc (.int .i64 (r3.1.length : Int))), .wait 2, .mask [0, 2, 4, 5, 8, 9, 41, 42, 43], .ren [0, 2, 1], .loop (X.out 0) (st 128 [(0, V.sl false 5 (List.map E5 o)), (2, V.ptr 0 0), (4, V.sc (.string r1.1)), (5, V.sc (.int .i64 r3.2.1)), (8, V.ow 1), (9, V.sc (.bool s9.1))] [Blk.box 36 [V.sc (.string ByteArray.empty), V.nl 71], Blk.row 3 (List.map E3 s9.2) []] []), .wait 1, .mask [0, 2, 4, 5, 8, 9], .ren [0, 1], .join 40 (X.go) (st 128 [(0, V.sl false 5 (List.map E5 o)), (2, V.ptr 0 0), (4, V.sc (.string r1.1)), (5, V.sc (.int .i64 s21.1)), (8, V.ow 1)] [Blk.box 36 [V.sc (.string ByteArray.empty), V.nl 71], Blk.row 3 (List.map E3 s21.2) []] []), .wait 6, .nm 96 (V.sc (.int .i64 (s21.2.length : Int))), .wait 2, .mask [0, 2, 5, 15, 95, 96, 97], .ren [0, 2, 1], .ownb 1 1, .mask [0, 2, 5, 15, 95, 96, 97], .ren [0, 1, 3, 2], .loop (X.ret) (st 128 [(2, V.ptr 0 0), (3, V.sc (.int .i64 3))] [Blk.box 36 [V.sc (.string ByteArray.empty), V.nl 71]] [])] (p := [Fn Tryd.prog 139 [(false, E40 o), (false, E3 0), (false, E3 4)] (V.tup [E9 r1.1, E3 r1.2.1, E4 r1.2.2]) [],
    (true || ((V.tup [E9 r1.1, E3 r1.2.1, E4 r1.2.2]).nv && nvL [])) = true,
    HT Tryd.prog (sub (codeOf Tryd.prog 110) [1, 1, 0]) (st 128 [(0, V.sl false 5 (List.map E5 o)), (2, V.ptr 0 0), (4, V.sc (.string r1.1)), (5, V.sc (.int .i64 r1.2.1)), (6, V.sc (.bool r1.2.2))] [Blk.box 36 [V.sc (.string ByteArray.empty), V.nl 71]] []) (X.go) (st 128 [(0, V.sl false 5 (List.map E5 o)), (2, V.ptr 0 0), (4, V.sc (.string r1.1)), (5, V.sc (.int .i64 r1.2.1))] [Blk.box 36 [V.sc (.string ByteArray.empty), V.nl 71]] []),
    Fn Tryd.prog 140 [(false, E40 o), (false, E3 r1.2.1)] (V.tup [E53 r3.1, E3 r3.2.1, E4 r3.2.2]) [],
    (true || ((V.tup [E53 r3.1, E3 r3.2.1, E4 r3.2.2]).nv && nvL [])) = true,
    HT Tryd.prog (sub (codeOf Tryd.prog 110) [1, 1, 1, 1, 0]) (st 128 [(0, V.sl false 5 (List.map E5 o)), (2, V.ptr 0 0), (4, V.sc (.string r1.1)), (5, V.sc (.int .i64 r3.2.1)), (6, V.sc (.bool r3.2.2)), (7, V.ow 1)] [Blk.box 36 [V.sc (.string ByteArray.empty), V.nl 71], Blk.row 3 (List.map E3 r3.1) []] []) (X.go) (st 128 [(0, V.sl false 5 (List.map E5 o)), (2, V.ptr 0 0), (4, V.sc (.string r1.1)), (5, V.sc (.int .i64 r3.2.1)), (7, V.ow 1)] [Blk.box 36 [V.sc (.string ByteArray.empty), V.nl 71], Blk.row 3 (List.map E3 r3.1) []] []),
    V.sc (.int .i64 ((List.map E3 r3.1).length : Int)) = V.sc (.int .i64 (r3.1.length : Int)),
    Loop Tryd.prog (sub (codeOf Tryd.prog 110) [1, 1, 1, 1, 1, 1, 0, 1, 0, 0]) (st 128 [(0, V.sl false 5 (List.map E5 o)), (2, V.ptr 0 0), (4, V.sc (.string r1.1)), (5, V.sc (.int .i64 r3.2.1)), (8, V.ow 1), (9, V.sc (.bool false)), (41, V.ow 2), (42, V.sc (.int .i64 (r3.1.length : Int))), (43, V.sc (.int .i64 0))] [Blk.box 36 [V.sc (.string ByteArray.empty), V.nl 71], Blk.row 3 ([] : List V) [], Blk.row 3 (List.map E3 r3.1) []] []) (X.out 0) (st 128 [(0, V.sl false 5 (List.map E5 o)), (2, V.ptr 0 0), (4, V.sc (.string r1.1)), (5, V.sc (.int .i64 r3.2.1)), (8, V.ow 1), (9, V.sc (.bool s9.1))] [Blk.box 36 [V.sc (.string ByteArray.empty), V.nl 71], Blk.row 3 (List.map E3 s9.2) []] []),
    HT Tryd.prog (sub (codeOf Tryd.prog 110) [1, 1, 1, 1, 1, 1, 1, 0]) (st 128 [(0, V.sl false 5 (List.map E5 o)), (2, V.ptr 0 0), (4, V.sc (.string r1.1)), (5, V.sc (.int .i64 r3.2.1)), (8, V.ow 1), (9, V.sc (.bool s9.1))] [Blk.box 36 [V.sc (.string ByteArray.empty), V.nl 71], Blk.row 3 (List.map E3 s9.2) []] []) (X.go) (st 128 [(0, V.sl false 5 (List.map E5 o)), (2, V.ptr 0 0), (4, V.sc (.string r1.1)), (5, V.sc (.int .i64 s21.1)), (8, V.ow 1)] [Blk.box 36 [V.sc (.string ByteArray.empty), V.nl 71], Blk.row 3 (List.map E3 s21.2) []] []),
    V.sc (.int .i64 ((List.map E3 s21.2).length : Int)) = V.sc (.int .i64 (s21.2.length : Int)),
    Loop Tryd.prog (sub (codeOf Tryd.prog 110) [1, 1, 1, 1, 1, 1, 1, 1, 1, 0, 1, 0, 0]) (st 128 [(0, V.sl false 5 (List.map E5 o)), (2, V.ptr 0 0), (5, V.sc (.int .i64 s21.1)), (15, V.ptr 1 0), (95, V.ow 3), (96, V.sc (.int .i64 (s21.2.length : Int))), (97, V.sc (.int .i64 0))] [Blk.box 36 [V.sc (.string ByteArray.empty), V.nl 71], Blk.box 36 [V.sc (.string r1.1), V.ow 2], Blk.row 71 ([] : List V) [], Blk.row 3 (List.map E3 s21.2) []] []) (X.ret) (st 128 [(2, V.ptr 0 0), (3, V.sc (.int .i64 3))] [Blk.box 36 [V.sc (.string ByteArray.empty), V.nl 71]] [])]) (by kernel_rfl) (cj (impl_GetBcd_ok o 0 4 r1 h1) (cj rfl (cj ((impl_Parse_c0_ok o r1 r2 h3).at h4) (cj (impl_GetBits_ok o r1.2.1 r3 h6) (cj rfl (cj ((impl_Parse_c1_ok o r1 r3 r4 h8).at h9) (cj (len_nm _ _) (cj ((impl_Parse_l0_ok o r1 r3 FUEL 0 false [] r8 h24).at h25) (cj ((impl_Parse_c6_ok o r1 r3 s9 r16 h52).at h53) (cj (len_nm _ _) (cj1 ((impl_Parse_l2_ok o r1 s21 FUEL s21.1 0 [] r21 h70).at h72)))))))))))))))) (fun s22 h54 =>
   Pn.some (Fn.of [.call [] (V.tup [E9 r1.1, E3 r1.2.1, E4 r1.2.2]) [], .wait 8, .mask [0, 2, 4, 5, 6], .ren [0], .join 7 (X.go) (st 128 [(0, V.sl false 5 (List.map E5 o)), (2, V.ptr 0 0), (4, V.sc (.string r1.1)), (5, V.sc (.int .i64 r1.2.1))] [Blk.box 36 [V.sc (.string ByteArray.empty), V.nl 71]] []), .call [] (V.tup [E53 r3.1, E3 r3.2.1, E4 r3.2.2]) [], .wait 8, .mask [0, 2, 4, 5, 6, 7], .ren [0, 1], .join 7 (X.go) (st 128 [(0, V.sl false 5 (List.map E5 o)), (2, V.ptr 0 0), (4, V.sc (.string r1.1)), (5, V.sc (.int .i64 r3.2.1)), (7, V.ow 1)] [Blk.box 36 [V.sc (.string ByteArray.empty), V.nl 71], Blk.row 3 (List.map E3 r3.1) []] []), .wait 5, .nm 42 (V.sc (.int .i64 (r3.1.length : Int))), .wait 2, .mask [0, 2, 4, 5, 8, 9, 41, 42, 43], .ren [0, 2, 1], .loop (X.out 0) (st 128 [(0, V.sl false 5 (List.map E5 o)), (2, V.ptr 0 0), (4, V.sc (.string r1.1)), (5, V.sc (.int .i64 r3.2.1)), (8, V.ow 1), (9, V.sc (.bool s9.1))] [Blk.box 36 [V.sc (.string ByteArray.empty), V.nl 71], Blk.row 3 (List.map E3 s9.2) []] []), .wait 1, .mask [0, 2, 4, 5, 8, 9], .ren [0, 1], .join 40 (X.ret) (st 128 [(2, V.ptr 0 0), (3, V.sc (.int .i64 2))] [Blk.box 36 [V.sc (.string ByteArray.empty), V.nl 71]] [])] (p := [Fn Tryd.prog 139 [(false, E40 o), (false, E3 0), (false, E3 4)] (V.tup [E9 r1.1, E3 r1.2.1, E4 r1.2.2]) [],
    (true || ((V.tup [E9 r1.1, E3 r1.2.1, E4 r1.2.2]).nv && nvL [])) = true,
    HT Tryd.prog (sub (codeOf Tryd.prog 110) [1, 1, 0]) (st 128 [(0, V.sl false 5 (List.map E5 o)), (2, V.ptr 0 0), (4, V.sc (.string r1.1)), (5, V.sc (.int .i64 r1.2.1)), (6, V.sc (.bool r1.2.2))] [Blk.box 36 [V.sc (.string ByteArray.empty), V.nl 71]] []) (X.go) (st 128 [(0, V.sl false 5 (List.map E5 o)), (2, V.ptr 0 0), (4, V.sc (.string r1.1)), (5, V.sc (.int .i64 r1.2.1))] [Blk.box 36 [V.sc (.string ByteArray.empty), V.nl 71]] []),
    Fn Tryd.prog 140 [(false, E40 o), (false, E3 r1.2.1)] (V.tup [E53 r3.1, E3 r3.2.1, E4 r3.2.2]) [],
    (true || ((V.tup [E53 r3.1, E3 r3.2.1, E4 r3.2.2]).nv && nvL [])) = true,
    HT Tryd.prog (sub (codeOf Tryd.prog 110) [1, 1, 1, 1, 0]) (st 128 [(0, V.sl false 5 (List.map E5 o)), (2, V.ptr 0 0), (4, V.sc (.string r1.1)), (5, V.sc (.int .i64 r3.2.1)), (6, V.sc (.bool r3.2.2)), (7, V.ow 1)] [Blk.box 36 [V.sc (.string ByteArray.empty), V.nl 71], Blk.row 3 (List.map E3 r3.1) []] []) (X.go) (st 128 [(0, V.sl false 5 (List.map E5 o)), (2, V.ptr 0 0), (4, V.sc (.string r1.1)), (5, V.sc (.int .i64 r3.2.1)), (7, V.ow 1)] [Blk.box 36 [V.sc (.string ByteArray.empty), V.nl 71], Blk.row 3 (List.map E3 r3.1) []] []),
    V.sc (.int .i64 ((List.map E3 r3.1).length : Int)) = V.sc (.int .i64 (r3.1.length : Int)),
    Loop Tryd.prog (sub (codeOf Tryd.prog 110) [1, 1, 1, 1, 1, 1, 0, 1, 0, 0]) (st 128 [(0, V.sl false 5 (List.map E5 o)), (2, V.ptr 0 0), (4, V.sc (.string r1.1)), (5, V.sc (.int .i64 r3.2.1)), (8, V.ow 1), (9, V.sc (.bool false)), (41, V.ow 2), (42, V.sc (.int .i64 (r3.1.length : Int))), (43, V.sc (.int .i64 0))] [Blk.box 36 [V.sc (.string ByteArray.empty), V.nl 71], Blk.row 3 ([] : List V) [], Blk.row 3 (List.map E3 r3.1) []] []) (X.out 0) (st 128 [(0, V.sl false 5 (List.map E5 o)), (2, V.ptr 0 0), (4, V.sc (.string r1.1)), (5, V.sc (.int .i64 r3.2.1)), (8, V.ow 1), (9, V.sc (.bool s9.1))] [Blk.box 36 [V.sc (.string ByteArray.empty), V.nl 71], Blk.row 3 (List.map E3 s9.2) []] []),
    HT Tryd.prog (sub (codeOf Tryd.prog 110) [1, 1, 1, 1, 1, 1, 1, 0]) (st 128 [(0, V.sl false 5 (List.map E5 o)), (2, V.ptr 0 0), (4, V.sc (.string r1.1)), (5, V.sc (.int .i64 r3.2.1)), (8, V.ow 1), (9, V.sc (.bool s9.1))] [Blk.box 36 [V.sc (.string ByteArray.empty), V.nl 71], Blk.row 3 (List.map E3 s9.2) []] []) (X.ret) (st 128 [(2, V.ptr 0 0), (3, V.sc (.int .i64 2))] [Blk.box 36 [V.sc (.string ByteArray.empty), V.nl 71]] [])]) (by kernel_rfl) (cj (impl_GetBcd_ok o 0 4 r1 h1) (cj rfl (cj ((impl_Parse_c0_ok o r1 r2 h3).at h4) (cj (impl_GetBits_ok o r1.2.1 r3 h6) (cj rfl (cj ((impl_Parse_c1_ok o r1 r3 r4 h8).at h9) (cj (len_nm _ _) (cj ((impl_Parse_l0_ok o r1 r3 FUEL 0 false [] r8 h24).at h25) (cj1 ((impl_Parse_c6_ok o r1 r3 s9 r16 h52).at h54)))))))))))))) (fun s10 h26 =>
   Pn.some (Fn.of [.call [] (V.tup [E9 r1.1, E3 r1.2.1, E4 r1.2.2]) [], .wait 8, .mask [0, 2, 4, 5, 6], .ren [0], .join 7 (X.go) (st 128 [(0, V.sl false 5 (List.map E5 o)), (2, V.ptr 0 0), (4, V.sc (.string r1.1)), (5, V.sc (.int .i64 r1.2.1))] [Blk.box 36 [V.sc (.string ByteArray.empty), V.nl 71]] []), .call [] (V.tup [E53 r3.1, E3 r3.2.1, E4 r3.2.2]) [], .wait 8, .mask [0, 2, 4, 5, 6, 7], .ren [0, 1], .join 7 (X.go) (st 128 [(0, V.sl false 5 (List.map E5 o)), (2, V.ptr 0 0), (4, V.sc (.string r1.1)), (5, V.sc (.int .i64 r3.2.1)), (7, V.ow 1)] [Blk.box 36 [V.sc (.string ByteArray.empty), V.nl 71], Blk.row 3 (List.map E3 r3.1) []] []), .wait 5, .nm 42 (V.sc (.int .i64 (r3.1.length : Int))), .wait 2, .mask [0, 2, 4, 5, 8, 9, 41, 42, 43], .ren [0, 2, 1], .loop (X.ret) (st 128 [(2, V.ptr 0 0), (3, V.sc (.int .i64 2))] [Blk.box 36 [V.sc (.string ByteArray.empty), V.nl 71]] [])] (p := [Fn Tryd.prog 139 [(false, E40 o), (false, E3 0), (false, E3 4)] (V.tup [E9 r1.1, E3 r1.2.1, E4 r1.2.2]) [],
    (true || ((V.tup [E9 r1.1, E3 r1.2.1, E4 r1.2.2]).nv && nvL [])) = true,
    HT Tryd.prog (sub (codeOf Tryd.prog 110) [1, 1, 0]) (st 128 [(0, V.sl false 5 (List.map E5 o)), (2, V.ptr 0 0), (4, V.sc (.string r1.1)), (5, V.sc (.int .i64 r1.2.1)), (6, V.sc (.bool r1.2.2))] [Blk.box 36 [V.sc (.string ByteArray.empty), V.nl 71]] []) (X.go) (st 128 [(0, V.sl false 5 (List.map E5 o)), (2, V.ptr 0 0), (4, V.sc (.string r1.1)), (5, V.sc (.int .i64 r1.2.1))] [Blk.box 36 [V.sc (.string ByteArray.empty), V.nl 71]] []),
    Fn Tryd.prog 140 [(false, E40 o), (false, E3 r1.2.1)] (V.tup [E53 r3.1, E3 r3.2.1, E4 r3.2.2]) [],
    (true || ((V.tup [E53 r3.1, E3 r3.2.1, E4 r3.2.2]).nv && nvL [])) = true,
    HT Tryd.prog (sub (codeOf Tryd.prog 110) [1, 1, 1, 1, 0]) (st 128 [(0, V.sl false 5 (List.map E5 o)), (2, V.ptr 0 0), (4, V.sc (.string r1.1)), (5, V.sc (.int .i64 r3.2.1)), (6, V.sc (.bool r3.2.2)), (7, V.ow 1)] [Blk.box 36 [V.sc (.string ByteArray.empty), V.nl 71], Blk.row 3 (List.map E3 r3.1) []] []) (X.go) (st 128 [(0, V.sl false 5 (List.map E5 o)), (2, V.ptr 0 0), (4, V.sc (.string r1.1)), (5, V.sc (.int .i64 r3.2.1)), (7, V.ow 1)] [Blk.box 36 [V.sc (.string ByteArray.empty), V.nl 71], Blk.row 3 (List.map E3 r3.1) []] []),
    V.sc (.int .i64 ((List.map E3 r3.1).length : Int)) = V.sc (.int .i64 (r3.1.length : Int)),
    Loop Tryd.prog (sub (codeOf Tryd.prog 110) [1, 1, 1, 1, 1, 1, 0, 1, 0, 0]) (st 128 [(0, V.sl false 5 (List.map E5 o)), (2, V.ptr 0 0), (4, V.sc (.string r1.1)), (5, V.sc (.int .i64 r3.2.1)), (8, V.ow 1), (9, V.sc (.bool false)), (41, V.ow 2), (42, V.sc (.int .i64 (r3.1.length : Int))), (43, V.sc (.int .i64 0))] [Blk.box 36 [V.sc (.string ByteArray.empty), V.nl 71], Blk.row 3 ([] : List V) [], Blk.row 3 (List.map E3 r3.1) []] []) (X.ret) (st 128 [(2, V.ptr 0 0), (3, V.sc (.int .i64 2))] [Blk.box 36 [V.sc (.string ByteArray.empty), V.nl 71]] [])]) (by kernel_rfl) (cj (impl_GetBcd_ok o 0 4 r1 h1) (cj rfl (cj ((impl_Parse_c0_ok o r1 r2 h3).at h4) (cj (impl_GetBits_ok o r1.2.1 r3 h6) (cj rfl (cj ((impl_Parse_c1_ok o r1 r3 r4 h8).at h9) (cj (len_nm _ _) (cj1 ((impl_Parse_l0_ok o r1 r3 FUEL 0 false [] r8 h24).at h26))))))))))))) (fun s4 h10 =>
   Pn.some (Fn.of [.call [] (V.tup [E9 r1.1, E3 r1.2.1, E4 r1.2.2]) [], .wait 8, .mask [0, 2, 4, 5, 6], .ren [0], .join 7 (X.go) (st 128 [(0, V.sl false 5 (List.map E5 o)), (2, V.ptr 0 0), (4, V.sc (.string r1.1)), (5, V.sc (.int .i64 r1.2.1))] [Blk.box 36 [V.sc (.string ByteArray.empty), V.nl 71]] []), .call [] (V.tup [E53 r3.1, E3 r3.2.1, E4 r3.2.2]) [], .wait 8, .mask [0, 2, 4, 5, 6, 7], .ren [0, 1], .join 7 (X.ret) (st 128 [(2, V.ptr 0 0), (3, V.sc (.int .i64 2))] [Blk.box 36 [V.sc (.string ByteArray.empty), V.nl 71]] [])] (p := [Fn Tryd.prog 139 [(false, E40 o), (false, E3 0), (false, E3 4)] (V.tup [E9 r1.1, E3 r1.2.1, E4 r1.2.2]) [],
    (true || ((V.tup [E9 r1.1, E3 r1.2.1, E4 r1.2.2]).nv && nvL [])) = true,
    HT Tryd.prog (sub (codeOf Tryd.prog 110) [1, 1, 0]) (st 128 [(0, V.sl false 5 (List.map E5 o)), (2, V.ptr 0 0), (4, V.sc (.string r1.1)), (5, V.sc (.int .i64 r1.2.1)), (6, V.sc (.bool r1.2.2))] [Blk.box 36 [V.sc (.string ByteArray.empty), V.nl 71]] []) (X.go) (st 128 [(0, V.sl false 5 (List.map E5 o)), (2, V.ptr 0 0), (4, V.sc (.string r1.1)), (5, V.sc (.int .i64 r1.2.1))] [Blk.box 36 [V.sc (.string ByteArray.empty), V.nl 71]] []),
    Fn Tryd.prog 140 [(false, E40 o), (false, E3 r1.2.1)] (V.tup [E53 r3.1, E3 r3.2.1, E4 r3.2.2]) [],
    (true || ((V.tup [E53 r3.1, E3 r3.2.1, E4 r3.2.2]).nv && nvL [])) = true,
    HT Tryd.prog (sub (codeOf Tryd.prog 110) [1, 1, 1, 1, 0]) (st 128 [(0, V.sl false 5 (List.map E5 o)), (2, V.ptr 0 0), (4, V.sc (.string r1.1)), (5, V.sc (.int .i64 r3.2.1)), (6, V.sc (.bool r3.2.2)), (7, V.ow 1)] [Blk.box 36 [V.sc (.string ByteArray.empty), V.nl 71], Blk.row 3 (List.map E3 r3.1) []] []) (X.ret) (st 128 [(2, V.ptr 0 0), (3, V.sc (.int .i64 2))] [Blk.box 36 [V.sc (.string ByteArray.empty), V.nl 71]] [])]) (by kernel_rfl) (cj (impl_GetBcd_ok o 0 4 r1 h1) (cj rfl (cj ((impl_Parse_c0_ok o r1 r2 h3).at h4) (cj (impl_GetBits_ok o r1.2.1 r3 h6) (cj rfl (cj1 ((impl_Parse_c1_ok o r1 r3 r4 h8).at h10)))))))))))) (fun s2 h5 =>
   Pn.some (Fn.of [.call [] (V.tup [E9 r1.1, E3 r1.2.1, E4 r1.2.2]) [], .wait 8, .mask [0, 2, 4, 5, 6], .ren [0], .join 7 (X.ret) (st 128 [(2, V.ptr 0 0), (3, V.sc (.int .i64 1))] [Blk.box 36 [V.sc (.string ByteArray.empty), V.nl 71]] [])] (p := [Fn Tryd.prog 139 [(false, E40 o), (false, E3 0), (false, E3 4)] (V.tup [E9 r1.1, E3 r1.2.1, E4 r1.2.2]) [],
    (true || ((V.tup [E9 r1.1, E3 r1.2.1, E4 r1.2.2]).nv && nvL [])) = true,
    HT Tryd.prog (sub (codeOf Tryd.prog 110) [1, 1, 0]) (st 128 [(0, V.sl false 5 (List.map E5 o)), (2, V.ptr 0 0), (4, V.sc (.string r1.1)), (5, V.sc (.int .i64 r1.2.1)), (6, V.sc (.bool r1.2.2))] [Blk.box 36 [V.sc (.string ByteArray.empty), V.nl 71]] []) (X.ret) (st 128 [(2, V.ptr 0 0), (3, V.sc (.int .i64 1))] [Blk.box 36 [V.sc (.string ByteArray.empty), V.nl 71]] [])]) (by kernel_rfl) (cj (impl_GetBcd_ok o 0 4 r1 h1) (cj rfl (cj1 ((impl_Parse_c0_ok o r1 r2 h3).at h5))))))))
def impl_FieldOf_l0 (m : Msg) (no : Int) : List Field → Option (Lo Unit ByteArray)
  | [] =>
   some (.out ())
  | x1 :: t1 =>
   if (x1.No == no) = true then
   some (.ret x1.Text)
   else
   impl_FieldOf_l0 m no t1
theorem impl_FieldOf_l0_ok (m : Msg) (no : Int) (h2 : capOk m.List.length = true) : ∀ (t1 p1 : List Field) (_ : m.List = p1 ++ t1) , Pn (LpO Tryd.prog (sub (codeOf Tryd.prog 111) [1, 0, 1, 0, 0]) (st 22 [(1, V.sc (.int .i64 no)), (9, V.sl false 71 (List.map E71 m.List)), (10, V.sc (.int .i64 (m.List.length : Int))), (11, V.sc (.int .i64 (p1.length : Int)))] [] []) (fun (y : Lo Unit ByteArray) => Lo.elim y (fun s => (X.out 0, st 22 [] [] [])) (fun s => (X.ret, st 22 [(4, V.sc (.string s)), (5, V.sc (.bool true))] [] [])))) (impl_FieldOf_l0 m no t1)
  | [], p1, h1 => by
    unfold impl_FieldOf_l0
    exact
     Pn.some (LpO.out [.bit false, .mask [], .ren []] (p := [(decide ((p1.length : Int) < (m.List.length : Int))) = false]) (by kernel_rfl) (show X.out 0 ≠ X.go from nofun) (cj1 (rng_end h1)))
  | x1 :: t1, p1, h1 => by
    unfold impl_FieldOf_l0
    exact
     Pn.ite (fun h3 =>
     Pn.some (LpO.out [.bit true, .el (E71 x1), .bit true, .wait 4, .mask [4, 5], .ren []] (p := [(decide ((p1.length : Int) < (m.List.length : Int))) = true,
      (0 : Int) ≤ (p1.length : Int),
      (List.map E71 m.List)[(p1.length : Int).toNat]? = some (E71 x1),
      (x1.No == no) = true]) (by kernel_rfl) (show X.ret ≠ X.go from nofun) (cj (rng_lt h1) (cj (by omega) (cj (rng_get _ h1) (cj1 h3)))))) (fun h3 =>
     LpO.go [.bit true, .el (E71 x1), .bit false, .wait 2, .mask [1, 9, 10, 11], .ren [], .nm 11 (V.sc (.int .i64 ((p1 ++ [x1]).length : Int)))] (p := [(decide ((p1.length : Int) < (m.List.length : Int))) = true,
      (0 : Int) ≤ (p1.length : Int),
      (List.map E71 m.List)[(p1.length : Int).toNat]? = some (E71 x1),
      (x1.No == no) = false,
      V.sc (.int .i64 (i64 ((p1.length : Int) + 1))) = V.sc (.int .i64 ((p1 ++ [x1]).length : Int))]) (by kernel_rfl) (cj (rng_lt h1) (cj (by omega) (cj (rng_get _ h1) (cj h3 (cj1 (rng_next h1 h2)))))) (impl_FieldOf_l0_ok m no h2 t1 (p1 ++ [x1]) (rng_step h1)))
def impl_FieldOf (m : Msg) (no : Int) : Option (ByteArray × Bool) :=
 if (capOk m.List.length) = true then
 (impl_FieldOf_l0 m no m.List).bind fun r1 =>
 Lo.elim r1 (fun s1 =>
 some (bs [], false)) (fun s2 =>
 some (s2, true))
 else none
theorem impl_FieldOf_ok (m : Msg) (no : Int) : Pn (fun y => Fn Tryd.prog 111 [(false, E36 m), (false, E3 no)] (V.tup [E9 y.1, E4 y.2]) []) (impl_FieldOf m no) := by
  unfold impl_FieldOf
  exact
   Pn.ite (fun h4 =>
   Pn.bind (fun r1 h5 =>
   Pn.lo (fun s1 h6 =>
   Pn.some (Fn.of [.wait 6, .nm 10 (V.sc (.int .i64 (m.List.length : Int))), .wait 2, .mask [1, 9, 10, 11], .ren [], .loop (X.out 0) (st 22 [] [] [])] (p := [V.sc (.int .i64 ((List.map E71 m.List).length : Int)) = V.sc (.int .i64 (m.List.length : Int)),
    Loop Tryd.prog (sub (codeOf Tryd.prog 111) [1, 0, 1, 0, 0]) (st 22 [(1, V.sc (.int .i64 no)), (9, V.sl false 71 (List.map E71 m.List)), (10, V.sc (.int .i64 (m.List.length : Int))), (11, V.sc (.int .i64 0))] [] []) (X.out 0) (st 22 [] [] [])]) (by kernel_rfl) (cj (len_nm _ _) (cj1 ((impl_FieldOf_l0_ok m no h4 m.List [] rfl r1 h5).at h6))))) (fun s2 h7 =>
   Pn.some (Fn.of [.wait 6, .nm 10 (V.sc (.int .i64 (m.List.length : Int))), .wait 2, .mask [1, 9, 10, 11], .ren [], .loop (X.ret) (st 22 [(4, V.sc (.string s2)), (5, V.sc (.bool true))] [] [])] (p := [V.sc (.int .i64 ((List.map E71 m.List).length : Int)) = V.sc (.int .i64 (m.List.length : Int)),
    Loop Tryd.prog (sub (codeOf Tryd.prog 111) [1, 0, 1, 0, 0]) (st 22 [(1, V.sc (.int .i64 no)), (9, V.sl false 71 (List.map E71 m.List)), (10, V.sc (.int .i64 (m.List.length : Int))), (11, V.sc (.int .i64 0))] [] []) (X.ret) (st 22 [(4, V.sc (.string s2)), (5, V.sc (.bool true))] [] [])]) (by kernel_rfl) (cj (len_nm _ _) (cj1 ((impl_FieldOf_l0_ok m no h4 m.List [] rfl r1 h5).at h7))))))) (fun h4 =>
   Pn.none)
def impl_rsTexts  : Option ((List ByteArray)) :=
 some [bs [48, 48], bs [51, 48], bs [49, 50], bs [49, 52], bs [49, 51], bs [50, 53], bs [57, 52], bs [53, 49], bs [54, 53], bs [54, 49], bs [57, 54]]
theorem impl_rsTexts_ok  : Pn (fun y => Fn Tryd.prog 113 [] (E65 y) []) (impl_rsTexts) := by
  unfold impl_rsTexts
  exact
   Pn.some (Fn.of [] (p := []) (by kernel_rfl) trivial)
def slices_Index_string_l0 (s_ : List ByteArray) (v_ : ByteArray) : List ByteArray → List ByteArray → Option (Lo Unit Int)
  | [], p1 =>
   some (.out ())
  | x1 :: t1, p1 =>
   if (v_ == x1) = true then
   some (.ret (p1.length : Int))
   else
   slices_Index_string_l0 s_ v_ t1 (p1 ++ [x1])
theorem slices_Index_string_l0_ok (s_ : List ByteArray) (v_ : ByteArray) (h2 : capOk s_.length = true) : ∀ (t1 p1 : List ByteArray) (_ : s_ = p1 ++ t1) , Pn (LpO Tryd.prog (sub (codeOf Tryd.prog 143) [1, 0, 1, 0, 0]) (st 19 [(0, V.sl false 9 (List.map E9 s_)), (1, V.sc (.string v_)), (7, V.sc (.int .i64 (s_.length : Int))), (8, V.sc (.int .i64 (p1.length : Int)))] [] []) (fun (y : Lo Unit Int) => Lo.elim y (fun s => (X.out 0, st 19 [] [] [])) (fun s => (X.ret, st 19 [(4, V.sc (.int .i64 s))] [] [])))) (slices_Index_string_l0 s_ v_ t1 p1)
  | [], p1, h1 => by
    unfold slices_Index_string_l0
    exact
     Pn.some (LpO.out [.bit false, .mask [], .ren []] (p := [(decide ((p1.length : Int) < (s_.length : Int))) = false]) (by kernel_rfl) (show X.out 0 ≠ X.go from nofun) (cj1 (rng_end h1)))
  | x1 :: t1, p1, h1 => by
    unfold slices_Index_string_l0
    exact
     Pn.ite (fun h3 =>
     Pn.some (LpO.out [.bit true, .el (E9 x1), .bit true, .wait 2, .mask [4], .ren []] (p := [(decide ((p1.length : Int) < (s_.length : Int))) = true,
      (0 : Int) ≤ (p1.length : Int),
      (List.map E9 s_)[(p1.length : Int).toNat]? = some (E9 x1),
      (v_ == x1) = true]) (by kernel_rfl) (show X.ret ≠ X.go from nofun) (cj (rng_lt h1) (cj (by omega) (cj (rng_get _ h1) (cj1 h3)))))) (fun h3 =>
     LpO.go [.bit true, .el (E9 x1), .bit false, .wait 2, .mask [0, 1, 7, 8], .ren [], .nm 8 (V.sc (.int .i64 ((p1 ++ [x1]).length : Int)))] (p := [(decide ((p1.length : Int) < (s_.length : Int))) = true,
      (0 : Int) ≤ (p1.length : Int),
      (List.map E9 s_)[(p1.length : Int).toNat]? = some (E9 x1),
      (v_ == x1) = false,
      V.sc (.int .i64 (i64 ((p1.length : Int) + 1))) = V.sc (.int .i64 ((p1 ++ [x1]).length : Int))]) (by kernel_rfl) (cj (rng_lt h1) (cj (by omega) (cj (rng_get _ h1) (cj h3 (cj1 (rng_next h1 h2)))))) (slices_Index_string_l0_ok s_ v_ h2 t1 (p1 ++ [x1]) (rng_step h1)))
def slices_Index_string (s_ : List ByteArray) (v_ : ByteArray) : Option (Int) :=
 if (capOk s_.length) = true then
 (slices_Index_string_l0 s_ v_ s_ []).bind fun r1 =>
 Lo.elim r1 (fun s1 =>
 some (-1)) (fun s2 =>
 some s2)
 else none
theorem slices_Index_string_ok (s_ : List ByteArray) (v_ : ByteArray) : Pn (fun y => Fn Tryd.prog 143 [(false, E65 s_), (false, E9 v_)] (E3 y) []) (slices_Index_string s_ v_) := by
  unfold slices_Index_string
  exact
   Pn.ite (fun h4 =>
   Pn.bind (fun r1 h5 =>
   Pn.lo (fun s1 h6 =>
   Pn.some (Fn.of [.wait 3, .nm 7 (V.sc (.int .i64 (s_.length : Int))), .wait 2, .mask [0, 1, 7, 8], .ren [], .loop (X.out 0) (st 19 [] [] [])] (p := [V.sc (.int .i64 ((List.map E9 s_).length : Int)) = V.sc (.int .i64 (s_.length : Int)),
    Loop Tryd.prog (sub (codeOf Tryd.prog 143) [1, 0, 1, 0, 0]) (st 19 [(0, V.sl false 9 (List.map E9 s_)), (1, V.sc (.string v_)), (7, V.sc (.int .i64 (s_.length : Int))), (8, V.sc (.int .i64 0))] [] []) (X.out 0) (st 19 [] [] [])]) (by kernel_rfl) (cj (len_nm _ _) (cj1 ((slices_Index_string_l0_ok s_ v_ h4 s_ [] rfl r1 h5).at h6))))) (fun s2 h7 =>
   Pn.some (Fn.of [.wait 3, .nm 7 (V.sc (.int .i64 (s_.length : Int))), .wait 2, .mask [0, 1, 7, 8], .ren [], .loop (X.ret) (st 19 [(4, V.sc (.int .i64 s2))] [] [])] (p := [V.sc (.int .i64 ((List.map E9 s_).length : Int)) = V.sc (.int .i64 (s_.length : Int)),
    Loop Tryd.prog (sub (codeOf Tryd.prog 143) [1, 0, 1, 0, 0]) (st 19 [(0, V.sl false 9 (List.map E9 s_)), (1, V.sc (.string v_)), (7, V.sc (.int .i64 (s_.length : Int))), (8, V.sc (.int .i64 0))] [] []) (X.ret) (st 19 [(4, V.sc (.int .i64 s2))] [] [])]) (by kernel_rfl) (cj (len_nm _ _) (cj1 ((slices_Index_string_l0_ok s_ v_ h4 s_ [] rfl r1 h5).at h7))))))) (fun h4 =>
   Pn.none)
def impl_TextRs (s_ : ByteArray) : Option (Int × Bool) :=
 (impl_rsTexts).bind fun r1 =>
 (slices_Index_string r1 s_).bind fun r2 =>
 some (imax r2 0, (decide (0 ≤ r2)))
theorem impl_TextRs_ok (s_ : ByteArray) : Pn (fun y => Fn Tryd.prog 112 [(false, E9 s_)] (V.tup [E3 y.1, E4 y.2]) []) (impl_TextRs s_) := by
  unfold impl_TextRs
  exact
   Pn.bind (fun r1 h1 =>
   Pn.bind (fun r2 h2 =>
   Pn.some (Fn.of [.call [] (E65 r1) [], .call [] (E3 r2) []] (p := [Fn Tryd.prog 113 [] (E65 r1) [],
    (true || ((E65 r1).nv && nvL [])) = true,
    Fn Tryd.prog 143 [(false, E65 r1), (false, E9 s_)] (E3 r2) [],
    (false || ((E3 r2).nv && nvL [])) = true]) (by kernel_rfl) (cj (impl_rsTexts_ok  r1 h1) (cj rfl (cj (slices_Index_string_ok r1 s_ r2 h2) (cj1 (by simp [V.nv, nvL, nvL_all, nv_E3]))))))))
def impl_ReplyCode (b : List Int) : Option (Int × Bool) :=
 (impl_Parse b).bind fun r1 =>
 (impl_FieldOf r1.1 39).bind fun r2 =>
 if (r1.2 != 0) = true then
 some (0, false)
 else
 if r2.2 = true then
 (impl_TextRs r2.1).bind fun r3 =>
 some (r3.1, r3.2)
 else
 some (0, false)
theorem impl_ReplyCode_ok (b : List Int) : Pn (fun y => Fn Tryd.prog 69 [(false, E40 b)] (V.tup [E3 y.1, E4 y.2]) []) (impl_ReplyCode b) := by
  unfold impl_ReplyCode
  exact
   Pn.bind (fun r1 h1 =>
   Pn.bind (fun r2 h2 =>
   Pn.ite (fun h3 =>
   Pn.some (Fn.of [.call [] (V.tup [E36 r1.1, E3 r1.2]) [], .call [] (V.tup [E9 r2.1, E4 r2.2]) [], .bit true, .bit true, .bit true, .bit true] (p := [Fn Tryd.prog 110 [(false, E40 b)] (V.tup [E36 r1.1, E3 r1.2]) [],
    (true || ((V.tup [E36 r1.1, E3 r1.2]).nv && nvL [])) = true,
    Fn Tryd.prog 111 [(false, E36 r1.1), (false, E3 39)] (V.tup [E9 r2.1, E4 r2.2]) [],
    (false || ((V.tup [E9 r2.1, E4 r2.2]).nv && nvL [])) = true,
    (r1.2 != 0) = true,
    (r1.2 != 0) = true,
    (r1.2 != 0) = true,
    true = true]) (by kernel_rfl) (cj (impl_Parse_ok b r1 h1) (cj rfl (cj (impl_FieldOf_ok r1.1 39 r2 h2) (cj (by simp [V.nv, nvL, nvL_all, nv_E4, nv_E9]) (cj h3 (cj h3 (cj h3 (cj1 rfl)))))))))) (fun h3 =>
   Pn.ite (fun h4 =>
   Pn.bind (fun r3 h5 =>
   Pn.some (Fn.of [.call [] (V.tup [E36 r1.1, E3 r1.2]) [], .call [] (V.tup [E9 r2.1, E4 r2.2]) [], .bit false, .bit false, .bit false, .bit false, .call [] (V.tup [E3 r3.1, E4 r3.2]) []] (p := [Fn Tryd.prog 110 [(false, E40 b)] (V.tup [E36 r1.1, E3 r1.2]) [],
    (true || ((V.tup [E36 r1.1, E3 r1.2]).nv && nvL [])) = true,
    Fn Tryd.prog 111 [(false, E36 r1.1), (false, E3 39)] (V.tup [E9 r2.1, E4 r2.2]) [],
    (false || ((V.tup [E9 r2.1, E4 r2.2]).nv && nvL [])) = true,
    (r1.2 != 0) = false,
    (r1.2 != 0) = false,
    (r1.2 != 0) = false,
    (!r2.2) = false,
    Fn Tryd.prog 112 [(false, E9 r2.1)] (V.tup [E3 r3.1, E4 r3.2]) [],
    (true || ((V.tup [E3 r3.1, E4 r3.2]).nv && nvL [])) = true]) (by kernel_rfl) (cj (impl_Parse_ok b r1 h1) (cj rfl (cj (impl_FieldOf_ok r1.1 39 r2 h2) (cj (by simp [V.nv, nvL, nvL_all, nv_E4, nv_E9]) (cj h3 (cj h3 (cj h3 (cj (nf h4) (cj (impl_TextRs_ok r2.1 r3 h5) (cj1 rfl))))))))))))) (fun h4 =>
   Pn.some (Fn.of [.call [] (V.tup [E36 r1.1, E3 r1.2]) [], .call [] (V.tup [E9 r2.1, E4 r2.2]) [], .bit false, .bit false, .bit false, .bit true] (p := [Fn Tryd.prog 110 [(false, E40 b)] (V.tup [E36 r1.1, E3 r1.2]) [],
    (true || ((V.tup [E36 r1.1, E3 r1.2]).nv && nvL [])) = true,
    Fn Tryd.prog 111 [(false, E36 r1.1), (false, E3 39)] (V.tup [E9 r2.1, E4 r2.2]) [],
    (false || ((V.tup [E9 r2.1, E4 r2.2]).nv && nvL [])) = true,
    (r1.2 != 0) = false,
    (r1.2 != 0) = false,
    (r1.2 != 0) = false,
    (!r2.2) = true]) (by kernel_rfl) (cj (impl_Parse_ok b r1 h1) (cj rfl (cj (impl_FieldOf_ok r1.1 39 r2 h2) (cj (by simp [V.nv, nvL, nvL_all, nv_E4, nv_E9]) (cj h3 (cj h3 (cj h3 (cj1 (nt h4))))))))))))))
def impl_RsText (code : Int) : Option (ByteArray) :=
 (impl_within code 0 10).bind fun r1 =>
 if r1 = true then
 (impl_rsTexts).bind fun r2 =>
 if (decide (0 ≤ code)) = true then
 (r2[code.toNat]?).bind fun x1 =>
 some x1
 else none
 else
 some (bs [])
theorem impl_RsText_ok (code : Int) : Pn (fun y => Fn Tryd.prog 70 [(false, E3 code)] (E9 y) []) (impl_RsText code) := by
  unfold impl_RsText
  exact
   Pn.bind (fun r1 h1 =>
   Pn.ite (fun h2 =>
   Pn.bind (fun r2 h3 =>
   Pn.ite (fun h4 =>
   Pn.bind (fun x1 h5 =>
   Pn.some (Fn.of [.call [] (E4 r1) [], .bit false, .call [] (E65 r2) [], .el (E9 x1)] (p := [Fn Tryd.prog 83 [(false, E3 code), (false, E3 0), (false, E3 10)] (E4 r1) [],
    (true || ((E4 r1).nv && nvL [])) = true,
    (!r1) = false,
    Fn Tryd.prog 113 [] (E65 r2) [],
    (true || ((E65 r2).nv && nvL [])) = true,
    (0 : Int) ≤ code,
    (code : Int) < ((List.map E9 r2).length : Int),
    look [] code.toNat = none,
    (List.map E9 r2)[code.toNat]? = some (E9 x1)]) (by kernel_rfl) (cj (impl_within_ok code 0 10 r1 h1) (cj rfl (cj (nf h2) (cj (impl_rsTexts_ok  r2 h3) (cj rfl (cj (od h4) (cj (map_ltN (od h4) h5) (cj rfl (cj1 (map_get h5))))))))))))) (fun h4 =>
   Pn.none))) (fun h2 =>
   Pn.some (Fn.of [.call [] (E4 r1) [], .bit true] (p := [Fn Tryd.prog 83 [(false, E3 code), (false, E3 0), (false, E3 10)] (E4 r1) [],
    (true || ((E4 r1).nv && nvL [])) = true,
    (!r1) = true]) (by kernel_rfl) (cj (impl_within_ok code 0 10 r1 h1) (cj rfl (cj1 (nt h2)))))))
def impl_TaskShow (t : Task) : Option (ByteArray) :=
 (impl_PcName t.Pc).bind fun r1 =>
 if (t.Pc == 1) = true then
 (impl_NumText t.Held).bind fun r2 =>
 if (decide ((bs [32]).size + r2.size ≤ 9223372036854775807)) = true then
 if (decide (((bs [32]) ++ r2).size + (bs [47]).size ≤ 9223372036854775807)) = true then
 (impl_NumText (t.Set.length : Int)).bind fun r3 =>
 if (decide ((((bs [32]) ++ r2) ++ (bs [47])).size + r3.size ≤ 9223372036854775807)) = true then
 if (decide (r1.size + ((((bs [32]) ++ r2) ++ (bs [47])) ++ r3).size ≤ 9223372036854775807)) = true then
 some (r1 ++ ((((bs [32]) ++ r2) ++ (bs [47])) ++ r3))
 else none
 else none
 else none
 else none
 else
 if (t.Pc == 2) = true then
 (impl_NumText t.Held).bind fun r4 =>
 if (decide ((bs [32]).size + r4.size ≤ 9223372036854775807)) = true then
 if (decide (((bs [32]) ++ r4).size + (bs [47]).size ≤ 9223372036854775807)) = true then
 (impl_NumText (t.Set.length : Int)).bind fun r5 =>
 if (decide ((((bs [32]) ++ r4) ++ (bs [47])).size + r5.size ≤ 9223372036854775807)) = true then
 if (decide (r1.size + ((((bs [32]) ++ r4) ++ (bs [47])) ++ r5).size ≤ 9223372036854775807)) = true then
 some (r1 ++ ((((bs [32]) ++ r4) ++ (bs [47])) ++ r5))
 else none
 else none
 else none
 else none
 else
 if (t.Pc == 3) = true then
 (impl_NumText t.Held).bind fun r6 =>
 if (decide ((bs [32]).size + r6.size ≤ 9223372036854775807)) = true then
 if (decide (((bs [32]) ++ r6).size + (bs [47]).size ≤ 9223372036854775807)) = true then
 (impl_NumText (t.Set.length : Int)).bind fun r7 =>
 if (decide ((((bs [32]) ++ r6) ++ (bs [47])).size + r7.size ≤ 9223372036854775807)) = true then
 if (decide (r1.size + ((((bs [32]) ++ r6) ++ (bs [47])) ++ r7).size ≤ 9223372036854775807)) = true then
 some (r1 ++ ((((bs [32]) ++ r6) ++ (bs [47])) ++ r7))
 else none
 else none
 else none
 else none
 else
 if (t.Pc == 4) = true then
 (impl_ReplyCode t.Reply).bind fun r8 =>
 if r8.2 = true then
 (impl_RsText r8.1).bind fun r9 =>
 if (decide ((bs [32]).size + r9.size ≤ 9223372036854775807)) = true then
 if (decide (r1.size + ((bs [32]) ++ r9).size ≤ 9223372036854775807)) = true then
 some (r1 ++ ((bs [32]) ++ r9))
 else none
 else none
 else
 if (decide (r1.size + (bs [32, 45]).size ≤ 9223372036854775807)) = true then
 some (r1 ++ (bs [32, 45]))
 else none
 else
 if (t.Pc == 5) = true then
 (impl_ReplyCode t.Reply).bind fun r10 =>
 if r10.2 = true then
 (impl_RsText r10.1).bind fun r11 =>
 if (decide ((bs [32]).size + r11.size ≤ 9223372036854775807)) = true then
 if (decide (r1.size + ((bs [32]) ++ r11).size ≤ 9223372036854775807)) = true then
 some (r1 ++ ((bs [32]) ++ r11))
 else none
 else none
 else
 if (decide (r1.size + (bs [32, 45]).size ≤ 9223372036854775807)) = true then
 some (r1 ++ (bs [32, 45]))
 else none
 else
 some r1
theorem impl_TaskShow_ok (t : Task) : Pn (fun y => Fn Tryd.prog 30 [(false, E58 t)] (E9 y) []) (impl_TaskShow t) := by
  unfold impl_TaskShow
  exact
   Pn.bind (fun r1 h1 =>
   Pn.ite (fun h2 =>
   Pn.bind (fun r2 h3 =>
   Pn.ite (fun h4 =>
   Pn.ite (fun h5 =>
   Pn.bind (fun r3 h6 =>
   Pn.ite (fun h7 =>
   Pn.ite (fun h8 =>
   Pn.some (Fn.of [.call [] (E9 r1) [], .bit true, .bit true, .draw [], .wait 5, .nm 23 (V.sc (.int .i64 (t.Set.length : Int))), .call [] (E9 r2) [], .call [] (E9 r3) []] (p := [Fn Tryd.prog 68 [(false, E3 t.Pc)] (E9 r1) [],
    (true || ((E9 r1).nv && nvL [])) = true,
    (t.Pc == 1) = true,
    (t.Pc == 1) = true,
    V.sc (.int .i64 ((List.map E3 t.Set).length : Int)) = V.sc (.int .i64 (t.Set.length : Int)),
    Fn Tryd.prog 40 [(false, E3 t.Held)] (E9 r2) [],
    (true || ((E9 r2).nv && nvL [])) = true,
    (bs [32]).size + r2.size ≤ 9223372036854775807,
    ((bs [32]) ++ r2).size + (bs [47]).size ≤ 9223372036854775807,
    Fn Tryd.prog 40 [(false, E3 (t.Set.length : Int))] (E9 r3) [],
    (true || ((E9 r3).nv && nvL [])) = true,
    (((bs [32]) ++ r2) ++ (bs [47])).size + r3.size ≤ 9223372036854775807,
    r1.size + ((((bs [32]) ++ r2) ++ (bs [47])) ++ r3).size ≤ 9223372036854775807]) (by kernel_rfl) (cj (impl_PcName_ok t.Pc r1 h1) (cj rfl (cj h2 (cj h2 (cj (len_nm _ _) (cj (impl_NumText_ok t.Held r2 h3) (cj rfl (cj (od h4) (cj (od h5) (cj (impl_NumText_ok (t.Set.length : Int) r3 h6) (cj rfl (cj (od h7) (cj1 (od h8)))))))))))))))) (fun h8 =>
   Pn.none)) (fun h7 =>
   Pn.none))) (fun h5 =>
   Pn.none)) (fun h4 =>
   Pn.none))) (fun h2 =>
   Pn.ite (fun h9 =>
   Pn.bind (fun r4 h10 =>
   Pn.ite (fun h11 =>
   Pn.ite (fun h12 =>
   Pn.bind (fun r5 h13 =>
   Pn.ite (fun h14 =>
   Pn.ite (fun h15 =>
   Pn.some (Fn.of [.call [] (E9 r1) [], .bit false, .bit true, .bit true, .draw [], .wait 5, .nm 23 (V.sc (.int .i64 (t.Set.length : Int))), .call [] (E9 r4) [], .call [] (E9 r5) []] (p := [Fn Tryd.prog 68 [(false, E3 t.Pc)] (E9 r1) [],
    (true || ((E9 r1).nv && nvL [])) = true,
    (t.Pc == 1) = false,
    (t.Pc == 2) = true,
    (t.Pc == 2) = true,
    V.sc (.int .i64 ((List.map E3 t.Set).length : Int)) = V.sc (.int .i64 (t.Set.length : Int)),
    Fn Tryd.prog 40 [(false, E3 t.Held)] (E9 r4) [],
    (true || ((E9 r4).nv && nvL [])) = true,
    (bs [32]).size + r4.size ≤ 9223372036854775807,
    ((bs [32]) ++ r4).size + (bs [47]).size ≤ 9223372036854775807,
    Fn Tryd.prog 40 [(false, E3 (t.Set.length : Int))] (E9 r5) [],
    (true || ((E9 r5).nv && nvL [])) = true,
    (((bs [32]) ++ r4) ++ (bs [47])).size + r5.size ≤ 9223372036854775807,
    r1.size + ((((bs [32]) ++ r4) ++ (bs [47])) ++ r5).size ≤ 9223372036854775807]) (by kernel_rfl) (cj (impl_PcName_ok t.Pc r1 h1) (cj rfl (cj h2 (cj h9 (cj h9 (cj (len_nm _ _) (cj (impl_NumText_ok t.Held r4 h10) (cj rfl (cj (od h11) (cj (od h12) (cj (impl_NumText_ok (t.Set.length : Int) r5 h13) (cj rfl (cj (od h14) (cj1 (od h15))))))))))))))))) (fun h15 =>
   Pn.none)) (fun h14 =>
   Pn.none))) (fun h12 =>
   Pn.none)) (fun h11 =>
   Pn.none))) (fun h9 =>
   Pn.ite (fun h16 =>
   Pn.bind (fun r6 h17 =>
   Pn.ite (fun h18 =>
   Pn.ite (fun h19 =>
   Pn.bind (fun r7 h20 =>
   Pn.ite (fun h21 =>
   Pn.ite (fun h22 =>
   Pn.some (Fn.of [.call [] (E9 r1) [], .bit false, .bit false, .bit true, .draw [], .wait 5, .nm 23 (V.sc (.int .i64 (t.Set.length : Int))), .call [] (E9 r6) [], .call [] (E9 r7) []] (p := [Fn Tryd.prog 68 [(false, E3 t.Pc)] (E9 r1) [],
    (true || ((E9 r1).nv && nvL [])) = true,
    (t.Pc == 1) = false,
    (t.Pc == 2) = false,
    (t.Pc == 3) = true,
    V.sc (.int .i64 ((List.map E3 t.Set).length : Int)) = V.sc (.int .i64 (t.Set.length : Int)),
    Fn Tryd.prog 40 [(false, E3 t.Held)] (E9 r6) [],
    (true || ((E9 r6).nv && nvL [])) = true,
    (bs [32]).size + r6.size ≤ 9223372036854775807,
    ((bs [32]) ++ r6).size + (bs [47]).size ≤ 9223372036854775807,
    Fn Tryd.prog 40 [(false, E3 (t.Set.length : Int))] (E9 r7) [],
    (true || ((E9 r7).nv && nvL [])) = true,
    (((bs [32]) ++ r6) ++ (bs [47])).size + r7.size ≤ 9223372036854775807,
    r1.size + ((((bs [32]) ++ r6) ++ (bs [47])) ++ r7).size ≤ 9223372036854775807]) (by kernel_rfl) (cj (impl_PcName_ok t.Pc r1 h1) (cj rfl (cj h2 (cj h9 (cj h16 (cj (len_nm _ _) (cj (impl_NumText_ok t.Held r6 h17) (cj rfl (cj (od h18) (cj (od h19) (cj (impl_NumText_ok (t.Set.length : Int) r7 h20) (cj rfl (cj (od h21) (cj1 (od h22))))))))))))))))) (fun h22 =>
   Pn.none)) (fun h21 =>
   Pn.none))) (fun h19 =>
   Pn.none)) (fun h18 =>
   Pn.none))) (fun h16 =>
   Pn.ite (fun h23 =>
   Pn.bind (fun r8 h24 =>
   Pn.ite (fun h25 =>
   Pn.bind (fun r9 h26 =>
   Pn.ite (fun h27 =>
   Pn.ite (fun h28 =>
   Pn.some (Fn.of [.call [] (E9 r1) [], .bit false, .bit false, .bit false, .bit true, .bit true, .call [] (V.tup [E3 r8.1, E4 r8.2]) [], .bit true, .call [] (E9 r9) []] (p := [Fn Tryd.prog 68 [(false, E3 t.Pc)] (E9 r1) [],
    (true || ((E9 r1).nv && nvL [])) = true,
    (t.Pc == 1) = false,
    (t.Pc == 2) = false,
    (t.Pc == 3) = false,
    (t.Pc == 4) = true,
    (t.Pc == 4) = true,
    Fn Tryd.prog 69 [(false, E40 t.Reply)] (V.tup [E3 r8.1, E4 r8.2]) [],
    (true || ((V.tup [E3 r8.1, E4 r8.2]).nv && nvL [])) = true,
    r8.2 = true,
    Fn Tryd.prog 70 [(false, E3 r8.1)] (E9 r9) [],
    (true || ((E9 r9).nv && nvL [])) = true,
    (bs [32]).size + r9.size ≤ 9223372036854775807,
    r1.size + ((bs [32]) ++ r9).size ≤ 9223372036854775807]) (by kernel_rfl) (cj (impl_PcName_ok t.Pc r1 h1) (cj rfl (cj h2 (cj h9 (cj h16 (cj h23 (cj h23 (cj (impl_ReplyCode_ok t.Reply r8 h24) (cj rfl (cj h25 (cj (impl_RsText_ok r8.1 r9 h26) (cj rfl (cj (od h27) (cj1 (od h28))))))))))))))))) (fun h28 =>
   Pn.none)) (fun h27 =>
   Pn.none))) (fun h25 =>
   Pn.ite (fun h29 =>
   Pn.some (Fn.of [.call [] (E9 r1) [], .bit false, .bit false, .bit false, .bit true, .bit true, .call [] (V.tup [E3 r8.1, E4 r8.2]) [], .bit false] (p := [Fn Tryd.prog 68 [(false, E3 t.Pc)] (E9 r1) [],
    (true || ((E9 r1).nv && nvL [])) = true,
    (t.Pc == 1) = false,
    (t.Pc == 2) = false,
    (t.Pc == 3) = false,
    (t.Pc == 4) = true,
    (t.Pc == 4) = true,
    Fn Tryd.prog 69 [(false, E40 t.Reply)] (V.tup [E3 r8.1, E4 r8.2]) [],
    (true || ((V.tup [E3 r8.1, E4 r8.2]).nv && nvL [])) = true,
    r8.2 = false,
    r1.size + (bs [32, 45]).size ≤ 9223372036854775807]) (by kernel_rfl) (cj (impl_PcName_ok t.Pc r1 h1) (cj rfl (cj h2 (cj h9 (cj h16 (cj h23 (cj h23 (cj (impl_ReplyCode_ok t.Reply r8 h24) (cj rfl (cj h25 (cj1 (od h29)))))))))))))) (fun h29 =>
   Pn.none)))) (fun h23 =>
   Pn.ite (fun h30 =>
   Pn.bind (fun r10 h31 =>
   Pn.ite (fun h32 =>
   Pn.bind (fun r11 h33 =>
   Pn.ite (fun h34 =>
   Pn.ite (fun h35 =>
   Pn.some (Fn.of [.call [] (E9 r1) [], .bit false, .bit false, .bit false, .bit false, .bit true, .call [] (V.tup [E3 r10.1, E4 r10.2]) [], .bit true, .call [] (E9 r11) []] (p := [Fn Tryd.prog 68 [(false, E3 t.Pc)] (E9 r1) [],
    (true || ((E9 r1).nv && nvL [])) = true,
    (t.Pc == 1) = false,
    (t.Pc == 2) = false,
    (t.Pc == 3) = false,
    (t.Pc == 4) = false,
    (t.Pc == 5) = true,
    Fn Tryd.prog 69 [(false, E40 t.Reply)] (V.tup [E3 r10.1, E4 r10.2]) [],
    (true || ((V.tup [E3 r10.1, E4 r10.2]).nv && nvL [])) = true,
    r10.2 = true,
    Fn Tryd.prog 70 [(false, E3 r10.1)] (E9 r11) [],
    (true || ((E9 r11).nv && nvL [])) = true,
    (bs [32]).size + r11.size ≤ 9223372036854775807,
    r1.size + ((bs [32]) ++ r11).size ≤ 9223372036854775807]) (by kernel_rfl) (cj (impl_PcName_ok t.Pc r1 h1) (cj rfl (cj h2 (cj h9 (cj h16 (cj h23 (cj h30 (cj (impl_ReplyCode_ok t.Reply r10 h31) (cj rfl (cj h32 (cj (impl_RsText_ok r10.1 r11 h33) (cj rfl (cj (od h34) (cj1 (od h35))))))))))))))))) (fun h35 =>
   Pn.none)) (fun h34 =>
   Pn.none))) (fun h32 =>
   Pn.ite (fun h36 =>
   Pn.some (Fn.of [.call [] (E9 r1) [], .bit false, .bit false, .bit false, .bit false, .bit true, .call [] (V.tup [E3 r10.1, E4 r10.2]) [], .bit false] (p := [Fn Tryd.prog 68 [(false, E3 t.Pc)] (E9 r1) [],
    (true || ((E9 r1).nv && nvL [])) = true,
    (t.Pc == 1) = false,
    (t.Pc == 2) = false,
    (t.Pc == 3) = false,
    (t.Pc == 4) = false,
    (t.Pc == 5) = true,
    Fn Tryd.prog 69 [(false, E40 t.Reply)] (V.tup [E3 r10.1, E4 r10.2]) [],
    (true || ((V.tup [E3 r10.1, E4 r10.2]).nv && nvL [])) = true,
    r10.2 = false,
    r1.size + (bs [32, 45]).size ≤ 9223372036854775807]) (by kernel_rfl) (cj (impl_PcName_ok t.Pc r1 h1) (cj rfl (cj h2 (cj h9 (cj h16 (cj h23 (cj h30 (cj (impl_ReplyCode_ok t.Reply r10 h31) (cj rfl (cj h32 (cj1 (od h36)))))))))))))) (fun h36 =>
   Pn.none)))) (fun h30 =>
   Pn.some (Fn.of [.call [] (E9 r1) [], .bit false, .bit false, .bit false, .bit false, .bit false] (p := [Fn Tryd.prog 68 [(false, E3 t.Pc)] (E9 r1) [],
    (true || ((E9 r1).nv && nvL [])) = true,
    (t.Pc == 1) = false,
    (t.Pc == 2) = false,
    (t.Pc == 3) = false,
    (t.Pc == 4) = false,
    (t.Pc == 5) = false]) (by kernel_rfl) (cj (impl_PcName_ok t.Pc r1 h1) (cj rfl (cj h2 (cj h9 (cj h16 (cj h23 (cj1 h30))))))))))))))
def laws_eqByteS_l0 (a : List Int) (b : List Int) : List Int → List Int → Option (Lo Unit Unit)
  | [], p1 =>
   some (.out ())
  | x1 :: t1, p1 =>
   (b[(p1.length : Int).toNat]?).bind fun x2 =>
   if (x1 != x2) = true then
   some (.ret ())
   else
   laws_eqByteS_l0 a b t1 (p1 ++ [x1])
theorem laws_eqByteS_l0_ok (a : List Int) (b : List Int) (h3 : capOk a.length = true) : ∀ (t1 p1 : List Int) (_ : a = p1 ++ t1) , Pn (LpO Tryd.prog (sub (codeOf Tryd.prog 56) [1, 1, 0, 1, 0, 0]) (st 26 [(0, V.sl false 5 (List.map E5 a)), (1, V.sl false 5 (List.map E5 b)), (5, V.sc (.int .i64 (p1.length : Int)))] [] []) (fun (y : Lo Unit Unit) => Lo.elim y (fun s => (X.out 0, st 26 [] [] [])) (fun s => (X.ret, st 26 [(4, V.sc (.bool false))] [] [])))) (laws_eqByteS_l0 a b t1 p1)
  | [], p1, h2 => by
    unfold laws_eqByteS_l0
    exact
     Pn.some (LpO.out [.wait 3, .nm 13 (V.sc (.int .i64 (a.length : Int))), .bit false, .mask [], .ren []] (p := [V.sc (.int .i64 ((List.map E5 a).length : Int)) = V.sc (.int .i64 (a.length : Int)),
      (decide ((p1.length : Int) < (a.length : Int))) = false]) (by kernel_rfl) (show X.out 0 ≠ X.go from nofun) (cj (len_nm _ _) (cj1 (rng_end h2))))
  | x1 :: t1, p1, h2 => by
    unfold laws_eqByteS_l0
    exact
     Pn.bind (fun x2 h4 =>
     Pn.ite (fun h5 =>
     Pn.some (LpO.out [.wait 3, .nm 13 (V.sc (.int .i64 (a.length : Int))), .bit true, .draw [], .el (E5 x1), .el (E5 x2), .bit true, .wait 1, .mask [4], .ren []] (p := [V.sc (.int .i64 ((List.map E5 a).length : Int)) = V.sc (.int .i64 (a.length : Int)),
      (decide ((p1.length : Int) < (a.length : Int))) = true,
      (0 : Int) ≤ (p1.length : Int),
      (List.map E5 a)[(p1.length : Int).toNat]? = some (E5 x1),
      (0 : Int) ≤ (p1.length : Int),
      (List.map E5 b)[(p1.length : Int).toNat]? = some (E5 x2),
      (x1 != x2) = true]) (by kernel_rfl) (show X.ret ≠ X.go from nofun) (cj (len_nm _ _) (cj (rng_lt h2) (cj (by omega) (cj (rng_get _ h2) (cj (by omega) (cj (map_get h4) (cj1 h5))))))))) (fun h5 =>
     LpO.go [.wait 3, .nm 13 (V.sc (.int .i64 (a.length : Int))), .bit true, .draw [], .el (E5 x1), .el (E5 x2), .bit false, .wait 3, .mask [0, 1, 5], .ren [], .nm 5 (V.sc (.int .i64 ((p1 ++ [x1]).length : Int)))] (p := [V.sc (.int .i64 ((List.map E5 a).length : Int)) = V.sc (.int .i64 (a.length : Int)),
      (decide ((p1.length : Int) < (a.length : Int))) = true,
      (0 : Int) ≤ (p1.length : Int),
      (List.map E5 a)[(p1.length : Int).toNat]? = some (E5 x1),
      (0 : Int) ≤ (p1.length : Int),
      (List.map E5 b)[(p1.length : Int).toNat]? = some (E5 x2),
      (x1 != x2) = false,
      V.sc (.int .i64 (i64 ((p1.length : Int) + 1))) = V.sc (.int .i64 ((p1 ++ [x1]).length : Int))]) (by kernel_rfl) (cj (len_nm _ _) (cj (rng_lt h2) (cj (by omega) (cj (rng_get _ h2) (cj (by omega) (cj (map_get h4) (cj h5 (cj1 (rng_next h2 h3))))))))) (laws_eqByteS_l0_ok a b h3 t1 (p1 ++ [x1]) (rng_step h2))))
def laws_eqByteS (a : List Int) (b : List Int) : Option (Bool) :=
 if ((a.length : Int) != (b.length : Int)) = true then
 some false
 else
 if (capOk a.length) = true then
 (laws_eqByteS_l0 a b a []).bind fun r1 =>
 Lo.elim r1 (fun s1 =>
 some true) (fun s2 =>
 some false)
 else none
theorem laws_eqByteS_ok (a : List Int) (b : List Int) : Pn (fun y => Fn Tryd.prog 56 [(false, E40 a), (false, E40 b)] (E4 y) []) (laws_eqByteS a b) := by
  unfold laws_eqByteS
  exact
   Pn.ite (fun h1 =>
   Pn.some (Fn.of [.wait 3, .nm 7 (V.sc (.int .i64 (a.length : Int))), .wait 2, .nm 9 (V.sc (.int .i64 (b.length : Int))), .bit true] (p := [V.sc (.int .i64 ((List.map E5 a).length : Int)) = V.sc (.int .i64 (a.length : Int)),
    V.sc (.int .i64 ((List.map E5 b).length : Int)) = V.sc (.int .i64 (b.length : Int)),
    ((a.length : Int) != (b.length : Int)) = true]) (by kernel_rfl) (cj (len_nm _ _) (cj (len_nm _ _) (cj1 h1))))) (fun h1 =>
   Pn.ite (fun h6 =>
   Pn.bind (fun r1 h7 =>
   Pn.lo (fun s1 h8 =>
   Pn.some (Fn.of [.wait 3, .nm 7 (V.sc (.int .i64 (a.length : Int))), .wait 2, .nm 9 (V.sc (.int .i64 (b.length : Int))), .bit false, .wait 1, .mask [0, 1, 5], .ren [], .loop (X.out 0) (st 26 [] [] [])] (p := [V.sc (.int .i64 ((List.map E5 a).length : Int)) = V.sc (.int .i64 (a.length : Int)),
    V.sc (.int .i64 ((List.map E5 b).length : Int)) = V.sc (.int .i64 (b.length : Int)),
    ((a.length : Int) != (b.length : Int)) = false,
    Loop Tryd.prog (sub (codeOf Tryd.prog 56) [1, 1, 0, 1, 0, 0]) (st 26 [(0, V.sl false 5 (List.map E5 a)), (1, V.sl false 5 (List.map E5 b)), (5, V.sc (.int .i64 0))] [] []) (X.out 0) (st 26 [] [] [])]) (by kernel_rfl) (cj (len_nm _ _) (cj (len_nm _ _) (cj h1 (cj1 ((laws_eqByteS_l0_ok a b h6 a [] rfl r1 h7).at h8))))))) (fun s2 h9 =>
   Pn.some (Fn.of [.wait 3, .nm 7 (V.sc (.int .i64 (a.length : Int))), .wait 2, .nm 9 (V.sc (.int .i64 (b.length : Int))), .bit false, .wait 1, .mask [0, 1, 5], .ren [], .loop (X.ret) (st 26 [(4, V.sc (.bool false))] [] [])] (p := [V.sc (.int .i64 ((List.map E5 a).length : Int)) = V.sc (.int .i64 (a.length : Int)),
    V.sc (.int .i64 ((List.map E5 b).length : Int)) = V.sc (.int .i64 (b.length : Int)),
    ((a.length : Int) != (b.length : Int)) = false,
    Loop Tryd.prog (sub (codeOf Tryd.prog 56) [1, 1, 0, 1, 0, 0]) (st 26 [(0, V.sl false 5 (List.map E5 a)), (1, V.sl false 5 (List.map E5 b)), (5, V.sc (.int .i64 0))] [] []) (X.ret) (st 26 [(4, V.sc (.bool false))] [] [])]) (by kernel_rfl) (cj (len_nm _ _) (cj (len_nm _ _) (cj h1 (cj1 ((laws_eqByteS_l0_ok a b h6 a [] rfl r1 h7).at h9))))))))) (fun h6 =>
   Pn.none))
def laws_eqIntS_l0 (a : List Int) (b : List Int) : List Int → List Int → Option (Lo Unit Unit)
  | [], p1 =>
   some (.out ())
  | x1 :: t1, p1 =>
   (b[(p1.length : Int).toNat]?).bind fun x2 =>
   if (x1 != x2) = true then
   some (.ret ())
   else
   laws_eqIntS_l0 a b t1 (p1 ++ [x1])
theorem laws_eqIntS_l0_ok (a : List Int) (b : List Int) (h3 : capOk a.length = true) : ∀ (t1 p1 : List Int) (_ : a = p1 ++ t1) , Pn (LpO Tryd.prog (sub (codeOf Tryd.prog 71) [1, 1, 0, 1, 0, 0]) (st 26 [(0, V.sl false 3 (List.map E3 a)), (1, V.sl false 3 (List.map E3 b)), (5, V.sc (.int .i64 (p1.length : Int)))] [] []) (fun (y : Lo Unit Unit) => Lo.elim y (fun s => (X.out 0, st 26 [] [] [])) (fun s => (X.ret, st 26 [(4, V.sc (.bool false))] [] [])))) (laws_eqIntS_l0 a b t1 p1)
  | [], p1, h2 => by
    unfold laws_eqIntS_l0
    exact
     Pn.some (LpO.out [.wait 3, .nm 13 (V.sc (.int .i64 (a.length : Int))), .bit false, .mask [], .ren []] (p := [V.sc (.int .i64 ((List.map E3 a).length : Int)) = V.sc (.int .i64 (a.length : Int)),
      (decide ((p1.length : Int) < (a.length : Int))) = false]) (by kernel_rfl) (show X.out 0 ≠ X.go from nofun) (cj (len_nm _ _) (cj1 (rng_end h2))))
  | x1 :: t1, p1, h2 => by
    unfold laws_eqIntS_l0
    exact
     Pn.bind (fun x2 h4 =>
     Pn.ite (fun h5 =>
     Pn.some (LpO.out [.wait 3, .nm 13 (V.sc (.int .i64 (a.length : Int))), .bit true, .draw [], .el (E3 x1), .el (E3 x2), .bit true, .wait 1, .mask [4], .ren []] (p := [V.sc (.int .i64 ((List.map E3 a).length : Int)) = V.sc (.int .i64 (a.length : Int)),
      (decide ((p1.length : Int) < (a.length : Int))) = true,
      (0 : Int) ≤ (p1.length : Int),
      (List.map E3 a)[(p1.length : Int).toNat]? = some (E3 x1),
      (0 : Int) ≤ (p1.length : Int),
      (List.map E3 b)[(p1.length : Int).toNat]? = some (E3 x2),
      (x1 != x2) = true]) (by kernel_rfl) (show X.ret ≠ X.go from nofun) (cj (len_nm _ _) (cj (rng_lt h2) (cj (by omega) (cj (rng_get _ h2) (cj (by omega) (cj (map_get h4) (cj1 h5))))))))) (fun h5 =>
     LpO.go [.wait 3, .nm 13 (V.sc (.int .i64 (a.length : Int))), .bit true, .draw [], .el (E3 x1), .el (E3 x2), .bit false, .wait 3, .mask [0, 1, 5], .ren [], .nm 5 (V.sc (.int .i64 ((p1 ++ [x1]).length : Int)))] (p := [V.sc (.int .i64 ((List.map E3 a).length : Int)) = V.sc (.int .i64 (a.length : Int)),
      (decide ((p1.length : Int) < (a.length : Int))) = true,
      (0 : Int) ≤ (p1.length : Int),
      (List.map E3 a)[(p1.length : Int).toNat]? = some (E3 x1),
      (0 : Int) ≤ (p1.length : Int),
      (List.map E3 b)[(p1.length : Int).toNat]? = some (E3 x2),
      (x1 != x2) = false,
      V.sc (.int .i64 (i64 ((p1.length : Int) + 1))) = V.sc (.int .i64 ((p1 ++ [x1]).length : Int))]) (by kernel_rfl) (cj (len_nm _ _) (cj (rng_lt h2) (cj (by omega) (cj (rng_get _ h2) (cj (by omega) (cj (map_get h4) (cj h5 (cj1 (rng_next h2 h3))))))))) (laws_eqIntS_l0_ok a b h3 t1 (p1 ++ [x1]) (rng_step h2))))
def laws_eqIntS (a : List Int) (b : List Int) : Option (Bool) :=
 if ((a.length : Int) != (b.length : Int)) = true then
 some false
 else
 if (capOk a.length) = true then
 (laws_eqIntS_l0 a b a []).bind fun r1 =>
 Lo.elim r1 (fun s1 =>
 some true) (fun s2 =>
 some false)
 else none
theorem laws_eqIntS_ok (a : List Int) (b : List Int) : Pn (fun y => Fn Tryd.prog 71 [(false, E53 a), (false, E53 b)] (E4 y) []) (laws_eqIntS a b) := by
  unfold laws_eqIntS
  exact
   Pn.ite (fun h1 =>
   Pn.some (Fn.of [.wait 3, .nm 7 (V.sc (.int .i64 (a.length : Int))), .wait 2, .nm 9 (V.sc (.int .i64 (b.length : Int))), .bit true] (p := [V.sc (.int .i64 ((List.map E3 a).length : Int)) = V.sc (.int .i64 (a.length : Int)),
    V.sc (.int .i64 ((List.map E3 b).length : Int)) = V.sc (.int .i64 (b.length : Int)),
    ((a.length : Int) != (b.length : Int)) = true]) (by kernel_rfl) (cj (len_nm _ _) (cj (len_nm _ _) (cj1 h1))))) (fun h1 =>
   Pn.ite (fun h6 =>
   Pn.bind (fun r1 h7 =>
   Pn.lo (fun s1 h8 =>
   Pn.some (Fn.of [.wait 3, .nm 7 (V.sc (.int .i64 (a.length : Int))), .wait 2, .nm 9 (V.sc (.int .i64 (b.length : Int))), .bit false, .wait 1, .mask [0, 1, 5], .ren [], .loop (X.out 0) (st 26 [] [] [])] (p := [V.sc (.int .i64 ((List.map E3 a).length : Int)) = V.sc (.int .i64 (a.length : Int)),
    V.sc (.int .i64 ((List.map E3 b).length : Int)) = V.sc (.int .i64 (b.length : Int)),
    ((a.length : Int) != (b.length : Int)) = false,
    Loop Tryd.prog (sub (codeOf Tryd.prog 71) [1, 1, 0, 1, 0, 0]) (st 26 [(0, V.sl false 3 (List.map E3 a)), (1, V.sl false 3 (List.map E3 b)), (5, V.sc (.int .i64 0))] [] []) (X.out 0) (st 26 [] [] [])]) (by kernel_rfl) (cj (len_nm _ _) (cj (len_nm _ _) (cj h1 (cj1 ((laws_eqIntS_l0_ok a b h6 a [] rfl r1 h7).at h8))))))) (fun s2 h9 =>
   Pn.some (Fn.of [.wait 3, .nm 7 (V.sc (.int .i64 (a.length : Int))), .wait 2, .nm 9 (V.sc (.int .i64 (b.length : Int))), .bit false, .wait 1, .mask [0, 1, 5], .ren [], .loop (X.ret) (st 26 [(4, V.sc (.bool false))] [] [])] (p := [V.sc (.int .i64 ((List.map E3 a).length : Int)) = V.sc (.int .i64 (a.length : Int)),
    V.sc (.int .i64 ((List.map E3 b).length : Int)) = V.sc (.int .i64 (b.length : Int)),
    ((a.length : Int) != (b.length : Int)) = false,
    Loop Tryd.prog (sub (codeOf Tryd.prog 71) [1, 1, 0, 1, 0, 0]) (st 26 [(0, V.sl false 3 (List.map E3 a)), (1, V.sl false 3 (List.map E3 b)), (5, V.sc (.int .i64 0))] [] []) (X.ret) (st 26 [(4, V.sc (.bool false))] [] [])]) (by kernel_rfl) (cj (len_nm _ _) (cj (len_nm _ _) (cj h1 (cj1 ((laws_eqIntS_l0_ok a b h6 a [] rfl r1 h7).at h9))))))))) (fun h6 =>
   Pn.none))
def laws_eqTask (a : Task) (b : Task) : Option (Bool) :=
 (laws_eqByteS a.Data b.Data).bind fun r1 =>
 if r1 = true then
 if (a.Pc != b.Pc) = true then
 some false
 else
 (laws_eqIntS a.Set b.Set).bind fun r2 =>
 if r2 = true then
 if (a.Held != b.Held) = true then
 some false
 else
 if (a.Inv != b.Inv) = true then
 some false
 else
 if (a.Lin != b.Lin) = true then
 some false
 else
 if (a.Res != b.Res) = true then
 some false
 else
 if (a.At != b.At) = true then
 some false
 else
 (laws_eqByteS a.Reply b.Reply).bind fun r3 =>
 if r3 = true then
 some true
 else
 some false
 else
 some false
 else
 some false
theorem laws_eqTask_ok (a : Task) (b : Task) : Pn (fun y => Fn Tryd.prog 31 [(false, E58 a), (false, E58 b)] (E4 y) []) (laws_eqTask a b) := by
  unfold laws_eqTask
  exact
   Pn.bind (fun r1 h1 =>
   Pn.ite (fun h2 =>
   Pn.ite (fun h3 =>
   Pn.some (Fn.of [.call [] (E4 r1) [], .bit false, .bit true] (p := [Fn Tryd.prog 56 [(false, E40 a.Data), (false, E40 b.Data)] (E4 r1) [],
    (true || ((E4 r1).nv && nvL [])) = true,
    (!r1) = false,
    (a.Pc != b.Pc) = true]) (by kernel_rfl) (cj (laws_eqByteS_ok a.Data b.Data r1 h1) (cj rfl (cj (nf h2) (cj1 h3)))))) (fun h3 =>
   Pn.bind (fun r2 h4 =>
   Pn.ite (fun h5 =>
   Pn.ite (fun h6 =>
   Pn.some (Fn.of [.call [] (E4 r1) [], .bit false, .bit false, .call [] (E4 r2) [], .bit false, .bit true] (p := [Fn Tryd.prog 56 [(false, E40 a.Data), (false, E40 b.Data)] (E4 r1) [],
    (true || ((E4 r1).nv && nvL [])) = true,
    (!r1) = false,
    (a.Pc != b.Pc) = false,
    Fn Tryd.prog 71 [(false, E53 a.Set), (false, E53 b.Set)] (E4 r2) [],
    (true || ((E4 r2).nv && nvL [])) = true,
    (!r2) = false,
    (a.Held != b.Held) = true]) (by kernel_rfl) (cj (laws_eqByteS_ok a.Data b.Data r1 h1) (cj rfl (cj (nf h2) (cj h3 (cj (laws_eqIntS_ok a.Set b.Set r2 h4) (cj rfl (cj (nf h5) (cj1 h6)))))))))) (fun h6 =>
   Pn.ite (fun h7 =>
   Pn.some (Fn.of [.call [] (E4 r1) [], .bit false, .bit false, .call [] (E4 r2) [], .bit false, .bit false, .bit true] (p := [Fn Tryd.prog 56 [(false, E40 a.Data), (false, E40 b.Data)] (E4 r1) [],
    (true || ((E4 r1).nv && nvL [])) = true,
    (!r1) = false,
    (a.Pc != b.Pc) = false,
    Fn Tryd.prog 71 [(false, E53 a.Set), (false, E53 b.Set)] (E4 r2) [],
    (true || ((E4 r2).nv && nvL [])) = true,
    (!r2) = false,
    (a.Held != b.Held) = false,
    (a.Inv != b.Inv) = true]) (by kernel_rfl) (cj (laws_eqByteS_ok a.Data b.Data r1 h1) (cj rfl (cj (nf h2) (cj h3 (cj (laws_eqIntS_ok a.Set b.Set r2 h4) (cj rfl (cj (nf h5) (cj h6 (cj1 h7))))))))))) (fun h7 =>
   Pn.ite (fun h8 =>
   Pn.some (Fn.of [.call [] (E4 r1) [], .bit false, .bit false, .call [] (E4 r2) [], .bit false, .bit false, .bit false, .bit true] (p := [Fn Tryd.prog 56 [(false, E40 a.Data), (false, E40 b.Data)] (E4 r1) [],
    (true || ((E4 r1).nv && nvL [])) = true,
    (!r1) = false,
    (a.Pc != b.Pc) = false,
    Fn Tryd.prog 71 [(false, E53 a.Set), (false, E53 b.Set)] (E4 r2) [],
    (true || ((E4 r2).nv && nvL [])) = true,
    (!r2) = false,
    (a.Held != b.Held) = false,
    (a.Inv != b.Inv) = false,
    (a.Lin != b.Lin) = true]) (by kernel_rfl) (cj (laws_eqByteS_ok a.Data b.Data r1 h1) (cj rfl (cj (nf h2) (cj h3 (cj (laws_eqIntS_ok a.Set b.Set r2 h4) (cj rfl (cj (nf h5) (cj h6 (cj h7 (cj1 h8)))))))))))) (fun h8 =>
   Pn.ite (fun h9 =>
   Pn.some (Fn.of [.call [] (E4 r1) [], .bit false, .bit false, .call [] (E4 r2) [], .bit false, .bit false, .bit false, .bit false, .bit true] (p := [Fn Tryd.prog 56 [(false, E40 a.Data), (false, E40 b.Data)] (E4 r1) [],
    (true || ((E4 r1).nv && nvL [])) = true,
    (!r1) = false,
    (a.Pc != b.Pc) = false,
    Fn Tryd.prog 71 [(false, E53 a.Set), (false, E53 b.Set)] (E4 r2) [],
    (true || ((E4 r2).nv && nvL [])) = true,
    (!r2) = false,
    (a.Held != b.Held) = false,
    (a.Inv != b.Inv) = false,
    (a.Lin != b.Lin) = false,
    (a.Res != b.Res) = true]) (by kernel_rfl) (cj (laws_eqByteS_ok a.Data b.Data r1 h1) (cj rfl (cj (nf h2) (cj h3 (cj (laws_eqIntS_ok a.Set b.Set r2 h4) (cj rfl (cj (nf h5) (cj h6 (cj h7 (cj h8 (cj1 h9))))))))))))) (fun h9 =>
   Pn.ite (fun h10 =>
   Pn.some (Fn.of [.call [] (E4 r1) [], .bit false, .bit false, .call [] (E4 r2) [], .bit false, .bit false, .bit false, .bit false, .bit false, .bit true] (p := [Fn Tryd.prog 56 [(false, E40 a.Data), (false, E40 b.Data)] (E4 r1) [],
    (true || ((E4 r1).nv && nvL [])) = true,
    (!r1) = false,
    (a.Pc != b.Pc) = false,
    Fn Tryd.prog 71 [(false, E53 a.Set), (false, E53 b.Set)] (E4 r2) [],
    (true || ((E4 r2).nv && nvL [])) = true,
    (!r2) = false,
    (a.Held != b.Held) = false,
    (a.Inv != b.Inv) = false,
    (a.Lin != b.Lin) = false,
    (a.Res != b.Res) = false,
    (a.At != b.At) = true]) (by kernel_rfl) (cj (laws_eqByteS_ok a.Data b.Data r1 h1) (cj rfl (cj (nf h2) (cj h3 (cj (laws_eqIntS_ok a.Set b.Set r2 h4) (cj rfl (cj (nf h5) (cj h6 (cj h7 (cj h8 (cj h9 (cj1 h10)))))))))))))) (fun h10 =>
   Pn.bind (fun r3 h11 =>
   Pn.ite (fun h12 =>
   Pn.some (Fn.of [.call [] (E4 r1) [], .bit false, .bit false, .call [] (E4 r2) [], .bit false, .bit false, .bit false, .bit false, .bit false, .bit false, .call [] (E4 r3) [], .bit false] (p := [Fn Tryd.prog 56 [(false, E40 a.Data), (false, E40 b.Data)] (E4 r1) [],
    (true || ((E4 r1).nv && nvL [])) = true,
    (!r1) = false,
    (a.Pc != b.Pc) = false,
    Fn Tryd.prog 71 [(false, E53 a.Set), (false, E53 b.Set)] (E4 r2) [],
    (true || ((E4 r2).nv && nvL [])) = true,
    (!r2) = false,
    (a.Held != b.Held) = false,
    (a.Inv != b.Inv) = false,
    (a.Lin != b.Lin) = false,
    (a.Res != b.Res) = false,
    (a.At != b.At) = false,
    Fn Tryd.prog 56 [(false, E40 a.Reply), (false, E40 b.Reply)] (E4 r3) [],
    (true || ((E4 r3).nv && nvL [])) = true,
    (!r3) = false]) (by kernel_rfl) (cj (laws_eqByteS_ok a.Data b.Data r1 h1) (cj rfl (cj (nf h2) (cj h3 (cj (laws_eqIntS_ok a.Set b.Set r2 h4) (cj rfl (cj (nf h5) (cj h6 (cj h7 (cj h8 (cj h9 (cj h10 (cj (laws_eqByteS_ok a.Reply b.Reply r3 h11) (cj rfl (cj1 (nf h12)))))))))))))))))) (fun h12 =>
   Pn.some (Fn.of [.call [] (E4 r1) [], .bit false, .bit false, .call [] (E4 r2) [], .bit false, .bit false, .bit false, .bit false, .bit false, .bit false, .call [] (E4 r3) [], .bit true] (p := [Fn Tryd.prog 56 [(false, E40 a.Data), (false, E40 b.Data)] (E4 r1) [],
    (true || ((E4 r1).nv && nvL [])) = true,
    (!r1) = false,
    (a.Pc != b.Pc) = false,
    Fn Tryd.prog 71 [(false, E53 a.Set), (false, E53 b.Set)] (E4 r2) [],
    (true || ((E4 r2).nv && nvL [])) = true,
    (!r2) = false,
    (a.Held != b.Held) = false,
    (a.Inv != b.Inv) = false,
    (a.Lin != b.Lin) = false,
    (a.Res != b.Res) = false,
    (a.At != b.At) = false,
    Fn Tryd.prog 56 [(false, E40 a.Reply), (false, E40 b.Reply)] (E4 r3) [],
    (true || ((E4 r3).nv && nvL [])) = true,
    (!r3) = true]) (by kernel_rfl) (cj (laws_eqByteS_ok a.Data b.Data r1 h1) (cj rfl (cj (nf h2) (cj h3 (cj (laws_eqIntS_ok a.Set b.Set r2 h4) (cj rfl (cj (nf h5) (cj h6 (cj h7 (cj h8 (cj h9 (cj h10 (cj (laws_eqByteS_ok a.Reply b.Reply r3 h11) (cj rfl (cj1 (nt h12))))))))))))))))))))))))) (fun h5 =>
   Pn.some (Fn.of [.call [] (E4 r1) [], .bit false, .bit false, .call [] (E4 r2) [], .bit true] (p := [Fn Tryd.prog 56 [(false, E40 a.Data), (false, E40 b.Data)] (E4 r1) [],
    (true || ((E4 r1).nv && nvL [])) = true,
    (!r1) = false,
    (a.Pc != b.Pc) = false,
    Fn Tryd.prog 71 [(false, E53 a.Set), (false, E53 b.Set)] (E4 r2) [],
    (true || ((E4 r2).nv && nvL [])) = true,
    (!r2) = true]) (by kernel_rfl) (cj (laws_eqByteS_ok a.Data b.Data r1 h1) (cj rfl (cj (nf h2) (cj h3 (cj (laws_eqIntS_ok a.Set b.Set r2 h4) (cj rfl (cj1 (nt h5))))))))))))) (fun h2 =>
   Pn.some (Fn.of [.call [] (E4 r1) [], .bit true] (p := [Fn Tryd.prog 56 [(false, E40 a.Data), (false, E40 b.Data)] (E4 r1) [],
    (true || ((E4 r1).nv && nvL [])) = true,
    (!r1) = true]) (by kernel_rfl) (cj (laws_eqByteS_ok a.Data b.Data r1 h1) (cj rfl (cj1 (nt h2)))))))
def laws_FnExactTaskShow (aT : Task) : Option (Bool) :=
 (laws_szTask aT 1048576).bind fun r1 =>
 if (decide (r1 < 0)) = true then
 some true
 else
 (laws_toTask aT).bind fun r2 =>
 (spec_TaskShow r2).bind fun r3 =>
 (laws_toTask aT).bind fun r4 =>
 (impl_TaskShow r4).bind fun r5 =>
 if (r5 == r3) = true then
 (laws_toTask aT).bind fun r6 =>
 (laws_eqTask r4 r6).bind fun r7 =>
 if r7 = true then
 some true
 else
 some false
 else
 some false
theorem laws_FnExactTaskShow_ok (aT : Task) : Pn (fun y => Fn Tryd.prog 7 [(false, E55 aT)] (E4 y) []) (laws_FnExactTaskShow aT) := by
  unfold laws_FnExactTaskShow
  exact
   Pn.bind (fun r1 h1 =>
   Pn.ite (fun h2 =>
   Pn.some (Fn.of [.call [] (E3 r1) [], .bit true] (p := [Fn Tryd.prog 27 [(false, E55 aT), (false, E3 1048576)] (E3 r1) [],
    (true || ((E3 r1).nv && nvL [])) = true,
    (decide (r1 < 0)) = true]) (by kernel_rfl) (cj (laws_szTask_ok aT 1048576 r1 h1) (cj rfl (cj1 h2))))) (fun h2 =>
   Pn.bind (fun r2 h3 =>
   Pn.bind (fun r3 h4 =>
   Pn.bind (fun r4 h5 =>
   Pn.bind (fun r5 h6 =>
   Pn.ite (fun h7 =>
   Pn.bind (fun r6 h8 =>
   Pn.bind (fun r7 h9 =>
   Pn.ite (fun h10 =>
   Pn.some (Fn.of [.call [] (E3 r1) [], .bit false, .call [] (E58 r2) [], .call [] (E9 r3) [], .call [] (E58 r4) [], .call [] (E9 r5) [], .bit false, .draw [], .call [] (E58 r6) [], .call [] (E4 r7) [], .bit false] (p := [Fn Tryd.prog 27 [(false, E55 aT), (false, E3 1048576)] (E3 r1) [],
    (true || ((E3 r1).nv && nvL [])) = true,
    (decide (r1 < 0)) = false,
    Fn Tryd.prog 29 [(false, E55 aT)] (E58 r2) [],
    (true || ((E58 r2).nv && nvL [])) = true,
    Fn Tryd.prog 28 [(false, E58 r2)] (E9 r3) [],
    (false || ((E9 r3).nv && nvL [])) = true,
    Fn Tryd.prog 29 [(false, E55 aT)] (E58 r4) [],
    (true || ((E58 r4).nv && nvL [])) = true,
    Fn Tryd.prog 30 [(false, E58 r4)] (E9 r5) [],
    (false || ((E9 r5).nv && nvL [])) = true,
    (!(r5 == r3)) = false,
    Fn Tryd.prog 29 [(false, E55 aT)] (E58 r6) [],
    (true || ((E58 r6).nv && nvL [])) = true,
    Fn Tryd.prog 31 [(false, E58 r4), (false, E58 r6)] (E4 r7) [],
    (false || ((E4 r7).nv && nvL [])) = true,
    (!r7) = false]) (by kernel_rfl) (cj (laws_szTask_ok aT 1048576 r1 h1) (cj rfl (cj h2 (cj (laws_toTask_ok aT r2 h3) (cj rfl (cj (spec_TaskShow_ok r2 r3 h4) (cj (by simp [V.nv, nvL, nvL_all, nv_E9]) (cj (laws_toTask_ok aT r4 h5) (cj rfl (cj (impl_TaskShow_ok r4 r5 h6) (cj (by simp [V.nv, nvL, nvL_all, nv_E9]) (cj (nf h7) (cj (laws_toTask_ok aT r6 h8) (cj rfl (cj (laws_eqTask_ok r4 r6 r7 h9) (cj (by simp [V.nv, nvL, nvL_all, nv_E4]) (cj1 (nf h10)))))))))))))))))))) (fun h10 =>
   Pn.some (Fn.of [.call [] (E3 r1) [], .bit false, .call [] (E58 r2) [], .call [] (E9 r3) [], .call [] (E58 r4) [], .call [] (E9 r5) [], .bit false, .draw [], .call [] (E58 r6) [], .call [] (E4 r7) [], .bit true] (p := [Fn Tryd.prog 27 [(false, E55 aT), (false, E3 1048576)] (E3 r1) [],
    (true || ((E3 r1).nv && nvL [])) = true,
    (decide (r1 < 0)) = false,
    Fn Tryd.prog 29 [(false, E55 aT)] (E58 r2) [],
    (true || ((E58 r2).nv && nvL [])) = true,
    Fn Tryd.prog 28 [(false, E58 r2)] (E9 r3) [],
    (false || ((E9 r3).nv && nvL [])) = true,
    Fn Tryd.prog 29 [(false, E55 aT)] (E58 r4) [],
    (true || ((E58 r4).nv && nvL [])) = true,
    Fn Tryd.prog 30 [(false, E58 r4)] (E9 r5) [],
    (false || ((E9 r5).nv && nvL [])) = true,
    (!(r5 == r3)) = false,
    Fn Tryd.prog 29 [(false, E55 aT)] (E58 r6) [],
    (true || ((E58 r6).nv && nvL [])) = true,
    Fn Tryd.prog 31 [(false, E58 r4), (false, E58 r6)] (E4 r7) [],
    (false || ((E4 r7).nv && nvL [])) = true,
    (!r7) = true]) (by kernel_rfl) (cj (laws_szTask_ok aT 1048576 r1 h1) (cj rfl (cj h2 (cj (laws_toTask_ok aT r2 h3) (cj rfl (cj (spec_TaskShow_ok r2 r3 h4) (cj (by simp [V.nv, nvL, nvL_all, nv_E9]) (cj (laws_toTask_ok aT r4 h5) (cj rfl (cj (impl_TaskShow_ok r4 r5 h6) (cj (by simp [V.nv, nvL, nvL_all, nv_E9]) (cj (nf h7) (cj (laws_toTask_ok aT r6 h8) (cj rfl (cj (laws_eqTask_ok r4 r6 r7 h9) (cj (by simp [V.nv, nvL, nvL_all, nv_E4]) (cj1 (nt h10))))))))))))))))))))))) (fun h7 =>
   Pn.some (Fn.of [.call [] (E3 r1) [], .bit false, .call [] (E58 r2) [], .call [] (E9 r3) [], .call [] (E58 r4) [], .call [] (E9 r5) [], .bit true] (p := [Fn Tryd.prog 27 [(false, E55 aT), (false, E3 1048576)] (E3 r1) [],
    (true || ((E3 r1).nv && nvL [])) = true,
    (decide (r1 < 0)) = false,
    Fn Tryd.prog 29 [(false, E55 aT)] (E58 r2) [],
    (true || ((E58 r2).nv && nvL [])) = true,
    Fn Tryd.prog 28 [(false, E58 r2)] (E9 r3) [],
    (false || ((E9 r3).nv && nvL [])) = true,
    Fn Tryd.prog 29 [(false, E55 aT)] (E58 r4) [],
    (true || ((E58 r4).nv && nvL [])) = true,
    Fn Tryd.prog 30 [(false, E58 r4)] (E9 r5) [],
    (false || ((E9 r5).nv && nvL [])) = true,
    (!(r5 == r3)) = true]) (by kernel_rfl) (cj (laws_szTask_ok aT 1048576 r1 h1) (cj rfl (cj h2 (cj (laws_toTask_ok aT r2 h3) (cj rfl (cj (spec_TaskShow_ok r2 r3 h4) (cj (by simp [V.nv, nvL, nvL_all, nv_E9]) (cj (laws_toTask_ok aT r4 h5) (cj rfl (cj (impl_TaskShow_ok r4 r5 h6) (cj (by simp [V.nv, nvL, nvL_all, nv_E9]) (cj1 (nt h7)))))))))))))))))))))
end Go.Proofs.YtjnnbcdakaabbaaDoorM
