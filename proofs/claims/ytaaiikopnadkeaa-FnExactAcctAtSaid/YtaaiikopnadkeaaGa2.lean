/- Printed by gen.py: functions on plain data, and that the program computes them. No condition. -/
import Derived.Test.YtaaiikopnadkeaaGa1
namespace Go.Proofs.YtaaiikopnadkeaaM
set_option linter.unusedVariables false
set_option linter.unusedSimpArgs false
open Go.RowKit
set_option maxRecDepth 100000

def spec_RingRoll_l0 (o : Ring) (o_ : Int) (r1 : Ring) : List Int → List Int → (List Int) → (List Int) → Option ((List Int) × (List Int))
  | [], p1, v1, v2 =>
   some (v1, v2)
  | x1 :: t1, p1, v1, v2 =>
   (v1[(p1.length : Int).toNat]?).bind fun x2 =>
   (v2[(p1.length : Int).toNat]?).bind fun x3 =>
   if (decide ((i64 ((i64 (Int.tdiv o_ o.Span)) - o.Head)) ≤ (p1.length : Int))) = true then
    if (decide (0 ≤ (i64 ((p1.length : Int) - (i64 ((i64 (Int.tdiv o_ o.Span)) - o.Head)))))) = true then
     (o.Counts[(i64 ((p1.length : Int) - (i64 ((i64 (Int.tdiv o_ o.Span)) - o.Head)))).toNat]?).bind fun x4 =>
     ((v1.set ((p1.length : Int).toNat) 0)[(p1.length : Int).toNat]?).bind fun x5 =>
     (o.Sums[(i64 ((p1.length : Int) - (i64 ((i64 (Int.tdiv o_ o.Span)) - o.Head)))).toNat]?).bind fun x6 =>
     ((v2.set ((p1.length : Int).toNat) 0)[(p1.length : Int).toNat]?).bind fun x7 =>
     spec_RingRoll_l0 o o_ r1 t1 (p1 ++ [x1]) ((v1.set ((p1.length : Int).toNat) 0).set ((p1.length : Int).toNat) x4) ((v2.set ((p1.length : Int).toNat) 0).set ((p1.length : Int).toNat) x6)
    else none
   else
    spec_RingRoll_l0 o o_ r1 t1 (p1 ++ [x1]) (v1.set ((p1.length : Int).toNat) 0) (v2.set ((p1.length : Int).toNat) 0)
theorem spec_RingRoll_l0_ok (o : Ring) (o_ : Int) (r1 : Ring) (h9 : capOk o.Counts.length = true) : ∀ (t1 p1 : List Int) (_ : o.Counts = p1 ++ t1) (v1 : List Int) (v2 : List Int), Pn (LpO Try.prog (sub (codeOf Try.prog 83) [1, 1, 1, 1, 0, 1, 0, 0]) (st 81 [(1, V.sc (.int .i64 o_)), (2, V.ptr 0 0), (4, V.ptr 1 0), (5, V.ptr 2 0), (6, V.sc (.int .i64 (i64 ((i64 (Int.tdiv o_ o.Span)) - o.Head)))), (37, V.sc (.int .i64 (o.Counts.length : Int))), (38, V.sc (.int .i64 (p1.length : Int)))] [Blk.box 46 [V.sc (.int .i64 o.Span), V.sc (.int .i64 o.Head), V.sl false 3 (List.map E3 o.Counts), V.sl false 3 (List.map E3 o.Sums)], Blk.box 46 [V.sc (.int .i64 0), V.sc (.int .i64 0), V.nl 3, V.nl 3], Blk.box 46 [V.sc (.int .i64 r1.Span), V.sc (.int .i64 r1.Head), V.ow 3, V.ow 4], Blk.row 3 (List.map E3 v1) [], Blk.row 3 (List.map E3 v2) []] []) (fun (y : (List Int) × (List Int)) => (X.out 0, st 81 [(1, V.sc (.int .i64 o_)), (2, V.ptr 0 0), (4, V.ptr 1 0), (5, V.ptr 2 0)] [Blk.box 46 [V.sc (.int .i64 o.Span), V.sc (.int .i64 o.Head), V.sl false 3 (List.map E3 o.Counts), V.sl false 3 (List.map E3 o.Sums)], Blk.box 46 [V.sc (.int .i64 0), V.sc (.int .i64 0), V.nl 3, V.nl 3], Blk.box 46 [V.sc (.int .i64 r1.Span), V.sc (.int .i64 r1.Head), V.ow 3, V.ow 4], Blk.row 3 (List.map E3 y.1) [], Blk.row 3 (List.map E3 y.2) []] []))) (spec_RingRoll_l0 o o_ r1 t1 p1 v1 v2)
  | [], p1, h8, v1, v2 => by
    unfold spec_RingRoll_l0
    exact
     Pn.some (LpO.out [.bit false, .mask [1, 2, 4, 5], .ren [0, 1, 2, 3, 4]] (p := [(decide ((p1.length : Int) < (o.Counts.length : Int))) = false]) (by kernel_rfl) (show X.out 0 ≠ X.go from nofun) (cj1 (rng_end h8)))
  | x1 :: t1, p1, h8, v1, v2 => by
    unfold spec_RingRoll_l0
    exact
     Pn.bind (fun x2 h10 =>
      Pn.bind (fun x3 h11 =>
       Pn.ite (fun h12 =>
        Pn.ite (fun h13 =>
         Pn.bind (fun x4 h14 =>
          Pn.bind (fun x5 h15 =>
           Pn.bind (fun x6 h16 =>
            Pn.bind (fun x7 h17 =>
             LpO.go [.bit true, .el (E3 x2), .nb 3 (.row 3 (List.map E3 (v1.set ((p1.length : Int).toNat) 0)) []), .el (E3 x3), .nb 4 (.row 3 (List.map E3 (v2.set ((p1.length : Int).toNat) 0)) []), .bit true, .draw [11], .el (E3 x4), .el (E3 x5), .nb 3 (.row 3 (List.map E3 ((v1.set ((p1.length : Int).toNat) 0).set ((p1.length : Int).toNat) x4)) []), .draw [11], .el (E3 x6), .el (E3 x7), .nb 4 (.row 3 (List.map E3 ((v2.set ((p1.length : Int).toNat) 0).set ((p1.length : Int).toNat) x6)) []), .wait 3, .mask [1, 2, 4, 5, 6, 37, 38], .ren [0, 1, 2, 3, 4], .nm 38 (V.sc (.int .i64 ((p1 ++ [x1]).length : Int)))] (p := [(decide ((p1.length : Int) < (o.Counts.length : Int))) = true,
              (0 : Int) ≤ (p1.length : Int),
              ((p1.length : Int) : Int) < ((List.map E3 v1).length : Int),
              look [] ((p1.length : Int).toNat) = none,
              (List.map E3 v1)[(p1.length : Int).toNat]? = some (E3 x2),
              Blk.row 3 ((List.map E3 v1).set ((p1.length : Int).toNat) (V.sc (.int .i64 0))) [] = Blk.row 3 (List.map E3 (v1.set ((p1.length : Int).toNat) 0)) [],
              (0 : Int) ≤ (p1.length : Int),
              ((p1.length : Int) : Int) < ((List.map E3 v2).length : Int),
              look [] ((p1.length : Int).toNat) = none,
              (List.map E3 v2)[(p1.length : Int).toNat]? = some (E3 x3),
              Blk.row 3 ((List.map E3 v2).set ((p1.length : Int).toNat) (V.sc (.int .i64 0))) [] = Blk.row 3 (List.map E3 (v2.set ((p1.length : Int).toNat) 0)) [],
              (decide ((i64 ((i64 (Int.tdiv o_ o.Span)) - o.Head)) ≤ (p1.length : Int))) = true,
              (0 : Int) ≤ (i64 ((p1.length : Int) - (i64 ((i64 (Int.tdiv o_ o.Span)) - o.Head)))),
              (List.map E3 o.Counts)[(i64 ((p1.length : Int) - (i64 ((i64 (Int.tdiv o_ o.Span)) - o.Head)))).toNat]? = some (E3 x4),
              (0 : Int) ≤ (p1.length : Int),
              ((p1.length : Int) : Int) < ((List.map E3 (v1.set ((p1.length : Int).toNat) 0)).length : Int),
              look [] ((p1.length : Int).toNat) = none,
              (List.map E3 (v1.set ((p1.length : Int).toNat) 0))[(p1.length : Int).toNat]? = some (E3 x5),
              Blk.row 3 ((List.map E3 (v1.set ((p1.length : Int).toNat) 0)).set ((p1.length : Int).toNat) (V.sc (.int .i64 x4))) [] = Blk.row 3 (List.map E3 ((v1.set ((p1.length : Int).toNat) 0).set ((p1.length : Int).toNat) x4)) [],
              (0 : Int) ≤ (i64 ((p1.length : Int) - (i64 ((i64 (Int.tdiv o_ o.Span)) - o.Head)))),
              (List.map E3 o.Sums)[(i64 ((p1.length : Int) - (i64 ((i64 (Int.tdiv o_ o.Span)) - o.Head)))).toNat]? = some (E3 x6),
              (0 : Int) ≤ (p1.length : Int),
              ((p1.length : Int) : Int) < ((List.map E3 (v2.set ((p1.length : Int).toNat) 0)).length : Int),
              look [] ((p1.length : Int).toNat) = none,
              (List.map E3 (v2.set ((p1.length : Int).toNat) 0))[(p1.length : Int).toNat]? = some (E3 x7),
              Blk.row 3 ((List.map E3 (v2.set ((p1.length : Int).toNat) 0)).set ((p1.length : Int).toNat) (V.sc (.int .i64 x6))) [] = Blk.row 3 (List.map E3 ((v2.set ((p1.length : Int).toNat) 0).set ((p1.length : Int).toNat) x6)) [],
              V.sc (.int .i64 (i64 ((p1.length : Int) + 1))) = V.sc (.int .i64 ((p1 ++ [x1]).length : Int))]) (by kernel_rfl) (cj (rng_lt h8) (cj (by omega) (cj (map_ltN (by omega) h10) (cj rfl (cj (map_get h10) (cj (nb_set E3 _ _ 0) (cj (by omega) (cj (map_ltN (by omega) h11) (cj rfl (cj (map_get h11) (cj (nb_set E3 _ _ 0) (cj h12 (cj (od h13) (cj (map_get h14) (cj (by omega) (cj (map_ltN (by omega) h15) (cj rfl (cj (map_get h15) (cj (nb_set E3 _ _ x4) (cj (od h13) (cj (map_get h16) (cj (by omega) (cj (map_ltN (by omega) h17) (cj rfl (cj (map_get h17) (cj (nb_set E3 _ _ x6) (cj1 (rng_next h8 h9)))))))))))))))))))))))))))) (spec_RingRoll_l0_ok o o_ r1 h9 t1 (p1 ++ [x1]) (rng_step h8) ((v1.set ((p1.length : Int).toNat) 0).set ((p1.length : Int).toNat) x4) ((v2.set ((p1.length : Int).toNat) 0).set ((p1.length : Int).toNat) x6))))))) (fun h13 =>
         Pn.none)) (fun h12 =>
        LpO.go [.bit true, .el (E3 x2), .nb 3 (.row 3 (List.map E3 (v1.set ((p1.length : Int).toNat) 0)) []), .el (E3 x3), .nb 4 (.row 3 (List.map E3 (v2.set ((p1.length : Int).toNat) 0)) []), .bit false, .wait 2, .mask [1, 2, 4, 5, 6, 37, 38], .ren [0, 1, 2, 3, 4], .nm 38 (V.sc (.int .i64 ((p1 ++ [x1]).length : Int)))] (p := [(decide ((p1.length : Int) < (o.Counts.length : Int))) = true,
         (0 : Int) ≤ (p1.length : Int),
         ((p1.length : Int) : Int) < ((List.map E3 v1).length : Int),
         look [] ((p1.length : Int).toNat) = none,
         (List.map E3 v1)[(p1.length : Int).toNat]? = some (E3 x2),
         Blk.row 3 ((List.map E3 v1).set ((p1.length : Int).toNat) (V.sc (.int .i64 0))) [] = Blk.row 3 (List.map E3 (v1.set ((p1.length : Int).toNat) 0)) [],
         (0 : Int) ≤ (p1.length : Int),
         ((p1.length : Int) : Int) < ((List.map E3 v2).length : Int),
         look [] ((p1.length : Int).toNat) = none,
         (List.map E3 v2)[(p1.length : Int).toNat]? = some (E3 x3),
         Blk.row 3 ((List.map E3 v2).set ((p1.length : Int).toNat) (V.sc (.int .i64 0))) [] = Blk.row 3 (List.map E3 (v2.set ((p1.length : Int).toNat) 0)) [],
         (decide ((i64 ((i64 (Int.tdiv o_ o.Span)) - o.Head)) ≤ (p1.length : Int))) = false,
         V.sc (.int .i64 (i64 ((p1.length : Int) + 1))) = V.sc (.int .i64 ((p1 ++ [x1]).length : Int))]) (by kernel_rfl) (cj (rng_lt h8) (cj (by omega) (cj (map_ltN (by omega) h10) (cj rfl (cj (map_get h10) (cj (nb_set E3 _ _ 0) (cj (by omega) (cj (map_ltN (by omega) h11) (cj rfl (cj (map_get h11) (cj (nb_set E3 _ _ 0) (cj h12 (cj1 (rng_next h8 h9)))))))))))))) (spec_RingRoll_l0_ok o o_ r1 h9 t1 (p1 ++ [x1]) (rng_step h8) (v1.set ((p1.length : Int).toNat) 0) (v2.set ((p1.length : Int).toNat) 0)))))
def spec_RingRoll (o : Ring) (o_ : Int) : Option (Ring) :=
 (spec_l06Copy o).bind fun r1 =>
 (spec_RingOk o).bind fun r2 =>
 if r2 = true then
  (spec_l06Time o_).bind fun r3 =>
  if r3 = true then
   if (decide (o.Span ≠ 0)) = true then
    if (decide ((i64 (Int.tdiv o_ o.Span)) ≤ o.Head)) = true then
     some r1
    else
     if (capOk o.Counts.length) = true then
      (spec_RingRoll_l0 o o_ r1 o.Counts [] r1.Counts r1.Sums).bind fun r4 =>
      some (Ring.mk r1.Span (i64 (Int.tdiv o_ o.Span)) r4.1 r4.2)
     else none
   else none
  else
   some r1
 else
  some r1
theorem spec_RingRoll_ok (o : Ring) (o_ : Int) : Pn (fun y => Fn Try.prog 83 [(false, E46 o), (false, E3 o_)] (E46 y) []) (spec_RingRoll o o_) := by
  unfold spec_RingRoll
  exact
   Pn.bind (fun r1 h1 =>
    Pn.bind (fun r2 h2 =>
     Pn.ite (fun h3 =>
      Pn.bind (fun r3 h4 =>
       Pn.ite (fun h5 =>
        Pn.ite (fun h6 =>
         Pn.ite (fun h7 =>
          Pn.some (Fn.of [.call [] (E46 r1) [], .draw [], .call [] (E4 r2) [], .bit false, .bit false, .call [] (E4 r3) [], .bit false, .bit false, .bit false, .bit false, .bit false, .bit false, .bit false, .bit false, .bit false, .bit false, .bit true] (p := [Fn Try.prog 109 [(false, E46 o)] (E46 r1) [],
           (true || ((E46 r1).nv && nvL [])) = true,
           Fn Try.prog 115 [(false, E46 o)] (E4 r2) [],
           (true || ((E4 r2).nv && nvL [])) = true,
           (!r2) = false,
           (!r2) = false,
           Fn Try.prog 59 [(false, E3 o_)] (E4 r3) [],
           (true || ((E4 r3).nv && nvL [])) = true,
           (!r2) = false,
           (!r2) = false,
           (!r3) = false,
           (!r3) = false,
           (!r3) = false,
           (!r3) = false,
           (o.Span : Int) ≠ 0,
           (!r3) = false,
           (!r3) = false,
           (!r3) = false,
           (!r3) = false,
           (decide ((i64 (Int.tdiv o_ o.Span)) ≤ o.Head)) = true]) (by kernel_rfl) (cj (spec_l06Copy_ok o r1 h1) (cj rfl (cj (spec_RingOk_ok o r2 h2) (cj rfl (cj (nf h3) (cj (nf h3) (cj (spec_l06Time_ok o_ r3 h4) (cj rfl (cj (nf h3) (cj (nf h3) (cj (nf h5) (cj (nf h5) (cj (nf h5) (cj (nf h5) (cj (od h6) (cj (nf h5) (cj (nf h5) (cj (nf h5) (cj (nf h5) (cj1 h7)))))))))))))))))))))) (fun h7 =>
          Pn.ite (fun h18 =>
           Pn.bind (fun r4 h19 =>
            Pn.some (Fn.of [.call [] (E46 r1) [], .draw [], .call [] (E4 r2) [], .bit false, .bit false, .call [] (E4 r3) [], .bit false, .bit false, .bit false, .bit false, .bit false, .bit false, .bit false, .bit false, .bit false, .bit false, .bit false, .draw [], .wait 10, .nm 37 (V.sc (.int .i64 (o.Counts.length : Int))), .wait 2, .mask [1, 2, 4, 5, 6, 37, 38], .ren [0, 1, 4, 2, 3], .loop (X.out 0) (st 81 [(1, V.sc (.int .i64 o_)), (2, V.ptr 0 0), (4, V.ptr 1 0), (5, V.ptr 2 0)] [Blk.box 46 [V.sc (.int .i64 o.Span), V.sc (.int .i64 o.Head), V.sl false 3 (List.map E3 o.Counts), V.sl false 3 (List.map E3 o.Sums)], Blk.box 46 [V.sc (.int .i64 0), V.sc (.int .i64 0), V.nl 3, V.nl 3], Blk.box 46 [V.sc (.int .i64 r1.Span), V.sc (.int .i64 r1.Head), V.ow 3, V.ow 4], Blk.row 3 (List.map E3 r4.1) [], Blk.row 3 (List.map E3 r4.2) []] [])] (p := [Fn Try.prog 109 [(false, E46 o)] (E46 r1) [],
             (true || ((E46 r1).nv && nvL [])) = true,
             Fn Try.prog 115 [(false, E46 o)] (E4 r2) [],
             (true || ((E4 r2).nv && nvL [])) = true,
             (!r2) = false,
             (!r2) = false,
             Fn Try.prog 59 [(false, E3 o_)] (E4 r3) [],
             (true || ((E4 r3).nv && nvL [])) = true,
             (!r2) = false,
             (!r2) = false,
             (!r3) = false,
             (!r3) = false,
             (!r3) = false,
             (!r3) = false,
             (o.Span : Int) ≠ 0,
             (!r3) = false,
             (!r3) = false,
             (!r3) = false,
             (!r3) = false,
             (decide ((i64 (Int.tdiv o_ o.Span)) ≤ o.Head)) = false,
             (o.Span : Int) ≠ 0,
             V.sc (.int .i64 ((List.map E3 o.Counts).length : Int)) = V.sc (.int .i64 (o.Counts.length : Int)),
             Loop Try.prog (sub (codeOf Try.prog 83) [1, 1, 1, 1, 0, 1, 0, 0]) (st 81 [(1, V.sc (.int .i64 o_)), (2, V.ptr 0 0), (4, V.ptr 1 0), (5, V.ptr 2 0), (6, V.sc (.int .i64 (i64 ((i64 (Int.tdiv o_ o.Span)) - o.Head)))), (37, V.sc (.int .i64 (o.Counts.length : Int))), (38, V.sc (.int .i64 0))] [Blk.box 46 [V.sc (.int .i64 o.Span), V.sc (.int .i64 o.Head), V.sl false 3 (List.map E3 o.Counts), V.sl false 3 (List.map E3 o.Sums)], Blk.box 46 [V.sc (.int .i64 0), V.sc (.int .i64 0), V.nl 3, V.nl 3], Blk.box 46 [V.sc (.int .i64 r1.Span), V.sc (.int .i64 r1.Head), V.ow 3, V.ow 4], Blk.row 3 (List.map E3 r1.Counts) [], Blk.row 3 (List.map E3 r1.Sums) []] []) (X.out 0) (st 81 [(1, V.sc (.int .i64 o_)), (2, V.ptr 0 0), (4, V.ptr 1 0), (5, V.ptr 2 0)] [Blk.box 46 [V.sc (.int .i64 o.Span), V.sc (.int .i64 o.Head), V.sl false 3 (List.map E3 o.Counts), V.sl false 3 (List.map E3 o.Sums)], Blk.box 46 [V.sc (.int .i64 0), V.sc (.int .i64 0), V.nl 3, V.nl 3], Blk.box 46 [V.sc (.int .i64 r1.Span), V.sc (.int .i64 r1.Head), V.ow 3, V.ow 4], Blk.row 3 (List.map E3 r4.1) [], Blk.row 3 (List.map E3 r4.2) []] []),
             (o.Span : Int) ≠ 0]) (by kernel_rfl) (cj (spec_l06Copy_ok o r1 h1) (cj rfl (cj (spec_RingOk_ok o r2 h2) (cj rfl (cj (nf h3) (cj (nf h3) (cj (spec_l06Time_ok o_ r3 h4) (cj rfl (cj (nf h3) (cj (nf h3) (cj (nf h5) (cj (nf h5) (cj (nf h5) (cj (nf h5) (cj (od h6) (cj (nf h5) (cj (nf h5) (cj (nf h5) (cj (nf h5) (cj h7 (cj (od h6) (cj (len_nm _ _) (cj (spec_RingRoll_l0_ok o o_ r1 h18 o.Counts [] rfl r1.Counts r1.Sums r4 h19) (cj1 (od h6)))))))))))))))))))))))))))) (fun h18 =>
           Pn.none))) (fun h6 =>
         Pn.none)) (fun h5 =>
        Pn.some (Fn.of [.call [] (E46 r1) [], .draw [], .call [] (E4 r2) [], .bit false, .bit false, .call [] (E4 r3) [], .bit false, .bit false, .bit true, .bit true, .bit true, .bit true, .bit true, .bit true, .bit true, .bit true, .bit true] (p := [Fn Try.prog 109 [(false, E46 o)] (E46 r1) [],
         (true || ((E46 r1).nv && nvL [])) = true,
         Fn Try.prog 115 [(false, E46 o)] (E4 r2) [],
         (true || ((E4 r2).nv && nvL [])) = true,
         (!r2) = false,
         (!r2) = false,
         Fn Try.prog 59 [(false, E3 o_)] (E4 r3) [],
         (true || ((E4 r3).nv && nvL [])) = true,
         (!r2) = false,
         (!r2) = false,
         (!r3) = true,
         (!r3) = true,
         (!r3) = true,
         (!r3) = true,
         (!r3) = true,
         (!r3) = true,
         (!r3) = true,
         (!r3) = true,
         true = true]) (by kernel_rfl) (cj (spec_l06Copy_ok o r1 h1) (cj rfl (cj (spec_RingOk_ok o r2 h2) (cj rfl (cj (nf h3) (cj (nf h3) (cj (spec_l06Time_ok o_ r3 h4) (cj rfl (cj (nf h3) (cj (nf h3) (cj (nt h5) (cj (nt h5) (cj (nt h5) (cj (nt h5) (cj (nt h5) (cj (nt h5) (cj (nt h5) (cj (nt h5) (cj1 rfl))))))))))))))))))))))) (fun h3 =>
      Pn.some (Fn.of [.call [] (E46 r1) [], .draw [], .call [] (E4 r2) [], .bit true, .bit true, .bit true, .bit true, .bit true, .bit true, .bit true, .bit true, .bit true, .bit true, .bit true, .bit true, .bit true] (p := [Fn Try.prog 109 [(false, E46 o)] (E46 r1) [],
       (true || ((E46 r1).nv && nvL [])) = true,
       Fn Try.prog 115 [(false, E46 o)] (E4 r2) [],
       (true || ((E4 r2).nv && nvL [])) = true,
       (!r2) = true,
       (!r2) = true,
       (!r2) = true,
       (!r2) = true,
       true = true,
       true = true,
       true = true,
       true = true,
       true = true,
       true = true,
       true = true,
       true = true,
       true = true]) (by kernel_rfl) (cj (spec_l06Copy_ok o r1 h1) (cj rfl (cj (spec_RingOk_ok o r2 h2) (cj rfl (cj (nt h3) (cj (nt h3) (cj (nt h3) (cj (nt h3) (cj rfl (cj rfl (cj rfl (cj rfl (cj rfl (cj rfl (cj rfl (cj rfl (cj1 rfl)))))))))))))))))))))
def spec_AcctAt (a : Acct) (now : Int) : Option (Acct) :=
 (spec_AcctSwept a now).bind fun r1 =>
 (spec_AcctOk a).bind fun r2 =>
 if r2 = true then
  (spec_l06Time now).bind fun r3 =>
  if r3 = true then
   (spec_RingRoll a.Ring now).bind fun r4 =>
   some (Acct.mk r1.Id r1.Limit r1.Posted r1.Most r1.MostSum r1.Holds r4 r1.Slots)
  else
   some r1
 else
  some r1
theorem spec_AcctAt_ok (a : Acct) (now : Int) : Pn (fun y => Fn Try.prog 33 [(false, E49 a), (false, E3 now)] (E49 y) []) (spec_AcctAt a now) := by
  unfold spec_AcctAt
  exact
   Pn.bind (fun r1 h1 =>
    Pn.bind (fun r2 h2 =>
     Pn.ite (fun h3 =>
      Pn.bind (fun r3 h4 =>
       Pn.ite (fun h5 =>
        Pn.bind (fun r4 h6 =>
         Pn.some (Fn.of [.call [] (E49 r1) [], .call [] (E4 r2) [], .bit true, .bit true, .call [] (E4 r3) [], .bit true, .bit true, .call [] (E46 r4) []] (p := [Fn Try.prog 17 [(false, E49 a), (false, E3 now)] (E49 r1) [],
          (true || ((E49 r1).nv && nvL [])) = true,
          Fn Try.prog 58 [(false, E49 a)] (E4 r2) [],
          (true || ((E4 r2).nv && nvL [])) = true,
          r2 = true,
          r2 = true,
          Fn Try.prog 59 [(false, E3 now)] (E4 r3) [],
          (true || ((E4 r3).nv && nvL [])) = true,
          r2 = true,
          r3 = true,
          Fn Try.prog 83 [(false, E46 a.Ring), (false, E3 now)] (E46 r4) [],
          (true || ((E46 r4).nv && nvL [])) = true]) (by kernel_rfl) (cj (spec_AcctSwept_ok a now r1 h1) (cj rfl (cj (spec_AcctOk_ok a r2 h2) (cj rfl (cj h3 (cj h3 (cj (spec_l06Time_ok now r3 h4) (cj rfl (cj h3 (cj h5 (cj (spec_RingRoll_ok a.Ring now r4 h6) (cj1 rfl))))))))))))))) (fun h5 =>
        Pn.some (Fn.of [.call [] (E49 r1) [], .call [] (E4 r2) [], .bit true, .bit true, .call [] (E4 r3) [], .bit true, .bit false] (p := [Fn Try.prog 17 [(false, E49 a), (false, E3 now)] (E49 r1) [],
         (true || ((E49 r1).nv && nvL [])) = true,
         Fn Try.prog 58 [(false, E49 a)] (E4 r2) [],
         (true || ((E4 r2).nv && nvL [])) = true,
         r2 = true,
         r2 = true,
         Fn Try.prog 59 [(false, E3 now)] (E4 r3) [],
         (true || ((E4 r3).nv && nvL [])) = true,
         r2 = true,
         r3 = false]) (by kernel_rfl) (cj (spec_AcctSwept_ok a now r1 h1) (cj rfl (cj (spec_AcctOk_ok a r2 h2) (cj rfl (cj h3 (cj h3 (cj (spec_l06Time_ok now r3 h4) (cj rfl (cj h3 (cj1 h5)))))))))))))) (fun h3 =>
      Pn.some (Fn.of [.call [] (E49 r1) [], .call [] (E4 r2) [], .bit false, .bit false, .bit false, .bit false] (p := [Fn Try.prog 17 [(false, E49 a), (false, E3 now)] (E49 r1) [],
       (true || ((E49 r1).nv && nvL [])) = true,
       Fn Try.prog 58 [(false, E49 a)] (E4 r2) [],
       (true || ((E4 r2).nv && nvL [])) = true,
       r2 = false,
       r2 = false,
       r2 = false,
       false = false]) (by kernel_rfl) (cj (spec_AcctSwept_ok a now r1 h1) (cj rfl (cj (spec_AcctOk_ok a r2 h2) (cj rfl (cj h3 (cj h3 (cj h3 (cj1 rfl))))))))))))
def impl_shifted_l0 (l : List Int) (by_ : Int) : List Int → List Int → (List Int) → Option ((List Int))
  | [], p1, v1 =>
   some v1
  | x1 :: t1, p1, v1 =>
   if (decide (by_ ≤ (p1.length : Int))) = true then
    if (decide (0 ≤ (i64 ((p1.length : Int) - by_)))) = true then
     (l[(i64 ((p1.length : Int) - by_)).toNat]?).bind fun x2 =>
     (v1[(p1.length : Int).toNat]?).bind fun x3 =>
     impl_shifted_l0 l by_ t1 (p1 ++ [x1]) (v1.set ((p1.length : Int).toNat) x2)
    else none
   else
    impl_shifted_l0 l by_ t1 (p1 ++ [x1]) v1
theorem impl_shifted_l0_ok (l : List Int) (by_ : Int) (h4 : capOk l.length = true) : ∀ (t1 p1 : List Int) (_ : l = p1 ++ t1) (v1 : List Int), Pn (LpO Try.prog (sub (codeOf Try.prog 138) [1, 1, 0, 1, 0, 0]) (st 29 [(0, V.sl false 3 (List.map E3 l)), (1, V.sc (.int .i64 by_)), (5, V.ow 0), (11, V.sc (.int .i64 (l.length : Int))), (12, V.sc (.int .i64 (p1.length : Int)))] [Blk.row 3 (List.map E3 v1) []] []) (fun (y : (List Int)) => (X.out 0, st 29 [(5, V.ow 0)] [Blk.row 3 (List.map E3 y) []] []))) (impl_shifted_l0 l by_ t1 p1 v1)
  | [], p1, h3, v1 => by
    unfold impl_shifted_l0
    exact
     Pn.some (LpO.out [.bit false, .mask [5], .ren [0]] (p := [(decide ((p1.length : Int) < (l.length : Int))) = false]) (by kernel_rfl) (show X.out 0 ≠ X.go from nofun) (cj1 (rng_end h3)))
  | x1 :: t1, p1, h3, v1 => by
    unfold impl_shifted_l0
    exact
     Pn.ite (fun h5 =>
      Pn.ite (fun h6 =>
       Pn.bind (fun x2 h7 =>
        Pn.bind (fun x3 h8 =>
         LpO.go [.bit true, .bit true, .el (E3 x2), .el (E3 x3), .nb 0 (.row 3 (List.map E3 (v1.set ((p1.length : Int).toNat) x2)) []), .wait 3, .mask [0, 1, 5, 11, 12], .ren [0], .nm 12 (V.sc (.int .i64 ((p1 ++ [x1]).length : Int)))] (p := [(decide ((p1.length : Int) < (l.length : Int))) = true,
          (decide (by_ ≤ (p1.length : Int))) = true,
          (0 : Int) ≤ (i64 ((p1.length : Int) - by_)),
          (List.map E3 l)[(i64 ((p1.length : Int) - by_)).toNat]? = some (E3 x2),
          (0 : Int) ≤ (p1.length : Int),
          ((p1.length : Int) : Int) < ((List.map E3 v1).length : Int),
          look [] ((p1.length : Int).toNat) = none,
          (List.map E3 v1)[(p1.length : Int).toNat]? = some (E3 x3),
          Blk.row 3 ((List.map E3 v1).set ((p1.length : Int).toNat) (V.sc (.int .i64 x2))) [] = Blk.row 3 (List.map E3 (v1.set ((p1.length : Int).toNat) x2)) [],
          V.sc (.int .i64 (i64 ((p1.length : Int) + 1))) = V.sc (.int .i64 ((p1 ++ [x1]).length : Int))]) (by kernel_rfl) (cj (rng_lt h3) (cj h5 (cj (od h6) (cj (map_get h7) (cj (by omega) (cj (map_ltN (by omega) h8) (cj rfl (cj (map_get h8) (cj (nb_set E3 _ _ x2) (cj1 (rng_next h3 h4))))))))))) (impl_shifted_l0_ok l by_ h4 t1 (p1 ++ [x1]) (rng_step h3) (v1.set ((p1.length : Int).toNat) x2))))) (fun h6 =>
       Pn.none)) (fun h5 =>
      LpO.go [.bit true, .bit false, .wait 2, .mask [0, 1, 5, 11, 12], .ren [0], .nm 12 (V.sc (.int .i64 ((p1 ++ [x1]).length : Int)))] (p := [(decide ((p1.length : Int) < (l.length : Int))) = true,
       (decide (by_ ≤ (p1.length : Int))) = false,
       V.sc (.int .i64 (i64 ((p1.length : Int) + 1))) = V.sc (.int .i64 ((p1 ++ [x1]).length : Int))]) (by kernel_rfl) (cj (rng_lt h3) (cj h5 (cj1 (rng_next h3 h4)))) (impl_shifted_l0_ok l by_ h4 t1 (p1 ++ [x1]) (rng_step h3) v1))
def impl_shifted (l : List Int) (by_ : Int) : Option ((List Int)) :=
 if (decide (0 ≤ (l.length : Int))) = true then
  if (capOk (l.length : Int).toNat) = true then
   if (capOk l.length) = true then
    (impl_shifted_l0 l by_ l [] (List.replicate ((l.length : Int).toNat) 0)).bind fun r1 =>
    some r1
   else none
  else none
 else none
theorem impl_shifted_ok (l : List Int) (by_ : Int) : Pn (fun y => Fn Try.prog 138 [(false, E38 l), (false, E3 by_)] (E38 y) []) (impl_shifted l by_) := by
  unfold impl_shifted
  exact
   Pn.ite (fun h1 =>
    Pn.ite (fun h2 =>
     Pn.ite (fun h9 =>
      Pn.bind (fun r1 h10 =>
       Pn.some (Fn.of [.wait 3, .nm 8 (V.sc (.int .i64 (l.length : Int))), .wait 1, .nb 0 (.row 3 (List.map E3 (List.replicate ((l.length : Int).toNat) 0)) []), .wait 3, .nm 11 (V.sc (.int .i64 (l.length : Int))), .wait 2, .mask [0, 1, 5, 11, 12], .ren [0], .loop (X.out 0) (st 29 [(5, V.ow 0)] [Blk.row 3 (List.map E3 r1) []] [])] (p := [V.sc (.int .i64 ((List.map E3 l).length : Int)) = V.sc (.int .i64 (l.length : Int)),
        ((l.length : Int) : Int) = (l.length : Int),
        (0 : Int) ≤ (l.length : Int),
        ((l.length : Int) : Int) ≤ 9223372036854775807,
        8 * (l.length : Int).toNat ≤ 281474976710656,
        Blk.row 3 (List.replicate ((l.length : Int).toNat) (V.sc (.int .i64 0))) [] = Blk.row 3 (List.map E3 (List.replicate ((l.length : Int).toNat) 0)) [],
        V.sc (.int .i64 ((List.map E3 l).length : Int)) = V.sc (.int .i64 (l.length : Int)),
        Loop Try.prog (sub (codeOf Try.prog 138) [1, 1, 0, 1, 0, 0]) (st 29 [(0, V.sl false 3 (List.map E3 l)), (1, V.sc (.int .i64 by_)), (5, V.ow 0), (11, V.sc (.int .i64 (l.length : Int))), (12, V.sc (.int .i64 0))] [Blk.row 3 (List.map E3 (List.replicate ((l.length : Int).toNat) 0)) []] []) (X.out 0) (st 29 [(5, V.ow 0)] [Blk.row 3 (List.map E3 r1) []] [])]) (by kernel_rfl) (cj (len_nm _ _) (cj rfl (cj (od h1) (cj (cap3 h1 h2) (cj (cap4 h2 (by decide)) (cj (nb_rep E3 _ 0) (cj (len_nm _ _) (cj1 (impl_shifted_l0_ok l by_ h9 l [] rfl (List.replicate ((l.length : Int).toNat) 0) r1 h10)))))))))))) (fun h9 =>
      Pn.none)) (fun h2 =>
     Pn.none)) (fun h1 =>
    Pn.none)
def impl_RingRoll (r_ : Ring) (now : Int) : Option (Ring) :=
 (impl_Ring_copied r_).bind fun r1 =>
 (impl_RingOk r_).bind fun r2 =>
 if r2 = true then
  (impl_isTime now).bind fun r3 =>
  if r3 = true then
   if (decide (r_.Span ≠ 0)) = true then
    if (decide ((i64 (Int.tdiv now r_.Span)) ≤ r_.Head)) = true then
     some r1
    else
     (impl_shifted r_.Counts (i64 ((i64 (Int.tdiv now r_.Span)) - r_.Head))).bind fun r4 =>
     (impl_shifted r_.Sums (i64 ((i64 (Int.tdiv now r_.Span)) - r_.Head))).bind fun r5 =>
     some (Ring.mk r_.Span (i64 (Int.tdiv now r_.Span)) r4 r5)
   else none
  else
   some r1
 else
  some r1
theorem impl_RingRoll_ok (r_ : Ring) (now : Int) : Pn (fun y => Fn Try.prog 84 [(false, E46 r_), (false, E3 now)] (E46 y) []) (impl_RingRoll r_ now) := by
  unfold impl_RingRoll
  exact
   Pn.bind (fun r1 h1 =>
    Pn.bind (fun r2 h2 =>
     Pn.ite (fun h3 =>
      Pn.bind (fun r3 h4 =>
       Pn.ite (fun h5 =>
        Pn.ite (fun h6 =>
         Pn.ite (fun h7 =>
          Pn.some (Fn.of [.call [] (E46 r1) [], .draw [], .call [] (E4 r2) [], .bit false, .bit false, .call [] (E4 r3) [], .bit false, .bit false, .bit false, .bit false, .bit false, .bit false, .bit false, .bit false, .bit false, .bit false, .bit true] (p := [Fn Try.prog 98 [(false, E46 r_)] (E46 r1) [],
           (true || ((E46 r1).nv && nvL [])) = true,
           Fn Try.prog 123 [(false, E46 r_)] (E4 r2) [],
           (true || ((E4 r2).nv && nvL [])) = true,
           (!r2) = false,
           (!r2) = false,
           Fn Try.prog 65 [(false, E3 now)] (E4 r3) [],
           (true || ((E4 r3).nv && nvL [])) = true,
           (!r2) = false,
           (!r2) = false,
           (!r3) = false,
           (!r3) = false,
           (!r3) = false,
           (!r3) = false,
           (r_.Span : Int) ≠ 0,
           (!r3) = false,
           (!r3) = false,
           (!r3) = false,
           (!r3) = false,
           (decide ((i64 (Int.tdiv now r_.Span)) ≤ r_.Head)) = true]) (by kernel_rfl) (cj (impl_Ring_copied_ok r_ r1 h1) (cj rfl (cj (impl_RingOk_ok r_ r2 h2) (cj rfl (cj (nf h3) (cj (nf h3) (cj (impl_isTime_ok now r3 h4) (cj rfl (cj (nf h3) (cj (nf h3) (cj (nf h5) (cj (nf h5) (cj (nf h5) (cj (nf h5) (cj (od h6) (cj (nf h5) (cj (nf h5) (cj (nf h5) (cj (nf h5) (cj1 h7)))))))))))))))))))))) (fun h7 =>
          Pn.bind (fun r4 h8 =>
           Pn.bind (fun r5 h9 =>
            Pn.some (Fn.of [.call [] (E46 r1) [], .draw [], .call [] (E4 r2) [], .bit false, .bit false, .call [] (E4 r3) [], .bit false, .bit false, .bit false, .bit false, .bit false, .bit false, .bit false, .bit false, .bit false, .bit false, .bit false, .draw [], .draw [15], .call [] (E38 r4) [], .call [] (E38 r5) []] (p := [Fn Try.prog 98 [(false, E46 r_)] (E46 r1) [],
             (true || ((E46 r1).nv && nvL [])) = true,
             Fn Try.prog 123 [(false, E46 r_)] (E4 r2) [],
             (true || ((E4 r2).nv && nvL [])) = true,
             (!r2) = false,
             (!r2) = false,
             Fn Try.prog 65 [(false, E3 now)] (E4 r3) [],
             (true || ((E4 r3).nv && nvL [])) = true,
             (!r2) = false,
             (!r2) = false,
             (!r3) = false,
             (!r3) = false,
             (!r3) = false,
             (!r3) = false,
             (r_.Span : Int) ≠ 0,
             (!r3) = false,
             (!r3) = false,
             (!r3) = false,
             (!r3) = false,
             (decide ((i64 (Int.tdiv now r_.Span)) ≤ r_.Head)) = false,
             (r_.Span : Int) ≠ 0,
             (r_.Span : Int) ≠ 0,
             Fn Try.prog 138 [(false, E38 r_.Counts), (false, E3 (i64 ((i64 (Int.tdiv now r_.Span)) - r_.Head)))] (E38 r4) [],
             (true || ((E38 r4).nv && nvL [])) = true,
             Fn Try.prog 138 [(false, E38 r_.Sums), (false, E3 (i64 ((i64 (Int.tdiv now r_.Span)) - r_.Head)))] (E38 r5) [],
             (true || ((E38 r5).nv && nvL [])) = true]) (by kernel_rfl) (cj (impl_Ring_copied_ok r_ r1 h1) (cj rfl (cj (impl_RingOk_ok r_ r2 h2) (cj rfl (cj (nf h3) (cj (nf h3) (cj (impl_isTime_ok now r3 h4) (cj rfl (cj (nf h3) (cj (nf h3) (cj (nf h5) (cj (nf h5) (cj (nf h5) (cj (nf h5) (cj (od h6) (cj (nf h5) (cj (nf h5) (cj (nf h5) (cj (nf h5) (cj h7 (cj (od h6) (cj (od h6) (cj (impl_shifted_ok r_.Counts (i64 ((i64 (Int.tdiv now r_.Span)) - r_.Head)) r4 h8) (cj rfl (cj (impl_shifted_ok r_.Sums (i64 ((i64 (Int.tdiv now r_.Span)) - r_.Head)) r5 h9) (cj1 rfl))))))))))))))))))))))))))))))) (fun h6 =>
         Pn.none)) (fun h5 =>
        Pn.some (Fn.of [.call [] (E46 r1) [], .draw [], .call [] (E4 r2) [], .bit false, .bit false, .call [] (E4 r3) [], .bit false, .bit false, .bit true, .bit true, .bit true, .bit true, .bit true, .bit true, .bit true, .bit true, .bit true] (p := [Fn Try.prog 98 [(false, E46 r_)] (E46 r1) [],
         (true || ((E46 r1).nv && nvL [])) = true,
         Fn Try.prog 123 [(false, E46 r_)] (E4 r2) [],
         (true || ((E4 r2).nv && nvL [])) = true,
         (!r2) = false,
         (!r2) = false,
         Fn Try.prog 65 [(false, E3 now)] (E4 r3) [],
         (true || ((E4 r3).nv && nvL [])) = true,
         (!r2) = false,
         (!r2) = false,
         (!r3) = true,
         (!r3) = true,
         (!r3) = true,
         (!r3) = true,
         (!r3) = true,
         (!r3) = true,
         (!r3) = true,
         (!r3) = true,
         true = true]) (by kernel_rfl) (cj (impl_Ring_copied_ok r_ r1 h1) (cj rfl (cj (impl_RingOk_ok r_ r2 h2) (cj rfl (cj (nf h3) (cj (nf h3) (cj (impl_isTime_ok now r3 h4) (cj rfl (cj (nf h3) (cj (nf h3) (cj (nt h5) (cj (nt h5) (cj (nt h5) (cj (nt h5) (cj (nt h5) (cj (nt h5) (cj (nt h5) (cj (nt h5) (cj1 rfl))))))))))))))))))))))) (fun h3 =>
      Pn.some (Fn.of [.call [] (E46 r1) [], .draw [], .call [] (E4 r2) [], .bit true, .bit true, .bit true, .bit true, .bit true, .bit true, .bit true, .bit true, .bit true, .bit true, .bit true, .bit true, .bit true] (p := [Fn Try.prog 98 [(false, E46 r_)] (E46 r1) [],
       (true || ((E46 r1).nv && nvL [])) = true,
       Fn Try.prog 123 [(false, E46 r_)] (E4 r2) [],
       (true || ((E4 r2).nv && nvL [])) = true,
       (!r2) = true,
       (!r2) = true,
       (!r2) = true,
       (!r2) = true,
       true = true,
       true = true,
       true = true,
       true = true,
       true = true,
       true = true,
       true = true,
       true = true,
       true = true]) (by kernel_rfl) (cj (impl_Ring_copied_ok r_ r1 h1) (cj rfl (cj (impl_RingOk_ok r_ r2 h2) (cj rfl (cj (nt h3) (cj (nt h3) (cj (nt h3) (cj (nt h3) (cj rfl (cj rfl (cj rfl (cj rfl (cj rfl (cj rfl (cj rfl (cj rfl (cj1 rfl)))))))))))))))))))))
def impl_AcctAt (a : Acct) (now : Int) : Option (Acct) :=
 (impl_AcctSwept a now).bind fun r1 =>
 (impl_AcctOk a).bind fun r2 =>
 if r2 = true then
  (impl_isTime now).bind fun r3 =>
  if r3 = true then
   (impl_RingRoll a.Ring now).bind fun r4 =>
   some (Acct.mk r1.Id r1.Limit r1.Posted r1.Most r1.MostSum r1.Holds r4 r1.Slots)
  else
   some r1
 else
  some r1
theorem impl_AcctAt_ok (a : Acct) (now : Int) : Pn (fun y => Fn Try.prog 34 [(false, E49 a), (false, E3 now)] (E49 y) []) (impl_AcctAt a now) := by
  unfold impl_AcctAt
  exact
   Pn.bind (fun r1 h1 =>
    Pn.bind (fun r2 h2 =>
     Pn.ite (fun h3 =>
      Pn.bind (fun r3 h4 =>
       Pn.ite (fun h5 =>
        Pn.bind (fun r4 h6 =>
         Pn.some (Fn.of [.call [] (E49 r1) [], .call [] (E4 r2) [], .bit true, .bit true, .call [] (E4 r3) [], .bit true, .bit true, .call [] (E46 r4) []] (p := [Fn Try.prog 19 [(false, E49 a), (false, E3 now)] (E49 r1) [],
          (true || ((E49 r1).nv && nvL [])) = true,
          Fn Try.prog 64 [(false, E49 a)] (E4 r2) [],
          (true || ((E4 r2).nv && nvL [])) = true,
          r2 = true,
          r2 = true,
          Fn Try.prog 65 [(false, E3 now)] (E4 r3) [],
          (true || ((E4 r3).nv && nvL [])) = true,
          r2 = true,
          r3 = true,
          Fn Try.prog 84 [(false, E46 a.Ring), (false, E3 now)] (E46 r4) [],
          (true || ((E46 r4).nv && nvL [])) = true]) (by kernel_rfl) (cj (impl_AcctSwept_ok a now r1 h1) (cj rfl (cj (impl_AcctOk_ok a r2 h2) (cj rfl (cj h3 (cj h3 (cj (impl_isTime_ok now r3 h4) (cj rfl (cj h3 (cj h5 (cj (impl_RingRoll_ok a.Ring now r4 h6) (cj1 rfl))))))))))))))) (fun h5 =>
        Pn.some (Fn.of [.call [] (E49 r1) [], .call [] (E4 r2) [], .bit true, .bit true, .call [] (E4 r3) [], .bit true, .bit false] (p := [Fn Try.prog 19 [(false, E49 a), (false, E3 now)] (E49 r1) [],
         (true || ((E49 r1).nv && nvL [])) = true,
         Fn Try.prog 64 [(false, E49 a)] (E4 r2) [],
         (true || ((E4 r2).nv && nvL [])) = true,
         r2 = true,
         r2 = true,
         Fn Try.prog 65 [(false, E3 now)] (E4 r3) [],
         (true || ((E4 r3).nv && nvL [])) = true,
         r2 = true,
         r3 = false]) (by kernel_rfl) (cj (impl_AcctSwept_ok a now r1 h1) (cj rfl (cj (impl_AcctOk_ok a r2 h2) (cj rfl (cj h3 (cj h3 (cj (impl_isTime_ok now r3 h4) (cj rfl (cj h3 (cj1 h5)))))))))))))) (fun h3 =>
      Pn.some (Fn.of [.call [] (E49 r1) [], .call [] (E4 r2) [], .bit false, .bit false, .bit false, .bit false] (p := [Fn Try.prog 19 [(false, E49 a), (false, E3 now)] (E49 r1) [],
       (true || ((E49 r1).nv && nvL [])) = true,
       Fn Try.prog 64 [(false, E49 a)] (E4 r2) [],
       (true || ((E4 r2).nv && nvL [])) = true,
       r2 = false,
       r2 = false,
       r2 = false,
       false = false]) (by kernel_rfl) (cj (impl_AcctSwept_ok a now r1 h1) (cj rfl (cj (impl_AcctOk_ok a r2 h2) (cj rfl (cj h3 (cj h3 (cj h3 (cj1 rfl))))))))))))
def laws_FnExactAcctAt (o : Acct) (o_ : Int) : Option (Bool) :=
 (laws_szAcct o 1048576).bind fun r1 =>
 if (decide (r1 < 0)) = true then
  some true
 else
  (laws_toAcct o).bind fun r2 =>
  (spec_AcctAt r2 o_).bind fun r3 =>
  (laws_toAcct o).bind fun r4 =>
  (impl_AcctAt r4 o_).bind fun r5 =>
  (laws_eqAcct r5 r3).bind fun r6 =>
  if r6 = true then
   (laws_toAcct o).bind fun r7 =>
   (laws_eqAcct r4 r7).bind fun r8 =>
   if r8 = true then
    (laws_markAcct r4 1).bind fun r9 =>
    if (decide (r9.1 < 0)) = true then
     some false
    else
     (laws_eqAcct r5 r3).bind fun r10 =>
     if r10 = true then
      (laws_markAcct r5 1).bind fun r11 =>
      (laws_heldAcct (Acct.mk r5.Id r5.Limit r5.Posted r5.Most r5.MostSum r11.2.1 (Ring.mk r5.Ring.Span r5.Ring.Head r11.2.2.1 r11.2.2.2.1) r11.2.2.2.2) 1).bind fun r12 =>
      if (decide (r12 < 0)) = true then
       some false
      else
       if (r12 != r11.1) = true then
        some false
       else
        (laws_toAcct o).bind fun r13 =>
        (impl_AcctAt r13 o_).bind fun r14 =>
        (laws_eqAcct r14 r3).bind fun r15 =>
        if r15 = true then
         (laws_heldAcct (Acct.mk r5.Id r5.Limit r5.Posted r5.Most r5.MostSum r11.2.1 (Ring.mk r5.Ring.Span r5.Ring.Head r11.2.2.1 r11.2.2.2.1) r11.2.2.2.2) 1).bind fun r16 =>
         if (decide (r16 < 0)) = true then
          some false
         else
          if (r16 != r11.1) = true then
           some false
          else
           some true
        else
         some false
     else
      some false
   else
    some false
  else
   some false
theorem laws_FnExactAcctAt_ok (o : Acct) (o_ : Int) : Pn (fun y => Fn Try.prog 7 [(false, E43 o), (false, E3 o_)] (E4 y) []) (laws_FnExactAcctAt o o_) := by
  unfold laws_FnExactAcctAt
  exact
   Pn.bind (fun r1 h1 =>
    Pn.ite (fun h2 =>
     Pn.some (Fn.of [.call [] (E3 r1) [], .bit true] (p := [Fn Try.prog 16 [(false, E43 o), (false, E3 1048576)] (E3 r1) [],
      (true || ((E3 r1).nv && nvL [])) = true,
      (decide (r1 < 0)) = true]) (by kernel_rfl) (cj (laws_szAcct_ok o 1048576 r1 h1) (cj rfl (cj1 h2))))) (fun h2 =>
     Pn.bind (fun r2 h3 =>
      Pn.bind (fun r3 h4 =>
       Pn.bind (fun r4 h5 =>
        Pn.bind (fun r5 h6 =>
         Pn.bind (fun r6 h7 =>
          Pn.ite (fun h8 =>
           Pn.bind (fun r7 h9 =>
            Pn.bind (fun r8 h10 =>
             Pn.ite (fun h11 =>
              Pn.bind (fun r9 h12 =>
               Pn.ite (fun h13 =>
                Pn.some (Fn.of [.call [] (E3 r1) [], .bit false, .call [] (E49 r2) [], .call [] (E49 r3) [], .call [] (E49 r4) [], .call [] (E49 r5) [], .call [] (E4 r6) [], .bit false, .draw [], .call [] (E49 r7) [], .call [] (E4 r8) [], .bit false, .call [true, false] (E3 r9.1) [V.sl true 125 (List.map E125 r9.2.1), V.sl true 3 (List.map E3 r9.2.2.1), V.sl true 3 (List.map E3 r9.2.2.2.1), V.sl true 143 (List.map E143 r9.2.2.2.2)], .bit true, .bit true, .bit true, .bit true, .bit true, .bit true] (p := [Fn Try.prog 16 [(false, E43 o), (false, E3 1048576)] (E3 r1) [],
                 (true || ((E3 r1).nv && nvL [])) = true,
                 (decide (r1 < 0)) = false,
                 Fn Try.prog 18 [(false, E43 o)] (E49 r2) [],
                 (true || ((E49 r2).nv && nvL [])) = true,
                 Fn Try.prog 33 [(false, E49 r2), (false, E3 o_)] (E49 r3) [],
                 (false || ((E49 r3).nv && nvL [])) = true,
                 Fn Try.prog 18 [(false, E43 o)] (E49 r4) [],
                 (true || ((E49 r4).nv && nvL [])) = true,
                 Fn Try.prog 34 [(false, E49 r4), (false, E3 o_)] (E49 r5) [],
                 (false || ((E49 r5).nv && nvL [])) = true,
                 Fn Try.prog 20 [(false, E49 r5), (false, E49 r3)] (E4 r6) [],
                 (false || ((E4 r6).nv && nvL [])) = true,
                 (!r6) = false,
                 Fn Try.prog 18 [(false, E43 o)] (E49 r7) [],
                 (true || ((E49 r7).nv && nvL [])) = true,
                 Fn Try.prog 20 [(false, E49 r4), (false, E49 r7)] (E4 r8) [],
                 (false || ((E4 r8).nv && nvL [])) = true,
                 (!r8) = false,
                 Fn Try.prog 21 [(true, E49 r4), (false, E3 1)] (E3 r9.1) [V.sl true 125 (List.map E125 r9.2.1), V.sl true 3 (List.map E3 r9.2.2.1), V.sl true 3 (List.map E3 r9.2.2.2.1), V.sl true 143 (List.map E143 r9.2.2.2.2)],
                 (true || ((E3 r9.1).nv && nvL [V.sl true 125 (List.map E125 r9.2.1), V.sl true 3 (List.map E3 r9.2.2.1), V.sl true 3 (List.map E3 r9.2.2.2.1), V.sl true 143 (List.map E143 r9.2.2.2.2)])) = true,
                 (decide (r9.1 < 0)) = true,
                 (decide (r9.1 < 0)) = true,
                 (decide (r9.1 < 0)) = true,
                 (decide (r9.1 < 0)) = true,
                 (decide (r9.1 < 0)) = true,
                 true = true]) (by kernel_rfl) (cj (laws_szAcct_ok o 1048576 r1 h1) (cj rfl (cj h2 (cj (laws_toAcct_ok o r2 h3) (cj rfl (cj (spec_AcctAt_ok r2 o_ r3 h4) (cj (by simp [V.nv, nvL, nvL_all, nv_E3, nv_E5, nv_E9, nv_E22, nv_E38, nv_E45, nv_E46, nv_E47, nv_E49, nv_E125, nv_E143]) (cj (laws_toAcct_ok o r4 h5) (cj rfl (cj (impl_AcctAt_ok r4 o_ r5 h6) (cj (by simp [V.nv, nvL, nvL_all, nv_E3, nv_E5, nv_E9, nv_E22, nv_E38, nv_E45, nv_E46, nv_E47, nv_E49, nv_E125, nv_E143]) (cj (laws_eqAcct_ok r5 r3 r6 h7) (cj (by simp [V.nv, nvL, nvL_all, nv_E4]) (cj (nf h8) (cj (laws_toAcct_ok o r7 h9) (cj rfl (cj (laws_eqAcct_ok r4 r7 r8 h10) (cj (by simp [V.nv, nvL, nvL_all, nv_E4]) (cj (nf h11) (cj (laws_markAcct_ok r4 1 r9 h12) (cj rfl (cj h13 (cj h13 (cj h13 (cj h13 (cj h13 (cj1 rfl))))))))))))))))))))))))))))) (fun h13 =>
                Pn.bind (fun r10 h14 =>
                 Pn.ite (fun h15 =>
                  Pn.bind (fun r11 h16 =>
                   Pn.bind (fun r12 h17 =>
                    Pn.ite (fun h18 =>
                     Pn.some (Fn.of [.call [] (E3 r1) [], .bit false, .call [] (E49 r2) [], .call [] (E49 r3) [], .call [] (E49 r4) [], .call [] (E49 r5) [], .call [] (E4 r6) [], .bit false, .draw [], .call [] (E49 r7) [], .call [] (E4 r8) [], .bit false, .call [true, false] (E3 r9.1) [V.sl true 125 (List.map E125 r9.2.1), V.sl true 3 (List.map E3 r9.2.2.1), V.sl true 3 (List.map E3 r9.2.2.2.1), V.sl true 143 (List.map E143 r9.2.2.2.2)], .bit false, .bit false, .bit false, .call [] (E4 r10) [], .bit false, .bit false, .bit false, .call [true, false] (E3 r11.1) [V.sl true 125 (List.map E125 r11.2.1), V.sl true 3 (List.map E3 r11.2.2.1), V.sl true 3 (List.map E3 r11.2.2.2.1), V.sl true 143 (List.map E143 r11.2.2.2.2)], .call [] (E3 r12) [], .bit true] (p := [Fn Try.prog 16 [(false, E43 o), (false, E3 1048576)] (E3 r1) [],
                      (true || ((E3 r1).nv && nvL [])) = true,
                      (decide (r1 < 0)) = false,
                      Fn Try.prog 18 [(false, E43 o)] (E49 r2) [],
                      (true || ((E49 r2).nv && nvL [])) = true,
                      Fn Try.prog 33 [(false, E49 r2), (false, E3 o_)] (E49 r3) [],
                      (false || ((E49 r3).nv && nvL [])) = true,
                      Fn Try.prog 18 [(false, E43 o)] (E49 r4) [],
                      (true || ((E49 r4).nv && nvL [])) = true,
                      Fn Try.prog 34 [(false, E49 r4), (false, E3 o_)] (E49 r5) [],
                      (false || ((E49 r5).nv && nvL [])) = true,
                      Fn Try.prog 20 [(false, E49 r5), (false, E49 r3)] (E4 r6) [],
                      (false || ((E4 r6).nv && nvL [])) = true,
                      (!r6) = false,
                      Fn Try.prog 18 [(false, E43 o)] (E49 r7) [],
                      (true || ((E49 r7).nv && nvL [])) = true,
                      Fn Try.prog 20 [(false, E49 r4), (false, E49 r7)] (E4 r8) [],
                      (false || ((E4 r8).nv && nvL [])) = true,
                      (!r8) = false,
                      Fn Try.prog 21 [(true, E49 r4), (false, E3 1)] (E3 r9.1) [V.sl true 125 (List.map E125 r9.2.1), V.sl true 3 (List.map E3 r9.2.2.1), V.sl true 3 (List.map E3 r9.2.2.2.1), V.sl true 143 (List.map E143 r9.2.2.2.2)],
                      (true || ((E3 r9.1).nv && nvL [V.sl true 125 (List.map E125 r9.2.1), V.sl true 3 (List.map E3 r9.2.2.1), V.sl true 3 (List.map E3 r9.2.2.2.1), V.sl true 143 (List.map E143 r9.2.2.2.2)])) = true,
                      (decide (r9.1 < 0)) = false,
                      (decide (r9.1 < 0)) = false,
                      (decide (r9.1 < 0)) = false,
                      Fn Try.prog 20 [(false, E49 r5), (false, E49 r3)] (E4 r10) [],
                      (false || ((E4 r10).nv && nvL [])) = true,
                      (decide (r9.1 < 0)) = false,
                      (decide (r9.1 < 0)) = false,
                      (!r10) = false,
                      Fn Try.prog 21 [(true, E49 r5), (false, E3 1)] (E3 r11.1) [V.sl true 125 (List.map E125 r11.2.1), V.sl true 3 (List.map E3 r11.2.2.1), V.sl true 3 (List.map E3 r11.2.2.2.1), V.sl true 143 (List.map E143 r11.2.2.2.2)],
                      (true || ((E3 r11.1).nv && nvL [V.sl true 125 (List.map E125 r11.2.1), V.sl true 3 (List.map E3 r11.2.2.1), V.sl true 3 (List.map E3 r11.2.2.2.1), V.sl true 143 (List.map E143 r11.2.2.2.2)])) = true,
                      Fn Try.prog 22 [(false, E49 (Acct.mk r5.Id r5.Limit r5.Posted r5.Most r5.MostSum r11.2.1 (Ring.mk r5.Ring.Span r5.Ring.Head r11.2.2.1 r11.2.2.2.1) r11.2.2.2.2)), (false, E3 1)] (E3 r12) [],
                      (false || ((E3 r12).nv && nvL [])) = true,
                      (decide (r12 < 0)) = true]) (by kernel_rfl) (cj (laws_szAcct_ok o 1048576 r1 h1) (cj rfl (cj h2 (cj (laws_toAcct_ok o r2 h3) (cj rfl (cj (spec_AcctAt_ok r2 o_ r3 h4) (cj (by simp [V.nv, nvL, nvL_all, nv_E3, nv_E5, nv_E9, nv_E22, nv_E38, nv_E45, nv_E46, nv_E47, nv_E49, nv_E125, nv_E143]) (cj (laws_toAcct_ok o r4 h5) (cj rfl (cj (impl_AcctAt_ok r4 o_ r5 h6) (cj (by simp [V.nv, nvL, nvL_all, nv_E3, nv_E5, nv_E9, nv_E22, nv_E38, nv_E45, nv_E46, nv_E47, nv_E49, nv_E125, nv_E143]) (cj (laws_eqAcct_ok r5 r3 r6 h7) (cj (by simp [V.nv, nvL, nvL_all, nv_E4]) (cj (nf h8) (cj (laws_toAcct_ok o r7 h9) (cj rfl (cj (laws_eqAcct_ok r4 r7 r8 h10) (cj (by simp [V.nv, nvL, nvL_all, nv_E4]) (cj (nf h11) (cj (laws_markAcct_ok r4 1 r9 h12) (cj rfl (cj h13 (cj h13 (cj h13 (cj (laws_eqAcct_ok r5 r3 r10 h14) (cj (by simp [V.nv, nvL, nvL_all, nv_E4]) (cj h13 (cj h13 (cj (nf h15) (cj (laws_markAcct_ok r5 1 r11 h16) (cj rfl (cj (laws_heldAcct_ok (Acct.mk r5.Id r5.Limit r5.Posted r5.Most r5.MostSum r11.2.1 (Ring.mk r5.Ring.Span r5.Ring.Head r11.2.2.1 r11.2.2.2.1) r11.2.2.2.2) 1 r12 h17) (cj (by simp [V.nv, nvL, nvL_all, nv_E3]) (cj1 h18)))))))))))))))))))))))))))))))))))) (fun h18 =>
                     Pn.ite (fun h19 =>
                      Pn.some (Fn.of [.call [] (E3 r1) [], .bit false, .call [] (E49 r2) [], .call [] (E49 r3) [], .call [] (E49 r4) [], .call [] (E49 r5) [], .call [] (E4 r6) [], .bit false, .draw [], .call [] (E49 r7) [], .call [] (E4 r8) [], .bit false, .call [true, false] (E3 r9.1) [V.sl true 125 (List.map E125 r9.2.1), V.sl true 3 (List.map E3 r9.2.2.1), V.sl true 3 (List.map E3 r9.2.2.2.1), V.sl true 143 (List.map E143 r9.2.2.2.2)], .bit false, .bit false, .bit false, .call [] (E4 r10) [], .bit false, .bit false, .bit false, .call [true, false] (E3 r11.1) [V.sl true 125 (List.map E125 r11.2.1), V.sl true 3 (List.map E3 r11.2.2.1), V.sl true 3 (List.map E3 r11.2.2.2.1), V.sl true 143 (List.map E143 r11.2.2.2.2)], .call [] (E3 r12) [], .bit false, .bit true] (p := [Fn Try.prog 16 [(false, E43 o), (false, E3 1048576)] (E3 r1) [],
                       (true || ((E3 r1).nv && nvL [])) = true,
                       (decide (r1 < 0)) = false,
                       Fn Try.prog 18 [(false, E43 o)] (E49 r2) [],
                       (true || ((E49 r2).nv && nvL [])) = true,
                       Fn Try.prog 33 [(false, E49 r2), (false, E3 o_)] (E49 r3) [],
                       (false || ((E49 r3).nv && nvL [])) = true,
                       Fn Try.prog 18 [(false, E43 o)] (E49 r4) [],
                       (true || ((E49 r4).nv && nvL [])) = true,
                       Fn Try.prog 34 [(false, E49 r4), (false, E3 o_)] (E49 r5) [],
                       (false || ((E49 r5).nv && nvL [])) = true,
                       Fn Try.prog 20 [(false, E49 r5), (false, E49 r3)] (E4 r6) [],
                       (false || ((E4 r6).nv && nvL [])) = true,
                       (!r6) = false,
                       Fn Try.prog 18 [(false, E43 o)] (E49 r7) [],
                       (true || ((E49 r7).nv && nvL [])) = true,
                       Fn Try.prog 20 [(false, E49 r4), (false, E49 r7)] (E4 r8) [],
                       (false || ((E4 r8).nv && nvL [])) = true,
                       (!r8) = false,
                       Fn Try.prog 21 [(true, E49 r4), (false, E3 1)] (E3 r9.1) [V.sl true 125 (List.map E125 r9.2.1), V.sl true 3 (List.map E3 r9.2.2.1), V.sl true 3 (List.map E3 r9.2.2.2.1), V.sl true 143 (List.map E143 r9.2.2.2.2)],
                       (true || ((E3 r9.1).nv && nvL [V.sl true 125 (List.map E125 r9.2.1), V.sl true 3 (List.map E3 r9.2.2.1), V.sl true 3 (List.map E3 r9.2.2.2.1), V.sl true 143 (List.map E143 r9.2.2.2.2)])) = true,
                       (decide (r9.1 < 0)) = false,
                       (decide (r9.1 < 0)) = false,
                       (decide (r9.1 < 0)) = false,
                       Fn Try.prog 20 [(false, E49 r5), (false, E49 r3)] (E4 r10) [],
                       (false || ((E4 r10).nv && nvL [])) = true,
                       (decide (r9.1 < 0)) = false,
                       (decide (r9.1 < 0)) = false,
                       (!r10) = false,
                       Fn Try.prog 21 [(true, E49 r5), (false, E3 1)] (E3 r11.1) [V.sl true 125 (List.map E125 r11.2.1), V.sl true 3 (List.map E3 r11.2.2.1), V.sl true 3 (List.map E3 r11.2.2.2.1), V.sl true 143 (List.map E143 r11.2.2.2.2)],
                       (true || ((E3 r11.1).nv && nvL [V.sl true 125 (List.map E125 r11.2.1), V.sl true 3 (List.map E3 r11.2.2.1), V.sl true 3 (List.map E3 r11.2.2.2.1), V.sl true 143 (List.map E143 r11.2.2.2.2)])) = true,
                       Fn Try.prog 22 [(false, E49 (Acct.mk r5.Id r5.Limit r5.Posted r5.Most r5.MostSum r11.2.1 (Ring.mk r5.Ring.Span r5.Ring.Head r11.2.2.1 r11.2.2.2.1) r11.2.2.2.2)), (false, E3 1)] (E3 r12) [],
                       (false || ((E3 r12).nv && nvL [])) = true,
                       (decide (r12 < 0)) = false,
                       (r12 != r11.1) = true]) (by kernel_rfl) (cj (laws_szAcct_ok o 1048576 r1 h1) (cj rfl (cj h2 (cj (laws_toAcct_ok o r2 h3) (cj rfl (cj (spec_AcctAt_ok r2 o_ r3 h4) (cj (by simp [V.nv, nvL, nvL_all, nv_E3, nv_E5, nv_E9, nv_E22, nv_E38, nv_E45, nv_E46, nv_E47, nv_E49, nv_E125, nv_E143]) (cj (laws_toAcct_ok o r4 h5) (cj rfl (cj (impl_AcctAt_ok r4 o_ r5 h6) (cj (by simp [V.nv, nvL, nvL_all, nv_E3, nv_E5, nv_E9, nv_E22, nv_E38, nv_E45, nv_E46, nv_E47, nv_E49, nv_E125, nv_E143]) (cj (laws_eqAcct_ok r5 r3 r6 h7) (cj (by simp [V.nv, nvL, nvL_all, nv_E4]) (cj (nf h8) (cj (laws_toAcct_ok o r7 h9) (cj rfl (cj (laws_eqAcct_ok r4 r7 r8 h10) (cj (by simp [V.nv, nvL, nvL_all, nv_E4]) (cj (nf h11) (cj (laws_markAcct_ok r4 1 r9 h12) (cj rfl (cj h13 (cj h13 (cj h13 (cj (laws_eqAcct_ok r5 r3 r10 h14) (cj (by simp [V.nv, nvL, nvL_all, nv_E4]) (cj h13 (cj h13 (cj (nf h15) (cj (laws_markAcct_ok r5 1 r11 h16) (cj rfl (cj (laws_heldAcct_ok (Acct.mk r5.Id r5.Limit r5.Posted r5.Most r5.MostSum r11.2.1 (Ring.mk r5.Ring.Span r5.Ring.Head r11.2.2.1 r11.2.2.2.1) r11.2.2.2.2) 1 r12 h17) (cj (by simp [V.nv, nvL, nvL_all, nv_E3]) (cj h18 (cj1 h19))))))))))))))))))))))))))))))))))))) (fun h19 =>
                      Pn.bind (fun r13 h20 =>
                       Pn.bind (fun r14 h21 =>
                        Pn.bind (fun r15 h22 =>
                         Pn.ite (fun h23 =>
                          Pn.bind (fun r16 h24 =>
                           Pn.ite (fun h25 =>
                            Pn.some (Fn.of [.call [] (E3 r1) [], .bit false, .call [] (E49 r2) [], .call [] (E49 r3) [], .call [] (E49 r4) [], .call [] (E49 r5) [], .call [] (E4 r6) [], .bit false, .draw [], .call [] (E49 r7) [], .call [] (E4 r8) [], .bit false, .call [true, false] (E3 r9.1) [V.sl true 125 (List.map E125 r9.2.1), V.sl true 3 (List.map E3 r9.2.2.1), V.sl true 3 (List.map E3 r9.2.2.2.1), V.sl true 143 (List.map E143 r9.2.2.2.2)], .bit false, .bit false, .bit false, .call [] (E4 r10) [], .bit false, .bit false, .bit false, .call [true, false] (E3 r11.1) [V.sl true 125 (List.map E125 r11.2.1), V.sl true 3 (List.map E3 r11.2.2.1), V.sl true 3 (List.map E3 r11.2.2.2.1), V.sl true 143 (List.map E143 r11.2.2.2.2)], .call [] (E3 r12) [], .bit false, .bit false, .call [] (E49 r13) [], .call [] (E49 r14) [], .call [] (E4 r15) [], .bit false, .call [] (E3 r16) [], .bit true] (p := [Fn Try.prog 16 [(false, E43 o), (false, E3 1048576)] (E3 r1) [],
                             (true || ((E3 r1).nv && nvL [])) = true,
                             (decide (r1 < 0)) = false,
                             Fn Try.prog 18 [(false, E43 o)] (E49 r2) [],
                             (true || ((E49 r2).nv && nvL [])) = true,
                             Fn Try.prog 33 [(false, E49 r2), (false, E3 o_)] (E49 r3) [],
                             (false || ((E49 r3).nv && nvL [])) = true,
                             Fn Try.prog 18 [(false, E43 o)] (E49 r4) [],
                             (true || ((E49 r4).nv && nvL [])) = true,
                             Fn Try.prog 34 [(false, E49 r4), (false, E3 o_)] (E49 r5) [],
                             (false || ((E49 r5).nv && nvL [])) = true,
                             Fn Try.prog 20 [(false, E49 r5), (false, E49 r3)] (E4 r6) [],
                             (false || ((E4 r6).nv && nvL [])) = true,
                             (!r6) = false,
                             Fn Try.prog 18 [(false, E43 o)] (E49 r7) [],
                             (true || ((E49 r7).nv && nvL [])) = true,
                             Fn Try.prog 20 [(false, E49 r4), (false, E49 r7)] (E4 r8) [],
                             (false || ((E4 r8).nv && nvL [])) = true,
                             (!r8) = false,
                             Fn Try.prog 21 [(true, E49 r4), (false, E3 1)] (E3 r9.1) [V.sl true 125 (List.map E125 r9.2.1), V.sl true 3 (List.map E3 r9.2.2.1), V.sl true 3 (List.map E3 r9.2.2.2.1), V.sl true 143 (List.map E143 r9.2.2.2.2)],
                             (true || ((E3 r9.1).nv && nvL [V.sl true 125 (List.map E125 r9.2.1), V.sl true 3 (List.map E3 r9.2.2.1), V.sl true 3 (List.map E3 r9.2.2.2.1), V.sl true 143 (List.map E143 r9.2.2.2.2)])) = true,
                             (decide (r9.1 < 0)) = false,
                             (decide (r9.1 < 0)) = false,
                             (decide (r9.1 < 0)) = false,
                             Fn Try.prog 20 [(false, E49 r5), (false, E49 r3)] (E4 r10) [],
                             (false || ((E4 r10).nv && nvL [])) = true,
                             (decide (r9.1 < 0)) = false,
                             (decide (r9.1 < 0)) = false,
                             (!r10) = false,
                             Fn Try.prog 21 [(true, E49 r5), (false, E3 1)] (E3 r11.1) [V.sl true 125 (List.map E125 r11.2.1), V.sl true 3 (List.map E3 r11.2.2.1), V.sl true 3 (List.map E3 r11.2.2.2.1), V.sl true 143 (List.map E143 r11.2.2.2.2)],
                             (true || ((E3 r11.1).nv && nvL [V.sl true 125 (List.map E125 r11.2.1), V.sl true 3 (List.map E3 r11.2.2.1), V.sl true 3 (List.map E3 r11.2.2.2.1), V.sl true 143 (List.map E143 r11.2.2.2.2)])) = true,
                             Fn Try.prog 22 [(false, E49 (Acct.mk r5.Id r5.Limit r5.Posted r5.Most r5.MostSum r11.2.1 (Ring.mk r5.Ring.Span r5.Ring.Head r11.2.2.1 r11.2.2.2.1) r11.2.2.2.2)), (false, E3 1)] (E3 r12) [],
                             (false || ((E3 r12).nv && nvL [])) = true,
                             (decide (r12 < 0)) = false,
                             (r12 != r11.1) = false,
                             Fn Try.prog 18 [(false, E43 o)] (E49 r13) [],
                             (true || ((E49 r13).nv && nvL [])) = true,
                             Fn Try.prog 34 [(false, E49 r13), (false, E3 o_)] (E49 r14) [],
                             (false || ((E49 r14).nv && nvL [])) = true,
                             Fn Try.prog 20 [(false, E49 r14), (false, E49 r3)] (E4 r15) [],
                             (false || ((E4 r15).nv && nvL [])) = true,
                             (!r15) = false,
                             Fn Try.prog 22 [(false, E49 (Acct.mk r5.Id r5.Limit r5.Posted r5.Most r5.MostSum r11.2.1 (Ring.mk r5.Ring.Span r5.Ring.Head r11.2.2.1 r11.2.2.2.1) r11.2.2.2.2)), (false, E3 1)] (E3 r16) [],
                             (false || ((E3 r16).nv && nvL [])) = true,
                             (decide (r16 < 0)) = true]) (by kernel_rfl) (cj (laws_szAcct_ok o 1048576 r1 h1) (cj rfl (cj h2 (cj (laws_toAcct_ok o r2 h3) (cj rfl (cj (spec_AcctAt_ok r2 o_ r3 h4) (cj (by simp [V.nv, nvL, nvL_all, nv_E3, nv_E5, nv_E9, nv_E22, nv_E38, nv_E45, nv_E46, nv_E47, nv_E49, nv_E125, nv_E143]) (cj (laws_toAcct_ok o r4 h5) (cj rfl (cj (impl_AcctAt_ok r4 o_ r5 h6) (cj (by simp [V.nv, nvL, nvL_all, nv_E3, nv_E5, nv_E9, nv_E22, nv_E38, nv_E45, nv_E46, nv_E47, nv_E49, nv_E125, nv_E143]) (cj (laws_eqAcct_ok r5 r3 r6 h7) (cj (by simp [V.nv, nvL, nvL_all, nv_E4]) (cj (nf h8) (cj (laws_toAcct_ok o r7 h9) (cj rfl (cj (laws_eqAcct_ok r4 r7 r8 h10) (cj (by simp [V.nv, nvL, nvL_all, nv_E4]) (cj (nf h11) (cj (laws_markAcct_ok r4 1 r9 h12) (cj rfl (cj h13 (cj h13 (cj h13 (cj (laws_eqAcct_ok r5 r3 r10 h14) (cj (by simp [V.nv, nvL, nvL_all, nv_E4]) (cj h13 (cj h13 (cj (nf h15) (cj (laws_markAcct_ok r5 1 r11 h16) (cj rfl (cj (laws_heldAcct_ok (Acct.mk r5.Id r5.Limit r5.Posted r5.Most r5.MostSum r11.2.1 (Ring.mk r5.Ring.Span r5.Ring.Head r11.2.2.1 r11.2.2.2.1) r11.2.2.2.2) 1 r12 h17) (cj (by simp [V.nv, nvL, nvL_all, nv_E3]) (cj h18 (cj h19 (cj (laws_toAcct_ok o r13 h20) (cj rfl (cj (impl_AcctAt_ok r13 o_ r14 h21) (cj (by simp [V.nv, nvL, nvL_all, nv_E3, nv_E5, nv_E9, nv_E22, nv_E38, nv_E45, nv_E46, nv_E47, nv_E49, nv_E125, nv_E143]) (cj (laws_eqAcct_ok r14 r3 r15 h22) (cj (by simp [V.nv, nvL, nvL_all, nv_E4]) (cj (nf h23) (cj (laws_heldAcct_ok (Acct.mk r5.Id r5.Limit r5.Posted r5.Most r5.MostSum r11.2.1 (Ring.mk r5.Ring.Span r5.Ring.Head r11.2.2.1 r11.2.2.2.1) r11.2.2.2.2) 1 r16 h24) (cj (by simp [V.nv, nvL, nvL_all, nv_E3]) (cj1 h25))))))))))))))))))))))))))))))))))))))))))))))) (fun h25 =>
                            Pn.ite (fun h26 =>
                             Pn.some (Fn.of [.call [] (E3 r1) [], .bit false, .call [] (E49 r2) [], .call [] (E49 r3) [], .call [] (E49 r4) [], .call [] (E49 r5) [], .call [] (E4 r6) [], .bit false, .draw [], .call [] (E49 r7) [], .call [] (E4 r8) [], .bit false, .call [true, false] (E3 r9.1) [V.sl true 125 (List.map E125 r9.2.1), V.sl true 3 (List.map E3 r9.2.2.1), V.sl true 3 (List.map E3 r9.2.2.2.1), V.sl true 143 (List.map E143 r9.2.2.2.2)], .bit false, .bit false, .bit false, .call [] (E4 r10) [], .bit false, .bit false, .bit false, .call [true, false] (E3 r11.1) [V.sl true 125 (List.map E125 r11.2.1), V.sl true 3 (List.map E3 r11.2.2.1), V.sl true 3 (List.map E3 r11.2.2.2.1), V.sl true 143 (List.map E143 r11.2.2.2.2)], .call [] (E3 r12) [], .bit false, .bit false, .call [] (E49 r13) [], .call [] (E49 r14) [], .call [] (E4 r15) [], .bit false, .call [] (E3 r16) [], .bit false, .bit true] (p := [Fn Try.prog 16 [(false, E43 o), (false, E3 1048576)] (E3 r1) [],
                              (true || ((E3 r1).nv && nvL [])) = true,
                              (decide (r1 < 0)) = false,
                              Fn Try.prog 18 [(false, E43 o)] (E49 r2) [],
                              (true || ((E49 r2).nv && nvL [])) = true,
                              Fn Try.prog 33 [(false, E49 r2), (false, E3 o_)] (E49 r3) [],
                              (false || ((E49 r3).nv && nvL [])) = true,
                              Fn Try.prog 18 [(false, E43 o)] (E49 r4) [],
                              (true || ((E49 r4).nv && nvL [])) = true,
                              Fn Try.prog 34 [(false, E49 r4), (false, E3 o_)] (E49 r5) [],
                              (false || ((E49 r5).nv && nvL [])) = true,
                              Fn Try.prog 20 [(false, E49 r5), (false, E49 r3)] (E4 r6) [],
                              (false || ((E4 r6).nv && nvL [])) = true,
                              (!r6) = false,
                              Fn Try.prog 18 [(false, E43 o)] (E49 r7) [],
                              (true || ((E49 r7).nv && nvL [])) = true,
                              Fn Try.prog 20 [(false, E49 r4), (false, E49 r7)] (E4 r8) [],
                              (false || ((E4 r8).nv && nvL [])) = true,
                              (!r8) = false,
                              Fn Try.prog 21 [(true, E49 r4), (false, E3 1)] (E3 r9.1) [V.sl true 125 (List.map E125 r9.2.1), V.sl true 3 (List.map E3 r9.2.2.1), V.sl true 3 (List.map E3 r9.2.2.2.1), V.sl true 143 (List.map E143 r9.2.2.2.2)],
                              (true || ((E3 r9.1).nv && nvL [V.sl true 125 (List.map E125 r9.2.1), V.sl true 3 (List.map E3 r9.2.2.1), V.sl true 3 (List.map E3 r9.2.2.2.1), V.sl true 143 (List.map E143 r9.2.2.2.2)])) = true,
                              (decide (r9.1 < 0)) = false,
                              (decide (r9.1 < 0)) = false,
                              (decide (r9.1 < 0)) = false,
                              Fn Try.prog 20 [(false, E49 r5), (false, E49 r3)] (E4 r10) [],
                              (false || ((E4 r10).nv && nvL [])) = true,
                              (decide (r9.1 < 0)) = false,
                              (decide (r9.1 < 0)) = false,
                              (!r10) = false,
                              Fn Try.prog 21 [(true, E49 r5), (false, E3 1)] (E3 r11.1) [V.sl true 125 (List.map E125 r11.2.1), V.sl true 3 (List.map E3 r11.2.2.1), V.sl true 3 (List.map E3 r11.2.2.2.1), V.sl true 143 (List.map E143 r11.2.2.2.2)],
                              (true || ((E3 r11.1).nv && nvL [V.sl true 125 (List.map E125 r11.2.1), V.sl true 3 (List.map E3 r11.2.2.1), V.sl true 3 (List.map E3 r11.2.2.2.1), V.sl true 143 (List.map E143 r11.2.2.2.2)])) = true,
                              Fn Try.prog 22 [(false, E49 (Acct.mk r5.Id r5.Limit r5.Posted r5.Most r5.MostSum r11.2.1 (Ring.mk r5.Ring.Span r5.Ring.Head r11.2.2.1 r11.2.2.2.1) r11.2.2.2.2)), (false, E3 1)] (E3 r12) [],
                              (false || ((E3 r12).nv && nvL [])) = true,
                              (decide (r12 < 0)) = false,
                              (r12 != r11.1) = false,
                              Fn Try.prog 18 [(false, E43 o)] (E49 r13) [],
                              (true || ((E49 r13).nv && nvL [])) = true,
                              Fn Try.prog 34 [(false, E49 r13), (false, E3 o_)] (E49 r14) [],
                              (false || ((E49 r14).nv && nvL [])) = true,
                              Fn Try.prog 20 [(false, E49 r14), (false, E49 r3)] (E4 r15) [],
                              (false || ((E4 r15).nv && nvL [])) = true,
                              (!r15) = false,
                              Fn Try.prog 22 [(false, E49 (Acct.mk r5.Id r5.Limit r5.Posted r5.Most r5.MostSum r11.2.1 (Ring.mk r5.Ring.Span r5.Ring.Head r11.2.2.1 r11.2.2.2.1) r11.2.2.2.2)), (false, E3 1)] (E3 r16) [],
                              (false || ((E3 r16).nv && nvL [])) = true,
                              (decide (r16 < 0)) = false,
                              (r16 != r11.1) = true]) (by kernel_rfl) (cj (laws_szAcct_ok o 1048576 r1 h1) (cj rfl (cj h2 (cj (laws_toAcct_ok o r2 h3) (cj rfl (cj (spec_AcctAt_ok r2 o_ r3 h4) (cj (by simp [V.nv, nvL, nvL_all, nv_E3, nv_E5, nv_E9, nv_E22, nv_E38, nv_E45, nv_E46, nv_E47, nv_E49, nv_E125, nv_E143]) (cj (laws_toAcct_ok o r4 h5) (cj rfl (cj (impl_AcctAt_ok r4 o_ r5 h6) (cj (by simp [V.nv, nvL, nvL_all, nv_E3, nv_E5, nv_E9, nv_E22, nv_E38, nv_E45, nv_E46, nv_E47, nv_E49, nv_E125, nv_E143]) (cj (laws_eqAcct_ok r5 r3 r6 h7) (cj (by simp [V.nv, nvL, nvL_all, nv_E4]) (cj (nf h8) (cj (laws_toAcct_ok o r7 h9) (cj rfl (cj (laws_eqAcct_ok r4 r7 r8 h10) (cj (by simp [V.nv, nvL, nvL_all, nv_E4]) (cj (nf h11) (cj (laws_markAcct_ok r4 1 r9 h12) (cj rfl (cj h13 (cj h13 (cj h13 (cj (laws_eqAcct_ok r5 r3 r10 h14) (cj (by simp [V.nv, nvL, nvL_all, nv_E4]) (cj h13 (cj h13 (cj (nf h15) (cj (laws_markAcct_ok r5 1 r11 h16) (cj rfl (cj (laws_heldAcct_ok (Acct.mk r5.Id r5.Limit r5.Posted r5.Most r5.MostSum r11.2.1 (Ring.mk r5.Ring.Span r5.Ring.Head r11.2.2.1 r11.2.2.2.1) r11.2.2.2.2) 1 r12 h17) (cj (by simp [V.nv, nvL, nvL_all, nv_E3]) (cj h18 (cj h19 (cj (laws_toAcct_ok o r13 h20) (cj rfl (cj (impl_AcctAt_ok r13 o_ r14 h21) (cj (by simp [V.nv, nvL, nvL_all, nv_E3, nv_E5, nv_E9, nv_E22, nv_E38, nv_E45, nv_E46, nv_E47, nv_E49, nv_E125, nv_E143]) (cj (laws_eqAcct_ok r14 r3 r15 h22) (cj (by simp [V.nv, nvL, nvL_all, nv_E4]) (cj (nf h23) (cj (laws_heldAcct_ok (Acct.mk r5.Id r5.Limit r5.Posted r5.Most r5.MostSum r11.2.1 (Ring.mk r5.Ring.Span r5.Ring.Head r11.2.2.1 r11.2.2.2.1) r11.2.2.2.2) 1 r16 h24) (cj (by simp [V.nv, nvL, nvL_all, nv_E3]) (cj h25 (cj1 h26)))))))))))))))))))))))))))))))))))))))))))))))) (fun h26 =>
                             Pn.some (Fn.of [.call [] (E3 r1) [], .bit false, .call [] (E49 r2) [], .call [] (E49 r3) [], .call [] (E49 r4) [], .call [] (E49 r5) [], .call [] (E4 r6) [], .bit false, .draw [], .call [] (E49 r7) [], .call [] (E4 r8) [], .bit false, .call [true, false] (E3 r9.1) [V.sl true 125 (List.map E125 r9.2.1), V.sl true 3 (List.map E3 r9.2.2.1), V.sl true 3 (List.map E3 r9.2.2.2.1), V.sl true 143 (List.map E143 r9.2.2.2.2)], .bit false, .bit false, .bit false, .call [] (E4 r10) [], .bit false, .bit false, .bit false, .call [true, false] (E3 r11.1) [V.sl true 125 (List.map E125 r11.2.1), V.sl true 3 (List.map E3 r11.2.2.1), V.sl true 3 (List.map E3 r11.2.2.2.1), V.sl true 143 (List.map E143 r11.2.2.2.2)], .call [] (E3 r12) [], .bit false, .bit false, .call [] (E49 r13) [], .call [] (E49 r14) [], .call [] (E4 r15) [], .bit false, .call [] (E3 r16) [], .bit false, .bit false] (p := [Fn Try.prog 16 [(false, E43 o), (false, E3 1048576)] (E3 r1) [],
                              (true || ((E3 r1).nv && nvL [])) = true,
                              (decide (r1 < 0)) = false,
                              Fn Try.prog 18 [(false, E43 o)] (E49 r2) [],
                              (true || ((E49 r2).nv && nvL [])) = true,
                              Fn Try.prog 33 [(false, E49 r2), (false, E3 o_)] (E49 r3) [],
                              (false || ((E49 r3).nv && nvL [])) = true,
                              Fn Try.prog 18 [(false, E43 o)] (E49 r4) [],
                              (true || ((E49 r4).nv && nvL [])) = true,
                              Fn Try.prog 34 [(false, E49 r4), (false, E3 o_)] (E49 r5) [],
                              (false || ((E49 r5).nv && nvL [])) = true,
                              Fn Try.prog 20 [(false, E49 r5), (false, E49 r3)] (E4 r6) [],
                              (false || ((E4 r6).nv && nvL [])) = true,
                              (!r6) = false,
                              Fn Try.prog 18 [(false, E43 o)] (E49 r7) [],
                              (true || ((E49 r7).nv && nvL [])) = true,
                              Fn Try.prog 20 [(false, E49 r4), (false, E49 r7)] (E4 r8) [],
                              (false || ((E4 r8).nv && nvL [])) = true,
                              (!r8) = false,
                              Fn Try.prog 21 [(true, E49 r4), (false, E3 1)] (E3 r9.1) [V.sl true 125 (List.map E125 r9.2.1), V.sl true 3 (List.map E3 r9.2.2.1), V.sl true 3 (List.map E3 r9.2.2.2.1), V.sl true 143 (List.map E143 r9.2.2.2.2)],
                              (true || ((E3 r9.1).nv && nvL [V.sl true 125 (List.map E125 r9.2.1), V.sl true 3 (List.map E3 r9.2.2.1), V.sl true 3 (List.map E3 r9.2.2.2.1), V.sl true 143 (List.map E143 r9.2.2.2.2)])) = true,
                              (decide (r9.1 < 0)) = false,
                              (decide (r9.1 < 0)) = false,
                              (decide (r9.1 < 0)) = false,
                              Fn Try.prog 20 [(false, E49 r5), (false, E49 r3)] (E4 r10) [],
                              (false || ((E4 r10).nv && nvL [])) = true,
                              (decide (r9.1 < 0)) = false,
                              (decide (r9.1 < 0)) = false,
                              (!r10) = false,
                              Fn Try.prog 21 [(true, E49 r5), (false, E3 1)] (E3 r11.1) [V.sl true 125 (List.map E125 r11.2.1), V.sl true 3 (List.map E3 r11.2.2.1), V.sl true 3 (List.map E3 r11.2.2.2.1), V.sl true 143 (List.map E143 r11.2.2.2.2)],
                              (true || ((E3 r11.1).nv && nvL [V.sl true 125 (List.map E125 r11.2.1), V.sl true 3 (List.map E3 r11.2.2.1), V.sl true 3 (List.map E3 r11.2.2.2.1), V.sl true 143 (List.map E143 r11.2.2.2.2)])) = true,
                              Fn Try.prog 22 [(false, E49 (Acct.mk r5.Id r5.Limit r5.Posted r5.Most r5.MostSum r11.2.1 (Ring.mk r5.Ring.Span r5.Ring.Head r11.2.2.1 r11.2.2.2.1) r11.2.2.2.2)), (false, E3 1)] (E3 r12) [],
                              (false || ((E3 r12).nv && nvL [])) = true,
                              (decide (r12 < 0)) = false,
                              (r12 != r11.1) = false,
                              Fn Try.prog 18 [(false, E43 o)] (E49 r13) [],
                              (true || ((E49 r13).nv && nvL [])) = true,
                              Fn Try.prog 34 [(false, E49 r13), (false, E3 o_)] (E49 r14) [],
                              (false || ((E49 r14).nv && nvL [])) = true,
                              Fn Try.prog 20 [(false, E49 r14), (false, E49 r3)] (E4 r15) [],
                              (false || ((E4 r15).nv && nvL [])) = true,
                              (!r15) = false,
                              Fn Try.prog 22 [(false, E49 (Acct.mk r5.Id r5.Limit r5.Posted r5.Most r5.MostSum r11.2.1 (Ring.mk r5.Ring.Span r5.Ring.Head r11.2.2.1 r11.2.2.2.1) r11.2.2.2.2)), (false, E3 1)] (E3 r16) [],
                              (false || ((E3 r16).nv && nvL [])) = true,
                              (decide (r16 < 0)) = false,
                              (r16 != r11.1) = false]) (by kernel_rfl) (cj (laws_szAcct_ok o 1048576 r1 h1) (cj rfl (cj h2 (cj (laws_toAcct_ok o r2 h3) (cj rfl (cj (spec_AcctAt_ok r2 o_ r3 h4) (cj (by simp [V.nv, nvL, nvL_all, nv_E3, nv_E5, nv_E9, nv_E22, nv_E38, nv_E45, nv_E46, nv_E47, nv_E49, nv_E125, nv_E143]) (cj (laws_toAcct_ok o r4 h5) (cj rfl (cj (impl_AcctAt_ok r4 o_ r5 h6) (cj (by simp [V.nv, nvL, nvL_all, nv_E3, nv_E5, nv_E9, nv_E22, nv_E38, nv_E45, nv_E46, nv_E47, nv_E49, nv_E125, nv_E143]) (cj (laws_eqAcct_ok r5 r3 r6 h7) (cj (by simp [V.nv, nvL, nvL_all, nv_E4]) (cj (nf h8) (cj (laws_toAcct_ok o r7 h9) (cj rfl (cj (laws_eqAcct_ok r4 r7 r8 h10) (cj (by simp [V.nv, nvL, nvL_all, nv_E4]) (cj (nf h11) (cj (laws_markAcct_ok r4 1 r9 h12) (cj rfl (cj h13 (cj h13 (cj h13 (cj (laws_eqAcct_ok r5 r3 r10 h14) (cj (by simp [V.nv, nvL, nvL_all, nv_E4]) (cj h13 (cj h13 (cj (nf h15) (cj (laws_markAcct_ok r5 1 r11 h16) (cj rfl (cj (laws_heldAcct_ok (Acct.mk r5.Id r5.Limit r5.Posted r5.Most r5.MostSum r11.2.1 (Ring.mk r5.Ring.Span r5.Ring.Head r11.2.2.1 r11.2.2.2.1) r11.2.2.2.2) 1 r12 h17) (cj (by simp [V.nv, nvL, nvL_all, nv_E3]) (cj h18 (cj h19 (cj (laws_toAcct_ok o r13 h20) (cj rfl (cj (impl_AcctAt_ok r13 o_ r14 h21) (cj (by simp [V.nv, nvL, nvL_all, nv_E3, nv_E5, nv_E9, nv_E22, nv_E38, nv_E45, nv_E46, nv_E47, nv_E49, nv_E125, nv_E143]) (cj (laws_eqAcct_ok r14 r3 r15 h22) (cj (by simp [V.nv, nvL, nvL_all, nv_E4]) (cj (nf h23) (cj (laws_heldAcct_ok (Acct.mk r5.Id r5.Limit r5.Posted r5.Most r5.MostSum r11.2.1 (Ring.mk r5.Ring.Span r5.Ring.Head r11.2.2.1 r11.2.2.2.1) r11.2.2.2.2) 1 r16 h24) (cj (by simp [V.nv, nvL, nvL_all, nv_E3]) (cj h25 (cj1 h26))))))))))))))))))))))))))))))))))))))))))))))))))) (fun h23 =>
                          Pn.some (Fn.of [.call [] (E3 r1) [], .bit false, .call [] (E49 r2) [], .call [] (E49 r3) [], .call [] (E49 r4) [], .call [] (E49 r5) [], .call [] (E4 r6) [], .bit false, .draw [], .call [] (E49 r7) [], .call [] (E4 r8) [], .bit false, .call [true, false] (E3 r9.1) [V.sl true 125 (List.map E125 r9.2.1), V.sl true 3 (List.map E3 r9.2.2.1), V.sl true 3 (List.map E3 r9.2.2.2.1), V.sl true 143 (List.map E143 r9.2.2.2.2)], .bit false, .bit false, .bit false, .call [] (E4 r10) [], .bit false, .bit false, .bit false, .call [true, false] (E3 r11.1) [V.sl true 125 (List.map E125 r11.2.1), V.sl true 3 (List.map E3 r11.2.2.1), V.sl true 3 (List.map E3 r11.2.2.2.1), V.sl true 143 (List.map E143 r11.2.2.2.2)], .call [] (E3 r12) [], .bit false, .bit false, .call [] (E49 r13) [], .call [] (E49 r14) [], .call [] (E4 r15) [], .bit true] (p := [Fn Try.prog 16 [(false, E43 o), (false, E3 1048576)] (E3 r1) [],
                           (true || ((E3 r1).nv && nvL [])) = true,
                           (decide (r1 < 0)) = false,
                           Fn Try.prog 18 [(false, E43 o)] (E49 r2) [],
                           (true || ((E49 r2).nv && nvL [])) = true,
                           Fn Try.prog 33 [(false, E49 r2), (false, E3 o_)] (E49 r3) [],
                           (false || ((E49 r3).nv && nvL [])) = true,
                           Fn Try.prog 18 [(false, E43 o)] (E49 r4) [],
                           (true || ((E49 r4).nv && nvL [])) = true,
                           Fn Try.prog 34 [(false, E49 r4), (false, E3 o_)] (E49 r5) [],
                           (false || ((E49 r5).nv && nvL [])) = true,
                           Fn Try.prog 20 [(false, E49 r5), (false, E49 r3)] (E4 r6) [],
                           (false || ((E4 r6).nv && nvL [])) = true,
                           (!r6) = false,
                           Fn Try.prog 18 [(false, E43 o)] (E49 r7) [],
                           (true || ((E49 r7).nv && nvL [])) = true,
                           Fn Try.prog 20 [(false, E49 r4), (false, E49 r7)] (E4 r8) [],
                           (false || ((E4 r8).nv && nvL [])) = true,
                           (!r8) = false,
                           Fn Try.prog 21 [(true, E49 r4), (false, E3 1)] (E3 r9.1) [V.sl true 125 (List.map E125 r9.2.1), V.sl true 3 (List.map E3 r9.2.2.1), V.sl true 3 (List.map E3 r9.2.2.2.1), V.sl true 143 (List.map E143 r9.2.2.2.2)],
                           (true || ((E3 r9.1).nv && nvL [V.sl true 125 (List.map E125 r9.2.1), V.sl true 3 (List.map E3 r9.2.2.1), V.sl true 3 (List.map E3 r9.2.2.2.1), V.sl true 143 (List.map E143 r9.2.2.2.2)])) = true,
                           (decide (r9.1 < 0)) = false,
                           (decide (r9.1 < 0)) = false,
                           (decide (r9.1 < 0)) = false,
                           Fn Try.prog 20 [(false, E49 r5), (false, E49 r3)] (E4 r10) [],
                           (false || ((E4 r10).nv && nvL [])) = true,
                           (decide (r9.1 < 0)) = false,
                           (decide (r9.1 < 0)) = false,
                           (!r10) = false,
                           Fn Try.prog 21 [(true, E49 r5), (false, E3 1)] (E3 r11.1) [V.sl true 125 (List.map E125 r11.2.1), V.sl true 3 (List.map E3 r11.2.2.1), V.sl true 3 (List.map E3 r11.2.2.2.1), V.sl true 143 (List.map E143 r11.2.2.2.2)],
                           (true || ((E3 r11.1).nv && nvL [V.sl true 125 (List.map E125 r11.2.1), V.sl true 3 (List.map E3 r11.2.2.1), V.sl true 3 (List.map E3 r11.2.2.2.1), V.sl true 143 (List.map E143 r11.2.2.2.2)])) = true,
                           Fn Try.prog 22 [(false, E49 (Acct.mk r5.Id r5.Limit r5.Posted r5.Most r5.MostSum r11.2.1 (Ring.mk r5.Ring.Span r5.Ring.Head r11.2.2.1 r11.2.2.2.1) r11.2.2.2.2)), (false, E3 1)] (E3 r12) [],
                           (false || ((E3 r12).nv && nvL [])) = true,
                           (decide (r12 < 0)) = false,
                           (r12 != r11.1) = false,
                           Fn Try.prog 18 [(false, E43 o)] (E49 r13) [],
                           (true || ((E49 r13).nv && nvL [])) = true,
                           Fn Try.prog 34 [(false, E49 r13), (false, E3 o_)] (E49 r14) [],
                           (false || ((E49 r14).nv && nvL [])) = true,
                           Fn Try.prog 20 [(false, E49 r14), (false, E49 r3)] (E4 r15) [],
                           (false || ((E4 r15).nv && nvL [])) = true,
                           (!r15) = true]) (by kernel_rfl) (cj (laws_szAcct_ok o 1048576 r1 h1) (cj rfl (cj h2 (cj (laws_toAcct_ok o r2 h3) (cj rfl (cj (spec_AcctAt_ok r2 o_ r3 h4) (cj (by simp [V.nv, nvL, nvL_all, nv_E3, nv_E5, nv_E9, nv_E22, nv_E38, nv_E45, nv_E46, nv_E47, nv_E49, nv_E125, nv_E143]) (cj (laws_toAcct_ok o r4 h5) (cj rfl (cj (impl_AcctAt_ok r4 o_ r5 h6) (cj (by simp [V.nv, nvL, nvL_all, nv_E3, nv_E5, nv_E9, nv_E22, nv_E38, nv_E45, nv_E46, nv_E47, nv_E49, nv_E125, nv_E143]) (cj (laws_eqAcct_ok r5 r3 r6 h7) (cj (by simp [V.nv, nvL, nvL_all, nv_E4]) (cj (nf h8) (cj (laws_toAcct_ok o r7 h9) (cj rfl (cj (laws_eqAcct_ok r4 r7 r8 h10) (cj (by simp [V.nv, nvL, nvL_all, nv_E4]) (cj (nf h11) (cj (laws_markAcct_ok r4 1 r9 h12) (cj rfl (cj h13 (cj h13 (cj h13 (cj (laws_eqAcct_ok r5 r3 r10 h14) (cj (by simp [V.nv, nvL, nvL_all, nv_E4]) (cj h13 (cj h13 (cj (nf h15) (cj (laws_markAcct_ok r5 1 r11 h16) (cj rfl (cj (laws_heldAcct_ok (Acct.mk r5.Id r5.Limit r5.Posted r5.Most r5.MostSum r11.2.1 (Ring.mk r5.Ring.Span r5.Ring.Head r11.2.2.1 r11.2.2.2.1) r11.2.2.2.2) 1 r12 h17) (cj (by simp [V.nv, nvL, nvL_all, nv_E3]) (cj h18 (cj h19 (cj (laws_toAcct_ok o r13 h20) (cj rfl (cj (impl_AcctAt_ok r13 o_ r14 h21) (cj (by simp [V.nv, nvL, nvL_all, nv_E3, nv_E5, nv_E9, nv_E22, nv_E38, nv_E45, nv_E46, nv_E47, nv_E49, nv_E125, nv_E143]) (cj (laws_eqAcct_ok r14 r3 r15 h22) (cj (by simp [V.nv, nvL, nvL_all, nv_E4]) (cj1 (nt h23))))))))))))))))))))))))))))))))))))))))))))))))))))) (fun h15 =>
                  Pn.some (Fn.of [.call [] (E3 r1) [], .bit false, .call [] (E49 r2) [], .call [] (E49 r3) [], .call [] (E49 r4) [], .call [] (E49 r5) [], .call [] (E4 r6) [], .bit false, .draw [], .call [] (E49 r7) [], .call [] (E4 r8) [], .bit false, .call [true, false] (E3 r9.1) [V.sl true 125 (List.map E125 r9.2.1), V.sl true 3 (List.map E3 r9.2.2.1), V.sl true 3 (List.map E3 r9.2.2.2.1), V.sl true 143 (List.map E143 r9.2.2.2.2)], .bit false, .bit false, .bit false, .call [] (E4 r10) [], .bit false, .bit false, .bit true] (p := [Fn Try.prog 16 [(false, E43 o), (false, E3 1048576)] (E3 r1) [],
                   (true || ((E3 r1).nv && nvL [])) = true,
                   (decide (r1 < 0)) = false,
                   Fn Try.prog 18 [(false, E43 o)] (E49 r2) [],
                   (true || ((E49 r2).nv && nvL [])) = true,
                   Fn Try.prog 33 [(false, E49 r2), (false, E3 o_)] (E49 r3) [],
                   (false || ((E49 r3).nv && nvL [])) = true,
                   Fn Try.prog 18 [(false, E43 o)] (E49 r4) [],
                   (true || ((E49 r4).nv && nvL [])) = true,
                   Fn Try.prog 34 [(false, E49 r4), (false, E3 o_)] (E49 r5) [],
                   (false || ((E49 r5).nv && nvL [])) = true,
                   Fn Try.prog 20 [(false, E49 r5), (false, E49 r3)] (E4 r6) [],
                   (false || ((E4 r6).nv && nvL [])) = true,
                   (!r6) = false,
                   Fn Try.prog 18 [(false, E43 o)] (E49 r7) [],
                   (true || ((E49 r7).nv && nvL [])) = true,
                   Fn Try.prog 20 [(false, E49 r4), (false, E49 r7)] (E4 r8) [],
                   (false || ((E4 r8).nv && nvL [])) = true,
                   (!r8) = false,
                   Fn Try.prog 21 [(true, E49 r4), (false, E3 1)] (E3 r9.1) [V.sl true 125 (List.map E125 r9.2.1), V.sl true 3 (List.map E3 r9.2.2.1), V.sl true 3 (List.map E3 r9.2.2.2.1), V.sl true 143 (List.map E143 r9.2.2.2.2)],
                   (true || ((E3 r9.1).nv && nvL [V.sl true 125 (List.map E125 r9.2.1), V.sl true 3 (List.map E3 r9.2.2.1), V.sl true 3 (List.map E3 r9.2.2.2.1), V.sl true 143 (List.map E143 r9.2.2.2.2)])) = true,
                   (decide (r9.1 < 0)) = false,
                   (decide (r9.1 < 0)) = false,
                   (decide (r9.1 < 0)) = false,
                   Fn Try.prog 20 [(false, E49 r5), (false, E49 r3)] (E4 r10) [],
                   (false || ((E4 r10).nv && nvL [])) = true,
                   (decide (r9.1 < 0)) = false,
                   (decide (r9.1 < 0)) = false,
                   (!r10) = true]) (by kernel_rfl) (cj (laws_szAcct_ok o 1048576 r1 h1) (cj rfl (cj h2 (cj (laws_toAcct_ok o r2 h3) (cj rfl (cj (spec_AcctAt_ok r2 o_ r3 h4) (cj (by simp [V.nv, nvL, nvL_all, nv_E3, nv_E5, nv_E9, nv_E22, nv_E38, nv_E45, nv_E46, nv_E47, nv_E49, nv_E125, nv_E143]) (cj (laws_toAcct_ok o r4 h5) (cj rfl (cj (impl_AcctAt_ok r4 o_ r5 h6) (cj (by simp [V.nv, nvL, nvL_all, nv_E3, nv_E5, nv_E9, nv_E22, nv_E38, nv_E45, nv_E46, nv_E47, nv_E49, nv_E125, nv_E143]) (cj (laws_eqAcct_ok r5 r3 r6 h7) (cj (by simp [V.nv, nvL, nvL_all, nv_E4]) (cj (nf h8) (cj (laws_toAcct_ok o r7 h9) (cj rfl (cj (laws_eqAcct_ok r4 r7 r8 h10) (cj (by simp [V.nv, nvL, nvL_all, nv_E4]) (cj (nf h11) (cj (laws_markAcct_ok r4 1 r9 h12) (cj rfl (cj h13 (cj h13 (cj h13 (cj (laws_eqAcct_ok r5 r3 r10 h14) (cj (by simp [V.nv, nvL, nvL_all, nv_E4]) (cj h13 (cj h13 (cj1 (nt h15)))))))))))))))))))))))))))))))))))) (fun h11 =>
              Pn.some (Fn.of [.call [] (E3 r1) [], .bit false, .call [] (E49 r2) [], .call [] (E49 r3) [], .call [] (E49 r4) [], .call [] (E49 r5) [], .call [] (E4 r6) [], .bit false, .draw [], .call [] (E49 r7) [], .call [] (E4 r8) [], .bit true] (p := [Fn Try.prog 16 [(false, E43 o), (false, E3 1048576)] (E3 r1) [],
               (true || ((E3 r1).nv && nvL [])) = true,
               (decide (r1 < 0)) = false,
               Fn Try.prog 18 [(false, E43 o)] (E49 r2) [],
               (true || ((E49 r2).nv && nvL [])) = true,
               Fn Try.prog 33 [(false, E49 r2), (false, E3 o_)] (E49 r3) [],
               (false || ((E49 r3).nv && nvL [])) = true,
               Fn Try.prog 18 [(false, E43 o)] (E49 r4) [],
               (true || ((E49 r4).nv && nvL [])) = true,
               Fn Try.prog 34 [(false, E49 r4), (false, E3 o_)] (E49 r5) [],
               (false || ((E49 r5).nv && nvL [])) = true,
               Fn Try.prog 20 [(false, E49 r5), (false, E49 r3)] (E4 r6) [],
               (false || ((E4 r6).nv && nvL [])) = true,
               (!r6) = false,
               Fn Try.prog 18 [(false, E43 o)] (E49 r7) [],
               (true || ((E49 r7).nv && nvL [])) = true,
               Fn Try.prog 20 [(false, E49 r4), (false, E49 r7)] (E4 r8) [],
               (false || ((E4 r8).nv && nvL [])) = true,
               (!r8) = true]) (by kernel_rfl) (cj (laws_szAcct_ok o 1048576 r1 h1) (cj rfl (cj h2 (cj (laws_toAcct_ok o r2 h3) (cj rfl (cj (spec_AcctAt_ok r2 o_ r3 h4) (cj (by simp [V.nv, nvL, nvL_all, nv_E3, nv_E5, nv_E9, nv_E22, nv_E38, nv_E45, nv_E46, nv_E47, nv_E49, nv_E125, nv_E143]) (cj (laws_toAcct_ok o r4 h5) (cj rfl (cj (impl_AcctAt_ok r4 o_ r5 h6) (cj (by simp [V.nv, nvL, nvL_all, nv_E3, nv_E5, nv_E9, nv_E22, nv_E38, nv_E45, nv_E46, nv_E47, nv_E49, nv_E125, nv_E143]) (cj (laws_eqAcct_ok r5 r3 r6 h7) (cj (by simp [V.nv, nvL, nvL_all, nv_E4]) (cj (nf h8) (cj (laws_toAcct_ok o r7 h9) (cj rfl (cj (laws_eqAcct_ok r4 r7 r8 h10) (cj (by simp [V.nv, nvL, nvL_all, nv_E4]) (cj1 (nt h11))))))))))))))))))))))))) (fun h8 =>
           Pn.some (Fn.of [.call [] (E3 r1) [], .bit false, .call [] (E49 r2) [], .call [] (E49 r3) [], .call [] (E49 r4) [], .call [] (E49 r5) [], .call [] (E4 r6) [], .bit true] (p := [Fn Try.prog 16 [(false, E43 o), (false, E3 1048576)] (E3 r1) [],
            (true || ((E3 r1).nv && nvL [])) = true,
            (decide (r1 < 0)) = false,
            Fn Try.prog 18 [(false, E43 o)] (E49 r2) [],
            (true || ((E49 r2).nv && nvL [])) = true,
            Fn Try.prog 33 [(false, E49 r2), (false, E3 o_)] (E49 r3) [],
            (false || ((E49 r3).nv && nvL [])) = true,
            Fn Try.prog 18 [(false, E43 o)] (E49 r4) [],
            (true || ((E49 r4).nv && nvL [])) = true,
            Fn Try.prog 34 [(false, E49 r4), (false, E3 o_)] (E49 r5) [],
            (false || ((E49 r5).nv && nvL [])) = true,
            Fn Try.prog 20 [(false, E49 r5), (false, E49 r3)] (E4 r6) [],
            (false || ((E4 r6).nv && nvL [])) = true,
            (!r6) = true]) (by kernel_rfl) (cj (laws_szAcct_ok o 1048576 r1 h1) (cj rfl (cj h2 (cj (laws_toAcct_ok o r2 h3) (cj rfl (cj (spec_AcctAt_ok r2 o_ r3 h4) (cj (by simp [V.nv, nvL, nvL_all, nv_E3, nv_E5, nv_E9, nv_E22, nv_E38, nv_E45, nv_E46, nv_E47, nv_E49, nv_E125, nv_E143]) (cj (laws_toAcct_ok o r4 h5) (cj rfl (cj (impl_AcctAt_ok r4 o_ r5 h6) (cj (by simp [V.nv, nvL, nvL_all, nv_E3, nv_E5, nv_E9, nv_E22, nv_E38, nv_E45, nv_E46, nv_E47, nv_E49, nv_E125, nv_E143]) (cj (laws_eqAcct_ok r5 r3 r6 h7) (cj (by simp [V.nv, nvL, nvL_all, nv_E4]) (cj1 (nt h8))))))))))))))))))))))))
end Go.Proofs.YtaaiikopnadkeaaM
