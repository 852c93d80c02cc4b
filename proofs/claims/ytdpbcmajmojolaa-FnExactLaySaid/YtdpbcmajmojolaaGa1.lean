/- Printed by gen.py: functions on plain data, and that the program computes them. No condition. -/
import Derived.Test.YtdpbcmajmojolaaGa0
namespace Go.Proofs.YtdpbcmajmojolaaM
set_option linter.unusedVariables false
set_option linter.unusedSimpArgs false
open Go.RowKit
set_option maxRecDepth 100000

def spec_l12Copy_l0 (b : Book) : List Acct → (List Acct) → Option ((List Acct))
  | [], v1 =>
   some v1
  | x1 :: t1, v1 =>
   (spec_l09Copy x1).bind fun r1 =>
   if (capOk (v1.length + 1)) = true then
    spec_l12Copy_l0 b t1 (v1 ++ [r1])
   else none
theorem spec_l12Copy_l0_ok (b : Book) (h2 : capOk b.Accts.length = true) : ∀ (t1 p1 : List Acct) (_ : b.Accts = p1 ++ t1) (v1 : List Acct), Pn (LpO Try.prog (sub (codeOf Try.prog 67) [1, 1, 0, 1, 0, 0]) (st 23 [(2, V.ptr 0 0), (3, V.ptr 1 0), (8, V.sl false 54 (List.map E54 b.Accts)), (9, V.sc (.int .i64 (b.Accts.length : Int))), (10, V.sc (.int .i64 (p1.length : Int)))] [Blk.box 41 [V.nl 54], Blk.box 41 [V.ow 2], Blk.row 54 (List.map E54 v1) []] []) (fun (y : (List Acct)) => (X.out 0, st 23 [(2, V.ptr 0 0), (3, V.ptr 1 0)] [Blk.box 41 [V.nl 54], Blk.box 41 [V.ow 2], Blk.row 54 (List.map E54 y) []] []))) (spec_l12Copy_l0 b t1 v1)
  | [], p1, h1, v1 => by
    unfold spec_l12Copy_l0
    exact
     Pn.some (LpO.out [.bit false, .mask [2, 3], .ren [0, 1, 2]] (p := [(decide ((p1.length : Int) < (b.Accts.length : Int))) = false]) (by kernel_rfl) (show X.out 0 ≠ X.go from nofun) (cj1 (rng_end h1)))
  | x1 :: t1, p1, h1, v1 => by
    unfold spec_l12Copy_l0
    exact
     Pn.bind (fun r1 h3 =>
      Pn.ite (fun h4 =>
       LpO.go [.bit true, .el (E54 x1), .draw [5, 7], .call [] (E54 r1) [], .wait 1, .shut 8, .mv, .nb 9 (.row 54 (List.map E54 (v1 ++ [r1])) []), .wait 5, .mask [2, 3, 8, 9, 10], .ren [0, 1, 9], .nm 10 (V.sc (.int .i64 ((p1 ++ [x1]).length : Int)))] (p := [(decide ((p1.length : Int) < (b.Accts.length : Int))) = true,
        (0 : Int) ≤ (p1.length : Int),
        (List.map E54 b.Accts)[(p1.length : Int).toNat]? = some (E54 x1),
        Fn Try.prog 80 [(false, E54 x1)] (E54 r1) [],
        (true || ((E54 r1).nv && nvL [])) = true,
        (List.map E54 v1).length + [V.agg [V.sc (.string r1.Id), V.sc (.int .i64 r1.Limit), V.sc (.int .i64 r1.Posted), V.sc (.int .i64 r1.Most), V.sc (.int .i64 r1.MostSum), V.sl true 61 (List.map E61 r1.Holds), V.sc (.int .i64 r1.Ring.Span), V.sc (.int .i64 r1.Ring.Head), V.sl true 3 (List.map E3 r1.Ring.Counts), V.sl true 3 (List.map E3 r1.Ring.Sums), V.sl true 177 (List.map E177 r1.Slots)]].length ≤ 9223372036854775807,
        ((List.map E54 v1).length + [V.agg [V.sc (.string r1.Id), V.sc (.int .i64 r1.Limit), V.sc (.int .i64 r1.Posted), V.sc (.int .i64 r1.Most), V.sc (.int .i64 r1.MostSum), V.sl true 61 (List.map E61 r1.Holds), V.sc (.int .i64 r1.Ring.Span), V.sc (.int .i64 r1.Ring.Head), V.sl true 3 (List.map E3 r1.Ring.Counts), V.sl true 3 (List.map E3 r1.Ring.Sums), V.sl true 177 (List.map E177 r1.Slots)]].length) * 160 ≤ 140737488355328,
        Blk.row 54 ((List.map E54 v1) ++ [V.agg [V.sc (.string r1.Id), V.sc (.int .i64 r1.Limit), V.sc (.int .i64 r1.Posted), V.sc (.int .i64 r1.Most), V.sc (.int .i64 r1.MostSum), V.sl true 61 (List.map E61 r1.Holds), V.sc (.int .i64 r1.Ring.Span), V.sc (.int .i64 r1.Ring.Head), V.sl true 3 (List.map E3 r1.Ring.Counts), V.sl true 3 (List.map E3 r1.Ring.Sums), V.sl true 177 (List.map E177 r1.Slots)]]) [] = Blk.row 54 (List.map E54 (v1 ++ [r1])) [],
        V.sc (.int .i64 (i64 ((p1.length : Int) + 1))) = V.sc (.int .i64 ((p1 ++ [x1]).length : Int))]) (by kernel_rfl) (cj (rng_lt h1) (cj (by omega) (cj (rng_get _ h1) (cj (spec_l09Copy_ok x1 r1 h3) (cj rfl (cj (cap1 (capN (by simp) h4)) (cj (cap2 (capN (by simp) h4) (by decide)) (cj (nb_app E54 v1 [r1]) (cj1 (rng_next h1 h2)))))))))) (spec_l12Copy_l0_ok b h2 t1 (p1 ++ [x1]) (rng_step h1) (v1 ++ [r1]))) (fun h4 =>
       Pn.none))
def spec_l12Copy (b : Book) : Option (Book) :=
 if (capOk b.Accts.length) = true then
  (spec_l12Copy_l0 b b.Accts []).bind fun r2 =>
  some (Book.mk r2)
 else none
theorem spec_l12Copy_ok (b : Book) : Pn (fun y => Fn Try.prog 67 [(false, E41 b)] (E41 y) []) (spec_l12Copy b) := by
  unfold spec_l12Copy
  exact
   Pn.ite (fun h5 =>
    Pn.bind (fun r2 h6 =>
     Pn.some (Fn.of [.wait 8, .nm 9 (V.sc (.int .i64 (b.Accts.length : Int))), .wait 2, .mask [2, 3, 8, 9, 10], .ren [1, 2], .ownb 1 0, .mask [2, 3, 8, 9, 10], .ren [0, 1, 2], .loop (X.out 0) (st 23 [(2, V.ptr 0 0), (3, V.ptr 1 0)] [Blk.box 41 [V.nl 54], Blk.box 41 [V.ow 2], Blk.row 54 (List.map E54 r2) []] [])] (p := [V.sc (.int .i64 ((List.map E54 b.Accts).length : Int)) = V.sc (.int .i64 (b.Accts.length : Int)),
      Loop Try.prog (sub (codeOf Try.prog 67) [1, 1, 0, 1, 0, 0]) (st 23 [(2, V.ptr 0 0), (3, V.ptr 1 0), (8, V.sl false 54 (List.map E54 b.Accts)), (9, V.sc (.int .i64 (b.Accts.length : Int))), (10, V.sc (.int .i64 0))] [Blk.box 41 [V.nl 54], Blk.box 41 [V.ow 2], Blk.row 54 ([] : List V) []] []) (X.out 0) (st 23 [(2, V.ptr 0 0), (3, V.ptr 1 0)] [Blk.box 41 [V.nl 54], Blk.box 41 [V.ow 2], Blk.row 54 (List.map E54 r2) []] [])]) (by kernel_rfl) (cj (len_nm _ _) (cj1 (spec_l12Copy_l0_ok b h5 b.Accts [] rfl [] r2 h6)))))) (fun h5 =>
    Pn.none)
def spec_NoSlots_l0 (r1 : Book) : List Acct → List Acct → (List Acct) → Option ((List Acct))
  | [], p1, v1 =>
   some v1
  | x1 :: t1, p1, v1 =>
   (v1[(p1.length : Int).toNat]?).bind fun x2 =>
   spec_NoSlots_l0 r1 t1 (p1 ++ [x1]) (v1.set ((p1.length : Int).toNat) (Acct.mk x2.Id x2.Limit x2.Posted x2.Most x2.MostSum x2.Holds x2.Ring []))
theorem spec_NoSlots_l0_ok (r1 : Book) (h3 : capOk r1.Accts.length = true) : ∀ (t1 p1 : List Acct) (_ : r1.Accts = p1 ++ t1) (v1 : List Acct), Pn (LpO Try.prog (sub (codeOf Try.prog 19) [1, 1, 0, 1, 0, 0]) (st 20 [(2, V.ptr 0 0), (3, V.ptr 1 0), (9, V.sc (.int .i64 (r1.Accts.length : Int))), (10, V.sc (.int .i64 (p1.length : Int)))] [Blk.box 41 [V.nl 54], Blk.box 41 [V.ow 2], Blk.row 54 (List.map E54 v1) []] []) (fun (y : (List Acct)) => (X.out 0, st 20 [(2, V.ptr 0 0), (3, V.ptr 1 0)] [Blk.box 41 [V.nl 54], Blk.box 41 [V.ow 2], Blk.row 54 (List.map E54 y) []] []))) (spec_NoSlots_l0 r1 t1 p1 v1)
  | [], p1, h2, v1 => by
    unfold spec_NoSlots_l0
    exact
     Pn.some (LpO.out [.bit false, .mask [2, 3], .ren [0, 1, 2]] (p := [(decide ((p1.length : Int) < (r1.Accts.length : Int))) = false]) (by kernel_rfl) (show X.out 0 ≠ X.go from nofun) (cj1 (rng_end h2)))
  | x1 :: t1, p1, h2, v1 => by
    unfold spec_NoSlots_l0
    exact
     Pn.bind (fun x2 h4 =>
      LpO.go [.bit true, .wait 5, .foc 2 ((p1.length : Int).toNat) (E54 x2), .fo 0, .wait 3, .shut 2, .nb 2 (.row 54 (List.map E54 (v1.set ((p1.length : Int).toNat) (Acct.mk x2.Id x2.Limit x2.Posted x2.Most x2.MostSum x2.Holds x2.Ring []))) []), .mask [2, 3, 9, 10], .ren [0, 1, 2], .nm 10 (V.sc (.int .i64 ((p1 ++ [x1]).length : Int)))] (p := [(decide ((p1.length : Int) < (r1.Accts.length : Int))) = true,
       (0 : Int) ≤ (p1.length : Int),
       ((p1.length : Int) : Int) < ((List.map E54 v1).length : Int),
       look [] ((p1.length : Int).toNat) = none,
       (List.map E54 v1)[(p1.length : Int).toNat]? = some (E54 x2),
       look [((p1.length : Int).toNat, V.agg [V.sc (.string x2.Id), V.sc (.int .i64 x2.Limit), V.sc (.int .i64 x2.Posted), V.sc (.int .i64 x2.Most), V.sc (.int .i64 x2.MostSum), V.ow 3, V.sc (.int .i64 x2.Ring.Span), V.sc (.int .i64 x2.Ring.Head), V.ow 4, V.ow 5, V.ow 6])] ((p1.length : Int).toNat) = some (V.agg [V.sc (.string x2.Id), V.sc (.int .i64 x2.Limit), V.sc (.int .i64 x2.Posted), V.sc (.int .i64 x2.Most), V.sc (.int .i64 x2.MostSum), V.ow 3, V.sc (.int .i64 x2.Ring.Span), V.sc (.int .i64 x2.Ring.Head), V.ow 4, V.ow 5, V.ow 6]),
       ((p1.length : Int).toNat) < (List.map E54 v1).length,
       ((p1.length : Int).toNat) = ((p1.length : Int).toNat),
       Blk.row 54 ((List.map E54 v1).set ((p1.length : Int).toNat) (V.agg [V.sc (.string x2.Id), V.sc (.int .i64 x2.Limit), V.sc (.int .i64 x2.Posted), V.sc (.int .i64 x2.Most), V.sc (.int .i64 x2.MostSum), V.sl true 61 (List.map E61 x2.Holds), V.sc (.int .i64 x2.Ring.Span), V.sc (.int .i64 x2.Ring.Head), V.sl true 3 (List.map E3 x2.Ring.Counts), V.sl true 3 (List.map E3 x2.Ring.Sums), V.sl true 177 ([] : List V)])) [] = Blk.row 54 (List.map E54 (v1.set ((p1.length : Int).toNat) (Acct.mk x2.Id x2.Limit x2.Posted x2.Most x2.MostSum x2.Holds x2.Ring []))) [],
       V.sc (.int .i64 (i64 ((p1.length : Int) + 1))) = V.sc (.int .i64 ((p1 ++ [x1]).length : Int))]) (by kernel_rfl) (cj (rng_lt h2) (cj (by omega) (cj (map_ltN (by omega) h4) (cj rfl (cj (map_get h4) (cj (look_cons_self _ _ _) (cj (map_lt h4) (cj rfl (cj (nb_set E54 _ _ (Acct.mk x2.Id x2.Limit x2.Posted x2.Most x2.MostSum x2.Holds x2.Ring [])) (cj1 (rng_next h2 h3))))))))))) (spec_NoSlots_l0_ok r1 h3 t1 (p1 ++ [x1]) (rng_step h2) (v1.set ((p1.length : Int).toNat) (Acct.mk x2.Id x2.Limit x2.Posted x2.Most x2.MostSum x2.Holds x2.Ring []))))
def spec_NoSlots (b : Book) : Option (Book) :=
 (spec_l12Copy b).bind fun r1 =>
 if (capOk r1.Accts.length) = true then
  (spec_NoSlots_l0 r1 r1.Accts [] r1.Accts).bind fun r2 =>
  some (Book.mk r2)
 else none
theorem spec_NoSlots_ok (b : Book) : Pn (fun y => Fn Try.prog 19 [(false, E41 b)] (E41 y) []) (spec_NoSlots b) := by
  unfold spec_NoSlots
  exact
   Pn.bind (fun r1 h1 =>
    Pn.ite (fun h5 =>
     Pn.bind (fun r2 h6 =>
      Pn.some (Fn.of [.call [] (E41 r1) [], .wait 5, .nm 9 (V.sc (.int .i64 (r1.Accts.length : Int))), .wait 2, .mask [2, 3, 9, 10], .ren [1, 3, 2], .loop (X.out 0) (st 20 [(2, V.ptr 0 0), (3, V.ptr 1 0)] [Blk.box 41 [V.nl 54], Blk.box 41 [V.ow 2], Blk.row 54 (List.map E54 r2) []] [])] (p := [Fn Try.prog 67 [(false, E41 b)] (E41 r1) [],
       (true || ((E41 r1).nv && nvL [])) = true,
       V.sc (.int .i64 ((List.map E54 r1.Accts).length : Int)) = V.sc (.int .i64 (r1.Accts.length : Int)),
       Loop Try.prog (sub (codeOf Try.prog 19) [1, 1, 0, 1, 0, 0]) (st 20 [(2, V.ptr 0 0), (3, V.ptr 1 0), (9, V.sc (.int .i64 (r1.Accts.length : Int))), (10, V.sc (.int .i64 0))] [Blk.box 41 [V.nl 54], Blk.box 41 [V.ow 2], Blk.row 54 (List.map E54 r1.Accts) []] []) (X.out 0) (st 20 [(2, V.ptr 0 0), (3, V.ptr 1 0)] [Blk.box 41 [V.nl 54], Blk.box 41 [V.ow 2], Blk.row 54 (List.map E54 r2) []] [])]) (by kernel_rfl) (cj (spec_l12Copy_ok b r1 h1) (cj rfl (cj (len_nm _ _) (cj1 (spec_NoSlots_l0_ok r1 h5 r1.Accts [] rfl r1.Accts r2 h6)))))))) (fun h5 =>
     Pn.none))
def slices_Clone_impl_Hold (s_ : List Hold) : Option (List Hold) := if capOk s_.length = true then some s_ else none
theorem slices_Clone_impl_Hold_ok : ∀ (s_ : List Hold), Pn (fun y => Fn Try.prog 126 [(false, E48 s_)] (E48 y) []) (slices_Clone_impl_Hold s_)
  | [] => by
    unfold slices_Clone_impl_Hold
    exact Pn.ite (fun h => Pn.some (Fn.two [] [.bit true] [.bit false, .cp (List.map E61 []), .nb 1 (.row 61 (List.map E61 []) [])] (p := []) (pT := [true = true]) (pF := [false = false, (List.map E61 []).map V.vw = (List.map E61 []), ([] : List V).length + (List.map E61 []).length ≤ 9223372036854775807, (([] : List V).length + (List.map E61 []).length) * 32 ≤ 140737488355328, Blk.row 61 (([] : List V) ++ (List.map E61 [])) [] = Blk.row 61 (List.map E61 []) []]) (by kernel_rfl) trivial (cj1 rfl) (cj rfl (cj (vw_id (fun _ => rfl) _) (cj (cap1 (capN (by simp) h)) (cj (cap2 (capN (by simp) h) (by decide)) (cj1 rfl))))))) (fun _ => Pn.none)
  | x :: t => by
    unfold slices_Clone_impl_Hold
    exact Pn.ite (fun h => Pn.some (Fn.two [] [.bit true] [.bit false, .cp (List.map E61 (x :: t)), .nb 1 (.row 61 (List.map E61 (x :: t)) [])] (p := []) (pT := [false = false, (List.map E61 (x :: t)).map V.vw = (List.map E61 (x :: t)), ([] : List V).length + (List.map E61 (x :: t)).length ≤ 9223372036854775807, (([] : List V).length + (List.map E61 (x :: t)).length) * 32 ≤ 140737488355328, Blk.row 61 (([] : List V) ++ (List.map E61 (x :: t))) [] = Blk.row 61 (List.map E61 (x :: t)) []]) (pF := [false = false, (List.map E61 (x :: t)).map V.vw = (List.map E61 (x :: t)), ([] : List V).length + (List.map E61 (x :: t)).length ≤ 9223372036854775807, (([] : List V).length + (List.map E61 (x :: t)).length) * 32 ≤ 140737488355328, Blk.row 61 (([] : List V) ++ (List.map E61 (x :: t))) [] = Blk.row 61 (List.map E61 (x :: t)) []]) (by kernel_rfl) trivial (cj rfl (cj (vw_id (fun _ => rfl) _) (cj (cap1 (capN (by simp) h)) (cj (cap2 (capN (by simp) h) (by decide)) (cj1 rfl))))) (cj rfl (cj (vw_id (fun _ => rfl) _) (cj (cap1 (capN (by simp) h)) (cj (cap2 (capN (by simp) h) (by decide)) (cj1 rfl))))))) (fun _ => Pn.none)
def slices_Clone_int (s_ : List Int) : Option (List Int) := if capOk s_.length = true then some s_ else none
theorem slices_Clone_int_ok : ∀ (s_ : List Int), Pn (fun y => Fn Try.prog 183 [(false, E49 s_)] (E49 y) []) (slices_Clone_int s_)
  | [] => by
    unfold slices_Clone_int
    exact Pn.ite (fun h => Pn.some (Fn.two [] [.bit true] [.bit false, .cp (List.map E3 []), .nb 1 (.row 3 (List.map E3 []) [])] (p := []) (pT := [true = true]) (pF := [false = false, (List.map E3 []).map V.vw = (List.map E3 []), ([] : List V).length + (List.map E3 []).length ≤ 9223372036854775807, (([] : List V).length + (List.map E3 []).length) * 8 ≤ 140737488355328, Blk.row 3 (([] : List V) ++ (List.map E3 [])) [] = Blk.row 3 (List.map E3 []) []]) (by kernel_rfl) trivial (cj1 rfl) (cj rfl (cj (vw_id (fun _ => rfl) _) (cj (cap1 (capN (by simp) h)) (cj (cap2 (capN (by simp) h) (by decide)) (cj1 rfl))))))) (fun _ => Pn.none)
  | x :: t => by
    unfold slices_Clone_int
    exact Pn.ite (fun h => Pn.some (Fn.two [] [.bit true] [.bit false, .cp (List.map E3 (x :: t)), .nb 1 (.row 3 (List.map E3 (x :: t)) [])] (p := []) (pT := [false = false, (List.map E3 (x :: t)).map V.vw = (List.map E3 (x :: t)), ([] : List V).length + (List.map E3 (x :: t)).length ≤ 9223372036854775807, (([] : List V).length + (List.map E3 (x :: t)).length) * 8 ≤ 140737488355328, Blk.row 3 (([] : List V) ++ (List.map E3 (x :: t))) [] = Blk.row 3 (List.map E3 (x :: t)) []]) (pF := [false = false, (List.map E3 (x :: t)).map V.vw = (List.map E3 (x :: t)), ([] : List V).length + (List.map E3 (x :: t)).length ≤ 9223372036854775807, (([] : List V).length + (List.map E3 (x :: t)).length) * 8 ≤ 140737488355328, Blk.row 3 (([] : List V) ++ (List.map E3 (x :: t))) [] = Blk.row 3 (List.map E3 (x :: t)) []]) (by kernel_rfl) trivial (cj rfl (cj (vw_id (fun _ => rfl) _) (cj (cap1 (capN (by simp) h)) (cj (cap2 (capN (by simp) h) (by decide)) (cj1 rfl))))) (cj rfl (cj (vw_id (fun _ => rfl) _) (cj (cap1 (capN (by simp) h)) (cj (cap2 (capN (by simp) h) (by decide)) (cj1 rfl))))))) (fun _ => Pn.none)
def impl_Ring_copied (r_ : Ring) : Option (Ring) :=
 (slices_Clone_int r_.Counts).bind fun r1 =>
 (slices_Clone_int r_.Sums).bind fun r2 =>
 some (Ring.mk r_.Span r_.Head r1 r2)
theorem impl_Ring_copied_ok (r_ : Ring) : Pn (fun y => Fn Try.prog 127 [(false, E51 r_)] (E51 y) []) (impl_Ring_copied r_) := by
  unfold impl_Ring_copied
  exact
   Pn.bind (fun r1 h1 =>
    Pn.bind (fun r2 h2 =>
     Pn.some (Fn.of [.draw [7, 9], .call [] (E49 r1) [], .call [] (E49 r2) []] (p := [Fn Try.prog 183 [(false, E49 r_.Counts)] (E49 r1) [],
      (true || ((E49 r1).nv && nvL [])) = true,
      Fn Try.prog 183 [(false, E49 r_.Sums)] (E49 r2) [],
      (true || ((E49 r2).nv && nvL [])) = true]) (by kernel_rfl) (cj (slices_Clone_int_ok r_.Counts r1 h1) (cj rfl (cj (slices_Clone_int_ok r_.Sums r2 h2) (cj1 rfl)))))))
def slices_Clone_byte (s_ : List Int) : Option (List Int) := if capOk s_.length = true then some s_ else none
theorem slices_Clone_byte_ok : ∀ (s_ : List Int), Pn (fun y => Fn Try.prog 184 [(false, E47 s_)] (E47 y) []) (slices_Clone_byte s_)
  | [] => by
    unfold slices_Clone_byte
    exact Pn.ite (fun h => Pn.some (Fn.two [] [.bit true] [.bit false, .cp (List.map E5 []), .nb 1 (.row 5 (List.map E5 []) [])] (p := []) (pT := [true = true]) (pF := [false = false, (List.map E5 []).map V.vw = (List.map E5 []), ([] : List V).length + (List.map E5 []).length ≤ 9223372036854775807, (([] : List V).length + (List.map E5 []).length) * 1 ≤ 140737488355328, Blk.row 5 (([] : List V) ++ (List.map E5 [])) [] = Blk.row 5 (List.map E5 []) []]) (by kernel_rfl) trivial (cj1 rfl) (cj rfl (cj (vw_id (fun _ => rfl) _) (cj (cap1 (capN (by simp) h)) (cj (cap2 (capN (by simp) h) (by decide)) (cj1 rfl))))))) (fun _ => Pn.none)
  | x :: t => by
    unfold slices_Clone_byte
    exact Pn.ite (fun h => Pn.some (Fn.two [] [.bit true] [.bit false, .cp (List.map E5 (x :: t)), .nb 1 (.row 5 (List.map E5 (x :: t)) [])] (p := []) (pT := [false = false, (List.map E5 (x :: t)).map V.vw = (List.map E5 (x :: t)), ([] : List V).length + (List.map E5 (x :: t)).length ≤ 9223372036854775807, (([] : List V).length + (List.map E5 (x :: t)).length) * 1 ≤ 140737488355328, Blk.row 5 (([] : List V) ++ (List.map E5 (x :: t))) [] = Blk.row 5 (List.map E5 (x :: t)) []]) (pF := [false = false, (List.map E5 (x :: t)).map V.vw = (List.map E5 (x :: t)), ([] : List V).length + (List.map E5 (x :: t)).length ≤ 9223372036854775807, (([] : List V).length + (List.map E5 (x :: t)).length) * 1 ≤ 140737488355328, Blk.row 5 (([] : List V) ++ (List.map E5 (x :: t))) [] = Blk.row 5 (List.map E5 (x :: t)) []]) (by kernel_rfl) trivial (cj rfl (cj (vw_id (fun _ => rfl) _) (cj (cap1 (capN (by simp) h)) (cj (cap2 (capN (by simp) h) (by decide)) (cj1 rfl))))) (cj rfl (cj (vw_id (fun _ => rfl) _) (cj (cap1 (capN (by simp) h)) (cj (cap2 (capN (by simp) h) (by decide)) (cj1 rfl))))))) (fun _ => Pn.none)
def impl_copySlots_l0 (l : List Slot) : List Slot → (List Slot) → Option ((List Slot))
  | [], v1 =>
   some v1
  | x1 :: t1, v1 =>
   (slices_Clone_byte x1.Reply).bind fun r1 =>
   if (capOk (v1.length + 1)) = true then
    impl_copySlots_l0 l t1 (v1 ++ [(Slot.mk x1.Trace x1.Mti r1)])
   else none
theorem impl_copySlots_l0_ok (l : List Slot) (h2 : capOk l.length = true) : ∀ (t1 p1 : List Slot) (_ : l = p1 ++ t1) (v1 : List Slot), Pn (LpO Try.prog (sub (codeOf Try.prog 128) [1, 1, 0, 1, 0, 0]) (st 26 [(3, V.ow 0), (7, V.sl false 177 (List.map E177 l)), (8, V.sc (.int .i64 (l.length : Int))), (9, V.sc (.int .i64 (p1.length : Int)))] [Blk.row 177 (List.map E177 v1) []] []) (fun (y : (List Slot)) => (X.out 0, st 26 [(3, V.ow 0)] [Blk.row 177 (List.map E177 y) []] []))) (impl_copySlots_l0 l t1 v1)
  | [], p1, h1, v1 => by
    unfold impl_copySlots_l0
    exact
     Pn.some (LpO.out [.bit false, .mask [3], .ren [0]] (p := [(decide ((p1.length : Int) < (l.length : Int))) = false]) (by kernel_rfl) (show X.out 0 ≠ X.go from nofun) (cj1 (rng_end h1)))
  | x1 :: t1, p1, h1, v1 => by
    unfold impl_copySlots_l0
    exact
     Pn.bind (fun r1 h3 =>
      Pn.ite (fun h4 =>
       LpO.go [.bit true, .el (E177 x1), .draw [10], .call [] (E47 r1) [], .wait 2, .shut 3, .mv, .nb 4 (.row 177 (List.map E177 (v1 ++ [(Slot.mk x1.Trace x1.Mti r1)])) []), .wait 4, .mask [3, 7, 8, 9], .ren [4], .nm 9 (V.sc (.int .i64 ((p1 ++ [x1]).length : Int)))] (p := [(decide ((p1.length : Int) < (l.length : Int))) = true,
        (0 : Int) ≤ (p1.length : Int),
        (List.map E177 l)[(p1.length : Int).toNat]? = some (E177 x1),
        Fn Try.prog 184 [(false, E47 x1.Reply)] (E47 r1) [],
        (true || ((E47 r1).nv && nvL [])) = true,
        (List.map E177 v1).length + [V.agg [V.sc (.string x1.Trace), V.sc (.string x1.Mti), V.sl true 5 (List.map E5 r1)]].length ≤ 9223372036854775807,
        ((List.map E177 v1).length + [V.agg [V.sc (.string x1.Trace), V.sc (.string x1.Mti), V.sl true 5 (List.map E5 r1)]].length) * 56 ≤ 140737488355328,
        Blk.row 177 ((List.map E177 v1) ++ [V.agg [V.sc (.string x1.Trace), V.sc (.string x1.Mti), V.sl true 5 (List.map E5 r1)]]) [] = Blk.row 177 (List.map E177 (v1 ++ [(Slot.mk x1.Trace x1.Mti r1)])) [],
        V.sc (.int .i64 (i64 ((p1.length : Int) + 1))) = V.sc (.int .i64 ((p1 ++ [x1]).length : Int))]) (by kernel_rfl) (cj (rng_lt h1) (cj (by omega) (cj (rng_get _ h1) (cj (slices_Clone_byte_ok x1.Reply r1 h3) (cj rfl (cj (cap1 (capN (by simp) h4)) (cj (cap2 (capN (by simp) h4) (by decide)) (cj (nb_app E177 v1 [(Slot.mk x1.Trace x1.Mti r1)]) (cj1 (rng_next h1 h2)))))))))) (impl_copySlots_l0_ok l h2 t1 (p1 ++ [x1]) (rng_step h1) (v1 ++ [(Slot.mk x1.Trace x1.Mti r1)]))) (fun h4 =>
       Pn.none))
def impl_copySlots (l : List Slot) : Option ((List Slot)) :=
 if (capOk l.length) = true then
  (impl_copySlots_l0 l l []).bind fun r2 =>
  some r2
 else none
theorem impl_copySlots_ok (l : List Slot) : Pn (fun y => Fn Try.prog 128 [(false, E52 l)] (E52 y) []) (impl_copySlots l) := by
  unfold impl_copySlots
  exact
   Pn.ite (fun h5 =>
    Pn.bind (fun r2 h6 =>
     Pn.some (Fn.of [.wait 5, .nm 8 (V.sc (.int .i64 (l.length : Int))), .wait 2, .mask [3, 7, 8, 9], .ren [0], .loop (X.out 0) (st 26 [(3, V.ow 0)] [Blk.row 177 (List.map E177 r2) []] [])] (p := [V.sc (.int .i64 ((List.map E177 l).length : Int)) = V.sc (.int .i64 (l.length : Int)),
      Loop Try.prog (sub (codeOf Try.prog 128) [1, 1, 0, 1, 0, 0]) (st 26 [(3, V.ow 0), (7, V.sl false 177 (List.map E177 l)), (8, V.sc (.int .i64 (l.length : Int))), (9, V.sc (.int .i64 0))] [Blk.row 177 ([] : List V) []] []) (X.out 0) (st 26 [(3, V.ow 0)] [Blk.row 177 (List.map E177 r2) []] [])]) (by kernel_rfl) (cj (len_nm _ _) (cj1 (impl_copySlots_l0_ok l h5 l [] rfl [] r2 h6)))))) (fun h5 =>
    Pn.none)
def impl_Acct_copied (a : Acct) : Option (Acct) :=
 (slices_Clone_impl_Hold a.Holds).bind fun r1 =>
 (impl_Ring_copied a.Ring).bind fun r2 =>
 (impl_copySlots a.Slots).bind fun r3 =>
 some (Acct.mk a.Id a.Limit a.Posted a.Most a.MostSum r1 (Ring.mk r2.Span r2.Head r2.Counts r2.Sums) r3)
theorem impl_Acct_copied_ok (a : Acct) : Pn (fun y => Fn Try.prog 71 [(false, E54 a)] (E54 y) []) (impl_Acct_copied a) := by
  unfold impl_Acct_copied
  exact
   Pn.bind (fun r1 h1 =>
    Pn.bind (fun r2 h2 =>
     Pn.bind (fun r3 h3 =>
      Pn.some (Fn.of [.draw [10, 12, 14], .call [] (E48 r1) [], .call [] (E51 r2) [], .call [] (E52 r3) []] (p := [Fn Try.prog 126 [(false, E48 a.Holds)] (E48 r1) [],
       (true || ((E48 r1).nv && nvL [])) = true,
       Fn Try.prog 127 [(false, E51 a.Ring)] (E51 r2) [],
       (true || ((E51 r2).nv && nvL [])) = true,
       Fn Try.prog 128 [(false, E52 a.Slots)] (E52 r3) [],
       (true || ((E52 r3).nv && nvL [])) = true]) (by kernel_rfl) (cj (slices_Clone_impl_Hold_ok a.Holds r1 h1) (cj rfl (cj (impl_Ring_copied_ok a.Ring r2 h2) (cj rfl (cj (impl_copySlots_ok a.Slots r3 h3) (cj1 rfl))))))))))
def impl_NoSlots_1 (a : Acct) : Option (Acct) :=
 (impl_Acct_copied a).bind fun r1 =>
 some (Acct.mk r1.Id r1.Limit r1.Posted r1.Most r1.MostSum r1.Holds r1.Ring [])
theorem impl_NoSlots_1_ok (a : Acct) : Pn (fun y => Fn Try.prog 70 [(false, E54 a)] (E54 y) []) (impl_NoSlots_1 a) := by
  unfold impl_NoSlots_1
  exact
   Pn.bind (fun r1 h1 =>
    Pn.some (Fn.of [.call [] (E54 r1) []] (p := [Fn Try.prog 71 [(false, E54 a)] (E54 r1) [],
     (true || ((E54 r1).nv && nvL [])) = true]) (by kernel_rfl) (cj (impl_Acct_copied_ok a r1 h1) (cj1 rfl))))
def impl_Book_each_impl_NoSlots_1_l0 (b : Book) : List Acct → (List Acct) → Option ((List Acct))
  | [], v1 =>
   some v1
  | x1 :: t1, v1 =>
   (impl_NoSlots_1 x1).bind fun r1 =>
   if (capOk (v1.length + 1)) = true then
    impl_Book_each_impl_NoSlots_1_l0 b t1 (v1 ++ [r1])
   else none
theorem impl_Book_each_impl_NoSlots_1_l0_ok (b : Book) (h2 : capOk b.Accts.length = true) : ∀ (t1 p1 : List Acct) (_ : b.Accts = p1 ++ t1) (v1 : List Acct), Pn (LpO Try.prog (sub (codeOf Try.prog 69) [1, 1, 0, 1, 0, 0]) (st 26 [(1, V.fn 70 []), (4, V.ptr 0 0), (5, V.ptr 1 0), (10, V.sl false 54 (List.map E54 b.Accts)), (11, V.sc (.int .i64 (b.Accts.length : Int))), (12, V.sc (.int .i64 (p1.length : Int)))] [Blk.box 41 [V.nl 54], Blk.box 41 [V.ow 2], Blk.row 54 (List.map E54 v1) []] []) (fun (y : (List Acct)) => (X.out 0, st 26 [(4, V.ptr 0 0), (5, V.ptr 1 0)] [Blk.box 41 [V.nl 54], Blk.box 41 [V.ow 2], Blk.row 54 (List.map E54 y) []] []))) (impl_Book_each_impl_NoSlots_1_l0 b t1 v1)
  | [], p1, h1, v1 => by
    unfold impl_Book_each_impl_NoSlots_1_l0
    exact
     Pn.some (LpO.out [.bit false, .mask [4, 5], .ren [0, 1, 2]] (p := [(decide ((p1.length : Int) < (b.Accts.length : Int))) = false]) (by kernel_rfl) (show X.out 0 ≠ X.go from nofun) (cj1 (rng_end h1)))
  | x1 :: t1, p1, h1, v1 => by
    unfold impl_Book_each_impl_NoSlots_1_l0
    exact
     Pn.bind (fun r1 h3 =>
      Pn.ite (fun h4 =>
       LpO.go [.bit true, .el (E54 x1), .draw [6, 8], .call [] (E54 r1) [], .wait 1, .shut 8, .mv, .nb 9 (.row 54 (List.map E54 (v1 ++ [r1])) []), .wait 5, .mask [1, 4, 5, 10, 11, 12], .ren [0, 1, 9], .nm 12 (V.sc (.int .i64 ((p1 ++ [x1]).length : Int)))] (p := [(decide ((p1.length : Int) < (b.Accts.length : Int))) = true,
        (0 : Int) ≤ (p1.length : Int),
        (List.map E54 b.Accts)[(p1.length : Int).toNat]? = some (E54 x1),
        Fn Try.prog 70 [(false, E54 x1)] (E54 r1) [],
        (true || ((E54 r1).nv && nvL [])) = true,
        (List.map E54 v1).length + [V.agg [V.sc (.string r1.Id), V.sc (.int .i64 r1.Limit), V.sc (.int .i64 r1.Posted), V.sc (.int .i64 r1.Most), V.sc (.int .i64 r1.MostSum), V.sl true 61 (List.map E61 r1.Holds), V.sc (.int .i64 r1.Ring.Span), V.sc (.int .i64 r1.Ring.Head), V.sl true 3 (List.map E3 r1.Ring.Counts), V.sl true 3 (List.map E3 r1.Ring.Sums), V.sl true 177 (List.map E177 r1.Slots)]].length ≤ 9223372036854775807,
        ((List.map E54 v1).length + [V.agg [V.sc (.string r1.Id), V.sc (.int .i64 r1.Limit), V.sc (.int .i64 r1.Posted), V.sc (.int .i64 r1.Most), V.sc (.int .i64 r1.MostSum), V.sl true 61 (List.map E61 r1.Holds), V.sc (.int .i64 r1.Ring.Span), V.sc (.int .i64 r1.Ring.Head), V.sl true 3 (List.map E3 r1.Ring.Counts), V.sl true 3 (List.map E3 r1.Ring.Sums), V.sl true 177 (List.map E177 r1.Slots)]].length) * 160 ≤ 140737488355328,
        Blk.row 54 ((List.map E54 v1) ++ [V.agg [V.sc (.string r1.Id), V.sc (.int .i64 r1.Limit), V.sc (.int .i64 r1.Posted), V.sc (.int .i64 r1.Most), V.sc (.int .i64 r1.MostSum), V.sl true 61 (List.map E61 r1.Holds), V.sc (.int .i64 r1.Ring.Span), V.sc (.int .i64 r1.Ring.Head), V.sl true 3 (List.map E3 r1.Ring.Counts), V.sl true 3 (List.map E3 r1.Ring.Sums), V.sl true 177 (List.map E177 r1.Slots)]]) [] = Blk.row 54 (List.map E54 (v1 ++ [r1])) [],
        V.sc (.int .i64 (i64 ((p1.length : Int) + 1))) = V.sc (.int .i64 ((p1 ++ [x1]).length : Int))]) (by kernel_rfl) (cj (rng_lt h1) (cj (by omega) (cj (rng_get _ h1) (cj (impl_NoSlots_1_ok x1 r1 h3) (cj rfl (cj (cap1 (capN (by simp) h4)) (cj (cap2 (capN (by simp) h4) (by decide)) (cj (nb_app E54 v1 [r1]) (cj1 (rng_next h1 h2)))))))))) (impl_Book_each_impl_NoSlots_1_l0_ok b h2 t1 (p1 ++ [x1]) (rng_step h1) (v1 ++ [r1]))) (fun h4 =>
       Pn.none))
def impl_Book_each_impl_NoSlots_1 (b : Book) : Option (Book) :=
 if (capOk b.Accts.length) = true then
  (impl_Book_each_impl_NoSlots_1_l0 b b.Accts []).bind fun r2 =>
  some (Book.mk r2)
 else none
theorem impl_Book_each_impl_NoSlots_1_ok (b : Book) : Pn (fun y => Fn Try.prog 69 [(false, E41 b), (false, V.fn 70 [])] (E41 y) []) (impl_Book_each_impl_NoSlots_1 b) := by
  unfold impl_Book_each_impl_NoSlots_1
  exact
   Pn.ite (fun h5 =>
    Pn.bind (fun r2 h6 =>
     Pn.some (Fn.of [.wait 8, .nm 11 (V.sc (.int .i64 (b.Accts.length : Int))), .wait 2, .mask [1, 4, 5, 10, 11, 12], .ren [1, 2], .ownb 1 0, .mask [1, 4, 5, 10, 11, 12], .ren [0, 1, 2], .loop (X.out 0) (st 26 [(4, V.ptr 0 0), (5, V.ptr 1 0)] [Blk.box 41 [V.nl 54], Blk.box 41 [V.ow 2], Blk.row 54 (List.map E54 r2) []] [])] (p := [V.sc (.int .i64 ((List.map E54 b.Accts).length : Int)) = V.sc (.int .i64 (b.Accts.length : Int)),
      Loop Try.prog (sub (codeOf Try.prog 69) [1, 1, 0, 1, 0, 0]) (st 26 [(1, V.fn 70 []), (4, V.ptr 0 0), (5, V.ptr 1 0), (10, V.sl false 54 (List.map E54 b.Accts)), (11, V.sc (.int .i64 (b.Accts.length : Int))), (12, V.sc (.int .i64 0))] [Blk.box 41 [V.nl 54], Blk.box 41 [V.ow 2], Blk.row 54 ([] : List V) []] []) (X.out 0) (st 26 [(4, V.ptr 0 0), (5, V.ptr 1 0)] [Blk.box 41 [V.nl 54], Blk.box 41 [V.ow 2], Blk.row 54 (List.map E54 r2) []] [])]) (by kernel_rfl) (cj (len_nm _ _) (cj1 (impl_Book_each_impl_NoSlots_1_l0_ok b h5 b.Accts [] rfl [] r2 h6)))))) (fun h5 =>
    Pn.none)
def impl_NoSlots (b : Book) : Option (Book) :=
 (impl_Book_each_impl_NoSlots_1 b).bind fun r1 =>
 some r1
theorem impl_NoSlots_ok (b : Book) : Pn (fun y => Fn Try.prog 21 [(false, E41 b)] (E41 y) []) (impl_NoSlots b) := by
  unfold impl_NoSlots
  exact
   Pn.bind (fun r1 h1 =>
    Pn.some (Fn.of [.call [] (E41 r1) []] (p := [Fn Try.prog 69 [(false, E41 b), (false, V.fn 70 [])] (E41 r1) [],
     (true || ((E41 r1).nv && nvL [])) = true]) (by kernel_rfl) (cj (impl_Book_each_impl_NoSlots_1_ok b r1 h1) (cj1 rfl))))
def laws_eqBook (a : Book) (b : Book) : Option (Bool) :=
 (laws_eqAcctS a.Accts b.Accts).bind fun r1 =>
 if r1 = true then
  some true
 else
  some false
theorem laws_eqBook_ok (a : Book) (b : Book) : Pn (fun y => Fn Try.prog 22 [(false, E41 a), (false, E41 b)] (E4 y) []) (laws_eqBook a b) := by
  unfold laws_eqBook
  exact
   Pn.bind (fun r1 h1 =>
    Pn.ite (fun h2 =>
     Pn.some (Fn.of [.call [] (E4 r1) [], .bit false] (p := [Fn Try.prog 72 [(false, E39 a.Accts), (false, E39 b.Accts)] (E4 r1) [],
      (true || ((E4 r1).nv && nvL [])) = true,
      (!r1) = false]) (by kernel_rfl) (cj (laws_eqAcctS_ok a.Accts b.Accts r1 h1) (cj rfl (cj1 (nf h2)))))) (fun h2 =>
     Pn.some (Fn.of [.call [] (E4 r1) [], .bit true] (p := [Fn Try.prog 72 [(false, E39 a.Accts), (false, E39 b.Accts)] (E4 r1) [],
      (true || ((E4 r1).nv && nvL [])) = true,
      (!r1) = true]) (by kernel_rfl) (cj (laws_eqAcctS_ok a.Accts b.Accts r1 h1) (cj rfl (cj1 (nt h2)))))))
def laws_markBook (a : Book) (k : Int) : Option (Int × (List Acct)) :=
 (laws_markAcctS a.Accts k).bind fun r1 =>
 some (r1.1, r1.2)
theorem laws_markBook_ok (a : Book) (k : Int) : Pn (fun y => Fn Try.prog 23 [(true, E41 a), (false, E3 k)] (E3 y.1) [V.sl true 54 (List.map E54 y.2)]) (laws_markBook a k) := by
  unfold laws_markBook
  exact
   Pn.bind (fun r1 h1 =>
    Pn.some (Fn.of [.call [true, false] (E3 r1.1) [V.sl true 54 (List.map E54 r1.2)]] (p := [Fn Try.prog 73 [(true, E39 a.Accts), (false, E3 k)] (E3 r1.1) [V.sl true 54 (List.map E54 r1.2)],
     (true || ((E3 r1.1).nv && nvL [V.sl true 54 (List.map E54 r1.2)])) = true]) (by kernel_rfl) (cj (laws_markAcctS_ok a.Accts k r1 h1) (cj1 rfl))))
def laws_heldHoldS_l0 (a : List Hold) : List Hold → Int → Option (Lo Int Unit)
  | [], v1 =>
   some (.out v1)
  | x1 :: t1, v1 =>
   (laws_markText v1).bind fun r1 =>
   if (x1.Id == r1) = true then
    if (x1.Amount != (i64 (v1 + 1))) = true then
     some (.ret ())
    else
     if (x1.Due != (i64 ((i64 (v1 + 1)) + 1))) = true then
      some (.ret ())
     else
      laws_heldHoldS_l0 a t1 (i64 ((i64 ((i64 (v1 + 1)) + 1)) + 1))
   else
    some (.ret ())
theorem laws_heldHoldS_l0_ok (a : List Hold) (h2 : capOk a.length = true) : ∀ (t1 p1 : List Hold) (_ : a = p1 ++ t1) (v1 : Int), Pn (LpO Try.prog (sub (codeOf Try.prog 133) [1, 0, 1, 0, 0]) (st 41 [(0, V.sl false 61 (List.map E61 a)), (1, V.sc (.int .i64 v1)), (5, V.sc (.int .i64 (p1.length : Int)))] [] []) (fun (y : Lo Int Unit) => Lo.elim y (fun s => (X.out 0, st 41 [(1, V.sc (.int .i64 s))] [] [])) (fun s => (X.ret, st 41 [(4, V.sc (.int .i64 (-1)))] [] [])))) (laws_heldHoldS_l0 a t1 v1)
  | [], p1, h1, v1 => by
    unfold laws_heldHoldS_l0
    exact
     Pn.some (LpO.out [.wait 3, .nm 8 (V.sc (.int .i64 (a.length : Int))), .bit false, .mask [1], .ren []] (p := [V.sc (.int .i64 ((List.map E61 a).length : Int)) = V.sc (.int .i64 (a.length : Int)),
      (decide ((p1.length : Int) < (a.length : Int))) = false]) (by kernel_rfl) (show X.out 0 ≠ X.go from nofun) (cj (len_nm _ _) (cj1 (rng_end h1))))
  | x1 :: t1, p1, h1, v1 => by
    unfold laws_heldHoldS_l0
    exact
     Pn.bind (fun r1 h3 =>
      Pn.ite (fun h4 =>
       Pn.ite (fun h5 =>
        Pn.some (LpO.out [.wait 3, .nm 8 (V.sc (.int .i64 (a.length : Int))), .bit true, .draw [], .el (E61 x1), .call [] (E9 r1) [], .bit false, .el (E61 x1), .bit true, .wait 1, .mask [4], .ren []] (p := [V.sc (.int .i64 ((List.map E61 a).length : Int)) = V.sc (.int .i64 (a.length : Int)),
         (decide ((p1.length : Int) < (a.length : Int))) = true,
         (0 : Int) ≤ (p1.length : Int),
         (List.map E61 a)[(p1.length : Int).toNat]? = some (E61 x1),
         Fn Try.prog 130 [(false, E3 v1)] (E9 r1) [],
         (true || ((E9 r1).nv && nvL [])) = true,
         (!(x1.Id == r1)) = false,
         (0 : Int) ≤ (p1.length : Int),
         (List.map E61 a)[(p1.length : Int).toNat]? = some (E61 x1),
         (x1.Amount != (i64 (v1 + 1))) = true]) (by kernel_rfl) (show X.ret ≠ X.go from nofun) (cj (len_nm _ _) (cj (rng_lt h1) (cj (by omega) (cj (rng_get _ h1) (cj (laws_markText_ok v1 r1 h3) (cj rfl (cj (nf h4) (cj (by omega) (cj (rng_get _ h1) (cj1 h5)))))))))))) (fun h5 =>
        Pn.ite (fun h6 =>
         Pn.some (LpO.out [.wait 3, .nm 8 (V.sc (.int .i64 (a.length : Int))), .bit true, .draw [], .el (E61 x1), .call [] (E9 r1) [], .bit false, .el (E61 x1), .bit false, .el (E61 x1), .bit true, .wait 1, .mask [4], .ren []] (p := [V.sc (.int .i64 ((List.map E61 a).length : Int)) = V.sc (.int .i64 (a.length : Int)),
          (decide ((p1.length : Int) < (a.length : Int))) = true,
          (0 : Int) ≤ (p1.length : Int),
          (List.map E61 a)[(p1.length : Int).toNat]? = some (E61 x1),
          Fn Try.prog 130 [(false, E3 v1)] (E9 r1) [],
          (true || ((E9 r1).nv && nvL [])) = true,
          (!(x1.Id == r1)) = false,
          (0 : Int) ≤ (p1.length : Int),
          (List.map E61 a)[(p1.length : Int).toNat]? = some (E61 x1),
          (x1.Amount != (i64 (v1 + 1))) = false,
          (0 : Int) ≤ (p1.length : Int),
          (List.map E61 a)[(p1.length : Int).toNat]? = some (E61 x1),
          (x1.Due != (i64 ((i64 (v1 + 1)) + 1))) = true]) (by kernel_rfl) (show X.ret ≠ X.go from nofun) (cj (len_nm _ _) (cj (rng_lt h1) (cj (by omega) (cj (rng_get _ h1) (cj (laws_markText_ok v1 r1 h3) (cj rfl (cj (nf h4) (cj (by omega) (cj (rng_get _ h1) (cj h5 (cj (by omega) (cj (rng_get _ h1) (cj1 h6))))))))))))))) (fun h6 =>
         LpO.go [.wait 3, .nm 8 (V.sc (.int .i64 (a.length : Int))), .bit true, .draw [], .el (E61 x1), .call [] (E9 r1) [], .bit false, .el (E61 x1), .bit false, .el (E61 x1), .bit false, .wait 6, .mask [0, 1, 5], .ren [], .nm 5 (V.sc (.int .i64 ((p1 ++ [x1]).length : Int)))] (p := [V.sc (.int .i64 ((List.map E61 a).length : Int)) = V.sc (.int .i64 (a.length : Int)),
          (decide ((p1.length : Int) < (a.length : Int))) = true,
          (0 : Int) ≤ (p1.length : Int),
          (List.map E61 a)[(p1.length : Int).toNat]? = some (E61 x1),
          Fn Try.prog 130 [(false, E3 v1)] (E9 r1) [],
          (true || ((E9 r1).nv && nvL [])) = true,
          (!(x1.Id == r1)) = false,
          (0 : Int) ≤ (p1.length : Int),
          (List.map E61 a)[(p1.length : Int).toNat]? = some (E61 x1),
          (x1.Amount != (i64 (v1 + 1))) = false,
          (0 : Int) ≤ (p1.length : Int),
          (List.map E61 a)[(p1.length : Int).toNat]? = some (E61 x1),
          (x1.Due != (i64 ((i64 (v1 + 1)) + 1))) = false,
          V.sc (.int .i64 (i64 ((p1.length : Int) + 1))) = V.sc (.int .i64 ((p1 ++ [x1]).length : Int))]) (by kernel_rfl) (cj (len_nm _ _) (cj (rng_lt h1) (cj (by omega) (cj (rng_get _ h1) (cj (laws_markText_ok v1 r1 h3) (cj rfl (cj (nf h4) (cj (by omega) (cj (rng_get _ h1) (cj h5 (cj (by omega) (cj (rng_get _ h1) (cj h6 (cj1 (rng_next h1 h2))))))))))))))) (laws_heldHoldS_l0_ok a h2 t1 (p1 ++ [x1]) (rng_step h1) (i64 ((i64 ((i64 (v1 + 1)) + 1)) + 1)))))) (fun h4 =>
       Pn.some (LpO.out [.wait 3, .nm 8 (V.sc (.int .i64 (a.length : Int))), .bit true, .draw [], .el (E61 x1), .call [] (E9 r1) [], .bit true, .wait 1, .mask [4], .ren []] (p := [V.sc (.int .i64 ((List.map E61 a).length : Int)) = V.sc (.int .i64 (a.length : Int)),
        (decide ((p1.length : Int) < (a.length : Int))) = true,
        (0 : Int) ≤ (p1.length : Int),
        (List.map E61 a)[(p1.length : Int).toNat]? = some (E61 x1),
        Fn Try.prog 130 [(false, E3 v1)] (E9 r1) [],
        (true || ((E9 r1).nv && nvL [])) = true,
        (!(x1.Id == r1)) = true]) (by kernel_rfl) (show X.ret ≠ X.go from nofun) (cj (len_nm _ _) (cj (rng_lt h1) (cj (by omega) (cj (rng_get _ h1) (cj (laws_markText_ok v1 r1 h3) (cj rfl (cj1 (nt h4)))))))))))
def laws_heldHoldS (a : List Hold) (k : Int) : Option (Int) :=
 if (capOk a.length) = true then
  (laws_heldHoldS_l0 a a k).bind fun r2 =>
  Lo.elim r2 (fun s1 =>
   some s1) (fun s2 =>
   some (-1))
 else none
theorem laws_heldHoldS_ok (a : List Hold) (k : Int) : Pn (fun y => Fn Try.prog 133 [(false, E48 a), (false, E3 k)] (E3 y) []) (laws_heldHoldS a k) := by
  unfold laws_heldHoldS
  exact
   Pn.ite (fun h7 =>
    Pn.bind (fun r2 h8 =>
     Pn.lo (fun s1 h9 =>
      Pn.some (Fn.of [.wait 3, .mask [0, 1, 5], .ren [], .loop (X.out 0) (st 41 [(1, V.sc (.int .i64 s1))] [] [])] (p := [Loop Try.prog (sub (codeOf Try.prog 133) [1, 0, 1, 0, 0]) (st 41 [(0, V.sl false 61 (List.map E61 a)), (1, V.sc (.int .i64 k)), (5, V.sc (.int .i64 0))] [] []) (X.out 0) (st 41 [(1, V.sc (.int .i64 s1))] [] [])]) (by kernel_rfl) (cj1 ((laws_heldHoldS_l0_ok a h7 a [] rfl k r2 h8).at h9)))) (fun s2 h10 =>
      Pn.some (Fn.of [.wait 3, .mask [0, 1, 5], .ren [], .loop (X.ret) (st 41 [(4, V.sc (.int .i64 (-1)))] [] [])] (p := [Loop Try.prog (sub (codeOf Try.prog 133) [1, 0, 1, 0, 0]) (st 41 [(0, V.sl false 61 (List.map E61 a)), (1, V.sc (.int .i64 k)), (5, V.sc (.int .i64 0))] [] []) (X.ret) (st 41 [(4, V.sc (.int .i64 (-1)))] [] [])]) (by kernel_rfl) (cj1 ((laws_heldHoldS_l0_ok a h7 a [] rfl k r2 h8).at h10)))))) (fun h7 =>
    Pn.none)
def laws_heldByteS_l0 (a : List Int) : List Int → Int → Option (Lo Int Unit)
  | [], v1 =>
   some (.out v1)
  | x1 :: t1, v1 =>
   if (x1 != (u8 v1)) = true then
    some (.ret ())
   else
    laws_heldByteS_l0 a t1 (i64 (v1 + 1))
theorem laws_heldByteS_l0_ok (a : List Int) (h2 : capOk a.length = true) : ∀ (t1 p1 : List Int) (_ : a = p1 ++ t1) (v1 : Int), Pn (LpO Try.prog (sub (codeOf Try.prog 188) [1, 0, 1, 0, 0]) (st 22 [(0, V.sl false 5 (List.map E5 a)), (1, V.sc (.int .i64 v1)), (5, V.sc (.int .i64 (p1.length : Int)))] [] []) (fun (y : Lo Int Unit) => Lo.elim y (fun s => (X.out 0, st 22 [(1, V.sc (.int .i64 s))] [] [])) (fun s => (X.ret, st 22 [(4, V.sc (.int .i64 (-1)))] [] [])))) (laws_heldByteS_l0 a t1 v1)
  | [], p1, h1, v1 => by
    unfold laws_heldByteS_l0
    exact
     Pn.some (LpO.out [.wait 3, .nm 8 (V.sc (.int .i64 (a.length : Int))), .bit false, .mask [1], .ren []] (p := [V.sc (.int .i64 ((List.map E5 a).length : Int)) = V.sc (.int .i64 (a.length : Int)),
      (decide ((p1.length : Int) < (a.length : Int))) = false]) (by kernel_rfl) (show X.out 0 ≠ X.go from nofun) (cj (len_nm _ _) (cj1 (rng_end h1))))
  | x1 :: t1, p1, h1, v1 => by
    unfold laws_heldByteS_l0
    exact
     Pn.ite (fun h3 =>
      Pn.some (LpO.out [.wait 3, .nm 8 (V.sc (.int .i64 (a.length : Int))), .bit true, .el (E5 x1), .bit true, .wait 1, .mask [4], .ren []] (p := [V.sc (.int .i64 ((List.map E5 a).length : Int)) = V.sc (.int .i64 (a.length : Int)),
       (decide ((p1.length : Int) < (a.length : Int))) = true,
       (0 : Int) ≤ (p1.length : Int),
       (List.map E5 a)[(p1.length : Int).toNat]? = some (E5 x1),
       (x1 != (u8 v1)) = true]) (by kernel_rfl) (show X.ret ≠ X.go from nofun) (cj (len_nm _ _) (cj (rng_lt h1) (cj (by omega) (cj (rng_get _ h1) (cj1 h3))))))) (fun h3 =>
      LpO.go [.wait 3, .nm 8 (V.sc (.int .i64 (a.length : Int))), .bit true, .el (E5 x1), .bit false, .wait 6, .mask [0, 1, 5], .ren [], .nm 5 (V.sc (.int .i64 ((p1 ++ [x1]).length : Int)))] (p := [V.sc (.int .i64 ((List.map E5 a).length : Int)) = V.sc (.int .i64 (a.length : Int)),
       (decide ((p1.length : Int) < (a.length : Int))) = true,
       (0 : Int) ≤ (p1.length : Int),
       (List.map E5 a)[(p1.length : Int).toNat]? = some (E5 x1),
       (x1 != (u8 v1)) = false,
       V.sc (.int .i64 (i64 ((p1.length : Int) + 1))) = V.sc (.int .i64 ((p1 ++ [x1]).length : Int))]) (by kernel_rfl) (cj (len_nm _ _) (cj (rng_lt h1) (cj (by omega) (cj (rng_get _ h1) (cj h3 (cj1 (rng_next h1 h2))))))) (laws_heldByteS_l0_ok a h2 t1 (p1 ++ [x1]) (rng_step h1) (i64 (v1 + 1))))
def laws_heldByteS (a : List Int) (k : Int) : Option (Int) :=
 if (capOk a.length) = true then
  (laws_heldByteS_l0 a a k).bind fun r1 =>
  Lo.elim r1 (fun s1 =>
   some s1) (fun s2 =>
   some (-1))
 else none
theorem laws_heldByteS_ok (a : List Int) (k : Int) : Pn (fun y => Fn Try.prog 188 [(false, E47 a), (false, E3 k)] (E3 y) []) (laws_heldByteS a k) := by
  unfold laws_heldByteS
  exact
   Pn.ite (fun h4 =>
    Pn.bind (fun r1 h5 =>
     Pn.lo (fun s1 h6 =>
      Pn.some (Fn.of [.wait 3, .mask [0, 1, 5], .ren [], .loop (X.out 0) (st 22 [(1, V.sc (.int .i64 s1))] [] [])] (p := [Loop Try.prog (sub (codeOf Try.prog 188) [1, 0, 1, 0, 0]) (st 22 [(0, V.sl false 5 (List.map E5 a)), (1, V.sc (.int .i64 k)), (5, V.sc (.int .i64 0))] [] []) (X.out 0) (st 22 [(1, V.sc (.int .i64 s1))] [] [])]) (by kernel_rfl) (cj1 ((laws_heldByteS_l0_ok a h4 a [] rfl k r1 h5).at h6)))) (fun s2 h7 =>
      Pn.some (Fn.of [.wait 3, .mask [0, 1, 5], .ren [], .loop (X.ret) (st 22 [(4, V.sc (.int .i64 (-1)))] [] [])] (p := [Loop Try.prog (sub (codeOf Try.prog 188) [1, 0, 1, 0, 0]) (st 22 [(0, V.sl false 5 (List.map E5 a)), (1, V.sc (.int .i64 k)), (5, V.sc (.int .i64 0))] [] []) (X.ret) (st 22 [(4, V.sc (.int .i64 (-1)))] [] [])]) (by kernel_rfl) (cj1 ((laws_heldByteS_l0_ok a h4 a [] rfl k r1 h5).at h7)))))) (fun h4 =>
    Pn.none)
def laws_heldSlotS_l0 (a : List Slot) : List Slot → Int → Option (Lo Int Unit)
  | [], v1 =>
   some (.out v1)
  | x1 :: t1, v1 =>
   (laws_markText v1).bind fun r1 =>
   if (x1.Trace == r1) = true then
    (laws_markText (i64 (v1 + 1))).bind fun r2 =>
    if (x1.Mti == r2) = true then
     (laws_heldByteS x1.Reply (i64 ((i64 (v1 + 1)) + 1))).bind fun r3 =>
     if (decide (r3 < 0)) = true then
      some (.ret ())
     else
      laws_heldSlotS_l0 a t1 r3
    else
     some (.ret ())
   else
    some (.ret ())
theorem laws_heldSlotS_l0_ok (a : List Slot) (h2 : capOk a.length = true) : ∀ (t1 p1 : List Slot) (_ : a = p1 ++ t1) (v1 : Int), Pn (LpO Try.prog (sub (codeOf Try.prog 134) [1, 0, 1, 0, 0]) (st 42 [(0, V.sl false 177 (List.map E177 a)), (1, V.sc (.int .i64 v1)), (5, V.sc (.int .i64 (p1.length : Int)))] [] []) (fun (y : Lo Int Unit) => Lo.elim y (fun s => (X.out 0, st 42 [(1, V.sc (.int .i64 s))] [] [])) (fun s => (X.ret, st 42 [(4, V.sc (.int .i64 (-1)))] [] [])))) (laws_heldSlotS_l0 a t1 v1)
  | [], p1, h1, v1 => by
    unfold laws_heldSlotS_l0
    exact
     Pn.some (LpO.out [.wait 3, .nm 8 (V.sc (.int .i64 (a.length : Int))), .bit false, .mask [1], .ren []] (p := [V.sc (.int .i64 ((List.map E177 a).length : Int)) = V.sc (.int .i64 (a.length : Int)),
      (decide ((p1.length : Int) < (a.length : Int))) = false]) (by kernel_rfl) (show X.out 0 ≠ X.go from nofun) (cj (len_nm _ _) (cj1 (rng_end h1))))
  | x1 :: t1, p1, h1, v1 => by
    unfold laws_heldSlotS_l0
    exact
     Pn.bind (fun r1 h3 =>
      Pn.ite (fun h4 =>
       Pn.bind (fun r2 h5 =>
        Pn.ite (fun h6 =>
         Pn.bind (fun r3 h7 =>
          Pn.ite (fun h8 =>
           Pn.some (LpO.out [.wait 3, .nm 8 (V.sc (.int .i64 (a.length : Int))), .bit true, .draw [], .el (E177 x1), .call [] (E9 r1) [], .bit false, .draw [], .el (E177 x1), .call [] (E9 r2) [], .bit false, .el (E177 x1), .call [] (E3 r3) [], .bit true, .wait 1, .mask [4], .ren []] (p := [V.sc (.int .i64 ((List.map E177 a).length : Int)) = V.sc (.int .i64 (a.length : Int)),
            (decide ((p1.length : Int) < (a.length : Int))) = true,
            (0 : Int) ≤ (p1.length : Int),
            (List.map E177 a)[(p1.length : Int).toNat]? = some (E177 x1),
            Fn Try.prog 130 [(false, E3 v1)] (E9 r1) [],
            (true || ((E9 r1).nv && nvL [])) = true,
            (!(x1.Trace == r1)) = false,
            (0 : Int) ≤ (p1.length : Int),
            (List.map E177 a)[(p1.length : Int).toNat]? = some (E177 x1),
            Fn Try.prog 130 [(false, E3 (i64 (v1 + 1)))] (E9 r2) [],
            (true || ((E9 r2).nv && nvL [])) = true,
            (!(x1.Mti == r2)) = false,
            (0 : Int) ≤ (p1.length : Int),
            (List.map E177 a)[(p1.length : Int).toNat]? = some (E177 x1),
            Fn Try.prog 188 [(false, E47 x1.Reply), (false, E3 (i64 ((i64 (v1 + 1)) + 1)))] (E3 r3) [],
            (true || ((E3 r3).nv && nvL [])) = true,
            (decide (r3 < 0)) = true]) (by kernel_rfl) (show X.ret ≠ X.go from nofun) (cj (len_nm _ _) (cj (rng_lt h1) (cj (by omega) (cj (rng_get _ h1) (cj (laws_markText_ok v1 r1 h3) (cj rfl (cj (nf h4) (cj (by omega) (cj (rng_get _ h1) (cj (laws_markText_ok (i64 (v1 + 1)) r2 h5) (cj rfl (cj (nf h6) (cj (by omega) (cj (rng_get _ h1) (cj (laws_heldByteS_ok x1.Reply (i64 ((i64 (v1 + 1)) + 1)) r3 h7) (cj rfl (cj1 h8))))))))))))))))))) (fun h8 =>
           LpO.go [.wait 3, .nm 8 (V.sc (.int .i64 (a.length : Int))), .bit true, .draw [], .el (E177 x1), .call [] (E9 r1) [], .bit false, .draw [], .el (E177 x1), .call [] (E9 r2) [], .bit false, .el (E177 x1), .call [] (E3 r3) [], .bit false, .wait 3, .mask [0, 1, 5], .ren [], .nm 5 (V.sc (.int .i64 ((p1 ++ [x1]).length : Int)))] (p := [V.sc (.int .i64 ((List.map E177 a).length : Int)) = V.sc (.int .i64 (a.length : Int)),
            (decide ((p1.length : Int) < (a.length : Int))) = true,
            (0 : Int) ≤ (p1.length : Int),
            (List.map E177 a)[(p1.length : Int).toNat]? = some (E177 x1),
            Fn Try.prog 130 [(false, E3 v1)] (E9 r1) [],
            (true || ((E9 r1).nv && nvL [])) = true,
            (!(x1.Trace == r1)) = false,
            (0 : Int) ≤ (p1.length : Int),
            (List.map E177 a)[(p1.length : Int).toNat]? = some (E177 x1),
            Fn Try.prog 130 [(false, E3 (i64 (v1 + 1)))] (E9 r2) [],
            (true || ((E9 r2).nv && nvL [])) = true,
            (!(x1.Mti == r2)) = false,
            (0 : Int) ≤ (p1.length : Int),
            (List.map E177 a)[(p1.length : Int).toNat]? = some (E177 x1),
            Fn Try.prog 188 [(false, E47 x1.Reply), (false, E3 (i64 ((i64 (v1 + 1)) + 1)))] (E3 r3) [],
            (true || ((E3 r3).nv && nvL [])) = true,
            (decide (r3 < 0)) = false,
            V.sc (.int .i64 (i64 ((p1.length : Int) + 1))) = V.sc (.int .i64 ((p1 ++ [x1]).length : Int))]) (by kernel_rfl) (cj (len_nm _ _) (cj (rng_lt h1) (cj (by omega) (cj (rng_get _ h1) (cj (laws_markText_ok v1 r1 h3) (cj rfl (cj (nf h4) (cj (by omega) (cj (rng_get _ h1) (cj (laws_markText_ok (i64 (v1 + 1)) r2 h5) (cj rfl (cj (nf h6) (cj (by omega) (cj (rng_get _ h1) (cj (laws_heldByteS_ok x1.Reply (i64 ((i64 (v1 + 1)) + 1)) r3 h7) (cj rfl (cj h8 (cj1 (rng_next h1 h2))))))))))))))))))) (laws_heldSlotS_l0_ok a h2 t1 (p1 ++ [x1]) (rng_step h1) r3)))) (fun h6 =>
         Pn.some (LpO.out [.wait 3, .nm 8 (V.sc (.int .i64 (a.length : Int))), .bit true, .draw [], .el (E177 x1), .call [] (E9 r1) [], .bit false, .draw [], .el (E177 x1), .call [] (E9 r2) [], .bit true, .wait 1, .mask [4], .ren []] (p := [V.sc (.int .i64 ((List.map E177 a).length : Int)) = V.sc (.int .i64 (a.length : Int)),
          (decide ((p1.length : Int) < (a.length : Int))) = true,
          (0 : Int) ≤ (p1.length : Int),
          (List.map E177 a)[(p1.length : Int).toNat]? = some (E177 x1),
          Fn Try.prog 130 [(false, E3 v1)] (E9 r1) [],
          (true || ((E9 r1).nv && nvL [])) = true,
          (!(x1.Trace == r1)) = false,
          (0 : Int) ≤ (p1.length : Int),
          (List.map E177 a)[(p1.length : Int).toNat]? = some (E177 x1),
          Fn Try.prog 130 [(false, E3 (i64 (v1 + 1)))] (E9 r2) [],
          (true || ((E9 r2).nv && nvL [])) = true,
          (!(x1.Mti == r2)) = true]) (by kernel_rfl) (show X.ret ≠ X.go from nofun) (cj (len_nm _ _) (cj (rng_lt h1) (cj (by omega) (cj (rng_get _ h1) (cj (laws_markText_ok v1 r1 h3) (cj rfl (cj (nf h4) (cj (by omega) (cj (rng_get _ h1) (cj (laws_markText_ok (i64 (v1 + 1)) r2 h5) (cj rfl (cj1 (nt h6))))))))))))))))) (fun h4 =>
       Pn.some (LpO.out [.wait 3, .nm 8 (V.sc (.int .i64 (a.length : Int))), .bit true, .draw [], .el (E177 x1), .call [] (E9 r1) [], .bit true, .wait 1, .mask [4], .ren []] (p := [V.sc (.int .i64 ((List.map E177 a).length : Int)) = V.sc (.int .i64 (a.length : Int)),
        (decide ((p1.length : Int) < (a.length : Int))) = true,
        (0 : Int) ≤ (p1.length : Int),
        (List.map E177 a)[(p1.length : Int).toNat]? = some (E177 x1),
        Fn Try.prog 130 [(false, E3 v1)] (E9 r1) [],
        (true || ((E9 r1).nv && nvL [])) = true,
        (!(x1.Trace == r1)) = true]) (by kernel_rfl) (show X.ret ≠ X.go from nofun) (cj (len_nm _ _) (cj (rng_lt h1) (cj (by omega) (cj (rng_get _ h1) (cj (laws_markText_ok v1 r1 h3) (cj rfl (cj1 (nt h4)))))))))))
def laws_heldSlotS (a : List Slot) (k : Int) : Option (Int) :=
 if (capOk a.length) = true then
  (laws_heldSlotS_l0 a a k).bind fun r4 =>
  Lo.elim r4 (fun s1 =>
   some s1) (fun s2 =>
   some (-1))
 else none
theorem laws_heldSlotS_ok (a : List Slot) (k : Int) : Pn (fun y => Fn Try.prog 134 [(false, E52 a), (false, E3 k)] (E3 y) []) (laws_heldSlotS a k) := by
  unfold laws_heldSlotS
  exact
   Pn.ite (fun h9 =>
    Pn.bind (fun r4 h10 =>
     Pn.lo (fun s1 h11 =>
      Pn.some (Fn.of [.wait 3, .mask [0, 1, 5], .ren [], .loop (X.out 0) (st 42 [(1, V.sc (.int .i64 s1))] [] [])] (p := [Loop Try.prog (sub (codeOf Try.prog 134) [1, 0, 1, 0, 0]) (st 42 [(0, V.sl false 177 (List.map E177 a)), (1, V.sc (.int .i64 k)), (5, V.sc (.int .i64 0))] [] []) (X.out 0) (st 42 [(1, V.sc (.int .i64 s1))] [] [])]) (by kernel_rfl) (cj1 ((laws_heldSlotS_l0_ok a h9 a [] rfl k r4 h10).at h11)))) (fun s2 h12 =>
      Pn.some (Fn.of [.wait 3, .mask [0, 1, 5], .ren [], .loop (X.ret) (st 42 [(4, V.sc (.int .i64 (-1)))] [] [])] (p := [Loop Try.prog (sub (codeOf Try.prog 134) [1, 0, 1, 0, 0]) (st 42 [(0, V.sl false 177 (List.map E177 a)), (1, V.sc (.int .i64 k)), (5, V.sc (.int .i64 0))] [] []) (X.ret) (st 42 [(4, V.sc (.int .i64 (-1)))] [] [])]) (by kernel_rfl) (cj1 ((laws_heldSlotS_l0_ok a h9 a [] rfl k r4 h10).at h12)))))) (fun h9 =>
    Pn.none)
def laws_heldAcctS_l0 (o : List Acct) : List Acct → Int → Option (Lo Int Unit)
  | [], v1 =>
   some (.out v1)
  | x1 :: t1, v1 =>
   (laws_markText v1).bind fun r1 =>
   if (x1.Id == r1) = true then
    if (x1.Limit != (i64 (v1 + 1))) = true then
     some (.ret ())
    else
     if (x1.Posted != (i64 ((i64 (v1 + 1)) + 1))) = true then
      some (.ret ())
     else
      if (x1.Most != (i64 ((i64 ((i64 (v1 + 1)) + 1)) + 1))) = true then
       some (.ret ())
      else
       if (x1.MostSum != (i64 ((i64 ((i64 ((i64 (v1 + 1)) + 1)) + 1)) + 1))) = true then
        some (.ret ())
       else
        (laws_heldHoldS x1.Holds (i64 ((i64 ((i64 ((i64 ((i64 (v1 + 1)) + 1)) + 1)) + 1)) + 1))).bind fun r2 =>
        if (decide (r2 < 0)) = true then
         some (.ret ())
        else
         if (x1.Ring.Span != r2) = true then
          some (.ret ())
         else
          if (x1.Ring.Head != (i64 (r2 + 1))) = true then
           some (.ret ())
          else
           (laws_heldIntS x1.Ring.Counts (i64 ((i64 (r2 + 1)) + 1))).bind fun r3 =>
           if (decide (r3 < 0)) = true then
            some (.ret ())
           else
            (laws_heldIntS x1.Ring.Sums r3).bind fun r4 =>
            if (decide (r4 < 0)) = true then
             some (.ret ())
            else
             (laws_heldSlotS x1.Slots r4).bind fun r5 =>
             if (decide (r5 < 0)) = true then
              some (.ret ())
             else
              laws_heldAcctS_l0 o t1 r5
   else
    some (.ret ())
theorem laws_heldAcctS_l0_ok (o : List Acct) (h2 : capOk o.length = true) : ∀ (t1 p1 : List Acct) (_ : o = p1 ++ t1) (v1 : Int), Pn (LpO Try.prog (sub (codeOf Try.prog 74) [1, 0, 1, 0, 0]) (st 117 [(0, V.sl false 54 (List.map E54 o)), (1, V.sc (.int .i64 v1)), (5, V.sc (.int .i64 (p1.length : Int)))] [] []) (fun (y : Lo Int Unit) => Lo.elim y (fun s => (X.out 0, st 117 [(1, V.sc (.int .i64 s))] [] [])) (fun s => (X.ret, st 117 [(4, V.sc (.int .i64 (-1)))] [] [])))) (laws_heldAcctS_l0 o t1 v1)
  | [], p1, h1, v1 => by
    unfold laws_heldAcctS_l0
    exact
     Pn.some (LpO.out [.wait 3, .nm 8 (V.sc (.int .i64 (o.length : Int))), .bit false, .mask [1], .ren []] (p := [V.sc (.int .i64 ((List.map E54 o).length : Int)) = V.sc (.int .i64 (o.length : Int)),
      (decide ((p1.length : Int) < (o.length : Int))) = false]) (by kernel_rfl) (show X.out 0 ≠ X.go from nofun) (cj (len_nm _ _) (cj1 (rng_end h1))))
  | x1 :: t1, p1, h1, v1 => by
    unfold laws_heldAcctS_l0
    exact
     Pn.bind (fun r1 h3 =>
      Pn.ite (fun h4 =>
       Pn.ite (fun h5 =>
        Pn.some (LpO.out [.wait 3, .nm 8 (V.sc (.int .i64 (o.length : Int))), .bit true, .draw [], .el (E54 x1), .call [] (E9 r1) [], .bit false, .el (E54 x1), .bit true, .wait 1, .mask [4], .ren []] (p := [V.sc (.int .i64 ((List.map E54 o).length : Int)) = V.sc (.int .i64 (o.length : Int)),
         (decide ((p1.length : Int) < (o.length : Int))) = true,
         (0 : Int) ≤ (p1.length : Int),
         (List.map E54 o)[(p1.length : Int).toNat]? = some (E54 x1),
         Fn Try.prog 130 [(false, E3 v1)] (E9 r1) [],
         (true || ((E9 r1).nv && nvL [])) = true,
         (!(x1.Id == r1)) = false,
         (0 : Int) ≤ (p1.length : Int),
         (List.map E54 o)[(p1.length : Int).toNat]? = some (E54 x1),
         (x1.Limit != (i64 (v1 + 1))) = true]) (by kernel_rfl) (show X.ret ≠ X.go from nofun) (cj (len_nm _ _) (cj (rng_lt h1) (cj (by omega) (cj (rng_get _ h1) (cj (laws_markText_ok v1 r1 h3) (cj rfl (cj (nf h4) (cj (by omega) (cj (rng_get _ h1) (cj1 h5)))))))))))) (fun h5 =>
        Pn.ite (fun h6 =>
         Pn.some (LpO.out [.wait 3, .nm 8 (V.sc (.int .i64 (o.length : Int))), .bit true, .draw [], .el (E54 x1), .call [] (E9 r1) [], .bit false, .el (E54 x1), .bit false, .el (E54 x1), .bit true, .wait 1, .mask [4], .ren []] (p := [V.sc (.int .i64 ((List.map E54 o).length : Int)) = V.sc (.int .i64 (o.length : Int)),
          (decide ((p1.length : Int) < (o.length : Int))) = true,
          (0 : Int) ≤ (p1.length : Int),
          (List.map E54 o)[(p1.length : Int).toNat]? = some (E54 x1),
          Fn Try.prog 130 [(false, E3 v1)] (E9 r1) [],
          (true || ((E9 r1).nv && nvL [])) = true,
          (!(x1.Id == r1)) = false,
          (0 : Int) ≤ (p1.length : Int),
          (List.map E54 o)[(p1.length : Int).toNat]? = some (E54 x1),
          (x1.Limit != (i64 (v1 + 1))) = false,
          (0 : Int) ≤ (p1.length : Int),
          (List.map E54 o)[(p1.length : Int).toNat]? = some (E54 x1),
          (x1.Posted != (i64 ((i64 (v1 + 1)) + 1))) = true]) (by kernel_rfl) (show X.ret ≠ X.go from nofun) (cj (len_nm _ _) (cj (rng_lt h1) (cj (by omega) (cj (rng_get _ h1) (cj (laws_markText_ok v1 r1 h3) (cj rfl (cj (nf h4) (cj (by omega) (cj (rng_get _ h1) (cj h5 (cj (by omega) (cj (rng_get _ h1) (cj1 h6))))))))))))))) (fun h6 =>
         Pn.ite (fun h7 =>
          Pn.some (LpO.out [.wait 3, .nm 8 (V.sc (.int .i64 (o.length : Int))), .bit true, .draw [], .el (E54 x1), .call [] (E9 r1) [], .bit false, .el (E54 x1), .bit false, .el (E54 x1), .bit false, .el (E54 x1), .bit true, .wait 1, .mask [4], .ren []] (p := [V.sc (.int .i64 ((List.map E54 o).length : Int)) = V.sc (.int .i64 (o.length : Int)),
           (decide ((p1.length : Int) < (o.length : Int))) = true,
           (0 : Int) ≤ (p1.length : Int),
           (List.map E54 o)[(p1.length : Int).toNat]? = some (E54 x1),
           Fn Try.prog 130 [(false, E3 v1)] (E9 r1) [],
           (true || ((E9 r1).nv && nvL [])) = true,
           (!(x1.Id == r1)) = false,
           (0 : Int) ≤ (p1.length : Int),
           (List.map E54 o)[(p1.length : Int).toNat]? = some (E54 x1),
           (x1.Limit != (i64 (v1 + 1))) = false,
           (0 : Int) ≤ (p1.length : Int),
           (List.map E54 o)[(p1.length : Int).toNat]? = some (E54 x1),
           (x1.Posted != (i64 ((i64 (v1 + 1)) + 1))) = false,
           (0 : Int) ≤ (p1.length : Int),
           (List.map E54 o)[(p1.length : Int).toNat]? = some (E54 x1),
           (x1.Most != (i64 ((i64 ((i64 (v1 + 1)) + 1)) + 1))) = true]) (by kernel_rfl) (show X.ret ≠ X.go from nofun) (cj (len_nm _ _) (cj (rng_lt h1) (cj (by omega) (cj (rng_get _ h1) (cj (laws_markText_ok v1 r1 h3) (cj rfl (cj (nf h4) (cj (by omega) (cj (rng_get _ h1) (cj h5 (cj (by omega) (cj (rng_get _ h1) (cj h6 (cj (by omega) (cj (rng_get _ h1) (cj1 h7)))))))))))))))))) (fun h7 =>
          Pn.ite (fun h8 =>
           Pn.some (LpO.out [.wait 3, .nm 8 (V.sc (.int .i64 (o.length : Int))), .bit true, .draw [], .el (E54 x1), .call [] (E9 r1) [], .bit false, .el (E54 x1), .bit false, .el (E54 x1), .bit false, .el (E54 x1), .bit false, .el (E54 x1), .bit true, .wait 1, .mask [4], .ren []] (p := [V.sc (.int .i64 ((List.map E54 o).length : Int)) = V.sc (.int .i64 (o.length : Int)),
            (decide ((p1.length : Int) < (o.length : Int))) = true,
            (0 : Int) ≤ (p1.length : Int),
            (List.map E54 o)[(p1.length : Int).toNat]? = some (E54 x1),
            Fn Try.prog 130 [(false, E3 v1)] (E9 r1) [],
            (true || ((E9 r1).nv && nvL [])) = true,
            (!(x1.Id == r1)) = false,
            (0 : Int) ≤ (p1.length : Int),
            (List.map E54 o)[(p1.length : Int).toNat]? = some (E54 x1),
            (x1.Limit != (i64 (v1 + 1))) = false,
            (0 : Int) ≤ (p1.length : Int),
            (List.map E54 o)[(p1.length : Int).toNat]? = some (E54 x1),
            (x1.Posted != (i64 ((i64 (v1 + 1)) + 1))) = false,
            (0 : Int) ≤ (p1.length : Int),
            (List.map E54 o)[(p1.length : Int).toNat]? = some (E54 x1),
            (x1.Most != (i64 ((i64 ((i64 (v1 + 1)) + 1)) + 1))) = false,
            (0 : Int) ≤ (p1.length : Int),
            (List.map E54 o)[(p1.length : Int).toNat]? = some (E54 x1),
            (x1.MostSum != (i64 ((i64 ((i64 ((i64 (v1 + 1)) + 1)) + 1)) + 1))) = true]) (by kernel_rfl) (show X.ret ≠ X.go from nofun) (cj (len_nm _ _) (cj (rng_lt h1) (cj (by omega) (cj (rng_get _ h1) (cj (laws_markText_ok v1 r1 h3) (cj rfl (cj (nf h4) (cj (by omega) (cj (rng_get _ h1) (cj h5 (cj (by omega) (cj (rng_get _ h1) (cj h6 (cj (by omega) (cj (rng_get _ h1) (cj h7 (cj (by omega) (cj (rng_get _ h1) (cj1 h8))))))))))))))))))))) (fun h8 =>
           Pn.bind (fun r2 h9 =>
            Pn.ite (fun h10 =>
             Pn.some (LpO.out [.wait 3, .nm 8 (V.sc (.int .i64 (o.length : Int))), .bit true, .draw [], .el (E54 x1), .call [] (E9 r1) [], .bit false, .el (E54 x1), .bit false, .el (E54 x1), .bit false, .el (E54 x1), .bit false, .el (E54 x1), .bit false, .el (E54 x1), .call [] (E3 r2) [], .bit true, .wait 1, .mask [4], .ren []] (p := [V.sc (.int .i64 ((List.map E54 o).length : Int)) = V.sc (.int .i64 (o.length : Int)),
              (decide ((p1.length : Int) < (o.length : Int))) = true,
              (0 : Int) ≤ (p1.length : Int),
              (List.map E54 o)[(p1.length : Int).toNat]? = some (E54 x1),
              Fn Try.prog 130 [(false, E3 v1)] (E9 r1) [],
              (true || ((E9 r1).nv && nvL [])) = true,
              (!(x1.Id == r1)) = false,
              (0 : Int) ≤ (p1.length : Int),
              (List.map E54 o)[(p1.length : Int).toNat]? = some (E54 x1),
              (x1.Limit != (i64 (v1 + 1))) = false,
              (0 : Int) ≤ (p1.length : Int),
              (List.map E54 o)[(p1.length : Int).toNat]? = some (E54 x1),
              (x1.Posted != (i64 ((i64 (v1 + 1)) + 1))) = false,
              (0 : Int) ≤ (p1.length : Int),
              (List.map E54 o)[(p1.length : Int).toNat]? = some (E54 x1),
              (x1.Most != (i64 ((i64 ((i64 (v1 + 1)) + 1)) + 1))) = false,
              (0 : Int) ≤ (p1.length : Int),
              (List.map E54 o)[(p1.length : Int).toNat]? = some (E54 x1),
              (x1.MostSum != (i64 ((i64 ((i64 ((i64 (v1 + 1)) + 1)) + 1)) + 1))) = false,
              (0 : Int) ≤ (p1.length : Int),
              (List.map E54 o)[(p1.length : Int).toNat]? = some (E54 x1),
              Fn Try.prog 133 [(false, E48 x1.Holds), (false, E3 (i64 ((i64 ((i64 ((i64 ((i64 (v1 + 1)) + 1)) + 1)) + 1)) + 1)))] (E3 r2) [],
              (true || ((E3 r2).nv && nvL [])) = true,
              (decide (r2 < 0)) = true]) (by kernel_rfl) (show X.ret ≠ X.go from nofun) (cj (len_nm _ _) (cj (rng_lt h1) (cj (by omega) (cj (rng_get _ h1) (cj (laws_markText_ok v1 r1 h3) (cj rfl (cj (nf h4) (cj (by omega) (cj (rng_get _ h1) (cj h5 (cj (by omega) (cj (rng_get _ h1) (cj h6 (cj (by omega) (cj (rng_get _ h1) (cj h7 (cj (by omega) (cj (rng_get _ h1) (cj h8 (cj (by omega) (cj (rng_get _ h1) (cj (laws_heldHoldS_ok x1.Holds (i64 ((i64 ((i64 ((i64 ((i64 (v1 + 1)) + 1)) + 1)) + 1)) + 1)) r2 h9) (cj rfl (cj1 h10)))))))))))))))))))))))))) (fun h10 =>
             Pn.ite (fun h11 =>
              Pn.some (LpO.out [.wait 3, .nm 8 (V.sc (.int .i64 (o.length : Int))), .bit true, .draw [], .el (E54 x1), .call [] (E9 r1) [], .bit false, .el (E54 x1), .bit false, .el (E54 x1), .bit false, .el (E54 x1), .bit false, .el (E54 x1), .bit false, .el (E54 x1), .call [] (E3 r2) [], .bit false, .el (E54 x1), .bit true, .wait 1, .mask [4], .ren []] (p := [V.sc (.int .i64 ((List.map E54 o).length : Int)) = V.sc (.int .i64 (o.length : Int)),
               (decide ((p1.length : Int) < (o.length : Int))) = true,
               (0 : Int) ≤ (p1.length : Int),
               (List.map E54 o)[(p1.length : Int).toNat]? = some (E54 x1),
               Fn Try.prog 130 [(false, E3 v1)] (E9 r1) [],
               (true || ((E9 r1).nv && nvL [])) = true,
               (!(x1.Id == r1)) = false,
               (0 : Int) ≤ (p1.length : Int),
               (List.map E54 o)[(p1.length : Int).toNat]? = some (E54 x1),
               (x1.Limit != (i64 (v1 + 1))) = false,
               (0 : Int) ≤ (p1.length : Int),
               (List.map E54 o)[(p1.length : Int).toNat]? = some (E54 x1),
               (x1.Posted != (i64 ((i64 (v1 + 1)) + 1))) = false,
               (0 : Int) ≤ (p1.length : Int),
               (List.map E54 o)[(p1.length : Int).toNat]? = some (E54 x1),
               (x1.Most != (i64 ((i64 ((i64 (v1 + 1)) + 1)) + 1))) = false,
               (0 : Int) ≤ (p1.length : Int),
               (List.map E54 o)[(p1.length : Int).toNat]? = some (E54 x1),
               (x1.MostSum != (i64 ((i64 ((i64 ((i64 (v1 + 1)) + 1)) + 1)) + 1))) = false,
               (0 : Int) ≤ (p1.length : Int),
               (List.map E54 o)[(p1.length : Int).toNat]? = some (E54 x1),
               Fn Try.prog 133 [(false, E48 x1.Holds), (false, E3 (i64 ((i64 ((i64 ((i64 ((i64 (v1 + 1)) + 1)) + 1)) + 1)) + 1)))] (E3 r2) [],
               (true || ((E3 r2).nv && nvL [])) = true,
               (decide (r2 < 0)) = false,
               (0 : Int) ≤ (p1.length : Int),
               (List.map E54 o)[(p1.length : Int).toNat]? = some (E54 x1),
               (x1.Ring.Span != r2) = true]) (by kernel_rfl) (show X.ret ≠ X.go from nofun) (cj (len_nm _ _) (cj (rng_lt h1) (cj (by omega) (cj (rng_get _ h1) (cj (laws_markText_ok v1 r1 h3) (cj rfl (cj (nf h4) (cj (by omega) (cj (rng_get _ h1) (cj h5 (cj (by omega) (cj (rng_get _ h1) (cj h6 (cj (by omega) (cj (rng_get _ h1) (cj h7 (cj (by omega) (cj (rng_get _ h1) (cj h8 (cj (by omega) (cj (rng_get _ h1) (cj (laws_heldHoldS_ok x1.Holds (i64 ((i64 ((i64 ((i64 ((i64 (v1 + 1)) + 1)) + 1)) + 1)) + 1)) r2 h9) (cj rfl (cj h10 (cj (by omega) (cj (rng_get _ h1) (cj1 h11))))))))))))))))))))))))))))) (fun h11 =>
              Pn.ite (fun h12 =>
               Pn.some (LpO.out [.wait 3, .nm 8 (V.sc (.int .i64 (o.length : Int))), .bit true, .draw [], .el (E54 x1), .call [] (E9 r1) [], .bit false, .el (E54 x1), .bit false, .el (E54 x1), .bit false, .el (E54 x1), .bit false, .el (E54 x1), .bit false, .el (E54 x1), .call [] (E3 r2) [], .bit false, .el (E54 x1), .bit false, .el (E54 x1), .bit true, .wait 1, .mask [4], .ren []] (p := [V.sc (.int .i64 ((List.map E54 o).length : Int)) = V.sc (.int .i64 (o.length : Int)),
                (decide ((p1.length : Int) < (o.length : Int))) = true,
                (0 : Int) ≤ (p1.length : Int),
                (List.map E54 o)[(p1.length : Int).toNat]? = some (E54 x1),
                Fn Try.prog 130 [(false, E3 v1)] (E9 r1) [],
                (true || ((E9 r1).nv && nvL [])) = true,
                (!(x1.Id == r1)) = false,
                (0 : Int) ≤ (p1.length : Int),
                (List.map E54 o)[(p1.length : Int).toNat]? = some (E54 x1),
                (x1.Limit != (i64 (v1 + 1))) = false,
                (0 : Int) ≤ (p1.length : Int),
                (List.map E54 o)[(p1.length : Int).toNat]? = some (E54 x1),
                (x1.Posted != (i64 ((i64 (v1 + 1)) + 1))) = false,
                (0 : Int) ≤ (p1.length : Int),
                (List.map E54 o)[(p1.length : Int).toNat]? = some (E54 x1),
                (x1.Most != (i64 ((i64 ((i64 (v1 + 1)) + 1)) + 1))) = false,
                (0 : Int) ≤ (p1.length : Int),
                (List.map E54 o)[(p1.length : Int).toNat]? = some (E54 x1),
                (x1.MostSum != (i64 ((i64 ((i64 ((i64 (v1 + 1)) + 1)) + 1)) + 1))) = false,
                (0 : Int) ≤ (p1.length : Int),
                (List.map E54 o)[(p1.length : Int).toNat]? = some (E54 x1),
                Fn Try.prog 133 [(false, E48 x1.Holds), (false, E3 (i64 ((i64 ((i64 ((i64 ((i64 (v1 + 1)) + 1)) + 1)) + 1)) + 1)))] (E3 r2) [],
                (true || ((E3 r2).nv && nvL [])) = true,
                (decide (r2 < 0)) = false,
                (0 : Int) ≤ (p1.length : Int),
                (List.map E54 o)[(p1.length : Int).toNat]? = some (E54 x1),
                (x1.Ring.Span != r2) = false,
                (0 : Int) ≤ (p1.length : Int),
                (List.map E54 o)[(p1.length : Int).toNat]? = some (E54 x1),
                (x1.Ring.Head != (i64 (r2 + 1))) = true]) (by kernel_rfl) (show X.ret ≠ X.go from nofun) (cj (len_nm _ _) (cj (rng_lt h1) (cj (by omega) (cj (rng_get _ h1) (cj (laws_markText_ok v1 r1 h3) (cj rfl (cj (nf h4) (cj (by omega) (cj (rng_get _ h1) (cj h5 (cj (by omega) (cj (rng_get _ h1) (cj h6 (cj (by omega) (cj (rng_get _ h1) (cj h7 (cj (by omega) (cj (rng_get _ h1) (cj h8 (cj (by omega) (cj (rng_get _ h1) (cj (laws_heldHoldS_ok x1.Holds (i64 ((i64 ((i64 ((i64 ((i64 (v1 + 1)) + 1)) + 1)) + 1)) + 1)) r2 h9) (cj rfl (cj h10 (cj (by omega) (cj (rng_get _ h1) (cj h11 (cj (by omega) (cj (rng_get _ h1) (cj1 h12)))))))))))))))))))))))))))))))) (fun h12 =>
               Pn.bind (fun r3 h13 =>
                Pn.ite (fun h14 =>
                 Pn.some (LpO.out [.wait 3, .nm 8 (V.sc (.int .i64 (o.length : Int))), .bit true, .draw [], .el (E54 x1), .call [] (E9 r1) [], .bit false, .el (E54 x1), .bit false, .el (E54 x1), .bit false, .el (E54 x1), .bit false, .el (E54 x1), .bit false, .el (E54 x1), .call [] (E3 r2) [], .bit false, .el (E54 x1), .bit false, .el (E54 x1), .bit false, .el (E54 x1), .call [] (E3 r3) [], .bit true, .wait 1, .mask [4], .ren []] (p := [V.sc (.int .i64 ((List.map E54 o).length : Int)) = V.sc (.int .i64 (o.length : Int)),
                  (decide ((p1.length : Int) < (o.length : Int))) = true,
                  (0 : Int) ≤ (p1.length : Int),
                  (List.map E54 o)[(p1.length : Int).toNat]? = some (E54 x1),
                  Fn Try.prog 130 [(false, E3 v1)] (E9 r1) [],
                  (true || ((E9 r1).nv && nvL [])) = true,
                  (!(x1.Id == r1)) = false,
                  (0 : Int) ≤ (p1.length : Int),
                  (List.map E54 o)[(p1.length : Int).toNat]? = some (E54 x1),
                  (x1.Limit != (i64 (v1 + 1))) = false,
                  (0 : Int) ≤ (p1.length : Int),
                  (List.map E54 o)[(p1.length : Int).toNat]? = some (E54 x1),
                  (x1.Posted != (i64 ((i64 (v1 + 1)) + 1))) = false,
                  (0 : Int) ≤ (p1.length : Int),
                  (List.map E54 o)[(p1.length : Int).toNat]? = some (E54 x1),
                  (x1.Most != (i64 ((i64 ((i64 (v1 + 1)) + 1)) + 1))) = false,
                  (0 : Int) ≤ (p1.length : Int),
                  (List.map E54 o)[(p1.length : Int).toNat]? = some (E54 x1),
                  (x1.MostSum != (i64 ((i64 ((i64 ((i64 (v1 + 1)) + 1)) + 1)) + 1))) = false,
                  (0 : Int) ≤ (p1.length : Int),
                  (List.map E54 o)[(p1.length : Int).toNat]? = some (E54 x1),
                  Fn Try.prog 133 [(false, E48 x1.Holds), (false, E3 (i64 ((i64 ((i64 ((i64 ((i64 (v1 + 1)) + 1)) + 1)) + 1)) + 1)))] (E3 r2) [],
                  (true || ((E3 r2).nv && nvL [])) = true,
                  (decide (r2 < 0)) = false,
                  (0 : Int) ≤ (p1.length : Int),
                  (List.map E54 o)[(p1.length : Int).toNat]? = some (E54 x1),
                  (x1.Ring.Span != r2) = false,
                  (0 : Int) ≤ (p1.length : Int),
                  (List.map E54 o)[(p1.length : Int).toNat]? = some (E54 x1),
                  (x1.Ring.Head != (i64 (r2 + 1))) = false,
                  (0 : Int) ≤ (p1.length : Int),
                  (List.map E54 o)[(p1.length : Int).toNat]? = some (E54 x1),
                  Fn Try.prog 38 [(false, E49 x1.Ring.Counts), (false, E3 (i64 ((i64 (r2 + 1)) + 1)))] (E3 r3) [],
                  (true || ((E3 r3).nv && nvL [])) = true,
                  (decide (r3 < 0)) = true]) (by kernel_rfl) (show X.ret ≠ X.go from nofun) (cj (len_nm _ _) (cj (rng_lt h1) (cj (by omega) (cj (rng_get _ h1) (cj (laws_markText_ok v1 r1 h3) (cj rfl (cj (nf h4) (cj (by omega) (cj (rng_get _ h1) (cj h5 (cj (by omega) (cj (rng_get _ h1) (cj h6 (cj (by omega) (cj (rng_get _ h1) (cj h7 (cj (by omega) (cj (rng_get _ h1) (cj h8 (cj (by omega) (cj (rng_get _ h1) (cj (laws_heldHoldS_ok x1.Holds (i64 ((i64 ((i64 ((i64 ((i64 (v1 + 1)) + 1)) + 1)) + 1)) + 1)) r2 h9) (cj rfl (cj h10 (cj (by omega) (cj (rng_get _ h1) (cj h11 (cj (by omega) (cj (rng_get _ h1) (cj h12 (cj (by omega) (cj (rng_get _ h1) (cj (laws_heldIntS_ok x1.Ring.Counts (i64 ((i64 (r2 + 1)) + 1)) r3 h13) (cj rfl (cj1 h14))))))))))))))))))))))))))))))))))))) (fun h14 =>
                 Pn.bind (fun r4 h15 =>
                  Pn.ite (fun h16 =>
                   Pn.some (LpO.out [.wait 3, .nm 8 (V.sc (.int .i64 (o.length : Int))), .bit true, .draw [], .el (E54 x1), .call [] (E9 r1) [], .bit false, .el (E54 x1), .bit false, .el (E54 x1), .bit false, .el (E54 x1), .bit false, .el (E54 x1), .bit false, .el (E54 x1), .call [] (E3 r2) [], .bit false, .el (E54 x1), .bit false, .el (E54 x1), .bit false, .el (E54 x1), .call [] (E3 r3) [], .bit false, .el (E54 x1), .call [] (E3 r4) [], .bit true, .wait 1, .mask [4], .ren []] (p := [V.sc (.int .i64 ((List.map E54 o).length : Int)) = V.sc (.int .i64 (o.length : Int)),
                    (decide ((p1.length : Int) < (o.length : Int))) = true,
                    (0 : Int) ≤ (p1.length : Int),
                    (List.map E54 o)[(p1.length : Int).toNat]? = some (E54 x1),
                    Fn Try.prog 130 [(false, E3 v1)] (E9 r1) [],
                    (true || ((E9 r1).nv && nvL [])) = true,
                    (!(x1.Id == r1)) = false,
                    (0 : Int) ≤ (p1.length : Int),
                    (List.map E54 o)[(p1.length : Int).toNat]? = some (E54 x1),
                    (x1.Limit != (i64 (v1 + 1))) = false,
                    (0 : Int) ≤ (p1.length : Int),
                    (List.map E54 o)[(p1.length : Int).toNat]? = some (E54 x1),
                    (x1.Posted != (i64 ((i64 (v1 + 1)) + 1))) = false,
                    (0 : Int) ≤ (p1.length : Int),
                    (List.map E54 o)[(p1.length : Int).toNat]? = some (E54 x1),
                    (x1.Most != (i64 ((i64 ((i64 (v1 + 1)) + 1)) + 1))) = false,
                    (0 : Int) ≤ (p1.length : Int),
                    (List.map E54 o)[(p1.length : Int).toNat]? = some (E54 x1),
                    (x1.MostSum != (i64 ((i64 ((i64 ((i64 (v1 + 1)) + 1)) + 1)) + 1))) = false,
                    (0 : Int) ≤ (p1.length : Int),
                    (List.map E54 o)[(p1.length : Int).toNat]? = some (E54 x1),
                    Fn Try.prog 133 [(false, E48 x1.Holds), (false, E3 (i64 ((i64 ((i64 ((i64 ((i64 (v1 + 1)) + 1)) + 1)) + 1)) + 1)))] (E3 r2) [],
                    (true || ((E3 r2).nv && nvL [])) = true,
                    (decide (r2 < 0)) = false,
                    (0 : Int) ≤ (p1.length : Int),
                    (List.map E54 o)[(p1.length : Int).toNat]? = some (E54 x1),
                    (x1.Ring.Span != r2) = false,
                    (0 : Int) ≤ (p1.length : Int),
                    (List.map E54 o)[(p1.length : Int).toNat]? = some (E54 x1),
                    (x1.Ring.Head != (i64 (r2 + 1))) = false,
                    (0 : Int) ≤ (p1.length : Int),
                    (List.map E54 o)[(p1.length : Int).toNat]? = some (E54 x1),
                    Fn Try.prog 38 [(false, E49 x1.Ring.Counts), (false, E3 (i64 ((i64 (r2 + 1)) + 1)))] (E3 r3) [],
                    (true || ((E3 r3).nv && nvL [])) = true,
                    (decide (r3 < 0)) = false,
                    (0 : Int) ≤ (p1.length : Int),
                    (List.map E54 o)[(p1.length : Int).toNat]? = some (E54 x1),
                    Fn Try.prog 38 [(false, E49 x1.Ring.Sums), (false, E3 r3)] (E3 r4) [],
                    (true || ((E3 r4).nv && nvL [])) = true,
                    (decide (r4 < 0)) = true]) (by kernel_rfl) (show X.ret ≠ X.go from nofun) (cj (len_nm _ _) (cj (rng_lt h1) (cj (by omega) (cj (rng_get _ h1) (cj (laws_markText_ok v1 r1 h3) (cj rfl (cj (nf h4) (cj (by omega) (cj (rng_get _ h1) (cj h5 (cj (by omega) (cj (rng_get _ h1) (cj h6 (cj (by omega) (cj (rng_get _ h1) (cj h7 (cj (by omega) (cj (rng_get _ h1) (cj h8 (cj (by omega) (cj (rng_get _ h1) (cj (laws_heldHoldS_ok x1.Holds (i64 ((i64 ((i64 ((i64 ((i64 (v1 + 1)) + 1)) + 1)) + 1)) + 1)) r2 h9) (cj rfl (cj h10 (cj (by omega) (cj (rng_get _ h1) (cj h11 (cj (by omega) (cj (rng_get _ h1) (cj h12 (cj (by omega) (cj (rng_get _ h1) (cj (laws_heldIntS_ok x1.Ring.Counts (i64 ((i64 (r2 + 1)) + 1)) r3 h13) (cj rfl (cj h14 (cj (by omega) (cj (rng_get _ h1) (cj (laws_heldIntS_ok x1.Ring.Sums r3 r4 h15) (cj rfl (cj1 h16)))))))))))))))))))))))))))))))))))))))))) (fun h16 =>
                   Pn.bind (fun r5 h17 =>
                    Pn.ite (fun h18 =>
                     Pn.some (LpO.out [.wait 3, .nm 8 (V.sc (.int .i64 (o.length : Int))), .bit true, .draw [], .el (E54 x1), .call [] (E9 r1) [], .bit false, .el (E54 x1), .bit false, .el (E54 x1), .bit false, .el (E54 x1), .bit false, .el (E54 x1), .bit false, .el (E54 x1), .call [] (E3 r2) [], .bit false, .el (E54 x1), .bit false, .el (E54 x1), .bit false, .el (E54 x1), .call [] (E3 r3) [], .bit false, .el (E54 x1), .call [] (E3 r4) [], .bit false, .el (E54 x1), .call [] (E3 r5) [], .bit true, .wait 1, .mask [4], .ren []] (p := [V.sc (.int .i64 ((List.map E54 o).length : Int)) = V.sc (.int .i64 (o.length : Int)),
                      (decide ((p1.length : Int) < (o.length : Int))) = true,
                      (0 : Int) ≤ (p1.length : Int),
                      (List.map E54 o)[(p1.length : Int).toNat]? = some (E54 x1),
                      Fn Try.prog 130 [(false, E3 v1)] (E9 r1) [],
                      (true || ((E9 r1).nv && nvL [])) = true,
                      (!(x1.Id == r1)) = false,
                      (0 : Int) ≤ (p1.length : Int),
                      (List.map E54 o)[(p1.length : Int).toNat]? = some (E54 x1),
                      (x1.Limit != (i64 (v1 + 1))) = false,
                      (0 : Int) ≤ (p1.length : Int),
                      (List.map E54 o)[(p1.length : Int).toNat]? = some (E54 x1),
                      (x1.Posted != (i64 ((i64 (v1 + 1)) + 1))) = false,
                      (0 : Int) ≤ (p1.length : Int),
                      (List.map E54 o)[(p1.length : Int).toNat]? = some (E54 x1),
                      (x1.Most != (i64 ((i64 ((i64 (v1 + 1)) + 1)) + 1))) = false,
                      (0 : Int) ≤ (p1.length : Int),
                      (List.map E54 o)[(p1.length : Int).toNat]? = some (E54 x1),
                      (x1.MostSum != (i64 ((i64 ((i64 ((i64 (v1 + 1)) + 1)) + 1)) + 1))) = false,
                      (0 : Int) ≤ (p1.length : Int),
                      (List.map E54 o)[(p1.length : Int).toNat]? = some (E54 x1),
                      Fn Try.prog 133 [(false, E48 x1.Holds), (false, E3 (i64 ((i64 ((i64 ((i64 ((i64 (v1 + 1)) + 1)) + 1)) + 1)) + 1)))] (E3 r2) [],
                      (true || ((E3 r2).nv && nvL [])) = true,
                      (decide (r2 < 0)) = false,
                      (0 : Int) ≤ (p1.length : Int),
                      (List.map E54 o)[(p1.length : Int).toNat]? = some (E54 x1),
                      (x1.Ring.Span != r2) = false,
                      (0 : Int) ≤ (p1.length : Int),
                      (List.map E54 o)[(p1.length : Int).toNat]? = some (E54 x1),
                      (x1.Ring.Head != (i64 (r2 + 1))) = false,
                      (0 : Int) ≤ (p1.length : Int),
                      (List.map E54 o)[(p1.length : Int).toNat]? = some (E54 x1),
                      Fn Try.prog 38 [(false, E49 x1.Ring.Counts), (false, E3 (i64 ((i64 (r2 + 1)) + 1)))] (E3 r3) [],
                      (true || ((E3 r3).nv && nvL [])) = true,
                      (decide (r3 < 0)) = false,
                      (0 : Int) ≤ (p1.length : Int),
                      (List.map E54 o)[(p1.length : Int).toNat]? = some (E54 x1),
                      Fn Try.prog 38 [(false, E49 x1.Ring.Sums), (false, E3 r3)] (E3 r4) [],
                      (true || ((E3 r4).nv && nvL [])) = true,
                      (decide (r4 < 0)) = false,
                      (0 : Int) ≤ (p1.length : Int),
                      (List.map E54 o)[(p1.length : Int).toNat]? = some (E54 x1),
                      Fn Try.prog 134 [(false, E52 x1.Slots), (false, E3 r4)] (E3 r5) [],
                      (true || ((E3 r5).nv && nvL [])) = true,
                      (decide (r5 < 0)) = true]) (by kernel_rfl) (show X.ret ≠ X.go from nofun) (cj (len_nm _ _) (cj (rng_lt h1) (cj (by omega) (cj (rng_get _ h1) (cj (laws_markText_ok v1 r1 h3) (cj rfl (cj (nf h4) (cj (by omega) (cj (rng_get _ h1) (cj h5 (cj (by omega) (cj (rng_get _ h1) (cj h6 (cj (by omega) (cj (rng_get _ h1) (cj h7 (cj (by omega) (cj (rng_get _ h1) (cj h8 (cj (by omega) (cj (rng_get _ h1) (cj (laws_heldHoldS_ok x1.Holds (i64 ((i64 ((i64 ((i64 ((i64 (v1 + 1)) + 1)) + 1)) + 1)) + 1)) r2 h9) (cj rfl (cj h10 (cj (by omega) (cj (rng_get _ h1) (cj h11 (cj (by omega) (cj (rng_get _ h1) (cj h12 (cj (by omega) (cj (rng_get _ h1) (cj (laws_heldIntS_ok x1.Ring.Counts (i64 ((i64 (r2 + 1)) + 1)) r3 h13) (cj rfl (cj h14 (cj (by omega) (cj (rng_get _ h1) (cj (laws_heldIntS_ok x1.Ring.Sums r3 r4 h15) (cj rfl (cj h16 (cj (by omega) (cj (rng_get _ h1) (cj (laws_heldSlotS_ok x1.Slots r4 r5 h17) (cj rfl (cj1 h18))))))))))))))))))))))))))))))))))))))))))))))) (fun h18 =>
                     LpO.go [.wait 3, .nm 8 (V.sc (.int .i64 (o.length : Int))), .bit true, .draw [], .el (E54 x1), .call [] (E9 r1) [], .bit false, .el (E54 x1), .bit false, .el (E54 x1), .bit false, .el (E54 x1), .bit false, .el (E54 x1), .bit false, .el (E54 x1), .call [] (E3 r2) [], .bit false, .el (E54 x1), .bit false, .el (E54 x1), .bit false, .el (E54 x1), .call [] (E3 r3) [], .bit false, .el (E54 x1), .call [] (E3 r4) [], .bit false, .el (E54 x1), .call [] (E3 r5) [], .bit false, .wait 3, .mask [0, 1, 5], .ren [], .nm 5 (V.sc (.int .i64 ((p1 ++ [x1]).length : Int)))] (p := [V.sc (.int .i64 ((List.map E54 o).length : Int)) = V.sc (.int .i64 (o.length : Int)),
                      (decide ((p1.length : Int) < (o.length : Int))) = true,
                      (0 : Int) ≤ (p1.length : Int),
                      (List.map E54 o)[(p1.length : Int).toNat]? = some (E54 x1),
                      Fn Try.prog 130 [(false, E3 v1)] (E9 r1) [],
                      (true || ((E9 r1).nv && nvL [])) = true,
                      (!(x1.Id == r1)) = false,
                      (0 : Int) ≤ (p1.length : Int),
                      (List.map E54 o)[(p1.length : Int).toNat]? = some (E54 x1),
                      (x1.Limit != (i64 (v1 + 1))) = false,
                      (0 : Int) ≤ (p1.length : Int),
                      (List.map E54 o)[(p1.length : Int).toNat]? = some (E54 x1),
                      (x1.Posted != (i64 ((i64 (v1 + 1)) + 1))) = false,
                      (0 : Int) ≤ (p1.length : Int),
                      (List.map E54 o)[(p1.length : Int).toNat]? = some (E54 x1),
                      (x1.Most != (i64 ((i64 ((i64 (v1 + 1)) + 1)) + 1))) = false,
                      (0 : Int) ≤ (p1.length : Int),
                      (List.map E54 o)[(p1.length : Int).toNat]? = some (E54 x1),
                      (x1.MostSum != (i64 ((i64 ((i64 ((i64 (v1 + 1)) + 1)) + 1)) + 1))) = false,
                      (0 : Int) ≤ (p1.length : Int),
                      (List.map E54 o)[(p1.length : Int).toNat]? = some (E54 x1),
                      Fn Try.prog 133 [(false, E48 x1.Holds), (false, E3 (i64 ((i64 ((i64 ((i64 ((i64 (v1 + 1)) + 1)) + 1)) + 1)) + 1)))] (E3 r2) [],
                      (true || ((E3 r2).nv && nvL [])) = true,
                      (decide (r2 < 0)) = false,
                      (0 : Int) ≤ (p1.length : Int),
                      (List.map E54 o)[(p1.length : Int).toNat]? = some (E54 x1),
                      (x1.Ring.Span != r2) = false,
                      (0 : Int) ≤ (p1.length : Int),
                      (List.map E54 o)[(p1.length : Int).toNat]? = some (E54 x1),
                      (x1.Ring.Head != (i64 (r2 + 1))) = false,
                      (0 : Int) ≤ (p1.length : Int),
                      (List.map E54 o)[(p1.length : Int).toNat]? = some (E54 x1),
                      Fn Try.prog 38 [(false, E49 x1.Ring.Counts), (false, E3 (i64 ((i64 (r2 + 1)) + 1)))] (E3 r3) [],
                      (true || ((E3 r3).nv && nvL [])) = true,
                      (decide (r3 < 0)) = false,
                      (0 : Int) ≤ (p1.length : Int),
                      (List.map E54 o)[(p1.length : Int).toNat]? = some (E54 x1),
                      Fn Try.prog 38 [(false, E49 x1.Ring.Sums), (false, E3 r3)] (E3 r4) [],
                      (true || ((E3 r4).nv && nvL [])) = true,
                      (decide (r4 < 0)) = false,
                      (0 : Int) ≤ (p1.length : Int),
                      (List.map E54 o)[(p1.length : Int).toNat]? = some (E54 x1),
                      Fn Try.prog 134 [(false, E52 x1.Slots), (false, E3 r4)] (E3 r5) [],
                      (true || ((E3 r5).nv && nvL [])) = true,
                      (decide (r5 < 0)) = false,
                      V.sc (.int .i64 (i64 ((p1.length : Int) + 1))) = V.sc (.int .i64 ((p1 ++ [x1]).length : Int))]) (by kernel_rfl) (cj (len_nm _ _) (cj (rng_lt h1) (cj (by omega) (cj (rng_get _ h1) (cj (laws_markText_ok v1 r1 h3) (cj rfl (cj (nf h4) (cj (by omega) (cj (rng_get _ h1) (cj h5 (cj (by omega) (cj (rng_get _ h1) (cj h6 (cj (by omega) (cj (rng_get _ h1) (cj h7 (cj (by omega) (cj (rng_get _ h1) (cj h8 (cj (by omega) (cj (rng_get _ h1) (cj (laws_heldHoldS_ok x1.Holds (i64 ((i64 ((i64 ((i64 ((i64 (v1 + 1)) + 1)) + 1)) + 1)) + 1)) r2 h9) (cj rfl (cj h10 (cj (by omega) (cj (rng_get _ h1) (cj h11 (cj (by omega) (cj (rng_get _ h1) (cj h12 (cj (by omega) (cj (rng_get _ h1) (cj (laws_heldIntS_ok x1.Ring.Counts (i64 ((i64 (r2 + 1)) + 1)) r3 h13) (cj rfl (cj h14 (cj (by omega) (cj (rng_get _ h1) (cj (laws_heldIntS_ok x1.Ring.Sums r3 r4 h15) (cj rfl (cj h16 (cj (by omega) (cj (rng_get _ h1) (cj (laws_heldSlotS_ok x1.Slots r4 r5 h17) (cj rfl (cj h18 (cj1 (rng_next h1 h2))))))))))))))))))))))))))))))))))))))))))))))) (laws_heldAcctS_l0_ok o h2 t1 (p1 ++ [x1]) (rng_step h1) r5)))))))))))))))) (fun h4 =>
       Pn.some (LpO.out [.wait 3, .nm 8 (V.sc (.int .i64 (o.length : Int))), .bit true, .draw [], .el (E54 x1), .call [] (E9 r1) [], .bit true, .wait 1, .mask [4], .ren []] (p := [V.sc (.int .i64 ((List.map E54 o).length : Int)) = V.sc (.int .i64 (o.length : Int)),
        (decide ((p1.length : Int) < (o.length : Int))) = true,
        (0 : Int) ≤ (p1.length : Int),
        (List.map E54 o)[(p1.length : Int).toNat]? = some (E54 x1),
        Fn Try.prog 130 [(false, E3 v1)] (E9 r1) [],
        (true || ((E9 r1).nv && nvL [])) = true,
        (!(x1.Id == r1)) = true]) (by kernel_rfl) (show X.ret ≠ X.go from nofun) (cj (len_nm _ _) (cj (rng_lt h1) (cj (by omega) (cj (rng_get _ h1) (cj (laws_markText_ok v1 r1 h3) (cj rfl (cj1 (nt h4)))))))))))
def laws_heldAcctS (o : List Acct) (o_ : Int) : Option (Int) :=
 if (capOk o.length) = true then
  (laws_heldAcctS_l0 o o o_).bind fun r6 =>
  Lo.elim r6 (fun s1 =>
   some s1) (fun s2 =>
   some (-1))
 else none
theorem laws_heldAcctS_ok (o : List Acct) (o_ : Int) : Pn (fun y => Fn Try.prog 74 [(false, E39 o), (false, E3 o_)] (E3 y) []) (laws_heldAcctS o o_) := by
  unfold laws_heldAcctS
  exact
   Pn.ite (fun h19 =>
    Pn.bind (fun r6 h20 =>
     Pn.lo (fun s1 h21 =>
      Pn.some (Fn.of [.wait 3, .mask [0, 1, 5], .ren [], .loop (X.out 0) (st 117 [(1, V.sc (.int .i64 s1))] [] [])] (p := [Loop Try.prog (sub (codeOf Try.prog 74) [1, 0, 1, 0, 0]) (st 117 [(0, V.sl false 54 (List.map E54 o)), (1, V.sc (.int .i64 o_)), (5, V.sc (.int .i64 0))] [] []) (X.out 0) (st 117 [(1, V.sc (.int .i64 s1))] [] [])]) (by kernel_rfl) (cj1 ((laws_heldAcctS_l0_ok o h19 o [] rfl o_ r6 h20).at h21)))) (fun s2 h22 =>
      Pn.some (Fn.of [.wait 3, .mask [0, 1, 5], .ren [], .loop (X.ret) (st 117 [(4, V.sc (.int .i64 (-1)))] [] [])] (p := [Loop Try.prog (sub (codeOf Try.prog 74) [1, 0, 1, 0, 0]) (st 117 [(0, V.sl false 54 (List.map E54 o)), (1, V.sc (.int .i64 o_)), (5, V.sc (.int .i64 0))] [] []) (X.ret) (st 117 [(4, V.sc (.int .i64 (-1)))] [] [])]) (by kernel_rfl) (cj1 ((laws_heldAcctS_l0_ok o h19 o [] rfl o_ r6 h20).at h22)))))) (fun h19 =>
    Pn.none)
def laws_heldBook (a : Book) (k : Int) : Option (Int) :=
 (laws_heldAcctS a.Accts k).bind fun r1 =>
 if (decide (r1 < 0)) = true then
  some (-1)
 else
  some r1
theorem laws_heldBook_ok (a : Book) (k : Int) : Pn (fun y => Fn Try.prog 24 [(false, E41 a), (false, E3 k)] (E3 y) []) (laws_heldBook a k) := by
  unfold laws_heldBook
  exact
   Pn.bind (fun r1 h1 =>
    Pn.ite (fun h2 =>
     Pn.some (Fn.of [.call [] (E3 r1) [], .bit true] (p := [Fn Try.prog 74 [(false, E39 a.Accts), (false, E3 k)] (E3 r1) [],
      (true || ((E3 r1).nv && nvL [])) = true,
      (decide (r1 < 0)) = true]) (by kernel_rfl) (cj (laws_heldAcctS_ok a.Accts k r1 h1) (cj rfl (cj1 h2))))) (fun h2 =>
     Pn.some (Fn.of [.call [] (E3 r1) [], .bit false] (p := [Fn Try.prog 74 [(false, E39 a.Accts), (false, E3 k)] (E3 r1) [],
      (true || ((E3 r1).nv && nvL [])) = true,
      (decide (r1 < 0)) = false]) (by kernel_rfl) (cj (laws_heldAcctS_ok a.Accts k r1 h1) (cj rfl (cj1 h2))))))
def laws_FnExactNoSlots (o : Book) : Option (Bool) :=
 (laws_szBook o 1048576).bind fun r1 =>
 if (decide (r1 < 0)) = true then
  some true
 else
  (laws_toBook o).bind fun r2 =>
  (spec_NoSlots (Book.mk r2.Accts)).bind fun r3 =>
  (laws_toBook o).bind fun r4 =>
  (impl_NoSlots r4).bind fun r5 =>
  (laws_eqBook r5 (Book.mk r3.Accts)).bind fun r6 =>
  if r6 = true then
   (laws_toBook o).bind fun r7 =>
   (laws_eqBook r4 r7).bind fun r8 =>
   if r8 = true then
    (laws_markBook r4 1).bind fun r9 =>
    if (decide (r9.1 < 0)) = true then
     some false
    else
     (laws_eqBook r5 (Book.mk r3.Accts)).bind fun r10 =>
     if r10 = true then
      (laws_markBook r5 1).bind fun r11 =>
      (laws_heldBook (Book.mk r11.2) 1).bind fun r12 =>
      if (decide (r12 < 0)) = true then
       some false
      else
       if (r12 != r11.1) = true then
        some false
       else
        (laws_toBook (Book.mk o.Accts)).bind fun r13 =>
        (impl_NoSlots r13).bind fun r14 =>
        (laws_eqBook r14 (Book.mk r3.Accts)).bind fun r15 =>
        if r15 = true then
         (laws_heldBook (Book.mk r11.2) 1).bind fun r16 =>
         if (decide (r16 < 0)) = true then
          some false
         else
          if (r16 != r11.1) = true then
           some false
          else
           some true
        else
         some false
     else
      some false
   else
    some false
  else
   some false
theorem laws_FnExactNoSlots_ok (o : Book) : Pn (fun y => Fn Try.prog 4 [(false, E37 o)] (E4 y) []) (laws_FnExactNoSlots o) := by
  unfold laws_FnExactNoSlots
  exact
   Pn.bind (fun r1 h1 =>
    Pn.ite (fun h2 =>
     Pn.some (Fn.of [.call [] (E3 r1) [], .bit true] (p := [Fn Try.prog 18 [(false, E37 o), (false, E3 1048576)] (E3 r1) [],
      (true || ((E3 r1).nv && nvL [])) = true,
      (decide (r1 < 0)) = true]) (by kernel_rfl) (cj (laws_szBook_ok o 1048576 r1 h1) (cj rfl (cj1 h2))))) (fun h2 =>
     Pn.bind (fun r2 h3 =>
      Pn.bind (fun r3 h4 =>
       Pn.bind (fun r4 h5 =>
        Pn.bind (fun r5 h6 =>
         Pn.bind (fun r6 h7 =>
          Pn.ite (fun h8 =>
           Pn.bind (fun r7 h9 =>
            Pn.bind (fun r8 h10 =>
             Pn.ite (fun h11 =>
              Pn.bind (fun r9 h12 =>
               Pn.ite (fun h13 =>
                Pn.some (Fn.of [.call [] (E3 r1) [], .bit false, .call [] (E41 r2) [], .call [] (E41 r3) [], .call [] (E41 r4) [], .call [] (E41 r5) [], .call [] (E4 r6) [], .bit false, .draw [], .call [] (E41 r7) [], .call [] (E4 r8) [], .bit false, .call [true, false] (E3 r9.1) [V.sl true 54 (List.map E54 r9.2)], .bit true, .bit true, .bit true, .bit true, .bit true, .bit true] (p := [Fn Try.prog 18 [(false, E37 o), (false, E3 1048576)] (E3 r1) [],
                 (true || ((E3 r1).nv && nvL [])) = true,
                 (decide (r1 < 0)) = false,
                 Fn Try.prog 20 [(false, E37 o)] (E41 r2) [],
                 (true || ((E41 r2).nv && nvL [])) = true,
                 Fn Try.prog 19 [(false, E41 (Book.mk r2.Accts))] (E41 r3) [],
                 (false || ((E41 r3).nv && nvL [])) = true,
                 Fn Try.prog 20 [(false, E37 o)] (E41 r4) [],
                 (true || ((E41 r4).nv && nvL [])) = true,
                 Fn Try.prog 21 [(false, E41 r4)] (E41 r5) [],
                 (false || ((E41 r5).nv && nvL [])) = true,
                 Fn Try.prog 22 [(false, E41 r5), (false, E41 (Book.mk r3.Accts))] (E4 r6) [],
                 (false || ((E4 r6).nv && nvL [])) = true,
                 (!r6) = false,
                 Fn Try.prog 20 [(false, E37 o)] (E41 r7) [],
                 (true || ((E41 r7).nv && nvL [])) = true,
                 Fn Try.prog 22 [(false, E41 r4), (false, E41 r7)] (E4 r8) [],
                 (false || ((E4 r8).nv && nvL [])) = true,
                 (!r8) = false,
                 Fn Try.prog 23 [(true, E41 r4), (false, E3 1)] (E3 r9.1) [V.sl true 54 (List.map E54 r9.2)],
                 (true || ((E3 r9.1).nv && nvL [V.sl true 54 (List.map E54 r9.2)])) = true,
                 (decide (r9.1 < 0)) = true,
                 (decide (r9.1 < 0)) = true,
                 (decide (r9.1 < 0)) = true,
                 (decide (r9.1 < 0)) = true,
                 (decide (r9.1 < 0)) = true,
                 true = true]) (by kernel_rfl) (cj (laws_szBook_ok o 1048576 r1 h1) (cj rfl (cj h2 (cj (laws_toBook_ok o r2 h3) (cj rfl (cj (spec_NoSlots_ok (Book.mk r2.Accts) r3 h4) (cj (by simp [V.nv, nvL, nvL_all, nv_E3, nv_E5, nv_E9, nv_E39, nv_E41, nv_E47, nv_E48, nv_E49, nv_E51, nv_E52, nv_E54, nv_E61, nv_E177]) (cj (laws_toBook_ok o r4 h5) (cj rfl (cj (impl_NoSlots_ok r4 r5 h6) (cj (by simp [V.nv, nvL, nvL_all, nv_E3, nv_E5, nv_E9, nv_E39, nv_E41, nv_E47, nv_E48, nv_E49, nv_E51, nv_E52, nv_E54, nv_E61, nv_E177]) (cj (laws_eqBook_ok r5 (Book.mk r3.Accts) r6 h7) (cj (by simp [V.nv, nvL, nvL_all, nv_E4]) (cj (nf h8) (cj (laws_toBook_ok o r7 h9) (cj rfl (cj (laws_eqBook_ok r4 r7 r8 h10) (cj (by simp [V.nv, nvL, nvL_all, nv_E4]) (cj (nf h11) (cj (laws_markBook_ok r4 1 r9 h12) (cj rfl (cj h13 (cj h13 (cj h13 (cj h13 (cj h13 (cj1 rfl))))))))))))))))))))))))))))) (fun h13 =>
                Pn.bind (fun r10 h14 =>
                 Pn.ite (fun h15 =>
                  Pn.bind (fun r11 h16 =>
                   Pn.bind (fun r12 h17 =>
                    Pn.ite (fun h18 =>
                     Pn.some (Fn.of [.call [] (E3 r1) [], .bit false, .call [] (E41 r2) [], .call [] (E41 r3) [], .call [] (E41 r4) [], .call [] (E41 r5) [], .call [] (E4 r6) [], .bit false, .draw [], .call [] (E41 r7) [], .call [] (E4 r8) [], .bit false, .call [true, false] (E3 r9.1) [V.sl true 54 (List.map E54 r9.2)], .bit false, .bit false, .bit false, .call [] (E4 r10) [], .bit false, .bit false, .bit false, .call [true, false] (E3 r11.1) [V.sl true 54 (List.map E54 r11.2)], .call [] (E3 r12) [], .bit true] (p := [Fn Try.prog 18 [(false, E37 o), (false, E3 1048576)] (E3 r1) [],
                      (true || ((E3 r1).nv && nvL [])) = true,
                      (decide (r1 < 0)) = false,
                      Fn Try.prog 20 [(false, E37 o)] (E41 r2) [],
                      (true || ((E41 r2).nv && nvL [])) = true,
                      Fn Try.prog 19 [(false, E41 (Book.mk r2.Accts))] (E41 r3) [],
                      (false || ((E41 r3).nv && nvL [])) = true,
                      Fn Try.prog 20 [(false, E37 o)] (E41 r4) [],
                      (true || ((E41 r4).nv && nvL [])) = true,
                      Fn Try.prog 21 [(false, E41 r4)] (E41 r5) [],
                      (false || ((E41 r5).nv && nvL [])) = true,
                      Fn Try.prog 22 [(false, E41 r5), (false, E41 (Book.mk r3.Accts))] (E4 r6) [],
                      (false || ((E4 r6).nv && nvL [])) = true,
                      (!r6) = false,
                      Fn Try.prog 20 [(false, E37 o)] (E41 r7) [],
                      (true || ((E41 r7).nv && nvL [])) = true,
                      Fn Try.prog 22 [(false, E41 r4), (false, E41 r7)] (E4 r8) [],
                      (false || ((E4 r8).nv && nvL [])) = true,
                      (!r8) = false,
                      Fn Try.prog 23 [(true, E41 r4), (false, E3 1)] (E3 r9.1) [V.sl true 54 (List.map E54 r9.2)],
                      (true || ((E3 r9.1).nv && nvL [V.sl true 54 (List.map E54 r9.2)])) = true,
                      (decide (r9.1 < 0)) = false,
                      (decide (r9.1 < 0)) = false,
                      (decide (r9.1 < 0)) = false,
                      Fn Try.prog 22 [(false, E41 r5), (false, E41 (Book.mk r3.Accts))] (E4 r10) [],
                      (false || ((E4 r10).nv && nvL [])) = true,
                      (decide (r9.1 < 0)) = false,
                      (decide (r9.1 < 0)) = false,
                      (!r10) = false,
                      Fn Try.prog 23 [(true, E41 r5), (false, E3 1)] (E3 r11.1) [V.sl true 54 (List.map E54 r11.2)],
                      (true || ((E3 r11.1).nv && nvL [V.sl true 54 (List.map E54 r11.2)])) = true,
                      Fn Try.prog 24 [(false, E41 (Book.mk r11.2)), (false, E3 1)] (E3 r12) [],
                      (false || ((E3 r12).nv && nvL [])) = true,
                      (decide (r12 < 0)) = true]) (by kernel_rfl) (cj (laws_szBook_ok o 1048576 r1 h1) (cj rfl (cj h2 (cj (laws_toBook_ok o r2 h3) (cj rfl (cj (spec_NoSlots_ok (Book.mk r2.Accts) r3 h4) (cj (by simp [V.nv, nvL, nvL_all, nv_E3, nv_E5, nv_E9, nv_E39, nv_E41, nv_E47, nv_E48, nv_E49, nv_E51, nv_E52, nv_E54, nv_E61, nv_E177]) (cj (laws_toBook_ok o r4 h5) (cj rfl (cj (impl_NoSlots_ok r4 r5 h6) (cj (by simp [V.nv, nvL, nvL_all, nv_E3, nv_E5, nv_E9, nv_E39, nv_E41, nv_E47, nv_E48, nv_E49, nv_E51, nv_E52, nv_E54, nv_E61, nv_E177]) (cj (laws_eqBook_ok r5 (Book.mk r3.Accts) r6 h7) (cj (by simp [V.nv, nvL, nvL_all, nv_E4]) (cj (nf h8) (cj (laws_toBook_ok o r7 h9) (cj rfl (cj (laws_eqBook_ok r4 r7 r8 h10) (cj (by simp [V.nv, nvL, nvL_all, nv_E4]) (cj (nf h11) (cj (laws_markBook_ok r4 1 r9 h12) (cj rfl (cj h13 (cj h13 (cj h13 (cj (laws_eqBook_ok r5 (Book.mk r3.Accts) r10 h14) (cj (by simp [V.nv, nvL, nvL_all, nv_E4]) (cj h13 (cj h13 (cj (nf h15) (cj (laws_markBook_ok r5 1 r11 h16) (cj rfl (cj (laws_heldBook_ok (Book.mk r11.2) 1 r12 h17) (cj (by simp [V.nv, nvL, nvL_all, nv_E3]) (cj1 h18)))))))))))))))))))))))))))))))))))) (fun h18 =>
                     Pn.ite (fun h19 =>
                      Pn.some (Fn.of [.call [] (E3 r1) [], .bit false, .call [] (E41 r2) [], .call [] (E41 r3) [], .call [] (E41 r4) [], .call [] (E41 r5) [], .call [] (E4 r6) [], .bit false, .draw [], .call [] (E41 r7) [], .call [] (E4 r8) [], .bit false, .call [true, false] (E3 r9.1) [V.sl true 54 (List.map E54 r9.2)], .bit false, .bit false, .bit false, .call [] (E4 r10) [], .bit false, .bit false, .bit false, .call [true, false] (E3 r11.1) [V.sl true 54 (List.map E54 r11.2)], .call [] (E3 r12) [], .bit false, .bit true] (p := [Fn Try.prog 18 [(false, E37 o), (false, E3 1048576)] (E3 r1) [],
                       (true || ((E3 r1).nv && nvL [])) = true,
                       (decide (r1 < 0)) = false,
                       Fn Try.prog 20 [(false, E37 o)] (E41 r2) [],
                       (true || ((E41 r2).nv && nvL [])) = true,
                       Fn Try.prog 19 [(false, E41 (Book.mk r2.Accts))] (E41 r3) [],
                       (false || ((E41 r3).nv && nvL [])) = true,
                       Fn Try.prog 20 [(false, E37 o)] (E41 r4) [],
                       (true || ((E41 r4).nv && nvL [])) = true,
                       Fn Try.prog 21 [(false, E41 r4)] (E41 r5) [],
                       (false || ((E41 r5).nv && nvL [])) = true,
                       Fn Try.prog 22 [(false, E41 r5), (false, E41 (Book.mk r3.Accts))] (E4 r6) [],
                       (false || ((E4 r6).nv && nvL [])) = true,
                       (!r6) = false,
                       Fn Try.prog 20 [(false, E37 o)] (E41 r7) [],
                       (true || ((E41 r7).nv && nvL [])) = true,
                       Fn Try.prog 22 [(false, E41 r4), (false, E41 r7)] (E4 r8) [],
                       (false || ((E4 r8).nv && nvL [])) = true,
                       (!r8) = false,
                       Fn Try.prog 23 [(true, E41 r4), (false, E3 1)] (E3 r9.1) [V.sl true 54 (List.map E54 r9.2)],
                       (true || ((E3 r9.1).nv && nvL [V.sl true 54 (List.map E54 r9.2)])) = true,
                       (decide (r9.1 < 0)) = false,
                       (decide (r9.1 < 0)) = false,
                       (decide (r9.1 < 0)) = false,
                       Fn Try.prog 22 [(false, E41 r5), (false, E41 (Book.mk r3.Accts))] (E4 r10) [],
                       (false || ((E4 r10).nv && nvL [])) = true,
                       (decide (r9.1 < 0)) = false,
                       (decide (r9.1 < 0)) = false,
                       (!r10) = false,
                       Fn Try.prog 23 [(true, E41 r5), (false, E3 1)] (E3 r11.1) [V.sl true 54 (List.map E54 r11.2)],
                       (true || ((E3 r11.1).nv && nvL [V.sl true 54 (List.map E54 r11.2)])) = true,
                       Fn Try.prog 24 [(false, E41 (Book.mk r11.2)), (false, E3 1)] (E3 r12) [],
                       (false || ((E3 r12).nv && nvL [])) = true,
                       (decide (r12 < 0)) = false,
                       (r12 != r11.1) = true]) (by kernel_rfl) (cj (laws_szBook_ok o 1048576 r1 h1) (cj rfl (cj h2 (cj (laws_toBook_ok o r2 h3) (cj rfl (cj (spec_NoSlots_ok (Book.mk r2.Accts) r3 h4) (cj (by simp [V.nv, nvL, nvL_all, nv_E3, nv_E5, nv_E9, nv_E39, nv_E41, nv_E47, nv_E48, nv_E49, nv_E51, nv_E52, nv_E54, nv_E61, nv_E177]) (cj (laws_toBook_ok o r4 h5) (cj rfl (cj (impl_NoSlots_ok r4 r5 h6) (cj (by simp [V.nv, nvL, nvL_all, nv_E3, nv_E5, nv_E9, nv_E39, nv_E41, nv_E47, nv_E48, nv_E49, nv_E51, nv_E52, nv_E54, nv_E61, nv_E177]) (cj (laws_eqBook_ok r5 (Book.mk r3.Accts) r6 h7) (cj (by simp [V.nv, nvL, nvL_all, nv_E4]) (cj (nf h8) (cj (laws_toBook_ok o r7 h9) (cj rfl (cj (laws_eqBook_ok r4 r7 r8 h10) (cj (by simp [V.nv, nvL, nvL_all, nv_E4]) (cj (nf h11) (cj (laws_markBook_ok r4 1 r9 h12) (cj rfl (cj h13 (cj h13 (cj h13 (cj (laws_eqBook_ok r5 (Book.mk r3.Accts) r10 h14) (cj (by simp [V.nv, nvL, nvL_all, nv_E4]) (cj h13 (cj h13 (cj (nf h15) (cj (laws_markBook_ok r5 1 r11 h16) (cj rfl (cj (laws_heldBook_ok (Book.mk r11.2) 1 r12 h17) (cj (by simp [V.nv, nvL, nvL_all, nv_E3]) (cj h18 (cj1 h19))))))))))))))))))))))))))))))))))))) (fun h19 =>
                      Pn.bind (fun r13 h20 =>
                       Pn.bind (fun r14 h21 =>
                        Pn.bind (fun r15 h22 =>
                         Pn.ite (fun h23 =>
                          Pn.bind (fun r16 h24 =>
                           Pn.ite (fun h25 =>
                            Pn.some (Fn.of [.call [] (E3 r1) [], .bit false, .call [] (E41 r2) [], .call [] (E41 r3) [], .call [] (E41 r4) [], .call [] (E41 r5) [], .call [] (E4 r6) [], .bit false, .draw [], .call [] (E41 r7) [], .call [] (E4 r8) [], .bit false, .call [true, false] (E3 r9.1) [V.sl true 54 (List.map E54 r9.2)], .bit false, .bit false, .bit false, .call [] (E4 r10) [], .bit false, .bit false, .bit false, .call [true, false] (E3 r11.1) [V.sl true 54 (List.map E54 r11.2)], .call [] (E3 r12) [], .bit false, .bit false, .call [] (E41 r13) [], .call [] (E41 r14) [], .call [] (E4 r15) [], .bit false, .call [] (E3 r16) [], .bit true] (p := [Fn Try.prog 18 [(false, E37 o), (false, E3 1048576)] (E3 r1) [],
                             (true || ((E3 r1).nv && nvL [])) = true,
                             (decide (r1 < 0)) = false,
                             Fn Try.prog 20 [(false, E37 o)] (E41 r2) [],
                             (true || ((E41 r2).nv && nvL [])) = true,
                             Fn Try.prog 19 [(false, E41 (Book.mk r2.Accts))] (E41 r3) [],
                             (false || ((E41 r3).nv && nvL [])) = true,
                             Fn Try.prog 20 [(false, E37 o)] (E41 r4) [],
                             (true || ((E41 r4).nv && nvL [])) = true,
                             Fn Try.prog 21 [(false, E41 r4)] (E41 r5) [],
                             (false || ((E41 r5).nv && nvL [])) = true,
                             Fn Try.prog 22 [(false, E41 r5), (false, E41 (Book.mk r3.Accts))] (E4 r6) [],
                             (false || ((E4 r6).nv && nvL [])) = true,
                             (!r6) = false,
                             Fn Try.prog 20 [(false, E37 o)] (E41 r7) [],
                             (true || ((E41 r7).nv && nvL [])) = true,
                             Fn Try.prog 22 [(false, E41 r4), (false, E41 r7)] (E4 r8) [],
                             (false || ((E4 r8).nv && nvL [])) = true,
                             (!r8) = false,
                             Fn Try.prog 23 [(true, E41 r4), (false, E3 1)] (E3 r9.1) [V.sl true 54 (List.map E54 r9.2)],
                             (true || ((E3 r9.1).nv && nvL [V.sl true 54 (List.map E54 r9.2)])) = true,
                             (decide (r9.1 < 0)) = false,
                             (decide (r9.1 < 0)) = false,
                             (decide (r9.1 < 0)) = false,
                             Fn Try.prog 22 [(false, E41 r5), (false, E41 (Book.mk r3.Accts))] (E4 r10) [],
                             (false || ((E4 r10).nv && nvL [])) = true,
                             (decide (r9.1 < 0)) = false,
                             (decide (r9.1 < 0)) = false,
                             (!r10) = false,
                             Fn Try.prog 23 [(true, E41 r5), (false, E3 1)] (E3 r11.1) [V.sl true 54 (List.map E54 r11.2)],
                             (true || ((E3 r11.1).nv && nvL [V.sl true 54 (List.map E54 r11.2)])) = true,
                             Fn Try.prog 24 [(false, E41 (Book.mk r11.2)), (false, E3 1)] (E3 r12) [],
                             (false || ((E3 r12).nv && nvL [])) = true,
                             (decide (r12 < 0)) = false,
                             (r12 != r11.1) = false,
                             Fn Try.prog 20 [(false, E37 (Book.mk o.Accts))] (E41 r13) [],
                             (true || ((E41 r13).nv && nvL [])) = true,
                             Fn Try.prog 21 [(false, E41 r13)] (E41 r14) [],
                             (false || ((E41 r14).nv && nvL [])) = true,
                             Fn Try.prog 22 [(false, E41 r14), (false, E41 (Book.mk r3.Accts))] (E4 r15) [],
                             (false || ((E4 r15).nv && nvL [])) = true,
                             (!r15) = false,
                             Fn Try.prog 24 [(false, E41 (Book.mk r11.2)), (false, E3 1)] (E3 r16) [],
                             (false || ((E3 r16).nv && nvL [])) = true,
                             (decide (r16 < 0)) = true]) (by kernel_rfl) (cj (laws_szBook_ok o 1048576 r1 h1) (cj rfl (cj h2 (cj (laws_toBook_ok o r2 h3) (cj rfl (cj (spec_NoSlots_ok (Book.mk r2.Accts) r3 h4) (cj (by simp [V.nv, nvL, nvL_all, nv_E3, nv_E5, nv_E9, nv_E39, nv_E41, nv_E47, nv_E48, nv_E49, nv_E51, nv_E52, nv_E54, nv_E61, nv_E177]) (cj (laws_toBook_ok o r4 h5) (cj rfl (cj (impl_NoSlots_ok r4 r5 h6) (cj (by simp [V.nv, nvL, nvL_all, nv_E3, nv_E5, nv_E9, nv_E39, nv_E41, nv_E47, nv_E48, nv_E49, nv_E51, nv_E52, nv_E54, nv_E61, nv_E177]) (cj (laws_eqBook_ok r5 (Book.mk r3.Accts) r6 h7) (cj (by simp [V.nv, nvL, nvL_all, nv_E4]) (cj (nf h8) (cj (laws_toBook_ok o r7 h9) (cj rfl (cj (laws_eqBook_ok r4 r7 r8 h10) (cj (by simp [V.nv, nvL, nvL_all, nv_E4]) (cj (nf h11) (cj (laws_markBook_ok r4 1 r9 h12) (cj rfl (cj h13 (cj h13 (cj h13 (cj (laws_eqBook_ok r5 (Book.mk r3.Accts) r10 h14) (cj (by simp [V.nv, nvL, nvL_all, nv_E4]) (cj h13 (cj h13 (cj (nf h15) (cj (laws_markBook_ok r5 1 r11 h16) (cj rfl (cj (laws_heldBook_ok (Book.mk r11.2) 1 r12 h17) (cj (by simp [V.nv, nvL, nvL_all, nv_E3]) (cj h18 (cj h19 (cj (laws_toBook_ok (Book.mk o.Accts) r13 h20) (cj rfl (cj (impl_NoSlots_ok r13 r14 h21) (cj (by simp [V.nv, nvL, nvL_all, nv_E3, nv_E5, nv_E9, nv_E39, nv_E41, nv_E47, nv_E48, nv_E49, nv_E51, nv_E52, nv_E54, nv_E61, nv_E177]) (cj (laws_eqBook_ok r14 (Book.mk r3.Accts) r15 h22) (cj (by simp [V.nv, nvL, nvL_all, nv_E4]) (cj (nf h23) (cj (laws_heldBook_ok (Book.mk r11.2) 1 r16 h24) (cj (by simp [V.nv, nvL, nvL_all, nv_E3]) (cj1 h25))))))))))))))))))))))))))))))))))))))))))))))) (fun h25 =>
                            Pn.ite (fun h26 =>
                             Pn.some (Fn.of [.call [] (E3 r1) [], .bit false, .call [] (E41 r2) [], .call [] (E41 r3) [], .call [] (E41 r4) [], .call [] (E41 r5) [], .call [] (E4 r6) [], .bit false, .draw [], .call [] (E41 r7) [], .call [] (E4 r8) [], .bit false, .call [true, false] (E3 r9.1) [V.sl true 54 (List.map E54 r9.2)], .bit false, .bit false, .bit false, .call [] (E4 r10) [], .bit false, .bit false, .bit false, .call [true, false] (E3 r11.1) [V.sl true 54 (List.map E54 r11.2)], .call [] (E3 r12) [], .bit false, .bit false, .call [] (E41 r13) [], .call [] (E41 r14) [], .call [] (E4 r15) [], .bit false, .call [] (E3 r16) [], .bit false, .bit true] (p := [Fn Try.prog 18 [(false, E37 o), (false, E3 1048576)] (E3 r1) [],
                              (true || ((E3 r1).nv && nvL [])) = true,
                              (decide (r1 < 0)) = false,
                              Fn Try.prog 20 [(false, E37 o)] (E41 r2) [],
                              (true || ((E41 r2).nv && nvL [])) = true,
                              Fn Try.prog 19 [(false, E41 (Book.mk r2.Accts))] (E41 r3) [],
                              (false || ((E41 r3).nv && nvL [])) = true,
                              Fn Try.prog 20 [(false, E37 o)] (E41 r4) [],
                              (true || ((E41 r4).nv && nvL [])) = true,
                              Fn Try.prog 21 [(false, E41 r4)] (E41 r5) [],
                              (false || ((E41 r5).nv && nvL [])) = true,
                              Fn Try.prog 22 [(false, E41 r5), (false, E41 (Book.mk r3.Accts))] (E4 r6) [],
                              (false || ((E4 r6).nv && nvL [])) = true,
                              (!r6) = false,
                              Fn Try.prog 20 [(false, E37 o)] (E41 r7) [],
                              (true || ((E41 r7).nv && nvL [])) = true,
                              Fn Try.prog 22 [(false, E41 r4), (false, E41 r7)] (E4 r8) [],
                              (false || ((E4 r8).nv && nvL [])) = true,
                              (!r8) = false,
                              Fn Try.prog 23 [(true, E41 r4), (false, E3 1)] (E3 r9.1) [V.sl true 54 (List.map E54 r9.2)],
                              (true || ((E3 r9.1).nv && nvL [V.sl true 54 (List.map E54 r9.2)])) = true,
                              (decide (r9.1 < 0)) = false,
                              (decide (r9.1 < 0)) = false,
                              (decide (r9.1 < 0)) = false,
                              Fn Try.prog 22 [(false, E41 r5), (false, E41 (Book.mk r3.Accts))] (E4 r10) [],
                              (false || ((E4 r10).nv && nvL [])) = true,
                              (decide (r9.1 < 0)) = false,
                              (decide (r9.1 < 0)) = false,
                              (!r10) = false,
                              Fn Try.prog 23 [(true, E41 r5), (false, E3 1)] (E3 r11.1) [V.sl true 54 (List.map E54 r11.2)],
                              (true || ((E3 r11.1).nv && nvL [V.sl true 54 (List.map E54 r11.2)])) = true,
                              Fn Try.prog 24 [(false, E41 (Book.mk r11.2)), (false, E3 1)] (E3 r12) [],
                              (false || ((E3 r12).nv && nvL [])) = true,
                              (decide (r12 < 0)) = false,
                              (r12 != r11.1) = false,
                              Fn Try.prog 20 [(false, E37 (Book.mk o.Accts))] (E41 r13) [],
                              (true || ((E41 r13).nv && nvL [])) = true,
                              Fn Try.prog 21 [(false, E41 r13)] (E41 r14) [],
                              (false || ((E41 r14).nv && nvL [])) = true,
                              Fn Try.prog 22 [(false, E41 r14), (false, E41 (Book.mk r3.Accts))] (E4 r15) [],
                              (false || ((E4 r15).nv && nvL [])) = true,
                              (!r15) = false,
                              Fn Try.prog 24 [(false, E41 (Book.mk r11.2)), (false, E3 1)] (E3 r16) [],
                              (false || ((E3 r16).nv && nvL [])) = true,
                              (decide (r16 < 0)) = false,
                              (r16 != r11.1) = true]) (by kernel_rfl) (cj (laws_szBook_ok o 1048576 r1 h1) (cj rfl (cj h2 (cj (laws_toBook_ok o r2 h3) (cj rfl (cj (spec_NoSlots_ok (Book.mk r2.Accts) r3 h4) (cj (by simp [V.nv, nvL, nvL_all, nv_E3, nv_E5, nv_E9, nv_E39, nv_E41, nv_E47, nv_E48, nv_E49, nv_E51, nv_E52, nv_E54, nv_E61, nv_E177]) (cj (laws_toBook_ok o r4 h5) (cj rfl (cj (impl_NoSlots_ok r4 r5 h6) (cj (by simp [V.nv, nvL, nvL_all, nv_E3, nv_E5, nv_E9, nv_E39, nv_E41, nv_E47, nv_E48, nv_E49, nv_E51, nv_E52, nv_E54, nv_E61, nv_E177]) (cj (laws_eqBook_ok r5 (Book.mk r3.Accts) r6 h7) (cj (by simp [V.nv, nvL, nvL_all, nv_E4]) (cj (nf h8) (cj (laws_toBook_ok o r7 h9) (cj rfl (cj (laws_eqBook_ok r4 r7 r8 h10) (cj (by simp [V.nv, nvL, nvL_all, nv_E4]) (cj (nf h11) (cj (laws_markBook_ok r4 1 r9 h12) (cj rfl (cj h13 (cj h13 (cj h13 (cj (laws_eqBook_ok r5 (Book.mk r3.Accts) r10 h14) (cj (by simp [V.nv, nvL, nvL_all, nv_E4]) (cj h13 (cj h13 (cj (nf h15) (cj (laws_markBook_ok r5 1 r11 h16) (cj rfl (cj (laws_heldBook_ok (Book.mk r11.2) 1 r12 h17) (cj (by simp [V.nv, nvL, nvL_all, nv_E3]) (cj h18 (cj h19 (cj (laws_toBook_ok (Book.mk o.Accts) r13 h20) (cj rfl (cj (impl_NoSlots_ok r13 r14 h21) (cj (by simp [V.nv, nvL, nvL_all, nv_E3, nv_E5, nv_E9, nv_E39, nv_E41, nv_E47, nv_E48, nv_E49, nv_E51, nv_E52, nv_E54, nv_E61, nv_E177]) (cj (laws_eqBook_ok r14 (Book.mk r3.Accts) r15 h22) (cj (by simp [V.nv, nvL, nvL_all, nv_E4]) (cj (nf h23) (cj (laws_heldBook_ok (Book.mk r11.2) 1 r16 h24) (cj (by simp [V.nv, nvL, nvL_all, nv_E3]) (cj h25 (cj1 h26)))))))))))))))))))))))))))))))))))))))))))))))) (fun h26 =>
                             Pn.some (Fn.of [.call [] (E3 r1) [], .bit false, .call [] (E41 r2) [], .call [] (E41 r3) [], .call [] (E41 r4) [], .call [] (E41 r5) [], .call [] (E4 r6) [], .bit false, .draw [], .call [] (E41 r7) [], .call [] (E4 r8) [], .bit false, .call [true, false] (E3 r9.1) [V.sl true 54 (List.map E54 r9.2)], .bit false, .bit false, .bit false, .call [] (E4 r10) [], .bit false, .bit false, .bit false, .call [true, false] (E3 r11.1) [V.sl true 54 (List.map E54 r11.2)], .call [] (E3 r12) [], .bit false, .bit false, .call [] (E41 r13) [], .call [] (E41 r14) [], .call [] (E4 r15) [], .bit false, .call [] (E3 r16) [], .bit false, .bit false] (p := [Fn Try.prog 18 [(false, E37 o), (false, E3 1048576)] (E3 r1) [],
                              (true || ((E3 r1).nv && nvL [])) = true,
                              (decide (r1 < 0)) = false,
                              Fn Try.prog 20 [(false, E37 o)] (E41 r2) [],
                              (true || ((E41 r2).nv && nvL [])) = true,
                              Fn Try.prog 19 [(false, E41 (Book.mk r2.Accts))] (E41 r3) [],
                              (false || ((E41 r3).nv && nvL [])) = true,
                              Fn Try.prog 20 [(false, E37 o)] (E41 r4) [],
                              (true || ((E41 r4).nv && nvL [])) = true,
                              Fn Try.prog 21 [(false, E41 r4)] (E41 r5) [],
                              (false || ((E41 r5).nv && nvL [])) = true,
                              Fn Try.prog 22 [(false, E41 r5), (false, E41 (Book.mk r3.Accts))] (E4 r6) [],
                              (false || ((E4 r6).nv && nvL [])) = true,
                              (!r6) = false,
                              Fn Try.prog 20 [(false, E37 o)] (E41 r7) [],
                              (true || ((E41 r7).nv && nvL [])) = true,
                              Fn Try.prog 22 [(false, E41 r4), (false, E41 r7)] (E4 r8) [],
                              (false || ((E4 r8).nv && nvL [])) = true,
                              (!r8) = false,
                              Fn Try.prog 23 [(true, E41 r4), (false, E3 1)] (E3 r9.1) [V.sl true 54 (List.map E54 r9.2)],
                              (true || ((E3 r9.1).nv && nvL [V.sl true 54 (List.map E54 r9.2)])) = true,
                              (decide (r9.1 < 0)) = false,
                              (decide (r9.1 < 0)) = false,
                              (decide (r9.1 < 0)) = false,
                              Fn Try.prog 22 [(false, E41 r5), (false, E41 (Book.mk r3.Accts))] (E4 r10) [],
                              (false || ((E4 r10).nv && nvL [])) = true,
                              (decide (r9.1 < 0)) = false,
                              (decide (r9.1 < 0)) = false,
                              (!r10) = false,
                              Fn Try.prog 23 [(true, E41 r5), (false, E3 1)] (E3 r11.1) [V.sl true 54 (List.map E54 r11.2)],
                              (true || ((E3 r11.1).nv && nvL [V.sl true 54 (List.map E54 r11.2)])) = true,
                              Fn Try.prog 24 [(false, E41 (Book.mk r11.2)), (false, E3 1)] (E3 r12) [],
                              (false || ((E3 r12).nv && nvL [])) = true,
                              (decide (r12 < 0)) = false,
                              (r12 != r11.1) = false,
                              Fn Try.prog 20 [(false, E37 (Book.mk o.Accts))] (E41 r13) [],
                              (true || ((E41 r13).nv && nvL [])) = true,
                              Fn Try.prog 21 [(false, E41 r13)] (E41 r14) [],
                              (false || ((E41 r14).nv && nvL [])) = true,
                              Fn Try.prog 22 [(false, E41 r14), (false, E41 (Book.mk r3.Accts))] (E4 r15) [],
                              (false || ((E4 r15).nv && nvL [])) = true,
                              (!r15) = false,
                              Fn Try.prog 24 [(false, E41 (Book.mk r11.2)), (false, E3 1)] (E3 r16) [],
                              (false || ((E3 r16).nv && nvL [])) = true,
                              (decide (r16 < 0)) = false,
                              (r16 != r11.1) = false]) (by kernel_rfl) (cj (laws_szBook_ok o 1048576 r1 h1) (cj rfl (cj h2 (cj (laws_toBook_ok o r2 h3) (cj rfl (cj (spec_NoSlots_ok (Book.mk r2.Accts) r3 h4) (cj (by simp [V.nv, nvL, nvL_all, nv_E3, nv_E5, nv_E9, nv_E39, nv_E41, nv_E47, nv_E48, nv_E49, nv_E51, nv_E52, nv_E54, nv_E61, nv_E177]) (cj (laws_toBook_ok o r4 h5) (cj rfl (cj (impl_NoSlots_ok r4 r5 h6) (cj (by simp [V.nv, nvL, nvL_all, nv_E3, nv_E5, nv_E9, nv_E39, nv_E41, nv_E47, nv_E48, nv_E49, nv_E51, nv_E52, nv_E54, nv_E61, nv_E177]) (cj (laws_eqBook_ok r5 (Book.mk r3.Accts) r6 h7) (cj (by simp [V.nv, nvL, nvL_all, nv_E4]) (cj (nf h8) (cj (laws_toBook_ok o r7 h9) (cj rfl (cj (laws_eqBook_ok r4 r7 r8 h10) (cj (by simp [V.nv, nvL, nvL_all, nv_E4]) (cj (nf h11) (cj (laws_markBook_ok r4 1 r9 h12) (cj rfl (cj h13 (cj h13 (cj h13 (cj (laws_eqBook_ok r5 (Book.mk r3.Accts) r10 h14) (cj (by simp [V.nv, nvL, nvL_all, nv_E4]) (cj h13 (cj h13 (cj (nf h15) (cj (laws_markBook_ok r5 1 r11 h16) (cj rfl (cj (laws_heldBook_ok (Book.mk r11.2) 1 r12 h17) (cj (by simp [V.nv, nvL, nvL_all, nv_E3]) (cj h18 (cj h19 (cj (laws_toBook_ok (Book.mk o.Accts) r13 h20) (cj rfl (cj (impl_NoSlots_ok r13 r14 h21) (cj (by simp [V.nv, nvL, nvL_all, nv_E3, nv_E5, nv_E9, nv_E39, nv_E41, nv_E47, nv_E48, nv_E49, nv_E51, nv_E52, nv_E54, nv_E61, nv_E177]) (cj (laws_eqBook_ok r14 (Book.mk r3.Accts) r15 h22) (cj (by simp [V.nv, nvL, nvL_all, nv_E4]) (cj (nf h23) (cj (laws_heldBook_ok (Book.mk r11.2) 1 r16 h24) (cj (by simp [V.nv, nvL, nvL_all, nv_E3]) (cj h25 (cj1 h26))))))))))))))))))))))))))))))))))))))))))))))))))) (fun h23 =>
                          Pn.some (Fn.of [.call [] (E3 r1) [], .bit false, .call [] (E41 r2) [], .call [] (E41 r3) [], .call [] (E41 r4) [], .call [] (E41 r5) [], .call [] (E4 r6) [], .bit false, .draw [], .call [] (E41 r7) [], .call [] (E4 r8) [], .bit false, .call [true, false] (E3 r9.1) [V.sl true 54 (List.map E54 r9.2)], .bit false, .bit false, .bit false, .call [] (E4 r10) [], .bit false, .bit false, .bit false, .call [true, false] (E3 r11.1) [V.sl true 54 (List.map E54 r11.2)], .call [] (E3 r12) [], .bit false, .bit false, .call [] (E41 r13) [], .call [] (E41 r14) [], .call [] (E4 r15) [], .bit true] (p := [Fn Try.prog 18 [(false, E37 o), (false, E3 1048576)] (E3 r1) [],
                           (true || ((E3 r1).nv && nvL [])) = true,
                           (decide (r1 < 0)) = false,
                           Fn Try.prog 20 [(false, E37 o)] (E41 r2) [],
                           (true || ((E41 r2).nv && nvL [])) = true,
                           Fn Try.prog 19 [(false, E41 (Book.mk r2.Accts))] (E41 r3) [],
                           (false || ((E41 r3).nv && nvL [])) = true,
                           Fn Try.prog 20 [(false, E37 o)] (E41 r4) [],
                           (true || ((E41 r4).nv && nvL [])) = true,
                           Fn Try.prog 21 [(false, E41 r4)] (E41 r5) [],
                           (false || ((E41 r5).nv && nvL [])) = true,
                           Fn Try.prog 22 [(false, E41 r5), (false, E41 (Book.mk r3.Accts))] (E4 r6) [],
                           (false || ((E4 r6).nv && nvL [])) = true,
                           (!r6) = false,
                           Fn Try.prog 20 [(false, E37 o)] (E41 r7) [],
                           (true || ((E41 r7).nv && nvL [])) = true,
                           Fn Try.prog 22 [(false, E41 r4), (false, E41 r7)] (E4 r8) [],
                           (false || ((E4 r8).nv && nvL [])) = true,
                           (!r8) = false,
                           Fn Try.prog 23 [(true, E41 r4), (false, E3 1)] (E3 r9.1) [V.sl true 54 (List.map E54 r9.2)],
                           (true || ((E3 r9.1).nv && nvL [V.sl true 54 (List.map E54 r9.2)])) = true,
                           (decide (r9.1 < 0)) = false,
                           (decide (r9.1 < 0)) = false,
                           (decide (r9.1 < 0)) = false,
                           Fn Try.prog 22 [(false, E41 r5), (false, E41 (Book.mk r3.Accts))] (E4 r10) [],
                           (false || ((E4 r10).nv && nvL [])) = true,
                           (decide (r9.1 < 0)) = false,
                           (decide (r9.1 < 0)) = false,
                           (!r10) = false,
                           Fn Try.prog 23 [(true, E41 r5), (false, E3 1)] (E3 r11.1) [V.sl true 54 (List.map E54 r11.2)],
                           (true || ((E3 r11.1).nv && nvL [V.sl true 54 (List.map E54 r11.2)])) = true,
                           Fn Try.prog 24 [(false, E41 (Book.mk r11.2)), (false, E3 1)] (E3 r12) [],
                           (false || ((E3 r12).nv && nvL [])) = true,
                           (decide (r12 < 0)) = false,
                           (r12 != r11.1) = false,
                           Fn Try.prog 20 [(false, E37 (Book.mk o.Accts))] (E41 r13) [],
                           (true || ((E41 r13).nv && nvL [])) = true,
                           Fn Try.prog 21 [(false, E41 r13)] (E41 r14) [],
                           (false || ((E41 r14).nv && nvL [])) = true,
                           Fn Try.prog 22 [(false, E41 r14), (false, E41 (Book.mk r3.Accts))] (E4 r15) [],
                           (false || ((E4 r15).nv && nvL [])) = true,
                           (!r15) = true]) (by kernel_rfl) (cj (laws_szBook_ok o 1048576 r1 h1) (cj rfl (cj h2 (cj (laws_toBook_ok o r2 h3) (cj rfl (cj (spec_NoSlots_ok (Book.mk r2.Accts) r3 h4) (cj (by simp [V.nv, nvL, nvL_all, nv_E3, nv_E5, nv_E9, nv_E39, nv_E41, nv_E47, nv_E48, nv_E49, nv_E51, nv_E52, nv_E54, nv_E61, nv_E177]) (cj (laws_toBook_ok o r4 h5) (cj rfl (cj (impl_NoSlots_ok r4 r5 h6) (cj (by simp [V.nv, nvL, nvL_all, nv_E3, nv_E5, nv_E9, nv_E39, nv_E41, nv_E47, nv_E48, nv_E49, nv_E51, nv_E52, nv_E54, nv_E61, nv_E177]) (cj (laws_eqBook_ok r5 (Book.mk r3.Accts) r6 h7) (cj (by simp [V.nv, nvL, nvL_all, nv_E4]) (cj (nf h8) (cj (laws_toBook_ok o r7 h9) (cj rfl (cj (laws_eqBook_ok r4 r7 r8 h10) (cj (by simp [V.nv, nvL, nvL_all, nv_E4]) (cj (nf h11) (cj (laws_markBook_ok r4 1 r9 h12) (cj rfl (cj h13 (cj h13 (cj h13 (cj (laws_eqBook_ok r5 (Book.mk r3.Accts) r10 h14) (cj (by simp [V.nv, nvL, nvL_all, nv_E4]) (cj h13 (cj h13 (cj (nf h15) (cj (laws_markBook_ok r5 1 r11 h16) (cj rfl (cj (laws_heldBook_ok (Book.mk r11.2) 1 r12 h17) (cj (by simp [V.nv, nvL, nvL_all, nv_E3]) (cj h18 (cj h19 (cj (laws_toBook_ok (Book.mk o.Accts) r13 h20) (cj rfl (cj (impl_NoSlots_ok r13 r14 h21) (cj (by simp [V.nv, nvL, nvL_all, nv_E3, nv_E5, nv_E9, nv_E39, nv_E41, nv_E47, nv_E48, nv_E49, nv_E51, nv_E52, nv_E54, nv_E61, nv_E177]) (cj (laws_eqBook_ok r14 (Book.mk r3.Accts) r15 h22) (cj (by simp [V.nv, nvL, nvL_all, nv_E4]) (cj1 (nt h23))))))))))))))))))))))))))))))))))))))))))))))))))))) (fun h15 =>
                  Pn.some (Fn.of [.call [] (E3 r1) [], .bit false, .call [] (E41 r2) [], .call [] (E41 r3) [], .call [] (E41 r4) [], .call [] (E41 r5) [], .call [] (E4 r6) [], .bit false, .draw [], .call [] (E41 r7) [], .call [] (E4 r8) [], .bit false, .call [true, false] (E3 r9.1) [V.sl true 54 (List.map E54 r9.2)], .bit false, .bit false, .bit false, .call [] (E4 r10) [], .bit false, .bit false, .bit true] (p := [Fn Try.prog 18 [(false, E37 o), (false, E3 1048576)] (E3 r1) [],
                   (true || ((E3 r1).nv && nvL [])) = true,
                   (decide (r1 < 0)) = false,
                   Fn Try.prog 20 [(false, E37 o)] (E41 r2) [],
                   (true || ((E41 r2).nv && nvL [])) = true,
                   Fn Try.prog 19 [(false, E41 (Book.mk r2.Accts))] (E41 r3) [],
                   (false || ((E41 r3).nv && nvL [])) = true,
                   Fn Try.prog 20 [(false, E37 o)] (E41 r4) [],
                   (true || ((E41 r4).nv && nvL [])) = true,
                   Fn Try.prog 21 [(false, E41 r4)] (E41 r5) [],
                   (false || ((E41 r5).nv && nvL [])) = true,
                   Fn Try.prog 22 [(false, E41 r5), (false, E41 (Book.mk r3.Accts))] (E4 r6) [],
                   (false || ((E4 r6).nv && nvL [])) = true,
                   (!r6) = false,
                   Fn Try.prog 20 [(false, E37 o)] (E41 r7) [],
                   (true || ((E41 r7).nv && nvL [])) = true,
                   Fn Try.prog 22 [(false, E41 r4), (false, E41 r7)] (E4 r8) [],
                   (false || ((E4 r8).nv && nvL [])) = true,
                   (!r8) = false,
                   Fn Try.prog 23 [(true, E41 r4), (false, E3 1)] (E3 r9.1) [V.sl true 54 (List.map E54 r9.2)],
                   (true || ((E3 r9.1).nv && nvL [V.sl true 54 (List.map E54 r9.2)])) = true,
                   (decide (r9.1 < 0)) = false,
                   (decide (r9.1 < 0)) = false,
                   (decide (r9.1 < 0)) = false,
                   Fn Try.prog 22 [(false, E41 r5), (false, E41 (Book.mk r3.Accts))] (E4 r10) [],
                   (false || ((E4 r10).nv && nvL [])) = true,
                   (decide (r9.1 < 0)) = false,
                   (decide (r9.1 < 0)) = false,
                   (!r10) = true]) (by kernel_rfl) (cj (laws_szBook_ok o 1048576 r1 h1) (cj rfl (cj h2 (cj (laws_toBook_ok o r2 h3) (cj rfl (cj (spec_NoSlots_ok (Book.mk r2.Accts) r3 h4) (cj (by simp [V.nv, nvL, nvL_all, nv_E3, nv_E5, nv_E9, nv_E39, nv_E41, nv_E47, nv_E48, nv_E49, nv_E51, nv_E52, nv_E54, nv_E61, nv_E177]) (cj (laws_toBook_ok o r4 h5) (cj rfl (cj (impl_NoSlots_ok r4 r5 h6) (cj (by simp [V.nv, nvL, nvL_all, nv_E3, nv_E5, nv_E9, nv_E39, nv_E41, nv_E47, nv_E48, nv_E49, nv_E51, nv_E52, nv_E54, nv_E61, nv_E177]) (cj (laws_eqBook_ok r5 (Book.mk r3.Accts) r6 h7) (cj (by simp [V.nv, nvL, nvL_all, nv_E4]) (cj (nf h8) (cj (laws_toBook_ok o r7 h9) (cj rfl (cj (laws_eqBook_ok r4 r7 r8 h10) (cj (by simp [V.nv, nvL, nvL_all, nv_E4]) (cj (nf h11) (cj (laws_markBook_ok r4 1 r9 h12) (cj rfl (cj h13 (cj h13 (cj h13 (cj (laws_eqBook_ok r5 (Book.mk r3.Accts) r10 h14) (cj (by simp [V.nv, nvL, nvL_all, nv_E4]) (cj h13 (cj h13 (cj1 (nt h15)))))))))))))))))))))))))))))))))))) (fun h11 =>
              Pn.some (Fn.of [.call [] (E3 r1) [], .bit false, .call [] (E41 r2) [], .call [] (E41 r3) [], .call [] (E41 r4) [], .call [] (E41 r5) [], .call [] (E4 r6) [], .bit false, .draw [], .call [] (E41 r7) [], .call [] (E4 r8) [], .bit true] (p := [Fn Try.prog 18 [(false, E37 o), (false, E3 1048576)] (E3 r1) [],
               (true || ((E3 r1).nv && nvL [])) = true,
               (decide (r1 < 0)) = false,
               Fn Try.prog 20 [(false, E37 o)] (E41 r2) [],
               (true || ((E41 r2).nv && nvL [])) = true,
               Fn Try.prog 19 [(false, E41 (Book.mk r2.Accts))] (E41 r3) [],
               (false || ((E41 r3).nv && nvL [])) = true,
               Fn Try.prog 20 [(false, E37 o)] (E41 r4) [],
               (true || ((E41 r4).nv && nvL [])) = true,
               Fn Try.prog 21 [(false, E41 r4)] (E41 r5) [],
               (false || ((E41 r5).nv && nvL [])) = true,
               Fn Try.prog 22 [(false, E41 r5), (false, E41 (Book.mk r3.Accts))] (E4 r6) [],
               (false || ((E4 r6).nv && nvL [])) = true,
               (!r6) = false,
               Fn Try.prog 20 [(false, E37 o)] (E41 r7) [],
               (true || ((E41 r7).nv && nvL [])) = true,
               Fn Try.prog 22 [(false, E41 r4), (false, E41 r7)] (E4 r8) [],
               (false || ((E4 r8).nv && nvL [])) = true,
               (!r8) = true]) (by kernel_rfl) (cj (laws_szBook_ok o 1048576 r1 h1) (cj rfl (cj h2 (cj (laws_toBook_ok o r2 h3) (cj rfl (cj (spec_NoSlots_ok (Book.mk r2.Accts) r3 h4) (cj (by simp [V.nv, nvL, nvL_all, nv_E3, nv_E5, nv_E9, nv_E39, nv_E41, nv_E47, nv_E48, nv_E49, nv_E51, nv_E52, nv_E54, nv_E61, nv_E177]) (cj (laws_toBook_ok o r4 h5) (cj rfl (cj (impl_NoSlots_ok r4 r5 h6) (cj (by simp [V.nv, nvL, nvL_all, nv_E3, nv_E5, nv_E9, nv_E39, nv_E41, nv_E47, nv_E48, nv_E49, nv_E51, nv_E52, nv_E54, nv_E61, nv_E177]) (cj (laws_eqBook_ok r5 (Book.mk r3.Accts) r6 h7) (cj (by simp [V.nv, nvL, nvL_all, nv_E4]) (cj (nf h8) (cj (laws_toBook_ok o r7 h9) (cj rfl (cj (laws_eqBook_ok r4 r7 r8 h10) (cj (by simp [V.nv, nvL, nvL_all, nv_E4]) (cj1 (nt h11))))))))))))))))))))))))) (fun h8 =>
           Pn.some (Fn.of [.call [] (E3 r1) [], .bit false, .call [] (E41 r2) [], .call [] (E41 r3) [], .call [] (E41 r4) [], .call [] (E41 r5) [], .call [] (E4 r6) [], .bit true] (p := [Fn Try.prog 18 [(false, E37 o), (false, E3 1048576)] (E3 r1) [],
            (true || ((E3 r1).nv && nvL [])) = true,
            (decide (r1 < 0)) = false,
            Fn Try.prog 20 [(false, E37 o)] (E41 r2) [],
            (true || ((E41 r2).nv && nvL [])) = true,
            Fn Try.prog 19 [(false, E41 (Book.mk r2.Accts))] (E41 r3) [],
            (false || ((E41 r3).nv && nvL [])) = true,
            Fn Try.prog 20 [(false, E37 o)] (E41 r4) [],
            (true || ((E41 r4).nv && nvL [])) = true,
            Fn Try.prog 21 [(false, E41 r4)] (E41 r5) [],
            (false || ((E41 r5).nv && nvL [])) = true,
            Fn Try.prog 22 [(false, E41 r5), (false, E41 (Book.mk r3.Accts))] (E4 r6) [],
            (false || ((E4 r6).nv && nvL [])) = true,
            (!r6) = true]) (by kernel_rfl) (cj (laws_szBook_ok o 1048576 r1 h1) (cj rfl (cj h2 (cj (laws_toBook_ok o r2 h3) (cj rfl (cj (spec_NoSlots_ok (Book.mk r2.Accts) r3 h4) (cj (by simp [V.nv, nvL, nvL_all, nv_E3, nv_E5, nv_E9, nv_E39, nv_E41, nv_E47, nv_E48, nv_E49, nv_E51, nv_E52, nv_E54, nv_E61, nv_E177]) (cj (laws_toBook_ok o r4 h5) (cj rfl (cj (impl_NoSlots_ok r4 r5 h6) (cj (by simp [V.nv, nvL, nvL_all, nv_E3, nv_E5, nv_E9, nv_E39, nv_E41, nv_E47, nv_E48, nv_E49, nv_E51, nv_E52, nv_E54, nv_E61, nv_E177]) (cj (laws_eqBook_ok r5 (Book.mk r3.Accts) r6 h7) (cj (by simp [V.nv, nvL, nvL_all, nv_E4]) (cj1 (nt h8))))))))))))))))))))))))
def spec_l01In (n : Int) (lo : Int) (hi : Int) : Option (Bool) :=
 if (decide (lo ≤ n)) = true then
  some (decide (n ≤ hi))
 else
  some false
theorem spec_l01In_ok (n : Int) (lo : Int) (hi : Int) : Pn (fun y => Fn Try.prog 101 [(false, E3 n), (false, E3 lo), (false, E3 hi)] (E4 y) []) (spec_l01In n lo hi) := by
  unfold spec_l01In
  exact
   Pn.ite (fun h1 =>
    Pn.some (Fn.of [.bit true, .bit true, .bit true, .bit true] (p := [(decide (lo ≤ n)) = true,
     (decide (lo ≤ n)) = true,
     (decide (lo ≤ n)) = true,
     (decide (lo ≤ n)) = true]) (by kernel_rfl) (cj h1 (cj h1 (cj h1 (cj1 h1)))))) (fun h1 =>
    Pn.some (Fn.of [.bit false, .bit false, .bit false, .bit false] (p := [(decide (lo ≤ n)) = false,
     (decide (lo ≤ n)) = false,
     (decide (lo ≤ n)) = false,
     (decide (lo ≤ n)) = false]) (by kernel_rfl) (cj h1 (cj h1 (cj h1 (cj1 h1))))))
def spec_l13Copy_l0 (l : List Stripe) : List Stripe → (List Stripe) → Option ((List Stripe))
  | [], v1 =>
   some v1
  | x1 :: t1, v1 =>
   (spec_l12Copy (Book.mk x1.Accts)).bind fun r1 =>
   if (capOk (v1.length + 1)) = true then
    spec_l13Copy_l0 l t1 (v1 ++ [(Stripe.mk x1.Owner r1.Accts)])
   else none
theorem spec_l13Copy_l0_ok (l : List Stripe) (h2 : capOk l.length = true) : ∀ (t1 p1 : List Stripe) (_ : l = p1 ++ t1) (v1 : List Stripe), Pn (LpO Try.prog (sub (codeOf Try.prog 102) [1, 1, 0, 1, 0, 0]) (st 26 [(3, V.ow 0), (7, V.sl false 124 (List.map E124 l)), (8, V.sc (.int .i64 (l.length : Int))), (9, V.sc (.int .i64 (p1.length : Int)))] [Blk.row 124 (List.map E124 v1) []] []) (fun (y : (List Stripe)) => (X.out 0, st 26 [(3, V.ow 0)] [Blk.row 124 (List.map E124 y) []] []))) (spec_l13Copy_l0 l t1 v1)
  | [], p1, h1, v1 => by
    unfold spec_l13Copy_l0
    exact
     Pn.some (LpO.out [.bit false, .mask [3], .ren [0]] (p := [(decide ((p1.length : Int) < (l.length : Int))) = false]) (by kernel_rfl) (show X.out 0 ≠ X.go from nofun) (cj1 (rng_end h1)))
  | x1 :: t1, p1, h1, v1 => by
    unfold spec_l13Copy_l0
    exact
     Pn.bind (fun r1 h3 =>
      Pn.ite (fun h4 =>
       LpO.go [.bit true, .el (E124 x1), .draw [10], .call [] (E41 r1) [], .wait 3, .shut 3, .mv, .nb 4 (.row 124 (List.map E124 (v1 ++ [(Stripe.mk x1.Owner r1.Accts)])) []), .wait 4, .mask [3, 7, 8, 9], .ren [4], .nm 9 (V.sc (.int .i64 ((p1 ++ [x1]).length : Int)))] (p := [(decide ((p1.length : Int) < (l.length : Int))) = true,
        (0 : Int) ≤ (p1.length : Int),
        (List.map E124 l)[(p1.length : Int).toNat]? = some (E124 x1),
        Fn Try.prog 67 [(false, E41 (Book.mk x1.Accts))] (E41 r1) [],
        (true || ((E41 r1).nv && nvL [])) = true,
        (List.map E124 v1).length + [V.agg [V.sc (.int .i64 x1.Owner), V.sl true 54 (List.map E54 r1.Accts)]].length ≤ 9223372036854775807,
        ((List.map E124 v1).length + [V.agg [V.sc (.int .i64 x1.Owner), V.sl true 54 (List.map E54 r1.Accts)]].length) * 32 ≤ 140737488355328,
        Blk.row 124 ((List.map E124 v1) ++ [V.agg [V.sc (.int .i64 x1.Owner), V.sl true 54 (List.map E54 r1.Accts)]]) [] = Blk.row 124 (List.map E124 (v1 ++ [(Stripe.mk x1.Owner r1.Accts)])) [],
        V.sc (.int .i64 (i64 ((p1.length : Int) + 1))) = V.sc (.int .i64 ((p1 ++ [x1]).length : Int))]) (by kernel_rfl) (cj (rng_lt h1) (cj (by omega) (cj (rng_get _ h1) (cj (spec_l12Copy_ok (Book.mk x1.Accts) r1 h3) (cj rfl (cj (cap1 (capN (by simp) h4)) (cj (cap2 (capN (by simp) h4) (by decide)) (cj (nb_app E124 v1 [(Stripe.mk x1.Owner r1.Accts)]) (cj1 (rng_next h1 h2)))))))))) (spec_l13Copy_l0_ok l h2 t1 (p1 ++ [x1]) (rng_step h1) (v1 ++ [(Stripe.mk x1.Owner r1.Accts)]))) (fun h4 =>
       Pn.none))
def spec_l13Copy (l : List Stripe) : Option ((List Stripe)) :=
 if (capOk l.length) = true then
  (spec_l13Copy_l0 l l []).bind fun r2 =>
  some r2
 else none
theorem spec_l13Copy_ok (l : List Stripe) : Pn (fun y => Fn Try.prog 102 [(false, E28 l)] (E28 y) []) (spec_l13Copy l) := by
  unfold spec_l13Copy
  exact
   Pn.ite (fun h5 =>
    Pn.bind (fun r2 h6 =>
     Pn.some (Fn.of [.wait 5, .nm 8 (V.sc (.int .i64 (l.length : Int))), .wait 2, .mask [3, 7, 8, 9], .ren [0], .loop (X.out 0) (st 26 [(3, V.ow 0)] [Blk.row 124 (List.map E124 r2) []] [])] (p := [V.sc (.int .i64 ((List.map E124 l).length : Int)) = V.sc (.int .i64 (l.length : Int)),
      Loop Try.prog (sub (codeOf Try.prog 102) [1, 1, 0, 1, 0, 0]) (st 26 [(3, V.ow 0), (7, V.sl false 124 (List.map E124 l)), (8, V.sc (.int .i64 (l.length : Int))), (9, V.sc (.int .i64 0))] [Blk.row 124 ([] : List V) []] []) (X.out 0) (st 26 [(3, V.ow 0)] [Blk.row 124 (List.map E124 r2) []] [])]) (by kernel_rfl) (cj (len_nm _ _) (cj1 (spec_l13Copy_l0_ok l h5 l [] rfl [] r2 h6)))))) (fun h5 =>
    Pn.none)
def spec_GiveLock (l : List Stripe) (k : Int) (task : Int) : Option ((List Stripe) × Bool) :=
 (spec_l01In k 0 (i64 ((l.length : Int) - 1))).bind fun r1 =>
 if r1 = true then
  if (decide (task < 0)) = true then
   some ([], false)
  else
   if (decide (0 ≤ k)) = true then
    (l[k.toNat]?).bind fun x1 =>
    if (x1.Owner != task) = true then
     some ([], false)
    else
     (spec_l13Copy l).bind fun r2 =>
     (r2[k.toNat]?).bind fun x2 =>
     some ((r2.set k.toNat (Stripe.mk (-1) x2.Accts)), true)
   else none
 else
  some ([], false)
theorem spec_GiveLock_ok (l : List Stripe) (k : Int) (task : Int) : Pn (fun y => Fn Try.prog 43 [(false, E28 l), (false, E3 k), (false, E3 task)] (V.tup [E28 y.1, E4 y.2]) []) (spec_GiveLock l k task) := by
  unfold spec_GiveLock
  exact
   Pn.bind (fun r1 h1 =>
    Pn.ite (fun h2 =>
     Pn.ite (fun h3 =>
      Pn.some (Fn.of [.wait 5, .nm 11 (V.sc (.int .i64 (l.length : Int))), .call [] (E4 r1) [], .bit false, .bit false, .bit false, .bit true, .bit true, .bit true, .bit true, .bit true, .bit true, .bit true, .bit true, .bit true] (p := [V.sc (.int .i64 ((List.map E124 l).length : Int)) = V.sc (.int .i64 (l.length : Int)),
       Fn Try.prog 101 [(false, E3 k), (false, E3 0), (false, E3 (i64 ((l.length : Int) - 1)))] (E4 r1) [],
       (true || ((E4 r1).nv && nvL [])) = true,
       (!r1) = false,
       (!r1) = false,
       (!r1) = false,
       (decide (task < 0)) = true,
       (decide (task < 0)) = true,
       (decide (task < 0)) = true,
       (decide (task < 0)) = true,
       (decide (task < 0)) = true,
       (decide (task < 0)) = true,
       (decide (task < 0)) = true,
       (decide (task < 0)) = true,
       true = true]) (by kernel_rfl) (cj (len_nm _ _) (cj (spec_l01In_ok k 0 (i64 ((l.length : Int) - 1)) r1 h1) (cj rfl (cj (nf h2) (cj (nf h2) (cj (nf h2) (cj h3 (cj h3 (cj h3 (cj h3 (cj h3 (cj h3 (cj h3 (cj h3 (cj1 rfl))))))))))))))))) (fun h3 =>
      Pn.ite (fun h4 =>
       Pn.bind (fun x1 h5 =>
        Pn.ite (fun h6 =>
         Pn.some (Fn.of [.wait 5, .nm 11 (V.sc (.int .i64 (l.length : Int))), .call [] (E4 r1) [], .bit false, .bit false, .bit false, .bit false, .bit false, .bit false, .el (E124 x1), .bit false, .bit false, .bit false, .bit false, .bit false, .bit true] (p := [V.sc (.int .i64 ((List.map E124 l).length : Int)) = V.sc (.int .i64 (l.length : Int)),
          Fn Try.prog 101 [(false, E3 k), (false, E3 0), (false, E3 (i64 ((l.length : Int) - 1)))] (E4 r1) [],
          (true || ((E4 r1).nv && nvL [])) = true,
          (!r1) = false,
          (!r1) = false,
          (!r1) = false,
          (decide (task < 0)) = false,
          (decide (task < 0)) = false,
          (decide (task < 0)) = false,
          (0 : Int) ≤ k,
          (List.map E124 l)[k.toNat]? = some (E124 x1),
          (decide (task < 0)) = false,
          (decide (task < 0)) = false,
          (decide (task < 0)) = false,
          (decide (task < 0)) = false,
          (decide (task < 0)) = false,
          (x1.Owner != task) = true]) (by kernel_rfl) (cj (len_nm _ _) (cj (spec_l01In_ok k 0 (i64 ((l.length : Int) - 1)) r1 h1) (cj rfl (cj (nf h2) (cj (nf h2) (cj (nf h2) (cj h3 (cj h3 (cj h3 (cj (od h4) (cj (map_get h5) (cj h3 (cj h3 (cj h3 (cj h3 (cj h3 (cj1 h6))))))))))))))))))) (fun h6 =>
         Pn.bind (fun r2 h7 =>
          Pn.bind (fun x2 h8 =>
           Pn.some (Fn.of [.wait 5, .nm 11 (V.sc (.int .i64 (l.length : Int))), .call [] (E4 r1) [], .bit false, .bit false, .bit false, .bit false, .bit false, .bit false, .el (E124 x1), .bit false, .bit false, .bit false, .bit false, .bit false, .bit false, .call [] (E28 r2) [], .wait 4, .foc 0 k.toNat (E124 x2), .fo 0, .wait 4, .shut 0, .nb 0 (.row 124 (List.map E124 (r2.set k.toNat (Stripe.mk (-1) x2.Accts))) [])] (p := [V.sc (.int .i64 ((List.map E124 l).length : Int)) = V.sc (.int .i64 (l.length : Int)),
            Fn Try.prog 101 [(false, E3 k), (false, E3 0), (false, E3 (i64 ((l.length : Int) - 1)))] (E4 r1) [],
            (true || ((E4 r1).nv && nvL [])) = true,
            (!r1) = false,
            (!r1) = false,
            (!r1) = false,
            (decide (task < 0)) = false,
            (decide (task < 0)) = false,
            (decide (task < 0)) = false,
            (0 : Int) ≤ k,
            (List.map E124 l)[k.toNat]? = some (E124 x1),
            (decide (task < 0)) = false,
            (decide (task < 0)) = false,
            (decide (task < 0)) = false,
            (decide (task < 0)) = false,
            (decide (task < 0)) = false,
            (x1.Owner != task) = false,
            Fn Try.prog 102 [(false, E28 l)] (E28 r2) [],
            (true || ((E28 r2).nv && nvL [])) = true,
            (0 : Int) ≤ k,
            (k : Int) < ((List.map E124 r2).length : Int),
            look [] k.toNat = none,
            (List.map E124 r2)[k.toNat]? = some (E124 x2),
            look [(k.toNat, V.agg [V.sc (.int .i64 x2.Owner), V.ow 1])] k.toNat = some (V.agg [V.sc (.int .i64 x2.Owner), V.ow 1]),
            k.toNat < (List.map E124 r2).length,
            k.toNat = k.toNat,
            Blk.row 124 ((List.map E124 r2).set k.toNat (V.agg [V.sc (.int .i64 (-1)), V.sl true 54 (List.map E54 x2.Accts)])) [] = Blk.row 124 (List.map E124 (r2.set k.toNat (Stripe.mk (-1) x2.Accts))) []]) (by kernel_rfl) (cj (len_nm _ _) (cj (spec_l01In_ok k 0 (i64 ((l.length : Int) - 1)) r1 h1) (cj rfl (cj (nf h2) (cj (nf h2) (cj (nf h2) (cj h3 (cj h3 (cj h3 (cj (od h4) (cj (map_get h5) (cj h3 (cj h3 (cj h3 (cj h3 (cj h3 (cj h6 (cj (spec_l13Copy_ok l r2 h7) (cj rfl (cj (od h4) (cj (map_ltN (od h4) h8) (cj rfl (cj (map_get h8) (cj (look_cons_self _ _ _) (cj (map_lt h8) (cj rfl (cj1 (nb_set E124 _ _ (Stripe.mk (-1) x2.Accts))))))))))))))))))))))))))))))))))) (fun h4 =>
       Pn.none))) (fun h2 =>
     Pn.some (Fn.of [.wait 5, .nm 11 (V.sc (.int .i64 (l.length : Int))), .call [] (E4 r1) [], .bit true, .bit true, .bit true, .bit true, .bit true, .bit true, .bit true, .bit true, .bit true, .bit true, .bit true, .bit true] (p := [V.sc (.int .i64 ((List.map E124 l).length : Int)) = V.sc (.int .i64 (l.length : Int)),
      Fn Try.prog 101 [(false, E3 k), (false, E3 0), (false, E3 (i64 ((l.length : Int) - 1)))] (E4 r1) [],
      (true || ((E4 r1).nv && nvL [])) = true,
      (!r1) = true,
      (!r1) = true,
      (!r1) = true,
      true = true,
      true = true,
      true = true,
      true = true,
      true = true,
      true = true,
      true = true,
      true = true,
      true = true]) (by kernel_rfl) (cj (len_nm _ _) (cj (spec_l01In_ok k 0 (i64 ((l.length : Int) - 1)) r1 h1) (cj rfl (cj (nt h2) (cj (nt h2) (cj (nt h2) (cj rfl (cj rfl (cj rfl (cj rfl (cj rfl (cj rfl (cj rfl (cj rfl (cj1 rfl))))))))))))))))))
def impl_within (n : Int) (low : Int) (high : Int) : Option (Bool) :=
 if (decide (low ≤ n)) = true then
  some (decide (n ≤ high))
 else
  some false
theorem impl_within_ok (n : Int) (low : Int) (high : Int) : Pn (fun y => Fn Try.prog 87 [(false, E3 n), (false, E3 low), (false, E3 high)] (E4 y) []) (impl_within n low high) := by
  unfold impl_within
  exact
   Pn.ite (fun h1 =>
    Pn.some (Fn.of [.bit true, .bit true, .bit true, .bit true] (p := [(decide (low ≤ n)) = true,
     (decide (low ≤ n)) = true,
     (decide (low ≤ n)) = true,
     (decide (low ≤ n)) = true]) (by kernel_rfl) (cj h1 (cj h1 (cj h1 (cj1 h1)))))) (fun h1 =>
    Pn.some (Fn.of [.bit false, .bit false, .bit false, .bit false] (p := [(decide (low ≤ n)) = false,
     (decide (low ≤ n)) = false,
     (decide (low ≤ n)) = false,
     (decide (low ≤ n)) = false]) (by kernel_rfl) (cj h1 (cj h1 (cj h1 (cj1 h1))))))
def impl_Book_each_impl_Acct_copied_l0 (b : Book) : List Acct → (List Acct) → Option ((List Acct))
  | [], v1 =>
   some v1
  | x1 :: t1, v1 =>
   (impl_Acct_copied x1).bind fun r1 =>
   if (capOk (v1.length + 1)) = true then
    impl_Book_each_impl_Acct_copied_l0 b t1 (v1 ++ [r1])
   else none
theorem impl_Book_each_impl_Acct_copied_l0_ok (b : Book) (h2 : capOk b.Accts.length = true) : ∀ (t1 p1 : List Acct) (_ : b.Accts = p1 ++ t1) (v1 : List Acct), Pn (LpO Try.prog (sub (codeOf Try.prog 69) [1, 1, 0, 1, 0, 0]) (st 26 [(1, V.fn 71 []), (4, V.ptr 0 0), (5, V.ptr 1 0), (10, V.sl false 54 (List.map E54 b.Accts)), (11, V.sc (.int .i64 (b.Accts.length : Int))), (12, V.sc (.int .i64 (p1.length : Int)))] [Blk.box 41 [V.nl 54], Blk.box 41 [V.ow 2], Blk.row 54 (List.map E54 v1) []] []) (fun (y : (List Acct)) => (X.out 0, st 26 [(4, V.ptr 0 0), (5, V.ptr 1 0)] [Blk.box 41 [V.nl 54], Blk.box 41 [V.ow 2], Blk.row 54 (List.map E54 y) []] []))) (impl_Book_each_impl_Acct_copied_l0 b t1 v1)
  | [], p1, h1, v1 => by
    unfold impl_Book_each_impl_Acct_copied_l0
    exact
     Pn.some (LpO.out [.bit false, .mask [4, 5], .ren [0, 1, 2]] (p := [(decide ((p1.length : Int) < (b.Accts.length : Int))) = false]) (by kernel_rfl) (show X.out 0 ≠ X.go from nofun) (cj1 (rng_end h1)))
  | x1 :: t1, p1, h1, v1 => by
    unfold impl_Book_each_impl_Acct_copied_l0
    exact
     Pn.bind (fun r1 h3 =>
      Pn.ite (fun h4 =>
       LpO.go [.bit true, .el (E54 x1), .draw [6, 8], .call [] (E54 r1) [], .wait 1, .shut 8, .mv, .nb 9 (.row 54 (List.map E54 (v1 ++ [r1])) []), .wait 5, .mask [1, 4, 5, 10, 11, 12], .ren [0, 1, 9], .nm 12 (V.sc (.int .i64 ((p1 ++ [x1]).length : Int)))] (p := [(decide ((p1.length : Int) < (b.Accts.length : Int))) = true,
        (0 : Int) ≤ (p1.length : Int),
        (List.map E54 b.Accts)[(p1.length : Int).toNat]? = some (E54 x1),
        Fn Try.prog 71 [(false, E54 x1)] (E54 r1) [],
        (true || ((E54 r1).nv && nvL [])) = true,
        (List.map E54 v1).length + [V.agg [V.sc (.string r1.Id), V.sc (.int .i64 r1.Limit), V.sc (.int .i64 r1.Posted), V.sc (.int .i64 r1.Most), V.sc (.int .i64 r1.MostSum), V.sl true 61 (List.map E61 r1.Holds), V.sc (.int .i64 r1.Ring.Span), V.sc (.int .i64 r1.Ring.Head), V.sl true 3 (List.map E3 r1.Ring.Counts), V.sl true 3 (List.map E3 r1.Ring.Sums), V.sl true 177 (List.map E177 r1.Slots)]].length ≤ 9223372036854775807,
        ((List.map E54 v1).length + [V.agg [V.sc (.string r1.Id), V.sc (.int .i64 r1.Limit), V.sc (.int .i64 r1.Posted), V.sc (.int .i64 r1.Most), V.sc (.int .i64 r1.MostSum), V.sl true 61 (List.map E61 r1.Holds), V.sc (.int .i64 r1.Ring.Span), V.sc (.int .i64 r1.Ring.Head), V.sl true 3 (List.map E3 r1.Ring.Counts), V.sl true 3 (List.map E3 r1.Ring.Sums), V.sl true 177 (List.map E177 r1.Slots)]].length) * 160 ≤ 140737488355328,
        Blk.row 54 ((List.map E54 v1) ++ [V.agg [V.sc (.string r1.Id), V.sc (.int .i64 r1.Limit), V.sc (.int .i64 r1.Posted), V.sc (.int .i64 r1.Most), V.sc (.int .i64 r1.MostSum), V.sl true 61 (List.map E61 r1.Holds), V.sc (.int .i64 r1.Ring.Span), V.sc (.int .i64 r1.Ring.Head), V.sl true 3 (List.map E3 r1.Ring.Counts), V.sl true 3 (List.map E3 r1.Ring.Sums), V.sl true 177 (List.map E177 r1.Slots)]]) [] = Blk.row 54 (List.map E54 (v1 ++ [r1])) [],
        V.sc (.int .i64 (i64 ((p1.length : Int) + 1))) = V.sc (.int .i64 ((p1 ++ [x1]).length : Int))]) (by kernel_rfl) (cj (rng_lt h1) (cj (by omega) (cj (rng_get _ h1) (cj (impl_Acct_copied_ok x1 r1 h3) (cj rfl (cj (cap1 (capN (by simp) h4)) (cj (cap2 (capN (by simp) h4) (by decide)) (cj (nb_app E54 v1 [r1]) (cj1 (rng_next h1 h2)))))))))) (impl_Book_each_impl_Acct_copied_l0_ok b h2 t1 (p1 ++ [x1]) (rng_step h1) (v1 ++ [r1]))) (fun h4 =>
       Pn.none))
def impl_Book_each_impl_Acct_copied (b : Book) : Option (Book) :=
 if (capOk b.Accts.length) = true then
  (impl_Book_each_impl_Acct_copied_l0 b b.Accts []).bind fun r2 =>
  some (Book.mk r2)
 else none
theorem impl_Book_each_impl_Acct_copied_ok (b : Book) : Pn (fun y => Fn Try.prog 69 [(false, E41 b), (false, V.fn 71 [])] (E41 y) []) (impl_Book_each_impl_Acct_copied b) := by
  unfold impl_Book_each_impl_Acct_copied
  exact
   Pn.ite (fun h5 =>
    Pn.bind (fun r2 h6 =>
     Pn.some (Fn.of [.wait 8, .nm 11 (V.sc (.int .i64 (b.Accts.length : Int))), .wait 2, .mask [1, 4, 5, 10, 11, 12], .ren [1, 2], .ownb 1 0, .mask [1, 4, 5, 10, 11, 12], .ren [0, 1, 2], .loop (X.out 0) (st 26 [(4, V.ptr 0 0), (5, V.ptr 1 0)] [Blk.box 41 [V.nl 54], Blk.box 41 [V.ow 2], Blk.row 54 (List.map E54 r2) []] [])] (p := [V.sc (.int .i64 ((List.map E54 b.Accts).length : Int)) = V.sc (.int .i64 (b.Accts.length : Int)),
      Loop Try.prog (sub (codeOf Try.prog 69) [1, 1, 0, 1, 0, 0]) (st 26 [(1, V.fn 71 []), (4, V.ptr 0 0), (5, V.ptr 1 0), (10, V.sl false 54 (List.map E54 b.Accts)), (11, V.sc (.int .i64 (b.Accts.length : Int))), (12, V.sc (.int .i64 0))] [Blk.box 41 [V.nl 54], Blk.box 41 [V.ow 2], Blk.row 54 ([] : List V) []] []) (X.out 0) (st 26 [(4, V.ptr 0 0), (5, V.ptr 1 0)] [Blk.box 41 [V.nl 54], Blk.box 41 [V.ow 2], Blk.row 54 (List.map E54 r2) []] [])]) (by kernel_rfl) (cj (len_nm _ _) (cj1 (impl_Book_each_impl_Acct_copied_l0_ok b h5 b.Accts [] rfl [] r2 h6)))))) (fun h5 =>
    Pn.none)
def impl_Book_copied (b : Book) : Option (Book) :=
 (impl_Book_each_impl_Acct_copied b).bind fun r1 =>
 some r1
theorem impl_Book_copied_ok (b : Book) : Pn (fun y => Fn Try.prog 163 [(false, E41 b)] (E41 y) []) (impl_Book_copied b) := by
  unfold impl_Book_copied
  exact
   Pn.bind (fun r1 h1 =>
    Pn.some (Fn.of [.call [] (E41 r1) []] (p := [Fn Try.prog 69 [(false, E41 b), (false, V.fn 71 [])] (E41 r1) [],
     (true || ((E41 r1).nv && nvL [])) = true]) (by kernel_rfl) (cj (impl_Book_each_impl_Acct_copied_ok b r1 h1) (cj1 rfl))))
def impl_copyStripes_l0 (l : List Stripe) : List Stripe → (List Stripe) → Option ((List Stripe))
  | [], v1 =>
   some v1
  | x1 :: t1, v1 =>
   (impl_Book_copied (Book.mk x1.Accts)).bind fun r1 =>
   if (capOk (v1.length + 1)) = true then
    impl_copyStripes_l0 l t1 (v1 ++ [(Stripe.mk x1.Owner r1.Accts)])
   else none
theorem impl_copyStripes_l0_ok (l : List Stripe) (h2 : capOk l.length = true) : ∀ (t1 p1 : List Stripe) (_ : l = p1 ++ t1) (v1 : List Stripe), Pn (LpO Try.prog (sub (codeOf Try.prog 111) [1, 1, 0, 1, 0, 0]) (st 26 [(3, V.ow 0), (7, V.sl false 124 (List.map E124 l)), (8, V.sc (.int .i64 (l.length : Int))), (9, V.sc (.int .i64 (p1.length : Int)))] [Blk.row 124 (List.map E124 v1) []] []) (fun (y : (List Stripe)) => (X.out 0, st 26 [(3, V.ow 0)] [Blk.row 124 (List.map E124 y) []] []))) (impl_copyStripes_l0 l t1 v1)
  | [], p1, h1, v1 => by
    unfold impl_copyStripes_l0
    exact
     Pn.some (LpO.out [.bit false, .mask [3], .ren [0]] (p := [(decide ((p1.length : Int) < (l.length : Int))) = false]) (by kernel_rfl) (show X.out 0 ≠ X.go from nofun) (cj1 (rng_end h1)))
  | x1 :: t1, p1, h1, v1 => by
    unfold impl_copyStripes_l0
    exact
     Pn.bind (fun r1 h3 =>
      Pn.ite (fun h4 =>
       LpO.go [.bit true, .el (E124 x1), .draw [10], .call [] (E41 r1) [], .wait 3, .shut 3, .mv, .nb 4 (.row 124 (List.map E124 (v1 ++ [(Stripe.mk x1.Owner r1.Accts)])) []), .wait 4, .mask [3, 7, 8, 9], .ren [4], .nm 9 (V.sc (.int .i64 ((p1 ++ [x1]).length : Int)))] (p := [(decide ((p1.length : Int) < (l.length : Int))) = true,
        (0 : Int) ≤ (p1.length : Int),
        (List.map E124 l)[(p1.length : Int).toNat]? = some (E124 x1),
        Fn Try.prog 163 [(false, E41 (Book.mk x1.Accts))] (E41 r1) [],
        (true || ((E41 r1).nv && nvL [])) = true,
        (List.map E124 v1).length + [V.agg [V.sc (.int .i64 x1.Owner), V.sl true 54 (List.map E54 r1.Accts)]].length ≤ 9223372036854775807,
        ((List.map E124 v1).length + [V.agg [V.sc (.int .i64 x1.Owner), V.sl true 54 (List.map E54 r1.Accts)]].length) * 32 ≤ 140737488355328,
        Blk.row 124 ((List.map E124 v1) ++ [V.agg [V.sc (.int .i64 x1.Owner), V.sl true 54 (List.map E54 r1.Accts)]]) [] = Blk.row 124 (List.map E124 (v1 ++ [(Stripe.mk x1.Owner r1.Accts)])) [],
        V.sc (.int .i64 (i64 ((p1.length : Int) + 1))) = V.sc (.int .i64 ((p1 ++ [x1]).length : Int))]) (by kernel_rfl) (cj (rng_lt h1) (cj (by omega) (cj (rng_get _ h1) (cj (impl_Book_copied_ok (Book.mk x1.Accts) r1 h3) (cj rfl (cj (cap1 (capN (by simp) h4)) (cj (cap2 (capN (by simp) h4) (by decide)) (cj (nb_app E124 v1 [(Stripe.mk x1.Owner r1.Accts)]) (cj1 (rng_next h1 h2)))))))))) (impl_copyStripes_l0_ok l h2 t1 (p1 ++ [x1]) (rng_step h1) (v1 ++ [(Stripe.mk x1.Owner r1.Accts)]))) (fun h4 =>
       Pn.none))
def impl_copyStripes (l : List Stripe) : Option ((List Stripe)) :=
 if (capOk l.length) = true then
  (impl_copyStripes_l0 l l []).bind fun r2 =>
  some r2
 else none
theorem impl_copyStripes_ok (l : List Stripe) : Pn (fun y => Fn Try.prog 111 [(false, E28 l)] (E28 y) []) (impl_copyStripes l) := by
  unfold impl_copyStripes
  exact
   Pn.ite (fun h5 =>
    Pn.bind (fun r2 h6 =>
     Pn.some (Fn.of [.wait 5, .nm 8 (V.sc (.int .i64 (l.length : Int))), .wait 2, .mask [3, 7, 8, 9], .ren [0], .loop (X.out 0) (st 26 [(3, V.ow 0)] [Blk.row 124 (List.map E124 r2) []] [])] (p := [V.sc (.int .i64 ((List.map E124 l).length : Int)) = V.sc (.int .i64 (l.length : Int)),
      Loop Try.prog (sub (codeOf Try.prog 111) [1, 1, 0, 1, 0, 0]) (st 26 [(3, V.ow 0), (7, V.sl false 124 (List.map E124 l)), (8, V.sc (.int .i64 (l.length : Int))), (9, V.sc (.int .i64 0))] [Blk.row 124 ([] : List V) []] []) (X.out 0) (st 26 [(3, V.ow 0)] [Blk.row 124 (List.map E124 r2) []] [])]) (by kernel_rfl) (cj (len_nm _ _) (cj1 (impl_copyStripes_l0_ok l h5 l [] rfl [] r2 h6)))))) (fun h5 =>
    Pn.none)
def impl_owned (l : List Stripe) (k : Int) (owner : Int) : Option ((List Stripe)) :=
 (impl_copyStripes l).bind fun r1 =>
 if (decide (0 ≤ k)) = true then
  (r1[k.toNat]?).bind fun x1 =>
  some (r1.set k.toNat (Stripe.mk owner x1.Accts))
 else none
theorem impl_owned_ok (l : List Stripe) (k : Int) (owner : Int) : Pn (fun y => Fn Try.prog 104 [(false, E28 l), (false, E3 k), (false, E3 owner)] (E28 y) []) (impl_owned l k owner) := by
  unfold impl_owned
  exact
   Pn.bind (fun r1 h1 =>
    Pn.ite (fun h2 =>
     Pn.bind (fun x1 h3 =>
      Pn.some (Fn.of [.call [] (E28 r1) [], .wait 5, .foc 0 k.toNat (E124 x1), .fo 0, .wait 3, .shut 0, .nb 0 (.row 124 (List.map E124 (r1.set k.toNat (Stripe.mk owner x1.Accts))) [])] (p := [Fn Try.prog 111 [(false, E28 l)] (E28 r1) [],
       (true || ((E28 r1).nv && nvL [])) = true,
       (0 : Int) ≤ k,
       (k : Int) < ((List.map E124 r1).length : Int),
       look [] k.toNat = none,
       (List.map E124 r1)[k.toNat]? = some (E124 x1),
       look [(k.toNat, V.agg [V.sc (.int .i64 x1.Owner), V.ow 1])] k.toNat = some (V.agg [V.sc (.int .i64 x1.Owner), V.ow 1]),
       k.toNat < (List.map E124 r1).length,
       k.toNat = k.toNat,
       Blk.row 124 ((List.map E124 r1).set k.toNat (V.agg [V.sc (.int .i64 owner), V.sl true 54 (List.map E54 x1.Accts)])) [] = Blk.row 124 (List.map E124 (r1.set k.toNat (Stripe.mk owner x1.Accts))) []]) (by kernel_rfl) (cj (impl_copyStripes_ok l r1 h1) (cj rfl (cj (od h2) (cj (map_ltN (od h2) h3) (cj rfl (cj (map_get h3) (cj (look_cons_self _ _ _) (cj (map_lt h3) (cj rfl (cj1 (nb_set E124 _ _ (Stripe.mk owner x1.Accts))))))))))))))) (fun h2 =>
     Pn.none))
def impl_GiveLock (l : List Stripe) (k : Int) (task : Int) : Option ((List Stripe) × Bool) :=
 (impl_within k 0 (i64 ((l.length : Int) - 1))).bind fun r1 =>
 if r1 = true then
  if (decide (task < 0)) = true then
   some ([], false)
  else
   if (decide (0 ≤ k)) = true then
    (l[k.toNat]?).bind fun x1 =>
    if (x1.Owner != task) = true then
     some ([], false)
    else
     (impl_owned l k (-1)).bind fun r2 =>
     some (r2, true)
   else none
 else
  some ([], false)
theorem impl_GiveLock_ok (l : List Stripe) (k : Int) (task : Int) : Pn (fun y => Fn Try.prog 45 [(false, E28 l), (false, E3 k), (false, E3 task)] (V.tup [E28 y.1, E4 y.2]) []) (impl_GiveLock l k task) := by
  unfold impl_GiveLock
  exact
   Pn.bind (fun r1 h1 =>
    Pn.ite (fun h2 =>
     Pn.ite (fun h3 =>
      Pn.some (Fn.of [.wait 5, .nm 10 (V.sc (.int .i64 (l.length : Int))), .call [] (E4 r1) [], .bit false, .bit false, .bit false, .bit true, .bit true, .bit true, .bit true, .bit true, .bit true, .bit true, .bit true, .bit true] (p := [V.sc (.int .i64 ((List.map E124 l).length : Int)) = V.sc (.int .i64 (l.length : Int)),
       Fn Try.prog 87 [(false, E3 k), (false, E3 0), (false, E3 (i64 ((l.length : Int) - 1)))] (E4 r1) [],
       (true || ((E4 r1).nv && nvL [])) = true,
       (!r1) = false,
       (!r1) = false,
       (!r1) = false,
       (decide (task < 0)) = true,
       (decide (task < 0)) = true,
       (decide (task < 0)) = true,
       (decide (task < 0)) = true,
       (decide (task < 0)) = true,
       (decide (task < 0)) = true,
       (decide (task < 0)) = true,
       (decide (task < 0)) = true,
       true = true]) (by kernel_rfl) (cj (len_nm _ _) (cj (impl_within_ok k 0 (i64 ((l.length : Int) - 1)) r1 h1) (cj rfl (cj (nf h2) (cj (nf h2) (cj (nf h2) (cj h3 (cj h3 (cj h3 (cj h3 (cj h3 (cj h3 (cj h3 (cj h3 (cj1 rfl))))))))))))))))) (fun h3 =>
      Pn.ite (fun h4 =>
       Pn.bind (fun x1 h5 =>
        Pn.ite (fun h6 =>
         Pn.some (Fn.of [.wait 5, .nm 10 (V.sc (.int .i64 (l.length : Int))), .call [] (E4 r1) [], .bit false, .bit false, .bit false, .bit false, .bit false, .bit false, .el (E124 x1), .bit false, .bit false, .bit false, .bit false, .bit false, .bit true] (p := [V.sc (.int .i64 ((List.map E124 l).length : Int)) = V.sc (.int .i64 (l.length : Int)),
          Fn Try.prog 87 [(false, E3 k), (false, E3 0), (false, E3 (i64 ((l.length : Int) - 1)))] (E4 r1) [],
          (true || ((E4 r1).nv && nvL [])) = true,
          (!r1) = false,
          (!r1) = false,
          (!r1) = false,
          (decide (task < 0)) = false,
          (decide (task < 0)) = false,
          (decide (task < 0)) = false,
          (0 : Int) ≤ k,
          (List.map E124 l)[k.toNat]? = some (E124 x1),
          (decide (task < 0)) = false,
          (decide (task < 0)) = false,
          (decide (task < 0)) = false,
          (decide (task < 0)) = false,
          (decide (task < 0)) = false,
          (x1.Owner != task) = true]) (by kernel_rfl) (cj (len_nm _ _) (cj (impl_within_ok k 0 (i64 ((l.length : Int) - 1)) r1 h1) (cj rfl (cj (nf h2) (cj (nf h2) (cj (nf h2) (cj h3 (cj h3 (cj h3 (cj (od h4) (cj (map_get h5) (cj h3 (cj h3 (cj h3 (cj h3 (cj h3 (cj1 h6))))))))))))))))))) (fun h6 =>
         Pn.bind (fun r2 h7 =>
          Pn.some (Fn.of [.wait 5, .nm 10 (V.sc (.int .i64 (l.length : Int))), .call [] (E4 r1) [], .bit false, .bit false, .bit false, .bit false, .bit false, .bit false, .el (E124 x1), .bit false, .bit false, .bit false, .bit false, .bit false, .bit false, .call [] (E28 r2) []] (p := [V.sc (.int .i64 ((List.map E124 l).length : Int)) = V.sc (.int .i64 (l.length : Int)),
           Fn Try.prog 87 [(false, E3 k), (false, E3 0), (false, E3 (i64 ((l.length : Int) - 1)))] (E4 r1) [],
           (true || ((E4 r1).nv && nvL [])) = true,
           (!r1) = false,
           (!r1) = false,
           (!r1) = false,
           (decide (task < 0)) = false,
           (decide (task < 0)) = false,
           (decide (task < 0)) = false,
           (0 : Int) ≤ k,
           (List.map E124 l)[k.toNat]? = some (E124 x1),
           (decide (task < 0)) = false,
           (decide (task < 0)) = false,
           (decide (task < 0)) = false,
           (decide (task < 0)) = false,
           (decide (task < 0)) = false,
           (x1.Owner != task) = false,
           Fn Try.prog 104 [(false, E28 l), (false, E3 k), (false, E3 (-1))] (E28 r2) [],
           (true || ((E28 r2).nv && nvL [])) = true]) (by kernel_rfl) (cj (len_nm _ _) (cj (impl_within_ok k 0 (i64 ((l.length : Int) - 1)) r1 h1) (cj rfl (cj (nf h2) (cj (nf h2) (cj (nf h2) (cj h3 (cj h3 (cj h3 (cj (od h4) (cj (map_get h5) (cj h3 (cj h3 (cj h3 (cj h3 (cj h3 (cj h6 (cj (impl_owned_ok l k (-1) r2 h7) (cj1 rfl)))))))))))))))))))))))) (fun h4 =>
       Pn.none))) (fun h2 =>
     Pn.some (Fn.of [.wait 5, .nm 10 (V.sc (.int .i64 (l.length : Int))), .call [] (E4 r1) [], .bit true, .bit true, .bit true, .bit true, .bit true, .bit true, .bit true, .bit true, .bit true, .bit true, .bit true, .bit true] (p := [V.sc (.int .i64 ((List.map E124 l).length : Int)) = V.sc (.int .i64 (l.length : Int)),
      Fn Try.prog 87 [(false, E3 k), (false, E3 0), (false, E3 (i64 ((l.length : Int) - 1)))] (E4 r1) [],
      (true || ((E4 r1).nv && nvL [])) = true,
      (!r1) = true,
      (!r1) = true,
      (!r1) = true,
      true = true,
      true = true,
      true = true,
      true = true,
      true = true,
      true = true,
      true = true,
      true = true,
      true = true]) (by kernel_rfl) (cj (len_nm _ _) (cj (impl_within_ok k 0 (i64 ((l.length : Int) - 1)) r1 h1) (cj rfl (cj (nt h2) (cj (nt h2) (cj (nt h2) (cj rfl (cj rfl (cj rfl (cj rfl (cj rfl (cj rfl (cj rfl (cj rfl (cj1 rfl))))))))))))))))))
def laws_heldStripeS_l0 (a : List Stripe) : List Stripe → Int → Option (Lo Int Unit)
  | [], v1 =>
   some (.out v1)
  | x1 :: t1, v1 =>
   if (x1.Owner != v1) = true then
    some (.ret ())
   else
    (laws_heldAcctS x1.Accts (i64 (v1 + 1))).bind fun r1 =>
    if (decide (r1 < 0)) = true then
     some (.ret ())
    else
     laws_heldStripeS_l0 a t1 r1
theorem laws_heldStripeS_l0_ok (a : List Stripe) (h2 : capOk a.length = true) : ∀ (t1 p1 : List Stripe) (_ : a = p1 ++ t1) (v1 : Int), Pn (LpO Try.prog (sub (codeOf Try.prog 48) [1, 0, 1, 0, 0]) (st 31 [(0, V.sl false 124 (List.map E124 a)), (1, V.sc (.int .i64 v1)), (5, V.sc (.int .i64 (p1.length : Int)))] [] []) (fun (y : Lo Int Unit) => Lo.elim y (fun s => (X.out 0, st 31 [(1, V.sc (.int .i64 s))] [] [])) (fun s => (X.ret, st 31 [(4, V.sc (.int .i64 (-1)))] [] [])))) (laws_heldStripeS_l0 a t1 v1)
  | [], p1, h1, v1 => by
    unfold laws_heldStripeS_l0
    exact
     Pn.some (LpO.out [.wait 3, .nm 8 (V.sc (.int .i64 (a.length : Int))), .bit false, .mask [1], .ren []] (p := [V.sc (.int .i64 ((List.map E124 a).length : Int)) = V.sc (.int .i64 (a.length : Int)),
      (decide ((p1.length : Int) < (a.length : Int))) = false]) (by kernel_rfl) (show X.out 0 ≠ X.go from nofun) (cj (len_nm _ _) (cj1 (rng_end h1))))
  | x1 :: t1, p1, h1, v1 => by
    unfold laws_heldStripeS_l0
    exact
     Pn.ite (fun h3 =>
      Pn.some (LpO.out [.wait 3, .nm 8 (V.sc (.int .i64 (a.length : Int))), .bit true, .el (E124 x1), .bit true, .wait 1, .mask [4], .ren []] (p := [V.sc (.int .i64 ((List.map E124 a).length : Int)) = V.sc (.int .i64 (a.length : Int)),
       (decide ((p1.length : Int) < (a.length : Int))) = true,
       (0 : Int) ≤ (p1.length : Int),
       (List.map E124 a)[(p1.length : Int).toNat]? = some (E124 x1),
       (x1.Owner != v1) = true]) (by kernel_rfl) (show X.ret ≠ X.go from nofun) (cj (len_nm _ _) (cj (rng_lt h1) (cj (by omega) (cj (rng_get _ h1) (cj1 h3))))))) (fun h3 =>
      Pn.bind (fun r1 h4 =>
       Pn.ite (fun h5 =>
        Pn.some (LpO.out [.wait 3, .nm 8 (V.sc (.int .i64 (a.length : Int))), .bit true, .el (E124 x1), .bit false, .el (E124 x1), .call [] (E3 r1) [], .bit true, .wait 1, .mask [4], .ren []] (p := [V.sc (.int .i64 ((List.map E124 a).length : Int)) = V.sc (.int .i64 (a.length : Int)),
         (decide ((p1.length : Int) < (a.length : Int))) = true,
         (0 : Int) ≤ (p1.length : Int),
         (List.map E124 a)[(p1.length : Int).toNat]? = some (E124 x1),
         (x1.Owner != v1) = false,
         (0 : Int) ≤ (p1.length : Int),
         (List.map E124 a)[(p1.length : Int).toNat]? = some (E124 x1),
         Fn Try.prog 74 [(false, E39 x1.Accts), (false, E3 (i64 (v1 + 1)))] (E3 r1) [],
         (true || ((E3 r1).nv && nvL [])) = true,
         (decide (r1 < 0)) = true]) (by kernel_rfl) (show X.ret ≠ X.go from nofun) (cj (len_nm _ _) (cj (rng_lt h1) (cj (by omega) (cj (rng_get _ h1) (cj h3 (cj (by omega) (cj (rng_get _ h1) (cj (laws_heldAcctS_ok x1.Accts (i64 (v1 + 1)) r1 h4) (cj rfl (cj1 h5)))))))))))) (fun h5 =>
        LpO.go [.wait 3, .nm 8 (V.sc (.int .i64 (a.length : Int))), .bit true, .el (E124 x1), .bit false, .el (E124 x1), .call [] (E3 r1) [], .bit false, .wait 3, .mask [0, 1, 5], .ren [], .nm 5 (V.sc (.int .i64 ((p1 ++ [x1]).length : Int)))] (p := [V.sc (.int .i64 ((List.map E124 a).length : Int)) = V.sc (.int .i64 (a.length : Int)),
         (decide ((p1.length : Int) < (a.length : Int))) = true,
         (0 : Int) ≤ (p1.length : Int),
         (List.map E124 a)[(p1.length : Int).toNat]? = some (E124 x1),
         (x1.Owner != v1) = false,
         (0 : Int) ≤ (p1.length : Int),
         (List.map E124 a)[(p1.length : Int).toNat]? = some (E124 x1),
         Fn Try.prog 74 [(false, E39 x1.Accts), (false, E3 (i64 (v1 + 1)))] (E3 r1) [],
         (true || ((E3 r1).nv && nvL [])) = true,
         (decide (r1 < 0)) = false,
         V.sc (.int .i64 (i64 ((p1.length : Int) + 1))) = V.sc (.int .i64 ((p1 ++ [x1]).length : Int))]) (by kernel_rfl) (cj (len_nm _ _) (cj (rng_lt h1) (cj (by omega) (cj (rng_get _ h1) (cj h3 (cj (by omega) (cj (rng_get _ h1) (cj (laws_heldAcctS_ok x1.Accts (i64 (v1 + 1)) r1 h4) (cj rfl (cj h5 (cj1 (rng_next h1 h2)))))))))))) (laws_heldStripeS_l0_ok a h2 t1 (p1 ++ [x1]) (rng_step h1) r1))))
def laws_heldStripeS (a : List Stripe) (k : Int) : Option (Int) :=
 if (capOk a.length) = true then
  (laws_heldStripeS_l0 a a k).bind fun r2 =>
  Lo.elim r2 (fun s1 =>
   some s1) (fun s2 =>
   some (-1))
 else none
theorem laws_heldStripeS_ok (a : List Stripe) (k : Int) : Pn (fun y => Fn Try.prog 48 [(false, E28 a), (false, E3 k)] (E3 y) []) (laws_heldStripeS a k) := by
  unfold laws_heldStripeS
  exact
   Pn.ite (fun h6 =>
    Pn.bind (fun r2 h7 =>
     Pn.lo (fun s1 h8 =>
      Pn.some (Fn.of [.wait 3, .mask [0, 1, 5], .ren [], .loop (X.out 0) (st 31 [(1, V.sc (.int .i64 s1))] [] [])] (p := [Loop Try.prog (sub (codeOf Try.prog 48) [1, 0, 1, 0, 0]) (st 31 [(0, V.sl false 124 (List.map E124 a)), (1, V.sc (.int .i64 k)), (5, V.sc (.int .i64 0))] [] []) (X.out 0) (st 31 [(1, V.sc (.int .i64 s1))] [] [])]) (by kernel_rfl) (cj1 ((laws_heldStripeS_l0_ok a h6 a [] rfl k r2 h7).at h8)))) (fun s2 h9 =>
      Pn.some (Fn.of [.wait 3, .mask [0, 1, 5], .ren [], .loop (X.ret) (st 31 [(4, V.sc (.int .i64 (-1)))] [] [])] (p := [Loop Try.prog (sub (codeOf Try.prog 48) [1, 0, 1, 0, 0]) (st 31 [(0, V.sl false 124 (List.map E124 a)), (1, V.sc (.int .i64 k)), (5, V.sc (.int .i64 0))] [] []) (X.ret) (st 31 [(4, V.sc (.int .i64 (-1)))] [] [])]) (by kernel_rfl) (cj1 ((laws_heldStripeS_l0_ok a h6 a [] rfl k r2 h7).at h9)))))) (fun h6 =>
    Pn.none)
def laws_FnExactGiveLock (o : List Stripe) (o_ : Int) (a2 : Int) : Option (Bool) :=
 (laws_szStripeS o 1048576).bind fun r1 =>
 if (decide (r1 < 0)) = true then
  some true
 else
  (laws_toStripeS o).bind fun r2 =>
  (spec_GiveLock r2 o_ a2).bind fun r3 =>
  (laws_toStripeS o).bind fun r4 =>
  (impl_GiveLock r4 o_ a2).bind fun r5 =>
  (laws_eqStripeS r5.1 r3.1).bind fun r6 =>
  if r6 = true then
   if (r5.2 == r3.2) = true then
    (laws_toStripeS o).bind fun r7 =>
    (laws_eqStripeS r4 r7).bind fun r8 =>
    if r8 = true then
     (laws_markStripeS r4 1).bind fun r9 =>
     if (decide (r9.1 < 0)) = true then
      some false
     else
      (laws_eqStripeS r5.1 r3.1).bind fun r10 =>
      if r10 = true then
       (laws_markStripeS r5.1 1).bind fun r11 =>
       (laws_heldStripeS r11.2 1).bind fun r12 =>
       if (decide (r12 < 0)) = true then
        some false
       else
        if (r12 != r11.1) = true then
         some false
        else
         (laws_toStripeS o).bind fun r13 =>
         (impl_GiveLock r13 o_ a2).bind fun r14 =>
         (laws_eqStripeS r14.1 r3.1).bind fun r15 =>
         if r15 = true then
          if (r14.2 == r3.2) = true then
           (laws_heldStripeS r11.2 1).bind fun r16 =>
           if (decide (r16 < 0)) = true then
            some false
           else
            if (r16 != r11.1) = true then
             some false
            else
             some true
          else
           some false
         else
          some false
      else
       some false
    else
     some false
   else
    some false
  else
   some false
theorem laws_FnExactGiveLock_ok (o : List Stripe) (o_ : Int) (a2 : Int) : Pn (fun y => Fn Try.prog 8 [(false, E22 o), (false, E3 o_), (false, E3 a2)] (E4 y) []) (laws_FnExactGiveLock o o_ a2) := by
  unfold laws_FnExactGiveLock
  exact
   Pn.bind (fun r1 h1 =>
    Pn.ite (fun h2 =>
     Pn.some (Fn.of [.call [] (E3 r1) [], .bit true] (p := [Fn Try.prog 42 [(false, E22 o), (false, E3 1048576)] (E3 r1) [],
      (true || ((E3 r1).nv && nvL [])) = true,
      (decide (r1 < 0)) = true]) (by kernel_rfl) (cj (laws_szStripeS_ok o 1048576 r1 h1) (cj rfl (cj1 h2))))) (fun h2 =>
     Pn.bind (fun r2 h3 =>
      Pn.bind (fun r3 h4 =>
       Pn.bind (fun r4 h5 =>
        Pn.bind (fun r5 h6 =>
         Pn.bind (fun r6 h7 =>
          Pn.ite (fun h8 =>
           Pn.ite (fun h9 =>
            Pn.bind (fun r7 h10 =>
             Pn.bind (fun r8 h11 =>
              Pn.ite (fun h12 =>
               Pn.bind (fun r9 h13 =>
                Pn.ite (fun h14 =>
                 Pn.some (Fn.of [.call [] (E3 r1) [], .bit false, .call [] (E28 r2) [], .call [] (V.tup [E28 r3.1, E4 r3.2]) [], .call [] (E28 r4) [], .call [] (V.tup [E28 r5.1, E4 r5.2]) [], .call [] (E4 r6) [], .bit false, .bit false, .bit false, .bit false, .bit false, .call [] (E28 r7) [], .call [] (E4 r8) [], .bit false, .call [true, false] (E3 r9.1) [V.sl true 124 (List.map E124 r9.2)], .bit true, .bit true, .bit true, .bit true, .bit true, .bit true, .bit true, .bit true, .bit true, .bit true] (p := [Fn Try.prog 42 [(false, E22 o), (false, E3 1048576)] (E3 r1) [],
                  (true || ((E3 r1).nv && nvL [])) = true,
                  (decide (r1 < 0)) = false,
                  Fn Try.prog 44 [(false, E22 o)] (E28 r2) [],
                  (true || ((E28 r2).nv && nvL [])) = true,
                  Fn Try.prog 43 [(false, E28 r2), (false, E3 o_), (false, E3 a2)] (V.tup [E28 r3.1, E4 r3.2]) [],
                  (false || ((V.tup [E28 r3.1, E4 r3.2]).nv && nvL [])) = true,
                  Fn Try.prog 44 [(false, E22 o)] (E28 r4) [],
                  (true || ((E28 r4).nv && nvL [])) = true,
                  Fn Try.prog 45 [(false, E28 r4), (false, E3 o_), (false, E3 a2)] (V.tup [E28 r5.1, E4 r5.2]) [],
                  (false || ((V.tup [E28 r5.1, E4 r5.2]).nv && nvL [])) = true,
                  Fn Try.prog 46 [(false, E28 r5.1), (false, E28 r3.1)] (E4 r6) [],
                  (false || ((E4 r6).nv && nvL [])) = true,
                  (!r6) = false,
                  (!r6) = false,
                  (!r6) = false,
                  (!r6) = false,
                  (!(r5.2 == r3.2)) = false,
                  Fn Try.prog 44 [(false, E22 o)] (E28 r7) [],
                  (true || ((E28 r7).nv && nvL [])) = true,
                  Fn Try.prog 46 [(false, E28 r4), (false, E28 r7)] (E4 r8) [],
                  (false || ((E4 r8).nv && nvL [])) = true,
                  (!r8) = false,
                  Fn Try.prog 47 [(true, E28 r4), (false, E3 1)] (E3 r9.1) [V.sl true 124 (List.map E124 r9.2)],
                  (true || ((E3 r9.1).nv && nvL [V.sl true 124 (List.map E124 r9.2)])) = true,
                  (decide (r9.1 < 0)) = true,
                  (decide (r9.1 < 0)) = true,
                  (decide (r9.1 < 0)) = true,
                  (decide (r9.1 < 0)) = true,
                  (decide (r9.1 < 0)) = true,
                  true = true,
                  true = true,
                  true = true,
                  true = true,
                  true = true]) (by kernel_rfl) (cj (laws_szStripeS_ok o 1048576 r1 h1) (cj rfl (cj h2 (cj (laws_toStripeS_ok o r2 h3) (cj rfl (cj (spec_GiveLock_ok r2 o_ a2 r3 h4) (cj (by simp [V.nv, nvL, nvL_all, nv_E3, nv_E4, nv_E5, nv_E9, nv_E28, nv_E39, nv_E47, nv_E48, nv_E49, nv_E51, nv_E52, nv_E54, nv_E61, nv_E124, nv_E177]) (cj (laws_toStripeS_ok o r4 h5) (cj rfl (cj (impl_GiveLock_ok r4 o_ a2 r5 h6) (cj (by simp [V.nv, nvL, nvL_all, nv_E3, nv_E4, nv_E5, nv_E9, nv_E28, nv_E39, nv_E47, nv_E48, nv_E49, nv_E51, nv_E52, nv_E54, nv_E61, nv_E124, nv_E177]) (cj (laws_eqStripeS_ok r5.1 r3.1 r6 h7) (cj (by simp [V.nv, nvL, nvL_all, nv_E4]) (cj (nf h8) (cj (nf h8) (cj (nf h8) (cj (nf h8) (cj (nf h9) (cj (laws_toStripeS_ok o r7 h10) (cj rfl (cj (laws_eqStripeS_ok r4 r7 r8 h11) (cj (by simp [V.nv, nvL, nvL_all, nv_E4]) (cj (nf h12) (cj (laws_markStripeS_ok r4 1 r9 h13) (cj rfl (cj h14 (cj h14 (cj h14 (cj h14 (cj h14 (cj rfl (cj rfl (cj rfl (cj rfl (cj1 rfl))))))))))))))))))))))))))))))))))))) (fun h14 =>
                 Pn.bind (fun r10 h15 =>
                  Pn.ite (fun h16 =>
                   Pn.bind (fun r11 h17 =>
                    Pn.bind (fun r12 h18 =>
                     Pn.ite (fun h19 =>
                      Pn.some (Fn.of [.call [] (E3 r1) [], .bit false, .call [] (E28 r2) [], .call [] (V.tup [E28 r3.1, E4 r3.2]) [], .call [] (E28 r4) [], .call [] (V.tup [E28 r5.1, E4 r5.2]) [], .call [] (E4 r6) [], .bit false, .bit false, .bit false, .bit false, .bit false, .call [] (E28 r7) [], .call [] (E4 r8) [], .bit false, .call [true, false] (E3 r9.1) [V.sl true 124 (List.map E124 r9.2)], .bit false, .bit false, .bit false, .call [] (E4 r10) [], .bit false, .bit false, .bit false, .bit false, .bit false, .bit false, .bit false, .call [true, false] (E3 r11.1) [V.sl true 124 (List.map E124 r11.2)], .call [] (E3 r12) [], .bit true] (p := [Fn Try.prog 42 [(false, E22 o), (false, E3 1048576)] (E3 r1) [],
                       (true || ((E3 r1).nv && nvL [])) = true,
                       (decide (r1 < 0)) = false,
                       Fn Try.prog 44 [(false, E22 o)] (E28 r2) [],
                       (true || ((E28 r2).nv && nvL [])) = true,
                       Fn Try.prog 43 [(false, E28 r2), (false, E3 o_), (false, E3 a2)] (V.tup [E28 r3.1, E4 r3.2]) [],
                       (false || ((V.tup [E28 r3.1, E4 r3.2]).nv && nvL [])) = true,
                       Fn Try.prog 44 [(false, E22 o)] (E28 r4) [],
                       (true || ((E28 r4).nv && nvL [])) = true,
                       Fn Try.prog 45 [(false, E28 r4), (false, E3 o_), (false, E3 a2)] (V.tup [E28 r5.1, E4 r5.2]) [],
                       (false || ((V.tup [E28 r5.1, E4 r5.2]).nv && nvL [])) = true,
                       Fn Try.prog 46 [(false, E28 r5.1), (false, E28 r3.1)] (E4 r6) [],
                       (false || ((E4 r6).nv && nvL [])) = true,
                       (!r6) = false,
                       (!r6) = false,
                       (!r6) = false,
                       (!r6) = false,
                       (!(r5.2 == r3.2)) = false,
                       Fn Try.prog 44 [(false, E22 o)] (E28 r7) [],
                       (true || ((E28 r7).nv && nvL [])) = true,
                       Fn Try.prog 46 [(false, E28 r4), (false, E28 r7)] (E4 r8) [],
                       (false || ((E4 r8).nv && nvL [])) = true,
                       (!r8) = false,
                       Fn Try.prog 47 [(true, E28 r4), (false, E3 1)] (E3 r9.1) [V.sl true 124 (List.map E124 r9.2)],
                       (true || ((E3 r9.1).nv && nvL [V.sl true 124 (List.map E124 r9.2)])) = true,
                       (decide (r9.1 < 0)) = false,
                       (decide (r9.1 < 0)) = false,
                       (decide (r9.1 < 0)) = false,
                       Fn Try.prog 46 [(false, E28 r5.1), (false, E28 r3.1)] (E4 r10) [],
                       (false || ((E4 r10).nv && nvL [])) = true,
                       (decide (r9.1 < 0)) = false,
                       (decide (r9.1 < 0)) = false,
                       (!r10) = false,
                       (!r10) = false,
                       (!r10) = false,
                       (!r10) = false,
                       (!(r5.2 == r3.2)) = false,
                       Fn Try.prog 47 [(true, E28 r5.1), (false, E3 1)] (E3 r11.1) [V.sl true 124 (List.map E124 r11.2)],
                       (true || ((E3 r11.1).nv && nvL [V.sl true 124 (List.map E124 r11.2)])) = true,
                       Fn Try.prog 48 [(false, E28 r11.2), (false, E3 1)] (E3 r12) [],
                       (false || ((E3 r12).nv && nvL [])) = true,
                       (decide (r12 < 0)) = true]) (by kernel_rfl) (cj (laws_szStripeS_ok o 1048576 r1 h1) (cj rfl (cj h2 (cj (laws_toStripeS_ok o r2 h3) (cj rfl (cj (spec_GiveLock_ok r2 o_ a2 r3 h4) (cj (by simp [V.nv, nvL, nvL_all, nv_E3, nv_E4, nv_E5, nv_E9, nv_E28, nv_E39, nv_E47, nv_E48, nv_E49, nv_E51, nv_E52, nv_E54, nv_E61, nv_E124, nv_E177]) (cj (laws_toStripeS_ok o r4 h5) (cj rfl (cj (impl_GiveLock_ok r4 o_ a2 r5 h6) (cj (by simp [V.nv, nvL, nvL_all, nv_E3, nv_E4, nv_E5, nv_E9, nv_E28, nv_E39, nv_E47, nv_E48, nv_E49, nv_E51, nv_E52, nv_E54, nv_E61, nv_E124, nv_E177]) (cj (laws_eqStripeS_ok r5.1 r3.1 r6 h7) (cj (by simp [V.nv, nvL, nvL_all, nv_E4]) (cj (nf h8) (cj (nf h8) (cj (nf h8) (cj (nf h8) (cj (nf h9) (cj (laws_toStripeS_ok o r7 h10) (cj rfl (cj (laws_eqStripeS_ok r4 r7 r8 h11) (cj (by simp [V.nv, nvL, nvL_all, nv_E4]) (cj (nf h12) (cj (laws_markStripeS_ok r4 1 r9 h13) (cj rfl (cj h14 (cj h14 (cj h14 (cj (laws_eqStripeS_ok r5.1 r3.1 r10 h15) (cj (by simp [V.nv, nvL, nvL_all, nv_E4]) (cj h14 (cj h14 (cj (nf h16) (cj (nf h16) (cj (nf h16) (cj (nf h16) (cj (nf h9) (cj (laws_markStripeS_ok r5.1 1 r11 h17) (cj rfl (cj (laws_heldStripeS_ok r11.2 1 r12 h18) (cj (by simp [V.nv, nvL, nvL_all, nv_E3]) (cj1 h19)))))))))))))))))))))))))))))))))))))))))))) (fun h19 =>
                      Pn.ite (fun h20 =>
                       Pn.some (Fn.of [.call [] (E3 r1) [], .bit false, .call [] (E28 r2) [], .call [] (V.tup [E28 r3.1, E4 r3.2]) [], .call [] (E28 r4) [], .call [] (V.tup [E28 r5.1, E4 r5.2]) [], .call [] (E4 r6) [], .bit false, .bit false, .bit false, .bit false, .bit false, .call [] (E28 r7) [], .call [] (E4 r8) [], .bit false, .call [true, false] (E3 r9.1) [V.sl true 124 (List.map E124 r9.2)], .bit false, .bit false, .bit false, .call [] (E4 r10) [], .bit false, .bit false, .bit false, .bit false, .bit false, .bit false, .bit false, .call [true, false] (E3 r11.1) [V.sl true 124 (List.map E124 r11.2)], .call [] (E3 r12) [], .bit false, .bit true] (p := [Fn Try.prog 42 [(false, E22 o), (false, E3 1048576)] (E3 r1) [],
                        (true || ((E3 r1).nv && nvL [])) = true,
                        (decide (r1 < 0)) = false,
                        Fn Try.prog 44 [(false, E22 o)] (E28 r2) [],
                        (true || ((E28 r2).nv && nvL [])) = true,
                        Fn Try.prog 43 [(false, E28 r2), (false, E3 o_), (false, E3 a2)] (V.tup [E28 r3.1, E4 r3.2]) [],
                        (false || ((V.tup [E28 r3.1, E4 r3.2]).nv && nvL [])) = true,
                        Fn Try.prog 44 [(false, E22 o)] (E28 r4) [],
                        (true || ((E28 r4).nv && nvL [])) = true,
                        Fn Try.prog 45 [(false, E28 r4), (false, E3 o_), (false, E3 a2)] (V.tup [E28 r5.1, E4 r5.2]) [],
                        (false || ((V.tup [E28 r5.1, E4 r5.2]).nv && nvL [])) = true,
                        Fn Try.prog 46 [(false, E28 r5.1), (false, E28 r3.1)] (E4 r6) [],
                        (false || ((E4 r6).nv && nvL [])) = true,
                        (!r6) = false,
                        (!r6) = false,
                        (!r6) = false,
                        (!r6) = false,
                        (!(r5.2 == r3.2)) = false,
                        Fn Try.prog 44 [(false, E22 o)] (E28 r7) [],
                        (true || ((E28 r7).nv && nvL [])) = true,
                        Fn Try.prog 46 [(false, E28 r4), (false, E28 r7)] (E4 r8) [],
                        (false || ((E4 r8).nv && nvL [])) = true,
                        (!r8) = false,
                        Fn Try.prog 47 [(true, E28 r4), (false, E3 1)] (E3 r9.1) [V.sl true 124 (List.map E124 r9.2)],
                        (true || ((E3 r9.1).nv && nvL [V.sl true 124 (List.map E124 r9.2)])) = true,
                        (decide (r9.1 < 0)) = false,
                        (decide (r9.1 < 0)) = false,
                        (decide (r9.1 < 0)) = false,
                        Fn Try.prog 46 [(false, E28 r5.1), (false, E28 r3.1)] (E4 r10) [],
                        (false || ((E4 r10).nv && nvL [])) = true,
                        (decide (r9.1 < 0)) = false,
                        (decide (r9.1 < 0)) = false,
                        (!r10) = false,
                        (!r10) = false,
                        (!r10) = false,
                        (!r10) = false,
                        (!(r5.2 == r3.2)) = false,
                        Fn Try.prog 47 [(true, E28 r5.1), (false, E3 1)] (E3 r11.1) [V.sl true 124 (List.map E124 r11.2)],
                        (true || ((E3 r11.1).nv && nvL [V.sl true 124 (List.map E124 r11.2)])) = true,
                        Fn Try.prog 48 [(false, E28 r11.2), (false, E3 1)] (E3 r12) [],
                        (false || ((E3 r12).nv && nvL [])) = true,
                        (decide (r12 < 0)) = false,
                        (r12 != r11.1) = true]) (by kernel_rfl) (cj (laws_szStripeS_ok o 1048576 r1 h1) (cj rfl (cj h2 (cj (laws_toStripeS_ok o r2 h3) (cj rfl (cj (spec_GiveLock_ok r2 o_ a2 r3 h4) (cj (by simp [V.nv, nvL, nvL_all, nv_E3, nv_E4, nv_E5, nv_E9, nv_E28, nv_E39, nv_E47, nv_E48, nv_E49, nv_E51, nv_E52, nv_E54, nv_E61, nv_E124, nv_E177]) (cj (laws_toStripeS_ok o r4 h5) (cj rfl (cj (impl_GiveLock_ok r4 o_ a2 r5 h6) (cj (by simp [V.nv, nvL, nvL_all, nv_E3, nv_E4, nv_E5, nv_E9, nv_E28, nv_E39, nv_E47, nv_E48, nv_E49, nv_E51, nv_E52, nv_E54, nv_E61, nv_E124, nv_E177]) (cj (laws_eqStripeS_ok r5.1 r3.1 r6 h7) (cj (by simp [V.nv, nvL, nvL_all, nv_E4]) (cj (nf h8) (cj (nf h8) (cj (nf h8) (cj (nf h8) (cj (nf h9) (cj (laws_toStripeS_ok o r7 h10) (cj rfl (cj (laws_eqStripeS_ok r4 r7 r8 h11) (cj (by simp [V.nv, nvL, nvL_all, nv_E4]) (cj (nf h12) (cj (laws_markStripeS_ok r4 1 r9 h13) (cj rfl (cj h14 (cj h14 (cj h14 (cj (laws_eqStripeS_ok r5.1 r3.1 r10 h15) (cj (by simp [V.nv, nvL, nvL_all, nv_E4]) (cj h14 (cj h14 (cj (nf h16) (cj (nf h16) (cj (nf h16) (cj (nf h16) (cj (nf h9) (cj (laws_markStripeS_ok r5.1 1 r11 h17) (cj rfl (cj (laws_heldStripeS_ok r11.2 1 r12 h18) (cj (by simp [V.nv, nvL, nvL_all, nv_E3]) (cj h19 (cj1 h20))))))))))))))))))))))))))))))))))))))))))))) (fun h20 =>
                       Pn.bind (fun r13 h21 =>
                        Pn.bind (fun r14 h22 =>
                         Pn.bind (fun r15 h23 =>
                          Pn.ite (fun h24 =>
                           Pn.ite (fun h25 =>
                            Pn.bind (fun r16 h26 =>
                             Pn.ite (fun h27 =>
                              Pn.some (Fn.of [.call [] (E3 r1) [], .bit false, .call [] (E28 r2) [], .call [] (V.tup [E28 r3.1, E4 r3.2]) [], .call [] (E28 r4) [], .call [] (V.tup [E28 r5.1, E4 r5.2]) [], .call [] (E4 r6) [], .bit false, .bit false, .bit false, .bit false, .bit false, .call [] (E28 r7) [], .call [] (E4 r8) [], .bit false, .call [true, false] (E3 r9.1) [V.sl true 124 (List.map E124 r9.2)], .bit false, .bit false, .bit false, .call [] (E4 r10) [], .bit false, .bit false, .bit false, .bit false, .bit false, .bit false, .bit false, .call [true, false] (E3 r11.1) [V.sl true 124 (List.map E124 r11.2)], .call [] (E3 r12) [], .bit false, .bit false, .call [] (E28 r13) [], .call [] (V.tup [E28 r14.1, E4 r14.2]) [], .call [] (E4 r15) [], .bit false, .bit false, .bit false, .bit false, .bit false, .call [] (E3 r16) [], .bit true] (p := [Fn Try.prog 42 [(false, E22 o), (false, E3 1048576)] (E3 r1) [],
                               (true || ((E3 r1).nv && nvL [])) = true,
                               (decide (r1 < 0)) = false,
                               Fn Try.prog 44 [(false, E22 o)] (E28 r2) [],
                               (true || ((E28 r2).nv && nvL [])) = true,
                               Fn Try.prog 43 [(false, E28 r2), (false, E3 o_), (false, E3 a2)] (V.tup [E28 r3.1, E4 r3.2]) [],
                               (false || ((V.tup [E28 r3.1, E4 r3.2]).nv && nvL [])) = true,
                               Fn Try.prog 44 [(false, E22 o)] (E28 r4) [],
                               (true || ((E28 r4).nv && nvL [])) = true,
                               Fn Try.prog 45 [(false, E28 r4), (false, E3 o_), (false, E3 a2)] (V.tup [E28 r5.1, E4 r5.2]) [],
                               (false || ((V.tup [E28 r5.1, E4 r5.2]).nv && nvL [])) = true,
                               Fn Try.prog 46 [(false, E28 r5.1), (false, E28 r3.1)] (E4 r6) [],
                               (false || ((E4 r6).nv && nvL [])) = true,
                               (!r6) = false,
                               (!r6) = false,
                               (!r6) = false,
                               (!r6) = false,
                               (!(r5.2 == r3.2)) = false,
                               Fn Try.prog 44 [(false, E22 o)] (E28 r7) [],
                               (true || ((E28 r7).nv && nvL [])) = true,
                               Fn Try.prog 46 [(false, E28 r4), (false, E28 r7)] (E4 r8) [],
                               (false || ((E4 r8).nv && nvL [])) = true,
                               (!r8) = false,
                               Fn Try.prog 47 [(true, E28 r4), (false, E3 1)] (E3 r9.1) [V.sl true 124 (List.map E124 r9.2)],
                               (true || ((E3 r9.1).nv && nvL [V.sl true 124 (List.map E124 r9.2)])) = true,
                               (decide (r9.1 < 0)) = false,
                               (decide (r9.1 < 0)) = false,
                               (decide (r9.1 < 0)) = false,
                               Fn Try.prog 46 [(false, E28 r5.1), (false, E28 r3.1)] (E4 r10) [],
                               (false || ((E4 r10).nv && nvL [])) = true,
                               (decide (r9.1 < 0)) = false,
                               (decide (r9.1 < 0)) = false,
                               (!r10) = false,
                               (!r10) = false,
                               (!r10) = false,
                               (!r10) = false,
                               (!(r5.2 == r3.2)) = false,
                               Fn Try.prog 47 [(true, E28 r5.1), (false, E3 1)] (E3 r11.1) [V.sl true 124 (List.map E124 r11.2)],
                               (true || ((E3 r11.1).nv && nvL [V.sl true 124 (List.map E124 r11.2)])) = true,
                               Fn Try.prog 48 [(false, E28 r11.2), (false, E3 1)] (E3 r12) [],
                               (false || ((E3 r12).nv && nvL [])) = true,
                               (decide (r12 < 0)) = false,
                               (r12 != r11.1) = false,
                               Fn Try.prog 44 [(false, E22 o)] (E28 r13) [],
                               (true || ((E28 r13).nv && nvL [])) = true,
                               Fn Try.prog 45 [(false, E28 r13), (false, E3 o_), (false, E3 a2)] (V.tup [E28 r14.1, E4 r14.2]) [],
                               (false || ((V.tup [E28 r14.1, E4 r14.2]).nv && nvL [])) = true,
                               Fn Try.prog 46 [(false, E28 r14.1), (false, E28 r3.1)] (E4 r15) [],
                               (false || ((E4 r15).nv && nvL [])) = true,
                               (!r15) = false,
                               (!r15) = false,
                               (!r15) = false,
                               (!r15) = false,
                               (!(r14.2 == r3.2)) = false,
                               Fn Try.prog 48 [(false, E28 r11.2), (false, E3 1)] (E3 r16) [],
                               (false || ((E3 r16).nv && nvL [])) = true,
                               (decide (r16 < 0)) = true]) (by kernel_rfl) (cj (laws_szStripeS_ok o 1048576 r1 h1) (cj rfl (cj h2 (cj (laws_toStripeS_ok o r2 h3) (cj rfl (cj (spec_GiveLock_ok r2 o_ a2 r3 h4) (cj (by simp [V.nv, nvL, nvL_all, nv_E3, nv_E4, nv_E5, nv_E9, nv_E28, nv_E39, nv_E47, nv_E48, nv_E49, nv_E51, nv_E52, nv_E54, nv_E61, nv_E124, nv_E177]) (cj (laws_toStripeS_ok o r4 h5) (cj rfl (cj (impl_GiveLock_ok r4 o_ a2 r5 h6) (cj (by simp [V.nv, nvL, nvL_all, nv_E3, nv_E4, nv_E5, nv_E9, nv_E28, nv_E39, nv_E47, nv_E48, nv_E49, nv_E51, nv_E52, nv_E54, nv_E61, nv_E124, nv_E177]) (cj (laws_eqStripeS_ok r5.1 r3.1 r6 h7) (cj (by simp [V.nv, nvL, nvL_all, nv_E4]) (cj (nf h8) (cj (nf h8) (cj (nf h8) (cj (nf h8) (cj (nf h9) (cj (laws_toStripeS_ok o r7 h10) (cj rfl (cj (laws_eqStripeS_ok r4 r7 r8 h11) (cj (by simp [V.nv, nvL, nvL_all, nv_E4]) (cj (nf h12) (cj (laws_markStripeS_ok r4 1 r9 h13) (cj rfl (cj h14 (cj h14 (cj h14 (cj (laws_eqStripeS_ok r5.1 r3.1 r10 h15) (cj (by simp [V.nv, nvL, nvL_all, nv_E4]) (cj h14 (cj h14 (cj (nf h16) (cj (nf h16) (cj (nf h16) (cj (nf h16) (cj (nf h9) (cj (laws_markStripeS_ok r5.1 1 r11 h17) (cj rfl (cj (laws_heldStripeS_ok r11.2 1 r12 h18) (cj (by simp [V.nv, nvL, nvL_all, nv_E3]) (cj h19 (cj h20 (cj (laws_toStripeS_ok o r13 h21) (cj rfl (cj (impl_GiveLock_ok r13 o_ a2 r14 h22) (cj (by simp [V.nv, nvL, nvL_all, nv_E3, nv_E4, nv_E5, nv_E9, nv_E28, nv_E39, nv_E47, nv_E48, nv_E49, nv_E51, nv_E52, nv_E54, nv_E61, nv_E124, nv_E177]) (cj (laws_eqStripeS_ok r14.1 r3.1 r15 h23) (cj (by simp [V.nv, nvL, nvL_all, nv_E4]) (cj (nf h24) (cj (nf h24) (cj (nf h24) (cj (nf h24) (cj (nf h25) (cj (laws_heldStripeS_ok r11.2 1 r16 h26) (cj (by simp [V.nv, nvL, nvL_all, nv_E3]) (cj1 h27))))))))))))))))))))))))))))))))))))))))))))))))))))))))))) (fun h27 =>
                              Pn.ite (fun h28 =>
                               Pn.some (Fn.of [.call [] (E3 r1) [], .bit false, .call [] (E28 r2) [], .call [] (V.tup [E28 r3.1, E4 r3.2]) [], .call [] (E28 r4) [], .call [] (V.tup [E28 r5.1, E4 r5.2]) [], .call [] (E4 r6) [], .bit false, .bit false, .bit false, .bit false, .bit false, .call [] (E28 r7) [], .call [] (E4 r8) [], .bit false, .call [true, false] (E3 r9.1) [V.sl true 124 (List.map E124 r9.2)], .bit false, .bit false, .bit false, .call [] (E4 r10) [], .bit false, .bit false, .bit false, .bit false, .bit false, .bit false, .bit false, .call [true, false] (E3 r11.1) [V.sl true 124 (List.map E124 r11.2)], .call [] (E3 r12) [], .bit false, .bit false, .call [] (E28 r13) [], .call [] (V.tup [E28 r14.1, E4 r14.2]) [], .call [] (E4 r15) [], .bit false, .bit false, .bit false, .bit false, .bit false, .call [] (E3 r16) [], .bit false, .bit true] (p := [Fn Try.prog 42 [(false, E22 o), (false, E3 1048576)] (E3 r1) [],
                                (true || ((E3 r1).nv && nvL [])) = true,
                                (decide (r1 < 0)) = false,
                                Fn Try.prog 44 [(false, E22 o)] (E28 r2) [],
                                (true || ((E28 r2).nv && nvL [])) = true,
                                Fn Try.prog 43 [(false, E28 r2), (false, E3 o_), (false, E3 a2)] (V.tup [E28 r3.1, E4 r3.2]) [],
                                (false || ((V.tup [E28 r3.1, E4 r3.2]).nv && nvL [])) = true,
                                Fn Try.prog 44 [(false, E22 o)] (E28 r4) [],
                                (true || ((E28 r4).nv && nvL [])) = true,
                                Fn Try.prog 45 [(false, E28 r4), (false, E3 o_), (false, E3 a2)] (V.tup [E28 r5.1, E4 r5.2]) [],
                                (false || ((V.tup [E28 r5.1, E4 r5.2]).nv && nvL [])) = true,
                                Fn Try.prog 46 [(false, E28 r5.1), (false, E28 r3.1)] (E4 r6) [],
                                (false || ((E4 r6).nv && nvL [])) = true,
                                (!r6) = false,
                                (!r6) = false,
                                (!r6) = false,
                                (!r6) = false,
                                (!(r5.2 == r3.2)) = false,
                                Fn Try.prog 44 [(false, E22 o)] (E28 r7) [],
                                (true || ((E28 r7).nv && nvL [])) = true,
                                Fn Try.prog 46 [(false, E28 r4), (false, E28 r7)] (E4 r8) [],
                                (false || ((E4 r8).nv && nvL [])) = true,
                                (!r8) = false,
                                Fn Try.prog 47 [(true, E28 r4), (false, E3 1)] (E3 r9.1) [V.sl true 124 (List.map E124 r9.2)],
                                (true || ((E3 r9.1).nv && nvL [V.sl true 124 (List.map E124 r9.2)])) = true,
                                (decide (r9.1 < 0)) = false,
                                (decide (r9.1 < 0)) = false,
                                (decide (r9.1 < 0)) = false,
                                Fn Try.prog 46 [(false, E28 r5.1), (false, E28 r3.1)] (E4 r10) [],
                                (false || ((E4 r10).nv && nvL [])) = true,
                                (decide (r9.1 < 0)) = false,
                                (decide (r9.1 < 0)) = false,
                                (!r10) = false,
                                (!r10) = false,
                                (!r10) = false,
                                (!r10) = false,
                                (!(r5.2 == r3.2)) = false,
                                Fn Try.prog 47 [(true, E28 r5.1), (false, E3 1)] (E3 r11.1) [V.sl true 124 (List.map E124 r11.2)],
                                (true || ((E3 r11.1).nv && nvL [V.sl true 124 (List.map E124 r11.2)])) = true,
                                Fn Try.prog 48 [(false, E28 r11.2), (false, E3 1)] (E3 r12) [],
                                (false || ((E3 r12).nv && nvL [])) = true,
                                (decide (r12 < 0)) = false,
                                (r12 != r11.1) = false,
                                Fn Try.prog 44 [(false, E22 o)] (E28 r13) [],
                                (true || ((E28 r13).nv && nvL [])) = true,
                                Fn Try.prog 45 [(false, E28 r13), (false, E3 o_), (false, E3 a2)] (V.tup [E28 r14.1, E4 r14.2]) [],
                                (false || ((V.tup [E28 r14.1, E4 r14.2]).nv && nvL [])) = true,
                                Fn Try.prog 46 [(false, E28 r14.1), (false, E28 r3.1)] (E4 r15) [],
                                (false || ((E4 r15).nv && nvL [])) = true,
                                (!r15) = false,
                                (!r15) = false,
                                (!r15) = false,
                                (!r15) = false,
                                (!(r14.2 == r3.2)) = false,
                                Fn Try.prog 48 [(false, E28 r11.2), (false, E3 1)] (E3 r16) [],
                                (false || ((E3 r16).nv && nvL [])) = true,
                                (decide (r16 < 0)) = false,
                                (r16 != r11.1) = true]) (by kernel_rfl) (cj (laws_szStripeS_ok o 1048576 r1 h1) (cj rfl (cj h2 (cj (laws_toStripeS_ok o r2 h3) (cj rfl (cj (spec_GiveLock_ok r2 o_ a2 r3 h4) (cj (by simp [V.nv, nvL, nvL_all, nv_E3, nv_E4, nv_E5, nv_E9, nv_E28, nv_E39, nv_E47, nv_E48, nv_E49, nv_E51, nv_E52, nv_E54, nv_E61, nv_E124, nv_E177]) (cj (laws_toStripeS_ok o r4 h5) (cj rfl (cj (impl_GiveLock_ok r4 o_ a2 r5 h6) (cj (by simp [V.nv, nvL, nvL_all, nv_E3, nv_E4, nv_E5, nv_E9, nv_E28, nv_E39, nv_E47, nv_E48, nv_E49, nv_E51, nv_E52, nv_E54, nv_E61, nv_E124, nv_E177]) (cj (laws_eqStripeS_ok r5.1 r3.1 r6 h7) (cj (by simp [V.nv, nvL, nvL_all, nv_E4]) (cj (nf h8) (cj (nf h8) (cj (nf h8) (cj (nf h8) (cj (nf h9) (cj (laws_toStripeS_ok o r7 h10) (cj rfl (cj (laws_eqStripeS_ok r4 r7 r8 h11) (cj (by simp [V.nv, nvL, nvL_all, nv_E4]) (cj (nf h12) (cj (laws_markStripeS_ok r4 1 r9 h13) (cj rfl (cj h14 (cj h14 (cj h14 (cj (laws_eqStripeS_ok r5.1 r3.1 r10 h15) (cj (by simp [V.nv, nvL, nvL_all, nv_E4]) (cj h14 (cj h14 (cj (nf h16) (cj (nf h16) (cj (nf h16) (cj (nf h16) (cj (nf h9) (cj (laws_markStripeS_ok r5.1 1 r11 h17) (cj rfl (cj (laws_heldStripeS_ok r11.2 1 r12 h18) (cj (by simp [V.nv, nvL, nvL_all, nv_E3]) (cj h19 (cj h20 (cj (laws_toStripeS_ok o r13 h21) (cj rfl (cj (impl_GiveLock_ok r13 o_ a2 r14 h22) (cj (by simp [V.nv, nvL, nvL_all, nv_E3, nv_E4, nv_E5, nv_E9, nv_E28, nv_E39, nv_E47, nv_E48, nv_E49, nv_E51, nv_E52, nv_E54, nv_E61, nv_E124, nv_E177]) (cj (laws_eqStripeS_ok r14.1 r3.1 r15 h23) (cj (by simp [V.nv, nvL, nvL_all, nv_E4]) (cj (nf h24) (cj (nf h24) (cj (nf h24) (cj (nf h24) (cj (nf h25) (cj (laws_heldStripeS_ok r11.2 1 r16 h26) (cj (by simp [V.nv, nvL, nvL_all, nv_E3]) (cj h27 (cj1 h28)))))))))))))))))))))))))))))))))))))))))))))))))))))))))))) (fun h28 =>
                               Pn.some (Fn.of [.call [] (E3 r1) [], .bit false, .call [] (E28 r2) [], .call [] (V.tup [E28 r3.1, E4 r3.2]) [], .call [] (E28 r4) [], .call [] (V.tup [E28 r5.1, E4 r5.2]) [], .call [] (E4 r6) [], .bit false, .bit false, .bit false, .bit false, .bit false, .call [] (E28 r7) [], .call [] (E4 r8) [], .bit false, .call [true, false] (E3 r9.1) [V.sl true 124 (List.map E124 r9.2)], .bit false, .bit false, .bit false, .call [] (E4 r10) [], .bit false, .bit false, .bit false, .bit false, .bit false, .bit false, .bit false, .call [true, false] (E3 r11.1) [V.sl true 124 (List.map E124 r11.2)], .call [] (E3 r12) [], .bit false, .bit false, .call [] (E28 r13) [], .call [] (V.tup [E28 r14.1, E4 r14.2]) [], .call [] (E4 r15) [], .bit false, .bit false, .bit false, .bit false, .bit false, .call [] (E3 r16) [], .bit false, .bit false] (p := [Fn Try.prog 42 [(false, E22 o), (false, E3 1048576)] (E3 r1) [],
                                (true || ((E3 r1).nv && nvL [])) = true,
                                (decide (r1 < 0)) = false,
                                Fn Try.prog 44 [(false, E22 o)] (E28 r2) [],
                                (true || ((E28 r2).nv && nvL [])) = true,
                                Fn Try.prog 43 [(false, E28 r2), (false, E3 o_), (false, E3 a2)] (V.tup [E28 r3.1, E4 r3.2]) [],
                                (false || ((V.tup [E28 r3.1, E4 r3.2]).nv && nvL [])) = true,
                                Fn Try.prog 44 [(false, E22 o)] (E28 r4) [],
                                (true || ((E28 r4).nv && nvL [])) = true,
                                Fn Try.prog 45 [(false, E28 r4), (false, E3 o_), (false, E3 a2)] (V.tup [E28 r5.1, E4 r5.2]) [],
                                (false || ((V.tup [E28 r5.1, E4 r5.2]).nv && nvL [])) = true,
                                Fn Try.prog 46 [(false, E28 r5.1), (false, E28 r3.1)] (E4 r6) [],
                                (false || ((E4 r6).nv && nvL [])) = true,
                                (!r6) = false,
                                (!r6) = false,
                                (!r6) = false,
                                (!r6) = false,
                                (!(r5.2 == r3.2)) = false,
                                Fn Try.prog 44 [(false, E22 o)] (E28 r7) [],
                                (true || ((E28 r7).nv && nvL [])) = true,
                                Fn Try.prog 46 [(false, E28 r4), (false, E28 r7)] (E4 r8) [],
                                (false || ((E4 r8).nv && nvL [])) = true,
                                (!r8) = false,
                                Fn Try.prog 47 [(true, E28 r4), (false, E3 1)] (E3 r9.1) [V.sl true 124 (List.map E124 r9.2)],
                                (true || ((E3 r9.1).nv && nvL [V.sl true 124 (List.map E124 r9.2)])) = true,
                                (decide (r9.1 < 0)) = false,
                                (decide (r9.1 < 0)) = false,
                                (decide (r9.1 < 0)) = false,
                                Fn Try.prog 46 [(false, E28 r5.1), (false, E28 r3.1)] (E4 r10) [],
                                (false || ((E4 r10).nv && nvL [])) = true,
                                (decide (r9.1 < 0)) = false,
                                (decide (r9.1 < 0)) = false,
                                (!r10) = false,
                                (!r10) = false,
                                (!r10) = false,
                                (!r10) = false,
                                (!(r5.2 == r3.2)) = false,
                                Fn Try.prog 47 [(true, E28 r5.1), (false, E3 1)] (E3 r11.1) [V.sl true 124 (List.map E124 r11.2)],
                                (true || ((E3 r11.1).nv && nvL [V.sl true 124 (List.map E124 r11.2)])) = true,
                                Fn Try.prog 48 [(false, E28 r11.2), (false, E3 1)] (E3 r12) [],
                                (false || ((E3 r12).nv && nvL [])) = true,
                                (decide (r12 < 0)) = false,
                                (r12 != r11.1) = false,
                                Fn Try.prog 44 [(false, E22 o)] (E28 r13) [],
                                (true || ((E28 r13).nv && nvL [])) = true,
                                Fn Try.prog 45 [(false, E28 r13), (false, E3 o_), (false, E3 a2)] (V.tup [E28 r14.1, E4 r14.2]) [],
                                (false || ((V.tup [E28 r14.1, E4 r14.2]).nv && nvL [])) = true,
                                Fn Try.prog 46 [(false, E28 r14.1), (false, E28 r3.1)] (E4 r15) [],
                                (false || ((E4 r15).nv && nvL [])) = true,
                                (!r15) = false,
                                (!r15) = false,
                                (!r15) = false,
                                (!r15) = false,
                                (!(r14.2 == r3.2)) = false,
                                Fn Try.prog 48 [(false, E28 r11.2), (false, E3 1)] (E3 r16) [],
                                (false || ((E3 r16).nv && nvL [])) = true,
                                (decide (r16 < 0)) = false,
                                (r16 != r11.1) = false]) (by kernel_rfl) (cj (laws_szStripeS_ok o 1048576 r1 h1) (cj rfl (cj h2 (cj (laws_toStripeS_ok o r2 h3) (cj rfl (cj (spec_GiveLock_ok r2 o_ a2 r3 h4) (cj (by simp [V.nv, nvL, nvL_all, nv_E3, nv_E4, nv_E5, nv_E9, nv_E28, nv_E39, nv_E47, nv_E48, nv_E49, nv_E51, nv_E52, nv_E54, nv_E61, nv_E124, nv_E177]) (cj (laws_toStripeS_ok o r4 h5) (cj rfl (cj (impl_GiveLock_ok r4 o_ a2 r5 h6) (cj (by simp [V.nv, nvL, nvL_all, nv_E3, nv_E4, nv_E5, nv_E9, nv_E28, nv_E39, nv_E47, nv_E48, nv_E49, nv_E51, nv_E52, nv_E54, nv_E61, nv_E124, nv_E177]) (cj (laws_eqStripeS_ok r5.1 r3.1 r6 h7) (cj (by simp [V.nv, nvL, nvL_all, nv_E4]) (cj (nf h8) (cj (nf h8) (cj (nf h8) (cj (nf h8) (cj (nf h9) (cj (laws_toStripeS_ok o r7 h10) (cj rfl (cj (laws_eqStripeS_ok r4 r7 r8 h11) (cj (by simp [V.nv, nvL, nvL_all, nv_E4]) (cj (nf h12) (cj (laws_markStripeS_ok r4 1 r9 h13) (cj rfl (cj h14 (cj h14 (cj h14 (cj (laws_eqStripeS_ok r5.1 r3.1 r10 h15) (cj (by simp [V.nv, nvL, nvL_all, nv_E4]) (cj h14 (cj h14 (cj (nf h16) (cj (nf h16) (cj (nf h16) (cj (nf h16) (cj (nf h9) (cj (laws_markStripeS_ok r5.1 1 r11 h17) (cj rfl (cj (laws_heldStripeS_ok r11.2 1 r12 h18) (cj (by simp [V.nv, nvL, nvL_all, nv_E3]) (cj h19 (cj h20 (cj (laws_toStripeS_ok o r13 h21) (cj rfl (cj (impl_GiveLock_ok r13 o_ a2 r14 h22) (cj (by simp [V.nv, nvL, nvL_all, nv_E3, nv_E4, nv_E5, nv_E9, nv_E28, nv_E39, nv_E47, nv_E48, nv_E49, nv_E51, nv_E52, nv_E54, nv_E61, nv_E124, nv_E177]) (cj (laws_eqStripeS_ok r14.1 r3.1 r15 h23) (cj (by simp [V.nv, nvL, nvL_all, nv_E4]) (cj (nf h24) (cj (nf h24) (cj (nf h24) (cj (nf h24) (cj (nf h25) (cj (laws_heldStripeS_ok r11.2 1 r16 h26) (cj (by simp [V.nv, nvL, nvL_all, nv_E3]) (cj h27 (cj1 h28))))))))))))))))))))))))))))))))))))))))))))))))))))))))))))))) (fun h25 =>
                            Pn.some (Fn.of [.call [] (E3 r1) [], .bit false, .call [] (E28 r2) [], .call [] (V.tup [E28 r3.1, E4 r3.2]) [], .call [] (E28 r4) [], .call [] (V.tup [E28 r5.1, E4 r5.2]) [], .call [] (E4 r6) [], .bit false, .bit false, .bit false, .bit false, .bit false, .call [] (E28 r7) [], .call [] (E4 r8) [], .bit false, .call [true, false] (E3 r9.1) [V.sl true 124 (List.map E124 r9.2)], .bit false, .bit false, .bit false, .call [] (E4 r10) [], .bit false, .bit false, .bit false, .bit false, .bit false, .bit false, .bit false, .call [true, false] (E3 r11.1) [V.sl true 124 (List.map E124 r11.2)], .call [] (E3 r12) [], .bit false, .bit false, .call [] (E28 r13) [], .call [] (V.tup [E28 r14.1, E4 r14.2]) [], .call [] (E4 r15) [], .bit false, .bit false, .bit false, .bit false, .bit true] (p := [Fn Try.prog 42 [(false, E22 o), (false, E3 1048576)] (E3 r1) [],
                             (true || ((E3 r1).nv && nvL [])) = true,
                             (decide (r1 < 0)) = false,
                             Fn Try.prog 44 [(false, E22 o)] (E28 r2) [],
                             (true || ((E28 r2).nv && nvL [])) = true,
                             Fn Try.prog 43 [(false, E28 r2), (false, E3 o_), (false, E3 a2)] (V.tup [E28 r3.1, E4 r3.2]) [],
                             (false || ((V.tup [E28 r3.1, E4 r3.2]).nv && nvL [])) = true,
                             Fn Try.prog 44 [(false, E22 o)] (E28 r4) [],
                             (true || ((E28 r4).nv && nvL [])) = true,
                             Fn Try.prog 45 [(false, E28 r4), (false, E3 o_), (false, E3 a2)] (V.tup [E28 r5.1, E4 r5.2]) [],
                             (false || ((V.tup [E28 r5.1, E4 r5.2]).nv && nvL [])) = true,
                             Fn Try.prog 46 [(false, E28 r5.1), (false, E28 r3.1)] (E4 r6) [],
                             (false || ((E4 r6).nv && nvL [])) = true,
                             (!r6) = false,
                             (!r6) = false,
                             (!r6) = false,
                             (!r6) = false,
                             (!(r5.2 == r3.2)) = false,
                             Fn Try.prog 44 [(false, E22 o)] (E28 r7) [],
                             (true || ((E28 r7).nv && nvL [])) = true,
                             Fn Try.prog 46 [(false, E28 r4), (false, E28 r7)] (E4 r8) [],
                             (false || ((E4 r8).nv && nvL [])) = true,
                             (!r8) = false,
                             Fn Try.prog 47 [(true, E28 r4), (false, E3 1)] (E3 r9.1) [V.sl true 124 (List.map E124 r9.2)],
                             (true || ((E3 r9.1).nv && nvL [V.sl true 124 (List.map E124 r9.2)])) = true,
                             (decide (r9.1 < 0)) = false,
                             (decide (r9.1 < 0)) = false,
                             (decide (r9.1 < 0)) = false,
                             Fn Try.prog 46 [(false, E28 r5.1), (false, E28 r3.1)] (E4 r10) [],
                             (false || ((E4 r10).nv && nvL [])) = true,
                             (decide (r9.1 < 0)) = false,
                             (decide (r9.1 < 0)) = false,
                             (!r10) = false,
                             (!r10) = false,
                             (!r10) = false,
                             (!r10) = false,
                             (!(r5.2 == r3.2)) = false,
                             Fn Try.prog 47 [(true, E28 r5.1), (false, E3 1)] (E3 r11.1) [V.sl true 124 (List.map E124 r11.2)],
                             (true || ((E3 r11.1).nv && nvL [V.sl true 124 (List.map E124 r11.2)])) = true,
                             Fn Try.prog 48 [(false, E28 r11.2), (false, E3 1)] (E3 r12) [],
                             (false || ((E3 r12).nv && nvL [])) = true,
                             (decide (r12 < 0)) = false,
                             (r12 != r11.1) = false,
                             Fn Try.prog 44 [(false, E22 o)] (E28 r13) [],
                             (true || ((E28 r13).nv && nvL [])) = true,
                             Fn Try.prog 45 [(false, E28 r13), (false, E3 o_), (false, E3 a2)] (V.tup [E28 r14.1, E4 r14.2]) [],
                             (false || ((V.tup [E28 r14.1, E4 r14.2]).nv && nvL [])) = true,
                             Fn Try.prog 46 [(false, E28 r14.1), (false, E28 r3.1)] (E4 r15) [],
                             (false || ((E4 r15).nv && nvL [])) = true,
                             (!r15) = false,
                             (!r15) = false,
                             (!r15) = false,
                             (!r15) = false,
                             (!(r14.2 == r3.2)) = true]) (by kernel_rfl) (cj (laws_szStripeS_ok o 1048576 r1 h1) (cj rfl (cj h2 (cj (laws_toStripeS_ok o r2 h3) (cj rfl (cj (spec_GiveLock_ok r2 o_ a2 r3 h4) (cj (by simp [V.nv, nvL, nvL_all, nv_E3, nv_E4, nv_E5, nv_E9, nv_E28, nv_E39, nv_E47, nv_E48, nv_E49, nv_E51, nv_E52, nv_E54, nv_E61, nv_E124, nv_E177]) (cj (laws_toStripeS_ok o r4 h5) (cj rfl (cj (impl_GiveLock_ok r4 o_ a2 r5 h6) (cj (by simp [V.nv, nvL, nvL_all, nv_E3, nv_E4, nv_E5, nv_E9, nv_E28, nv_E39, nv_E47, nv_E48, nv_E49, nv_E51, nv_E52, nv_E54, nv_E61, nv_E124, nv_E177]) (cj (laws_eqStripeS_ok r5.1 r3.1 r6 h7) (cj (by simp [V.nv, nvL, nvL_all, nv_E4]) (cj (nf h8) (cj (nf h8) (cj (nf h8) (cj (nf h8) (cj (nf h9) (cj (laws_toStripeS_ok o r7 h10) (cj rfl (cj (laws_eqStripeS_ok r4 r7 r8 h11) (cj (by simp [V.nv, nvL, nvL_all, nv_E4]) (cj (nf h12) (cj (laws_markStripeS_ok r4 1 r9 h13) (cj rfl (cj h14 (cj h14 (cj h14 (cj (laws_eqStripeS_ok r5.1 r3.1 r10 h15) (cj (by simp [V.nv, nvL, nvL_all, nv_E4]) (cj h14 (cj h14 (cj (nf h16) (cj (nf h16) (cj (nf h16) (cj (nf h16) (cj (nf h9) (cj (laws_markStripeS_ok r5.1 1 r11 h17) (cj rfl (cj (laws_heldStripeS_ok r11.2 1 r12 h18) (cj (by simp [V.nv, nvL, nvL_all, nv_E3]) (cj h19 (cj h20 (cj (laws_toStripeS_ok o r13 h21) (cj rfl (cj (impl_GiveLock_ok r13 o_ a2 r14 h22) (cj (by simp [V.nv, nvL, nvL_all, nv_E3, nv_E4, nv_E5, nv_E9, nv_E28, nv_E39, nv_E47, nv_E48, nv_E49, nv_E51, nv_E52, nv_E54, nv_E61, nv_E124, nv_E177]) (cj (laws_eqStripeS_ok r14.1 r3.1 r15 h23) (cj (by simp [V.nv, nvL, nvL_all, nv_E4]) (cj (nf h24) (cj (nf h24) (cj (nf h24) (cj (nf h24) (cj1 (nt h25)))))))))))))))))))))))))))))))))))))))))))))))))))))))))) (fun h24 =>
                           Pn.some (Fn.of [.call [] (E3 r1) [], .bit false, .call [] (E28 r2) [], .call [] (V.tup [E28 r3.1, E4 r3.2]) [], .call [] (E28 r4) [], .call [] (V.tup [E28 r5.1, E4 r5.2]) [], .call [] (E4 r6) [], .bit false, .bit false, .bit false, .bit false, .bit false, .call [] (E28 r7) [], .call [] (E4 r8) [], .bit false, .call [true, false] (E3 r9.1) [V.sl true 124 (List.map E124 r9.2)], .bit false, .bit false, .bit false, .call [] (E4 r10) [], .bit false, .bit false, .bit false, .bit false, .bit false, .bit false, .bit false, .call [true, false] (E3 r11.1) [V.sl true 124 (List.map E124 r11.2)], .call [] (E3 r12) [], .bit false, .bit false, .call [] (E28 r13) [], .call [] (V.tup [E28 r14.1, E4 r14.2]) [], .call [] (E4 r15) [], .bit true, .bit true, .bit true, .bit true, .bit true] (p := [Fn Try.prog 42 [(false, E22 o), (false, E3 1048576)] (E3 r1) [],
                            (true || ((E3 r1).nv && nvL [])) = true,
                            (decide (r1 < 0)) = false,
                            Fn Try.prog 44 [(false, E22 o)] (E28 r2) [],
                            (true || ((E28 r2).nv && nvL [])) = true,
                            Fn Try.prog 43 [(false, E28 r2), (false, E3 o_), (false, E3 a2)] (V.tup [E28 r3.1, E4 r3.2]) [],
                            (false || ((V.tup [E28 r3.1, E4 r3.2]).nv && nvL [])) = true,
                            Fn Try.prog 44 [(false, E22 o)] (E28 r4) [],
                            (true || ((E28 r4).nv && nvL [])) = true,
                            Fn Try.prog 45 [(false, E28 r4), (false, E3 o_), (false, E3 a2)] (V.tup [E28 r5.1, E4 r5.2]) [],
                            (false || ((V.tup [E28 r5.1, E4 r5.2]).nv && nvL [])) = true,
                            Fn Try.prog 46 [(false, E28 r5.1), (false, E28 r3.1)] (E4 r6) [],
                            (false || ((E4 r6).nv && nvL [])) = true,
                            (!r6) = false,
                            (!r6) = false,
                            (!r6) = false,
                            (!r6) = false,
                            (!(r5.2 == r3.2)) = false,
                            Fn Try.prog 44 [(false, E22 o)] (E28 r7) [],
                            (true || ((E28 r7).nv && nvL [])) = true,
                            Fn Try.prog 46 [(false, E28 r4), (false, E28 r7)] (E4 r8) [],
                            (false || ((E4 r8).nv && nvL [])) = true,
                            (!r8) = false,
                            Fn Try.prog 47 [(true, E28 r4), (false, E3 1)] (E3 r9.1) [V.sl true 124 (List.map E124 r9.2)],
                            (true || ((E3 r9.1).nv && nvL [V.sl true 124 (List.map E124 r9.2)])) = true,
                            (decide (r9.1 < 0)) = false,
                            (decide (r9.1 < 0)) = false,
                            (decide (r9.1 < 0)) = false,
                            Fn Try.prog 46 [(false, E28 r5.1), (false, E28 r3.1)] (E4 r10) [],
                            (false || ((E4 r10).nv && nvL [])) = true,
                            (decide (r9.1 < 0)) = false,
                            (decide (r9.1 < 0)) = false,
                            (!r10) = false,
                            (!r10) = false,
                            (!r10) = false,
                            (!r10) = false,
                            (!(r5.2 == r3.2)) = false,
                            Fn Try.prog 47 [(true, E28 r5.1), (false, E3 1)] (E3 r11.1) [V.sl true 124 (List.map E124 r11.2)],
                            (true || ((E3 r11.1).nv && nvL [V.sl true 124 (List.map E124 r11.2)])) = true,
                            Fn Try.prog 48 [(false, E28 r11.2), (false, E3 1)] (E3 r12) [],
                            (false || ((E3 r12).nv && nvL [])) = true,
                            (decide (r12 < 0)) = false,
                            (r12 != r11.1) = false,
                            Fn Try.prog 44 [(false, E22 o)] (E28 r13) [],
                            (true || ((E28 r13).nv && nvL [])) = true,
                            Fn Try.prog 45 [(false, E28 r13), (false, E3 o_), (false, E3 a2)] (V.tup [E28 r14.1, E4 r14.2]) [],
                            (false || ((V.tup [E28 r14.1, E4 r14.2]).nv && nvL [])) = true,
                            Fn Try.prog 46 [(false, E28 r14.1), (false, E28 r3.1)] (E4 r15) [],
                            (false || ((E4 r15).nv && nvL [])) = true,
                            (!r15) = true,
                            (!r15) = true,
                            (!r15) = true,
                            (!r15) = true,
                            true = true]) (by kernel_rfl) (cj (laws_szStripeS_ok o 1048576 r1 h1) (cj rfl (cj h2 (cj (laws_toStripeS_ok o r2 h3) (cj rfl (cj (spec_GiveLock_ok r2 o_ a2 r3 h4) (cj (by simp [V.nv, nvL, nvL_all, nv_E3, nv_E4, nv_E5, nv_E9, nv_E28, nv_E39, nv_E47, nv_E48, nv_E49, nv_E51, nv_E52, nv_E54, nv_E61, nv_E124, nv_E177]) (cj (laws_toStripeS_ok o r4 h5) (cj rfl (cj (impl_GiveLock_ok r4 o_ a2 r5 h6) (cj (by simp [V.nv, nvL, nvL_all, nv_E3, nv_E4, nv_E5, nv_E9, nv_E28, nv_E39, nv_E47, nv_E48, nv_E49, nv_E51, nv_E52, nv_E54, nv_E61, nv_E124, nv_E177]) (cj (laws_eqStripeS_ok r5.1 r3.1 r6 h7) (cj (by simp [V.nv, nvL, nvL_all, nv_E4]) (cj (nf h8) (cj (nf h8) (cj (nf h8) (cj (nf h8) (cj (nf h9) (cj (laws_toStripeS_ok o r7 h10) (cj rfl (cj (laws_eqStripeS_ok r4 r7 r8 h11) (cj (by simp [V.nv, nvL, nvL_all, nv_E4]) (cj (nf h12) (cj (laws_markStripeS_ok r4 1 r9 h13) (cj rfl (cj h14 (cj h14 (cj h14 (cj (laws_eqStripeS_ok r5.1 r3.1 r10 h15) (cj (by simp [V.nv, nvL, nvL_all, nv_E4]) (cj h14 (cj h14 (cj (nf h16) (cj (nf h16) (cj (nf h16) (cj (nf h16) (cj (nf h9) (cj (laws_markStripeS_ok r5.1 1 r11 h17) (cj rfl (cj (laws_heldStripeS_ok r11.2 1 r12 h18) (cj (by simp [V.nv, nvL, nvL_all, nv_E3]) (cj h19 (cj h20 (cj (laws_toStripeS_ok o r13 h21) (cj rfl (cj (impl_GiveLock_ok r13 o_ a2 r14 h22) (cj (by simp [V.nv, nvL, nvL_all, nv_E3, nv_E4, nv_E5, nv_E9, nv_E28, nv_E39, nv_E47, nv_E48, nv_E49, nv_E51, nv_E52, nv_E54, nv_E61, nv_E124, nv_E177]) (cj (laws_eqStripeS_ok r14.1 r3.1 r15 h23) (cj (by simp [V.nv, nvL, nvL_all, nv_E4]) (cj (nt h24) (cj (nt h24) (cj (nt h24) (cj (nt h24) (cj1 rfl)))))))))))))))))))))))))))))))))))))))))))))))))))))))))))))))) (fun h16 =>
                   Pn.some (Fn.of [.call [] (E3 r1) [], .bit false, .call [] (E28 r2) [], .call [] (V.tup [E28 r3.1, E4 r3.2]) [], .call [] (E28 r4) [], .call [] (V.tup [E28 r5.1, E4 r5.2]) [], .call [] (E4 r6) [], .bit false, .bit false, .bit false, .bit false, .bit false, .call [] (E28 r7) [], .call [] (E4 r8) [], .bit false, .call [true, false] (E3 r9.1) [V.sl true 124 (List.map E124 r9.2)], .bit false, .bit false, .bit false, .call [] (E4 r10) [], .bit false, .bit false, .bit true, .bit true, .bit true, .bit true, .bit true] (p := [Fn Try.prog 42 [(false, E22 o), (false, E3 1048576)] (E3 r1) [],
                    (true || ((E3 r1).nv && nvL [])) = true,
                    (decide (r1 < 0)) = false,
                    Fn Try.prog 44 [(false, E22 o)] (E28 r2) [],
                    (true || ((E28 r2).nv && nvL [])) = true,
                    Fn Try.prog 43 [(false, E28 r2), (false, E3 o_), (false, E3 a2)] (V.tup [E28 r3.1, E4 r3.2]) [],
                    (false || ((V.tup [E28 r3.1, E4 r3.2]).nv && nvL [])) = true,
                    Fn Try.prog 44 [(false, E22 o)] (E28 r4) [],
                    (true || ((E28 r4).nv && nvL [])) = true,
                    Fn Try.prog 45 [(false, E28 r4), (false, E3 o_), (false, E3 a2)] (V.tup [E28 r5.1, E4 r5.2]) [],
                    (false || ((V.tup [E28 r5.1, E4 r5.2]).nv && nvL [])) = true,
                    Fn Try.prog 46 [(false, E28 r5.1), (false, E28 r3.1)] (E4 r6) [],
                    (false || ((E4 r6).nv && nvL [])) = true,
                    (!r6) = false,
                    (!r6) = false,
                    (!r6) = false,
                    (!r6) = false,
                    (!(r5.2 == r3.2)) = false,
                    Fn Try.prog 44 [(false, E22 o)] (E28 r7) [],
                    (true || ((E28 r7).nv && nvL [])) = true,
                    Fn Try.prog 46 [(false, E28 r4), (false, E28 r7)] (E4 r8) [],
                    (false || ((E4 r8).nv && nvL [])) = true,
                    (!r8) = false,
                    Fn Try.prog 47 [(true, E28 r4), (false, E3 1)] (E3 r9.1) [V.sl true 124 (List.map E124 r9.2)],
                    (true || ((E3 r9.1).nv && nvL [V.sl true 124 (List.map E124 r9.2)])) = true,
                    (decide (r9.1 < 0)) = false,
                    (decide (r9.1 < 0)) = false,
                    (decide (r9.1 < 0)) = false,
                    Fn Try.prog 46 [(false, E28 r5.1), (false, E28 r3.1)] (E4 r10) [],
                    (false || ((E4 r10).nv && nvL [])) = true,
                    (decide (r9.1 < 0)) = false,
                    (decide (r9.1 < 0)) = false,
                    (!r10) = true,
                    (!r10) = true,
                    (!r10) = true,
                    (!r10) = true,
                    true = true]) (by kernel_rfl) (cj (laws_szStripeS_ok o 1048576 r1 h1) (cj rfl (cj h2 (cj (laws_toStripeS_ok o r2 h3) (cj rfl (cj (spec_GiveLock_ok r2 o_ a2 r3 h4) (cj (by simp [V.nv, nvL, nvL_all, nv_E3, nv_E4, nv_E5, nv_E9, nv_E28, nv_E39, nv_E47, nv_E48, nv_E49, nv_E51, nv_E52, nv_E54, nv_E61, nv_E124, nv_E177]) (cj (laws_toStripeS_ok o r4 h5) (cj rfl (cj (impl_GiveLock_ok r4 o_ a2 r5 h6) (cj (by simp [V.nv, nvL, nvL_all, nv_E3, nv_E4, nv_E5, nv_E9, nv_E28, nv_E39, nv_E47, nv_E48, nv_E49, nv_E51, nv_E52, nv_E54, nv_E61, nv_E124, nv_E177]) (cj (laws_eqStripeS_ok r5.1 r3.1 r6 h7) (cj (by simp [V.nv, nvL, nvL_all, nv_E4]) (cj (nf h8) (cj (nf h8) (cj (nf h8) (cj (nf h8) (cj (nf h9) (cj (laws_toStripeS_ok o r7 h10) (cj rfl (cj (laws_eqStripeS_ok r4 r7 r8 h11) (cj (by simp [V.nv, nvL, nvL_all, nv_E4]) (cj (nf h12) (cj (laws_markStripeS_ok r4 1 r9 h13) (cj rfl (cj h14 (cj h14 (cj h14 (cj (laws_eqStripeS_ok r5.1 r3.1 r10 h15) (cj (by simp [V.nv, nvL, nvL_all, nv_E4]) (cj h14 (cj h14 (cj (nt h16) (cj (nt h16) (cj (nt h16) (cj (nt h16) (cj1 rfl))))))))))))))))))))))))))))))))))))))))))) (fun h12 =>
               Pn.some (Fn.of [.call [] (E3 r1) [], .bit false, .call [] (E28 r2) [], .call [] (V.tup [E28 r3.1, E4 r3.2]) [], .call [] (E28 r4) [], .call [] (V.tup [E28 r5.1, E4 r5.2]) [], .call [] (E4 r6) [], .bit false, .bit false, .bit false, .bit false, .bit false, .call [] (E28 r7) [], .call [] (E4 r8) [], .bit true] (p := [Fn Try.prog 42 [(false, E22 o), (false, E3 1048576)] (E3 r1) [],
                (true || ((E3 r1).nv && nvL [])) = true,
                (decide (r1 < 0)) = false,
                Fn Try.prog 44 [(false, E22 o)] (E28 r2) [],
                (true || ((E28 r2).nv && nvL [])) = true,
                Fn Try.prog 43 [(false, E28 r2), (false, E3 o_), (false, E3 a2)] (V.tup [E28 r3.1, E4 r3.2]) [],
                (false || ((V.tup [E28 r3.1, E4 r3.2]).nv && nvL [])) = true,
                Fn Try.prog 44 [(false, E22 o)] (E28 r4) [],
                (true || ((E28 r4).nv && nvL [])) = true,
                Fn Try.prog 45 [(false, E28 r4), (false, E3 o_), (false, E3 a2)] (V.tup [E28 r5.1, E4 r5.2]) [],
                (false || ((V.tup [E28 r5.1, E4 r5.2]).nv && nvL [])) = true,
                Fn Try.prog 46 [(false, E28 r5.1), (false, E28 r3.1)] (E4 r6) [],
                (false || ((E4 r6).nv && nvL [])) = true,
                (!r6) = false,
                (!r6) = false,
                (!r6) = false,
                (!r6) = false,
                (!(r5.2 == r3.2)) = false,
                Fn Try.prog 44 [(false, E22 o)] (E28 r7) [],
                (true || ((E28 r7).nv && nvL [])) = true,
                Fn Try.prog 46 [(false, E28 r4), (false, E28 r7)] (E4 r8) [],
                (false || ((E4 r8).nv && nvL [])) = true,
                (!r8) = true]) (by kernel_rfl) (cj (laws_szStripeS_ok o 1048576 r1 h1) (cj rfl (cj h2 (cj (laws_toStripeS_ok o r2 h3) (cj rfl (cj (spec_GiveLock_ok r2 o_ a2 r3 h4) (cj (by simp [V.nv, nvL, nvL_all, nv_E3, nv_E4, nv_E5, nv_E9, nv_E28, nv_E39, nv_E47, nv_E48, nv_E49, nv_E51, nv_E52, nv_E54, nv_E61, nv_E124, nv_E177]) (cj (laws_toStripeS_ok o r4 h5) (cj rfl (cj (impl_GiveLock_ok r4 o_ a2 r5 h6) (cj (by simp [V.nv, nvL, nvL_all, nv_E3, nv_E4, nv_E5, nv_E9, nv_E28, nv_E39, nv_E47, nv_E48, nv_E49, nv_E51, nv_E52, nv_E54, nv_E61, nv_E124, nv_E177]) (cj (laws_eqStripeS_ok r5.1 r3.1 r6 h7) (cj (by simp [V.nv, nvL, nvL_all, nv_E4]) (cj (nf h8) (cj (nf h8) (cj (nf h8) (cj (nf h8) (cj (nf h9) (cj (laws_toStripeS_ok o r7 h10) (cj rfl (cj (laws_eqStripeS_ok r4 r7 r8 h11) (cj (by simp [V.nv, nvL, nvL_all, nv_E4]) (cj1 (nt h12))))))))))))))))))))))))))))) (fun h9 =>
            Pn.some (Fn.of [.call [] (E3 r1) [], .bit false, .call [] (E28 r2) [], .call [] (V.tup [E28 r3.1, E4 r3.2]) [], .call [] (E28 r4) [], .call [] (V.tup [E28 r5.1, E4 r5.2]) [], .call [] (E4 r6) [], .bit false, .bit false, .bit false, .bit false, .bit true] (p := [Fn Try.prog 42 [(false, E22 o), (false, E3 1048576)] (E3 r1) [],
             (true || ((E3 r1).nv && nvL [])) = true,
             (decide (r1 < 0)) = false,
             Fn Try.prog 44 [(false, E22 o)] (E28 r2) [],
             (true || ((E28 r2).nv && nvL [])) = true,
             Fn Try.prog 43 [(false, E28 r2), (false, E3 o_), (false, E3 a2)] (V.tup [E28 r3.1, E4 r3.2]) [],
             (false || ((V.tup [E28 r3.1, E4 r3.2]).nv && nvL [])) = true,
             Fn Try.prog 44 [(false, E22 o)] (E28 r4) [],
             (true || ((E28 r4).nv && nvL [])) = true,
             Fn Try.prog 45 [(false, E28 r4), (false, E3 o_), (false, E3 a2)] (V.tup [E28 r5.1, E4 r5.2]) [],
             (false || ((V.tup [E28 r5.1, E4 r5.2]).nv && nvL [])) = true,
             Fn Try.prog 46 [(false, E28 r5.1), (false, E28 r3.1)] (E4 r6) [],
             (false || ((E4 r6).nv && nvL [])) = true,
             (!r6) = false,
             (!r6) = false,
             (!r6) = false,
             (!r6) = false,
             (!(r5.2 == r3.2)) = true]) (by kernel_rfl) (cj (laws_szStripeS_ok o 1048576 r1 h1) (cj rfl (cj h2 (cj (laws_toStripeS_ok o r2 h3) (cj rfl (cj (spec_GiveLock_ok r2 o_ a2 r3 h4) (cj (by simp [V.nv, nvL, nvL_all, nv_E3, nv_E4, nv_E5, nv_E9, nv_E28, nv_E39, nv_E47, nv_E48, nv_E49, nv_E51, nv_E52, nv_E54, nv_E61, nv_E124, nv_E177]) (cj (laws_toStripeS_ok o r4 h5) (cj rfl (cj (impl_GiveLock_ok r4 o_ a2 r5 h6) (cj (by simp [V.nv, nvL, nvL_all, nv_E3, nv_E4, nv_E5, nv_E9, nv_E28, nv_E39, nv_E47, nv_E48, nv_E49, nv_E51, nv_E52, nv_E54, nv_E61, nv_E124, nv_E177]) (cj (laws_eqStripeS_ok r5.1 r3.1 r6 h7) (cj (by simp [V.nv, nvL, nvL_all, nv_E4]) (cj (nf h8) (cj (nf h8) (cj (nf h8) (cj (nf h8) (cj1 (nt h9)))))))))))))))))))))) (fun h8 =>
           Pn.some (Fn.of [.call [] (E3 r1) [], .bit false, .call [] (E28 r2) [], .call [] (V.tup [E28 r3.1, E4 r3.2]) [], .call [] (E28 r4) [], .call [] (V.tup [E28 r5.1, E4 r5.2]) [], .call [] (E4 r6) [], .bit true, .bit true, .bit true, .bit true, .bit true] (p := [Fn Try.prog 42 [(false, E22 o), (false, E3 1048576)] (E3 r1) [],
            (true || ((E3 r1).nv && nvL [])) = true,
            (decide (r1 < 0)) = false,
            Fn Try.prog 44 [(false, E22 o)] (E28 r2) [],
            (true || ((E28 r2).nv && nvL [])) = true,
            Fn Try.prog 43 [(false, E28 r2), (false, E3 o_), (false, E3 a2)] (V.tup [E28 r3.1, E4 r3.2]) [],
            (false || ((V.tup [E28 r3.1, E4 r3.2]).nv && nvL [])) = true,
            Fn Try.prog 44 [(false, E22 o)] (E28 r4) [],
            (true || ((E28 r4).nv && nvL [])) = true,
            Fn Try.prog 45 [(false, E28 r4), (false, E3 o_), (false, E3 a2)] (V.tup [E28 r5.1, E4 r5.2]) [],
            (false || ((V.tup [E28 r5.1, E4 r5.2]).nv && nvL [])) = true,
            Fn Try.prog 46 [(false, E28 r5.1), (false, E28 r3.1)] (E4 r6) [],
            (false || ((E4 r6).nv && nvL [])) = true,
            (!r6) = true,
            (!r6) = true,
            (!r6) = true,
            (!r6) = true,
            true = true]) (by kernel_rfl) (cj (laws_szStripeS_ok o 1048576 r1 h1) (cj rfl (cj h2 (cj (laws_toStripeS_ok o r2 h3) (cj rfl (cj (spec_GiveLock_ok r2 o_ a2 r3 h4) (cj (by simp [V.nv, nvL, nvL_all, nv_E3, nv_E4, nv_E5, nv_E9, nv_E28, nv_E39, nv_E47, nv_E48, nv_E49, nv_E51, nv_E52, nv_E54, nv_E61, nv_E124, nv_E177]) (cj (laws_toStripeS_ok o r4 h5) (cj rfl (cj (impl_GiveLock_ok r4 o_ a2 r5 h6) (cj (by simp [V.nv, nvL, nvL_all, nv_E3, nv_E4, nv_E5, nv_E9, nv_E28, nv_E39, nv_E47, nv_E48, nv_E49, nv_E51, nv_E52, nv_E54, nv_E61, nv_E124, nv_E177]) (cj (laws_eqStripeS_ok r5.1 r3.1 r6 h7) (cj (by simp [V.nv, nvL, nvL_all, nv_E4]) (cj (nt h8) (cj (nt h8) (cj (nt h8) (cj (nt h8) (cj1 rfl)))))))))))))))))))))))))))
def spec_TakeLock (l : List Stripe) (k : Int) (task : Int) : Option ((List Stripe) × Bool) :=
 (spec_l01In k 0 (i64 ((l.length : Int) - 1))).bind fun r1 =>
 if r1 = true then
  (spec_l01In task 0 11).bind fun r2 =>
  if r2 = true then
   if (decide (0 ≤ k)) = true then
    (l[k.toNat]?).bind fun x1 =>
    if (x1.Owner != (-1)) = true then
     some ([], false)
    else
     (spec_l13Copy l).bind fun r3 =>
     (r3[k.toNat]?).bind fun x2 =>
     some ((r3.set k.toNat (Stripe.mk task x2.Accts)), true)
   else none
  else
   some ([], false)
 else
  some ([], false)
theorem spec_TakeLock_ok (l : List Stripe) (k : Int) (task : Int) : Pn (fun y => Fn Try.prog 49 [(false, E28 l), (false, E3 k), (false, E3 task)] (V.tup [E28 y.1, E4 y.2]) []) (spec_TakeLock l k task) := by
  unfold spec_TakeLock
  exact
   Pn.bind (fun r1 h1 =>
    Pn.ite (fun h2 =>
     Pn.bind (fun r2 h3 =>
      Pn.ite (fun h4 =>
       Pn.ite (fun h5 =>
        Pn.bind (fun x1 h6 =>
         Pn.ite (fun h7 =>
          Pn.some (Fn.of [.wait 5, .nm 11 (V.sc (.int .i64 (l.length : Int))), .call [] (E4 r1) [], .bit false, .bit false, .call [] (E4 r2) [], .bit false, .bit false, .bit false, .bit false, .bit false, .el (E124 x1), .bit false, .bit false, .bit false, .bit false, .bit true] (p := [V.sc (.int .i64 ((List.map E124 l).length : Int)) = V.sc (.int .i64 (l.length : Int)),
           Fn Try.prog 101 [(false, E3 k), (false, E3 0), (false, E3 (i64 ((l.length : Int) - 1)))] (E4 r1) [],
           (true || ((E4 r1).nv && nvL [])) = true,
           (!r1) = false,
           (!r1) = false,
           Fn Try.prog 101 [(false, E3 task), (false, E3 0), (false, E3 11)] (E4 r2) [],
           (true || ((E4 r2).nv && nvL [])) = true,
           (!r1) = false,
           (!r1) = false,
           (!r2) = false,
           (!r2) = false,
           (!r2) = false,
           (0 : Int) ≤ k,
           (List.map E124 l)[k.toNat]? = some (E124 x1),
           (!r2) = false,
           (!r2) = false,
           (!r2) = false,
           (!r2) = false,
           (x1.Owner != (-1)) = true]) (by kernel_rfl) (cj (len_nm _ _) (cj (spec_l01In_ok k 0 (i64 ((l.length : Int) - 1)) r1 h1) (cj rfl (cj (nf h2) (cj (nf h2) (cj (spec_l01In_ok task 0 11 r2 h3) (cj rfl (cj (nf h2) (cj (nf h2) (cj (nf h4) (cj (nf h4) (cj (nf h4) (cj (od h5) (cj (map_get h6) (cj (nf h4) (cj (nf h4) (cj (nf h4) (cj (nf h4) (cj1 h7))))))))))))))))))))) (fun h7 =>
          Pn.bind (fun r3 h8 =>
           Pn.bind (fun x2 h9 =>
            Pn.some (Fn.of [.wait 5, .nm 11 (V.sc (.int .i64 (l.length : Int))), .call [] (E4 r1) [], .bit false, .bit false, .call [] (E4 r2) [], .bit false, .bit false, .bit false, .bit false, .bit false, .el (E124 x1), .bit false, .bit false, .bit false, .bit false, .bit false, .call [] (E28 r3) [], .wait 5, .foc 0 k.toNat (E124 x2), .fo 0, .wait 4, .shut 0, .nb 0 (.row 124 (List.map E124 (r3.set k.toNat (Stripe.mk task x2.Accts))) [])] (p := [V.sc (.int .i64 ((List.map E124 l).length : Int)) = V.sc (.int .i64 (l.length : Int)),
             Fn Try.prog 101 [(false, E3 k), (false, E3 0), (false, E3 (i64 ((l.length : Int) - 1)))] (E4 r1) [],
             (true || ((E4 r1).nv && nvL [])) = true,
             (!r1) = false,
             (!r1) = false,
             Fn Try.prog 101 [(false, E3 task), (false, E3 0), (false, E3 11)] (E4 r2) [],
             (true || ((E4 r2).nv && nvL [])) = true,
             (!r1) = false,
             (!r1) = false,
             (!r2) = false,
             (!r2) = false,
             (!r2) = false,
             (0 : Int) ≤ k,
             (List.map E124 l)[k.toNat]? = some (E124 x1),
             (!r2) = false,
             (!r2) = false,
             (!r2) = false,
             (!r2) = false,
             (x1.Owner != (-1)) = false,
             Fn Try.prog 102 [(false, E28 l)] (E28 r3) [],
             (true || ((E28 r3).nv && nvL [])) = true,
             (0 : Int) ≤ k,
             (k : Int) < ((List.map E124 r3).length : Int),
             look [] k.toNat = none,
             (List.map E124 r3)[k.toNat]? = some (E124 x2),
             look [(k.toNat, V.agg [V.sc (.int .i64 x2.Owner), V.ow 1])] k.toNat = some (V.agg [V.sc (.int .i64 x2.Owner), V.ow 1]),
             k.toNat < (List.map E124 r3).length,
             k.toNat = k.toNat,
             Blk.row 124 ((List.map E124 r3).set k.toNat (V.agg [V.sc (.int .i64 task), V.sl true 54 (List.map E54 x2.Accts)])) [] = Blk.row 124 (List.map E124 (r3.set k.toNat (Stripe.mk task x2.Accts))) []]) (by kernel_rfl) (cj (len_nm _ _) (cj (spec_l01In_ok k 0 (i64 ((l.length : Int) - 1)) r1 h1) (cj rfl (cj (nf h2) (cj (nf h2) (cj (spec_l01In_ok task 0 11 r2 h3) (cj rfl (cj (nf h2) (cj (nf h2) (cj (nf h4) (cj (nf h4) (cj (nf h4) (cj (od h5) (cj (map_get h6) (cj (nf h4) (cj (nf h4) (cj (nf h4) (cj (nf h4) (cj h7 (cj (spec_l13Copy_ok l r3 h8) (cj rfl (cj (od h5) (cj (map_ltN (od h5) h9) (cj rfl (cj (map_get h9) (cj (look_cons_self _ _ _) (cj (map_lt h9) (cj rfl (cj1 (nb_set E124 _ _ (Stripe.mk task x2.Accts))))))))))))))))))))))))))))))))))))) (fun h5 =>
        Pn.none)) (fun h4 =>
       Pn.some (Fn.of [.wait 5, .nm 11 (V.sc (.int .i64 (l.length : Int))), .call [] (E4 r1) [], .bit false, .bit false, .call [] (E4 r2) [], .bit false, .bit false, .bit true, .bit true, .bit true, .bit true, .bit true, .bit true, .bit true, .bit true] (p := [V.sc (.int .i64 ((List.map E124 l).length : Int)) = V.sc (.int .i64 (l.length : Int)),
        Fn Try.prog 101 [(false, E3 k), (false, E3 0), (false, E3 (i64 ((l.length : Int) - 1)))] (E4 r1) [],
        (true || ((E4 r1).nv && nvL [])) = true,
        (!r1) = false,
        (!r1) = false,
        Fn Try.prog 101 [(false, E3 task), (false, E3 0), (false, E3 11)] (E4 r2) [],
        (true || ((E4 r2).nv && nvL [])) = true,
        (!r1) = false,
        (!r1) = false,
        (!r2) = true,
        (!r2) = true,
        (!r2) = true,
        (!r2) = true,
        (!r2) = true,
        (!r2) = true,
        (!r2) = true,
        true = true]) (by kernel_rfl) (cj (len_nm _ _) (cj (spec_l01In_ok k 0 (i64 ((l.length : Int) - 1)) r1 h1) (cj rfl (cj (nf h2) (cj (nf h2) (cj (spec_l01In_ok task 0 11 r2 h3) (cj rfl (cj (nf h2) (cj (nf h2) (cj (nt h4) (cj (nt h4) (cj (nt h4) (cj (nt h4) (cj (nt h4) (cj (nt h4) (cj (nt h4) (cj1 rfl))))))))))))))))))))) (fun h2 =>
     Pn.some (Fn.of [.wait 5, .nm 11 (V.sc (.int .i64 (l.length : Int))), .call [] (E4 r1) [], .bit true, .bit true, .bit true, .bit true, .bit true, .bit true, .bit true, .bit true, .bit true, .bit true, .bit true, .bit true] (p := [V.sc (.int .i64 ((List.map E124 l).length : Int)) = V.sc (.int .i64 (l.length : Int)),
      Fn Try.prog 101 [(false, E3 k), (false, E3 0), (false, E3 (i64 ((l.length : Int) - 1)))] (E4 r1) [],
      (true || ((E4 r1).nv && nvL [])) = true,
      (!r1) = true,
      (!r1) = true,
      (!r1) = true,
      (!r1) = true,
      true = true,
      true = true,
      true = true,
      true = true,
      true = true,
      true = true,
      true = true,
      true = true]) (by kernel_rfl) (cj (len_nm _ _) (cj (spec_l01In_ok k 0 (i64 ((l.length : Int) - 1)) r1 h1) (cj rfl (cj (nt h2) (cj (nt h2) (cj (nt h2) (cj (nt h2) (cj rfl (cj rfl (cj rfl (cj rfl (cj rfl (cj rfl (cj rfl (cj1 rfl))))))))))))))))))
def impl_TakeLock (l : List Stripe) (k : Int) (task : Int) : Option ((List Stripe) × Bool) :=
 (impl_within k 0 (i64 ((l.length : Int) - 1))).bind fun r1 =>
 if r1 = true then
  if (decide (0 ≤ k)) = true then
   (l[k.toNat]?).bind fun x1 =>
   if (x1.Owner != (-1)) = true then
    some ([], false)
   else
    (impl_within task 0 11).bind fun r2 =>
    if r2 = true then
     (impl_owned l k task).bind fun r3 =>
     some (r3, true)
    else
     some ([], false)
  else none
 else
  some ([], false)
theorem impl_TakeLock_ok (l : List Stripe) (k : Int) (task : Int) : Pn (fun y => Fn Try.prog 50 [(false, E28 l), (false, E3 k), (false, E3 task)] (V.tup [E28 y.1, E4 y.2]) []) (impl_TakeLock l k task) := by
  unfold impl_TakeLock
  exact
   Pn.bind (fun r1 h1 =>
    Pn.ite (fun h2 =>
     Pn.ite (fun h3 =>
      Pn.bind (fun x1 h4 =>
       Pn.ite (fun h5 =>
        Pn.some (Fn.of [.wait 5, .nm 10 (V.sc (.int .i64 (l.length : Int))), .call [] (E4 r1) [], .bit false, .bit false, .bit false, .el (E124 x1), .bit false, .bit false, .bit false, .bit false, .bit true, .bit true, .bit true, .bit true, .bit true] (p := [V.sc (.int .i64 ((List.map E124 l).length : Int)) = V.sc (.int .i64 (l.length : Int)),
         Fn Try.prog 87 [(false, E3 k), (false, E3 0), (false, E3 (i64 ((l.length : Int) - 1)))] (E4 r1) [],
         (true || ((E4 r1).nv && nvL [])) = true,
         (!r1) = false,
         (!r1) = false,
         (!r1) = false,
         (0 : Int) ≤ k,
         (List.map E124 l)[k.toNat]? = some (E124 x1),
         (!r1) = false,
         (!r1) = false,
         (!r1) = false,
         (!r1) = false,
         (x1.Owner != (-1)) = true,
         (x1.Owner != (-1)) = true,
         (x1.Owner != (-1)) = true,
         (x1.Owner != (-1)) = true,
         true = true]) (by kernel_rfl) (cj (len_nm _ _) (cj (impl_within_ok k 0 (i64 ((l.length : Int) - 1)) r1 h1) (cj rfl (cj (nf h2) (cj (nf h2) (cj (nf h2) (cj (od h3) (cj (map_get h4) (cj (nf h2) (cj (nf h2) (cj (nf h2) (cj (nf h2) (cj h5 (cj h5 (cj h5 (cj h5 (cj1 rfl))))))))))))))))))) (fun h5 =>
        Pn.bind (fun r2 h6 =>
         Pn.ite (fun h7 =>
          Pn.bind (fun r3 h8 =>
           Pn.some (Fn.of [.wait 5, .nm 10 (V.sc (.int .i64 (l.length : Int))), .call [] (E4 r1) [], .bit false, .bit false, .bit false, .el (E124 x1), .bit false, .bit false, .bit false, .bit false, .bit false, .bit false, .call [] (E4 r2) [], .bit false, .bit false, .bit false, .call [] (E28 r3) []] (p := [V.sc (.int .i64 ((List.map E124 l).length : Int)) = V.sc (.int .i64 (l.length : Int)),
            Fn Try.prog 87 [(false, E3 k), (false, E3 0), (false, E3 (i64 ((l.length : Int) - 1)))] (E4 r1) [],
            (true || ((E4 r1).nv && nvL [])) = true,
            (!r1) = false,
            (!r1) = false,
            (!r1) = false,
            (0 : Int) ≤ k,
            (List.map E124 l)[k.toNat]? = some (E124 x1),
            (!r1) = false,
            (!r1) = false,
            (!r1) = false,
            (!r1) = false,
            (x1.Owner != (-1)) = false,
            (x1.Owner != (-1)) = false,
            Fn Try.prog 87 [(false, E3 task), (false, E3 0), (false, E3 11)] (E4 r2) [],
            (true || ((E4 r2).nv && nvL [])) = true,
            (x1.Owner != (-1)) = false,
            (x1.Owner != (-1)) = false,
            (!r2) = false,
            Fn Try.prog 104 [(false, E28 l), (false, E3 k), (false, E3 task)] (E28 r3) [],
            (true || ((E28 r3).nv && nvL [])) = true]) (by kernel_rfl) (cj (len_nm _ _) (cj (impl_within_ok k 0 (i64 ((l.length : Int) - 1)) r1 h1) (cj rfl (cj (nf h2) (cj (nf h2) (cj (nf h2) (cj (od h3) (cj (map_get h4) (cj (nf h2) (cj (nf h2) (cj (nf h2) (cj (nf h2) (cj h5 (cj h5 (cj (impl_within_ok task 0 11 r2 h6) (cj rfl (cj h5 (cj h5 (cj (nf h7) (cj (impl_owned_ok l k task r3 h8) (cj1 rfl)))))))))))))))))))))))) (fun h7 =>
          Pn.some (Fn.of [.wait 5, .nm 10 (V.sc (.int .i64 (l.length : Int))), .call [] (E4 r1) [], .bit false, .bit false, .bit false, .el (E124 x1), .bit false, .bit false, .bit false, .bit false, .bit false, .bit false, .call [] (E4 r2) [], .bit false, .bit false, .bit true] (p := [V.sc (.int .i64 ((List.map E124 l).length : Int)) = V.sc (.int .i64 (l.length : Int)),
           Fn Try.prog 87 [(false, E3 k), (false, E3 0), (false, E3 (i64 ((l.length : Int) - 1)))] (E4 r1) [],
           (true || ((E4 r1).nv && nvL [])) = true,
           (!r1) = false,
           (!r1) = false,
           (!r1) = false,
           (0 : Int) ≤ k,
           (List.map E124 l)[k.toNat]? = some (E124 x1),
           (!r1) = false,
           (!r1) = false,
           (!r1) = false,
           (!r1) = false,
           (x1.Owner != (-1)) = false,
           (x1.Owner != (-1)) = false,
           Fn Try.prog 87 [(false, E3 task), (false, E3 0), (false, E3 11)] (E4 r2) [],
           (true || ((E4 r2).nv && nvL [])) = true,
           (x1.Owner != (-1)) = false,
           (x1.Owner != (-1)) = false,
           (!r2) = true]) (by kernel_rfl) (cj (len_nm _ _) (cj (impl_within_ok k 0 (i64 ((l.length : Int) - 1)) r1 h1) (cj rfl (cj (nf h2) (cj (nf h2) (cj (nf h2) (cj (od h3) (cj (map_get h4) (cj (nf h2) (cj (nf h2) (cj (nf h2) (cj (nf h2) (cj h5 (cj h5 (cj (impl_within_ok task 0 11 r2 h6) (cj rfl (cj h5 (cj h5 (cj1 (nt h7)))))))))))))))))))))))))) (fun h3 =>
      Pn.none)) (fun h2 =>
     Pn.some (Fn.of [.wait 5, .nm 10 (V.sc (.int .i64 (l.length : Int))), .call [] (E4 r1) [], .bit true, .bit true, .bit true, .bit true, .bit true, .bit true, .bit true, .bit true, .bit true, .bit true, .bit true, .bit true] (p := [V.sc (.int .i64 ((List.map E124 l).length : Int)) = V.sc (.int .i64 (l.length : Int)),
      Fn Try.prog 87 [(false, E3 k), (false, E3 0), (false, E3 (i64 ((l.length : Int) - 1)))] (E4 r1) [],
      (true || ((E4 r1).nv && nvL [])) = true,
      (!r1) = true,
      (!r1) = true,
      (!r1) = true,
      (!r1) = true,
      (!r1) = true,
      (!r1) = true,
      (!r1) = true,
      true = true,
      true = true,
      true = true,
      true = true,
      true = true]) (by kernel_rfl) (cj (len_nm _ _) (cj (impl_within_ok k 0 (i64 ((l.length : Int) - 1)) r1 h1) (cj rfl (cj (nt h2) (cj (nt h2) (cj (nt h2) (cj (nt h2) (cj (nt h2) (cj (nt h2) (cj (nt h2) (cj rfl (cj rfl (cj rfl (cj rfl (cj1 rfl))))))))))))))))))
end Go.Proofs.YtdpbcmajmojolaaM
