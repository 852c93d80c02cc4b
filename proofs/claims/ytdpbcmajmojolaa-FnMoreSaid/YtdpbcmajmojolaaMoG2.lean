/- Printed by gen.py: functions on plain data, and that the program computes them. No condition. -/
import Derived.Test.YtdpbcmajmojolaaMoG1
namespace Go.Proofs.YtdpbcmajmojolaaM
set_option linter.unusedVariables false
set_option linter.unusedSimpArgs false
open Go.RowKit
set_option maxRecDepth 100000

def impl_holdOf (a : Acct) (id : ByteArray) (amount : Int) (now : Int) : Option (Acct × Int × Int) :=
 (impl_begin a now).bind fun r1 =>
 (impl_HoldAt r1.1.Holds id).bind fun r2 =>
 if (r1.2 != 0) = true then
  some ((Acct.mk ByteArray.empty 0 0 0 0 [] (Ring.mk 0 0 [] []) []), 0, 1)
 else
  (impl_HoldIdOk id).bind fun r3 =>
  if r3 = true then
   (impl_within amount 1 9007199254740992).bind fun r4 =>
   if r4 = true then
    if (decide (r2 < 0)) = true then
     some ((Acct.mk ByteArray.empty 0 0 0 0 [] (Ring.mk 0 0 [] []) []), 0, 5)
    else
     some (r1.1, r2, 0)
   else
    some ((Acct.mk ByteArray.empty 0 0 0 0 [] (Ring.mk 0 0 [] []) []), 0, 4)
  else
   some ((Acct.mk ByteArray.empty 0 0 0 0 [] (Ring.mk 0 0 [] []) []), 0, 1)
theorem impl_holdOf_ok (a : Acct) (id : ByteArray) (amount : Int) (now : Int) : Pn (fun y => Fn Try.prog 84 [(false, E54 a), (false, E9 id), (false, E3 amount), (false, E3 now)] (V.tup [E54 y.1, E3 y.2.1, E3 y.2.2]) []) (impl_holdOf a id amount now) := by
  unfold impl_holdOf
  exact
   Pn.bind (fun r1 h1 =>
    Pn.bind (fun r2 h2 =>
     Pn.ite (fun h3 =>
      Pn.some (Fn.of [.call [] (V.tup [E54 r1.1, E3 r1.2]) [], .call [] (E3 r2) [], .bit true, .bit true, .bit true, .bit true, .bit true] (p := [Fn Try.prog 106 [(false, E54 a), (false, E3 now)] (V.tup [E54 r1.1, E3 r1.2]) [],
       (true || ((V.tup [E54 r1.1, E3 r1.2]).nv && nvL [])) = true,
       Fn Try.prog 41 [(false, E48 r1.1.Holds), (false, E9 id)] (E3 r2) [],
       (false || ((E3 r2).nv && nvL [])) = true,
       (r1.2 != 0) = true,
       (r1.2 != 0) = true,
       (r1.2 != 0) = true,
       (r1.2 != 0) = true,
       true = true]) (by kernel_rfl) (cj (impl_begin_ok a now r1 h1) (cj rfl (cj (impl_HoldAt_ok r1.1.Holds id r2 h2) (cj (by simp [V.nv, nvL, nvL_all, nv_E3]) (cj h3 (cj h3 (cj h3 (cj h3 (cj1 rfl))))))))))) (fun h3 =>
      Pn.bind (fun r3 h4 =>
       Pn.ite (fun h5 =>
        Pn.bind (fun r4 h6 =>
         Pn.ite (fun h7 =>
          Pn.ite (fun h8 =>
           Pn.some (Fn.of [.call [] (V.tup [E54 r1.1, E3 r1.2]) [], .call [] (E3 r2) [], .bit false, .bit false, .call [] (E4 r3) [], .bit false, .bit false, .bit false, .call [] (E4 r4) [], .bit false, .bit true] (p := [Fn Try.prog 106 [(false, E54 a), (false, E3 now)] (V.tup [E54 r1.1, E3 r1.2]) [],
            (true || ((V.tup [E54 r1.1, E3 r1.2]).nv && nvL [])) = true,
            Fn Try.prog 41 [(false, E48 r1.1.Holds), (false, E9 id)] (E3 r2) [],
            (false || ((E3 r2).nv && nvL [])) = true,
            (r1.2 != 0) = false,
            (r1.2 != 0) = false,
            Fn Try.prog 107 [(false, E9 id)] (E4 r3) [],
            (true || ((E4 r3).nv && nvL [])) = true,
            (r1.2 != 0) = false,
            (r1.2 != 0) = false,
            (!r3) = false,
            Fn Try.prog 87 [(false, E3 amount), (false, E3 1), (false, E3 9007199254740992)] (E4 r4) [],
            (true || ((E4 r4).nv && nvL [])) = true,
            (!r4) = false,
            (decide (r2 < 0)) = true]) (by kernel_rfl) (cj (impl_begin_ok a now r1 h1) (cj rfl (cj (impl_HoldAt_ok r1.1.Holds id r2 h2) (cj (by simp [V.nv, nvL, nvL_all, nv_E3]) (cj h3 (cj h3 (cj (impl_HoldIdOk_ok id r3 h4) (cj rfl (cj h3 (cj h3 (cj (nf h5) (cj (impl_within_ok amount 1 9007199254740992 r4 h6) (cj rfl (cj (nf h7) (cj1 h8))))))))))))))))) (fun h8 =>
           Pn.some (Fn.of [.call [] (V.tup [E54 r1.1, E3 r1.2]) [], .call [] (E3 r2) [], .bit false, .bit false, .call [] (E4 r3) [], .bit false, .bit false, .bit false, .call [] (E4 r4) [], .bit false, .bit false] (p := [Fn Try.prog 106 [(false, E54 a), (false, E3 now)] (V.tup [E54 r1.1, E3 r1.2]) [],
            (true || ((V.tup [E54 r1.1, E3 r1.2]).nv && nvL [])) = true,
            Fn Try.prog 41 [(false, E48 r1.1.Holds), (false, E9 id)] (E3 r2) [],
            (false || ((E3 r2).nv && nvL [])) = true,
            (r1.2 != 0) = false,
            (r1.2 != 0) = false,
            Fn Try.prog 107 [(false, E9 id)] (E4 r3) [],
            (true || ((E4 r3).nv && nvL [])) = true,
            (r1.2 != 0) = false,
            (r1.2 != 0) = false,
            (!r3) = false,
            Fn Try.prog 87 [(false, E3 amount), (false, E3 1), (false, E3 9007199254740992)] (E4 r4) [],
            (true || ((E4 r4).nv && nvL [])) = true,
            (!r4) = false,
            (decide (r2 < 0)) = false]) (by kernel_rfl) (cj (impl_begin_ok a now r1 h1) (cj rfl (cj (impl_HoldAt_ok r1.1.Holds id r2 h2) (cj (by simp [V.nv, nvL, nvL_all, nv_E3]) (cj h3 (cj h3 (cj (impl_HoldIdOk_ok id r3 h4) (cj rfl (cj h3 (cj h3 (cj (nf h5) (cj (impl_within_ok amount 1 9007199254740992 r4 h6) (cj rfl (cj (nf h7) (cj1 h8)))))))))))))))))) (fun h7 =>
          Pn.some (Fn.of [.call [] (V.tup [E54 r1.1, E3 r1.2]) [], .call [] (E3 r2) [], .bit false, .bit false, .call [] (E4 r3) [], .bit false, .bit false, .bit false, .call [] (E4 r4) [], .bit true] (p := [Fn Try.prog 106 [(false, E54 a), (false, E3 now)] (V.tup [E54 r1.1, E3 r1.2]) [],
           (true || ((V.tup [E54 r1.1, E3 r1.2]).nv && nvL [])) = true,
           Fn Try.prog 41 [(false, E48 r1.1.Holds), (false, E9 id)] (E3 r2) [],
           (false || ((E3 r2).nv && nvL [])) = true,
           (r1.2 != 0) = false,
           (r1.2 != 0) = false,
           Fn Try.prog 107 [(false, E9 id)] (E4 r3) [],
           (true || ((E4 r3).nv && nvL [])) = true,
           (r1.2 != 0) = false,
           (r1.2 != 0) = false,
           (!r3) = false,
           Fn Try.prog 87 [(false, E3 amount), (false, E3 1), (false, E3 9007199254740992)] (E4 r4) [],
           (true || ((E4 r4).nv && nvL [])) = true,
           (!r4) = true]) (by kernel_rfl) (cj (impl_begin_ok a now r1 h1) (cj rfl (cj (impl_HoldAt_ok r1.1.Holds id r2 h2) (cj (by simp [V.nv, nvL, nvL_all, nv_E3]) (cj h3 (cj h3 (cj (impl_HoldIdOk_ok id r3 h4) (cj rfl (cj h3 (cj h3 (cj (nf h5) (cj (impl_within_ok amount 1 9007199254740992 r4 h6) (cj rfl (cj1 (nt h7))))))))))))))))))) (fun h5 =>
        Pn.some (Fn.of [.call [] (V.tup [E54 r1.1, E3 r1.2]) [], .call [] (E3 r2) [], .bit false, .bit false, .call [] (E4 r3) [], .bit false, .bit false, .bit true] (p := [Fn Try.prog 106 [(false, E54 a), (false, E3 now)] (V.tup [E54 r1.1, E3 r1.2]) [],
         (true || ((V.tup [E54 r1.1, E3 r1.2]).nv && nvL [])) = true,
         Fn Try.prog 41 [(false, E48 r1.1.Holds), (false, E9 id)] (E3 r2) [],
         (false || ((E3 r2).nv && nvL [])) = true,
         (r1.2 != 0) = false,
         (r1.2 != 0) = false,
         Fn Try.prog 107 [(false, E9 id)] (E4 r3) [],
         (true || ((E4 r3).nv && nvL [])) = true,
         (r1.2 != 0) = false,
         (r1.2 != 0) = false,
         (!r3) = true]) (by kernel_rfl) (cj (impl_begin_ok a now r1 h1) (cj rfl (cj (impl_HoldAt_ok r1.1.Holds id r2 h2) (cj (by simp [V.nv, nvL, nvL_all, nv_E3]) (cj h3 (cj h3 (cj (impl_HoldIdOk_ok id r3 h4) (cj rfl (cj h3 (cj h3 (cj1 (nt h5))))))))))))))))))
def impl_LiveSum (l : List Hold) (now : Int) : Option (Int) :=
 (impl_LiveOnes l now).bind fun r1 =>
 (impl_Stored r1).bind fun r2 =>
 some r2
theorem impl_LiveSum_ok (l : List Hold) (now : Int) : Pn (fun y => Fn Try.prog 94 [(false, E48 l), (false, E3 now)] (E3 y) []) (impl_LiveSum l now) := by
  unfold impl_LiveSum
  exact
   Pn.bind (fun r1 h1 =>
    Pn.bind (fun r2 h2 =>
     Pn.some (Fn.of [.call [] (E48 r1) [], .call [] (E3 r2) []] (p := [Fn Try.prog 114 [(false, E48 l), (false, E3 now)] (E48 r1) [],
      (true || ((E48 r1).nv && nvL [])) = true,
      Fn Try.prog 53 [(false, E48 r1)] (E3 r2) [],
      (false || ((E3 r2).nv && nvL [])) = true]) (by kernel_rfl) (cj (impl_LiveOnes_ok l now r1 h1) (cj rfl (cj (impl_Stored_ok r1 r2 h2) (cj1 (by simp [V.nv, nvL, nvL_all, nv_E3]))))))))
def impl_Room (a : Acct) (now : Int) : Option (Int) :=
 (impl_AcctOk a).bind fun r1 =>
 if r1 = true then
  (impl_isTime now).bind fun r2 =>
  if r2 = true then
   (impl_LiveSum a.Holds now).bind fun r3 =>
   some (i64 ((i64 (a.Limit - a.Posted)) - r3))
  else
   some 0
 else
  some 0
theorem impl_Room_ok (a : Acct) (now : Int) : Pn (fun y => Fn Try.prog 32 [(false, E54 a), (false, E3 now)] (E3 y) []) (impl_Room a now) := by
  unfold impl_Room
  exact
   Pn.bind (fun r1 h1 =>
    Pn.ite (fun h2 =>
     Pn.bind (fun r2 h3 =>
      Pn.ite (fun h4 =>
       Pn.bind (fun r3 h5 =>
        Pn.some (Fn.of [.call [] (E4 r1) [], .bit false, .bit false, .call [] (E4 r2) [], .bit false, .bit false, .bit false, .draw [], .call [] (E3 r3) []] (p := [Fn Try.prog 31 [(false, E54 a)] (E4 r1) [],
         (true || ((E4 r1).nv && nvL [])) = true,
         (!r1) = false,
         (!r1) = false,
         Fn Try.prog 93 [(false, E3 now)] (E4 r2) [],
         (true || ((E4 r2).nv && nvL [])) = true,
         (!r1) = false,
         (!r1) = false,
         (!r2) = false,
         Fn Try.prog 94 [(false, E48 a.Holds), (false, E3 now)] (E3 r3) [],
         (true || ((E3 r3).nv && nvL [])) = true]) (by kernel_rfl) (cj (impl_AcctOk_ok a r1 h1) (cj rfl (cj (nf h2) (cj (nf h2) (cj (impl_isTime_ok now r2 h3) (cj rfl (cj (nf h2) (cj (nf h2) (cj (nf h4) (cj (impl_LiveSum_ok a.Holds now r3 h5) (cj1 rfl)))))))))))))) (fun h4 =>
       Pn.some (Fn.of [.call [] (E4 r1) [], .bit false, .bit false, .call [] (E4 r2) [], .bit false, .bit false, .bit true] (p := [Fn Try.prog 31 [(false, E54 a)] (E4 r1) [],
        (true || ((E4 r1).nv && nvL [])) = true,
        (!r1) = false,
        (!r1) = false,
        Fn Try.prog 93 [(false, E3 now)] (E4 r2) [],
        (true || ((E4 r2).nv && nvL [])) = true,
        (!r1) = false,
        (!r1) = false,
        (!r2) = true]) (by kernel_rfl) (cj (impl_AcctOk_ok a r1 h1) (cj rfl (cj (nf h2) (cj (nf h2) (cj (impl_isTime_ok now r2 h3) (cj rfl (cj (nf h2) (cj (nf h2) (cj1 (nt h4)))))))))))))) (fun h2 =>
     Pn.some (Fn.of [.call [] (E4 r1) [], .bit true, .bit true, .bit true, .bit true, .bit true] (p := [Fn Try.prog 31 [(false, E54 a)] (E4 r1) [],
      (true || ((E4 r1).nv && nvL [])) = true,
      (!r1) = true,
      (!r1) = true,
      (!r1) = true,
      (!r1) = true,
      true = true]) (by kernel_rfl) (cj (impl_AcctOk_ok a r1 h1) (cj rfl (cj (nt h2) (cj (nt h2) (cj (nt h2) (cj (nt h2) (cj1 rfl))))))))))
def impl_shifted_l0 (l : List Int) (by_ : Int) : List Int → List Int → (List Int) → Option ((List Int))
  | [], p1, v1 =>
   some v1
  | x1 :: t1, p1, v1 =>
   if (decide (by_ ≤ (p1.length : Int))) = true then
    if (decide (0 ≤ (i64 ((p1.length : Int) - by_)))) = true then
     (l[(i64 ((p1.length : Int) - by_)).toNat]?).bind fun x2 =>
     (v1[(p1.length : Int).toNat]?).bind fun x3 =>
     impl_shifted_l0 l by_ t1 (p1 ++ [x1]) (v1.set ((p1.length : Int).toNat) x2)
    else none
   else
    impl_shifted_l0 l by_ t1 (p1 ++ [x1]) v1
theorem impl_shifted_l0_ok (l : List Int) (by_ : Int) (h4 : capOk l.length = true) : ∀ (t1 p1 : List Int) (_ : l = p1 ++ t1) (v1 : List Int), Pn (LpO Try.prog (sub (codeOf Try.prog 169) [1, 1, 0, 1, 0, 0]) (st 29 [(0, V.sl false 3 (List.map E3 l)), (1, V.sc (.int .i64 by_)), (5, V.ow 0), (11, V.sc (.int .i64 (l.length : Int))), (12, V.sc (.int .i64 (p1.length : Int)))] [Blk.row 3 (List.map E3 v1) []] []) (fun (y : (List Int)) => (X.out 0, st 29 [(5, V.ow 0)] [Blk.row 3 (List.map E3 y) []] []))) (impl_shifted_l0 l by_ t1 p1 v1)
  | [], p1, h3, v1 => by
    unfold impl_shifted_l0
    exact
     Pn.some (LpO.out [.bit false, .mask [5], .ren [0]] (p := [(decide ((p1.length : Int) < (l.length : Int))) = false]) (by kernel_rfl) (show X.out 0 ≠ X.go from nofun) (cj1 (rng_end h3)))
  | x1 :: t1, p1, h3, v1 => by
    unfold impl_shifted_l0
    exact
     Pn.ite (fun h5 =>
      Pn.ite (fun h6 =>
       Pn.bind (fun x2 h7 =>
        Pn.bind (fun x3 h8 =>
         LpO.go [.bit true, .bit true, .el (E3 x2), .el (E3 x3), .nb 0 (.row 3 (List.map E3 (v1.set ((p1.length : Int).toNat) x2)) []), .wait 3, .mask [0, 1, 5, 11, 12], .ren [0], .nm 12 (V.sc (.int .i64 ((p1 ++ [x1]).length : Int)))] (p := [(decide ((p1.length : Int) < (l.length : Int))) = true,
          (decide (by_ ≤ (p1.length : Int))) = true,
          (0 : Int) ≤ (i64 ((p1.length : Int) - by_)),
          (List.map E3 l)[(i64 ((p1.length : Int) - by_)).toNat]? = some (E3 x2),
          (0 : Int) ≤ (p1.length : Int),
          ((p1.length : Int) : Int) < ((List.map E3 v1).length : Int),
          look [] ((p1.length : Int).toNat) = none,
          (List.map E3 v1)[(p1.length : Int).toNat]? = some (E3 x3),
          Blk.row 3 ((List.map E3 v1).set ((p1.length : Int).toNat) (V.sc (.int .i64 x2))) [] = Blk.row 3 (List.map E3 (v1.set ((p1.length : Int).toNat) x2)) [],
          V.sc (.int .i64 (i64 ((p1.length : Int) + 1))) = V.sc (.int .i64 ((p1 ++ [x1]).length : Int))]) (by kernel_rfl) (cj (rng_lt h3) (cj h5 (cj (od h6) (cj (map_get h7) (cj (by omega) (cj (map_ltN (by omega) h8) (cj rfl (cj (map_get h8) (cj (nb_set E3 _ _ x2) (cj1 (rng_next h3 h4))))))))))) (impl_shifted_l0_ok l by_ h4 t1 (p1 ++ [x1]) (rng_step h3) (v1.set ((p1.length : Int).toNat) x2))))) (fun h6 =>
       Pn.none)) (fun h5 =>
      LpO.go [.bit true, .bit false, .wait 2, .mask [0, 1, 5, 11, 12], .ren [0], .nm 12 (V.sc (.int .i64 ((p1 ++ [x1]).length : Int)))] (p := [(decide ((p1.length : Int) < (l.length : Int))) = true,
       (decide (by_ ≤ (p1.length : Int))) = false,
       V.sc (.int .i64 (i64 ((p1.length : Int) + 1))) = V.sc (.int .i64 ((p1 ++ [x1]).length : Int))]) (by kernel_rfl) (cj (rng_lt h3) (cj h5 (cj1 (rng_next h3 h4)))) (impl_shifted_l0_ok l by_ h4 t1 (p1 ++ [x1]) (rng_step h3) v1))
def impl_shifted (l : List Int) (by_ : Int) : Option ((List Int)) :=
 if (decide (0 ≤ (l.length : Int))) = true then
  if (capOk (l.length : Int).toNat) = true then
   if (capOk l.length) = true then
    (impl_shifted_l0 l by_ l [] (List.replicate ((l.length : Int).toNat) 0)).bind fun r1 =>
    some r1
   else none
  else none
 else none
theorem impl_shifted_ok (l : List Int) (by_ : Int) : Pn (fun y => Fn Try.prog 169 [(false, E49 l), (false, E3 by_)] (E49 y) []) (impl_shifted l by_) := by
  unfold impl_shifted
  exact
   Pn.ite (fun h1 =>
    Pn.ite (fun h2 =>
     Pn.ite (fun h9 =>
      Pn.bind (fun r1 h10 =>
       Pn.some (Fn.of [.wait 3, .nm 8 (V.sc (.int .i64 (l.length : Int))), .wait 1, .nb 0 (.row 3 (List.map E3 (List.replicate ((l.length : Int).toNat) 0)) []), .wait 3, .nm 11 (V.sc (.int .i64 (l.length : Int))), .wait 2, .mask [0, 1, 5, 11, 12], .ren [0], .loop (X.out 0) (st 29 [(5, V.ow 0)] [Blk.row 3 (List.map E3 r1) []] [])] (p := [V.sc (.int .i64 ((List.map E3 l).length : Int)) = V.sc (.int .i64 (l.length : Int)),
        ((l.length : Int) : Int) = (l.length : Int),
        (0 : Int) ≤ (l.length : Int),
        ((l.length : Int) : Int) ≤ 9223372036854775807,
        8 * (l.length : Int).toNat ≤ 281474976710656,
        Blk.row 3 (List.replicate ((l.length : Int).toNat) (V.sc (.int .i64 0))) [] = Blk.row 3 (List.map E3 (List.replicate ((l.length : Int).toNat) 0)) [],
        V.sc (.int .i64 ((List.map E3 l).length : Int)) = V.sc (.int .i64 (l.length : Int)),
        Loop Try.prog (sub (codeOf Try.prog 169) [1, 1, 0, 1, 0, 0]) (st 29 [(0, V.sl false 3 (List.map E3 l)), (1, V.sc (.int .i64 by_)), (5, V.ow 0), (11, V.sc (.int .i64 (l.length : Int))), (12, V.sc (.int .i64 0))] [Blk.row 3 (List.map E3 (List.replicate ((l.length : Int).toNat) 0)) []] []) (X.out 0) (st 29 [(5, V.ow 0)] [Blk.row 3 (List.map E3 r1) []] [])]) (by kernel_rfl) (cj (len_nm _ _) (cj rfl (cj (od h1) (cj (cap3 h1 h2) (cj (cap4 h2 (by decide)) (cj (nb_rep E3 _ 0) (cj (len_nm _ _) (cj1 (impl_shifted_l0_ok l by_ h9 l [] rfl (List.replicate ((l.length : Int).toNat) 0) r1 h10)))))))))))) (fun h9 =>
      Pn.none)) (fun h2 =>
     Pn.none)) (fun h1 =>
    Pn.none)
def impl_RingRoll (r_ : Ring) (now : Int) : Option (Ring) :=
 (impl_Ring_copied r_).bind fun r1 =>
 (impl_RingOk r_).bind fun r2 =>
 if r2 = true then
  (impl_isTime now).bind fun r3 =>
  if r3 = true then
   if (decide (r_.Span ≠ 0)) = true then
    if (decide ((i64 (Int.tdiv now r_.Span)) ≤ r_.Head)) = true then
     some r1
    else
     (impl_shifted r_.Counts (i64 ((i64 (Int.tdiv now r_.Span)) - r_.Head))).bind fun r4 =>
     (impl_shifted r_.Sums (i64 ((i64 (Int.tdiv now r_.Span)) - r_.Head))).bind fun r5 =>
     some (Ring.mk r_.Span (i64 (Int.tdiv now r_.Span)) r4 r5)
   else none
  else
   some r1
 else
  some r1
theorem impl_RingRoll_ok (r_ : Ring) (now : Int) : Pn (fun y => Fn Try.prog 116 [(false, E51 r_), (false, E3 now)] (E51 y) []) (impl_RingRoll r_ now) := by
  unfold impl_RingRoll
  exact
   Pn.bind (fun r1 h1 =>
    Pn.bind (fun r2 h2 =>
     Pn.ite (fun h3 =>
      Pn.bind (fun r3 h4 =>
       Pn.ite (fun h5 =>
        Pn.ite (fun h6 =>
         Pn.ite (fun h7 =>
          Pn.some (Fn.of [.call [] (E51 r1) [], .draw [], .call [] (E4 r2) [], .bit false, .bit false, .call [] (E4 r3) [], .bit false, .bit false, .bit false, .bit false, .bit false, .bit false, .bit false, .bit false, .bit false, .bit false, .bit true] (p := [Fn Try.prog 127 [(false, E51 r_)] (E51 r1) [],
           (true || ((E51 r1).nv && nvL [])) = true,
           Fn Try.prog 90 [(false, E51 r_)] (E4 r2) [],
           (true || ((E4 r2).nv && nvL [])) = true,
           (!r2) = false,
           (!r2) = false,
           Fn Try.prog 93 [(false, E3 now)] (E4 r3) [],
           (true || ((E4 r3).nv && nvL [])) = true,
           (!r2) = false,
           (!r2) = false,
           (!r3) = false,
           (!r3) = false,
           (!r3) = false,
           (!r3) = false,
           (r_.Span : Int) ≠ 0,
           (!r3) = false,
           (!r3) = false,
           (!r3) = false,
           (!r3) = false,
           (decide ((i64 (Int.tdiv now r_.Span)) ≤ r_.Head)) = true]) (by kernel_rfl) (cj (impl_Ring_copied_ok r_ r1 h1) (cj rfl (cj (impl_RingOk_ok r_ r2 h2) (cj rfl (cj (nf h3) (cj (nf h3) (cj (impl_isTime_ok now r3 h4) (cj rfl (cj (nf h3) (cj (nf h3) (cj (nf h5) (cj (nf h5) (cj (nf h5) (cj (nf h5) (cj (od h6) (cj (nf h5) (cj (nf h5) (cj (nf h5) (cj (nf h5) (cj1 h7)))))))))))))))))))))) (fun h7 =>
          Pn.bind (fun r4 h8 =>
           Pn.bind (fun r5 h9 =>
            Pn.some (Fn.of [.call [] (E51 r1) [], .draw [], .call [] (E4 r2) [], .bit false, .bit false, .call [] (E4 r3) [], .bit false, .bit false, .bit false, .bit false, .bit false, .bit false, .bit false, .bit false, .bit false, .bit false, .bit false, .draw [], .draw [15], .call [] (E49 r4) [], .call [] (E49 r5) []] (p := [Fn Try.prog 127 [(false, E51 r_)] (E51 r1) [],
             (true || ((E51 r1).nv && nvL [])) = true,
             Fn Try.prog 90 [(false, E51 r_)] (E4 r2) [],
             (true || ((E4 r2).nv && nvL [])) = true,
             (!r2) = false,
             (!r2) = false,
             Fn Try.prog 93 [(false, E3 now)] (E4 r3) [],
             (true || ((E4 r3).nv && nvL [])) = true,
             (!r2) = false,
             (!r2) = false,
             (!r3) = false,
             (!r3) = false,
             (!r3) = false,
             (!r3) = false,
             (r_.Span : Int) ≠ 0,
             (!r3) = false,
             (!r3) = false,
             (!r3) = false,
             (!r3) = false,
             (decide ((i64 (Int.tdiv now r_.Span)) ≤ r_.Head)) = false,
             (r_.Span : Int) ≠ 0,
             (r_.Span : Int) ≠ 0,
             Fn Try.prog 169 [(false, E49 r_.Counts), (false, E3 (i64 ((i64 (Int.tdiv now r_.Span)) - r_.Head)))] (E49 r4) [],
             (true || ((E49 r4).nv && nvL [])) = true,
             Fn Try.prog 169 [(false, E49 r_.Sums), (false, E3 (i64 ((i64 (Int.tdiv now r_.Span)) - r_.Head)))] (E49 r5) [],
             (true || ((E49 r5).nv && nvL [])) = true]) (by kernel_rfl) (cj (impl_Ring_copied_ok r_ r1 h1) (cj rfl (cj (impl_RingOk_ok r_ r2 h2) (cj rfl (cj (nf h3) (cj (nf h3) (cj (impl_isTime_ok now r3 h4) (cj rfl (cj (nf h3) (cj (nf h3) (cj (nf h5) (cj (nf h5) (cj (nf h5) (cj (nf h5) (cj (od h6) (cj (nf h5) (cj (nf h5) (cj (nf h5) (cj (nf h5) (cj h7 (cj (od h6) (cj (od h6) (cj (impl_shifted_ok r_.Counts (i64 ((i64 (Int.tdiv now r_.Span)) - r_.Head)) r4 h8) (cj rfl (cj (impl_shifted_ok r_.Sums (i64 ((i64 (Int.tdiv now r_.Span)) - r_.Head)) r5 h9) (cj1 rfl))))))))))))))))))))))))))))))) (fun h6 =>
         Pn.none)) (fun h5 =>
        Pn.some (Fn.of [.call [] (E51 r1) [], .draw [], .call [] (E4 r2) [], .bit false, .bit false, .call [] (E4 r3) [], .bit false, .bit false, .bit true, .bit true, .bit true, .bit true, .bit true, .bit true, .bit true, .bit true, .bit true] (p := [Fn Try.prog 127 [(false, E51 r_)] (E51 r1) [],
         (true || ((E51 r1).nv && nvL [])) = true,
         Fn Try.prog 90 [(false, E51 r_)] (E4 r2) [],
         (true || ((E4 r2).nv && nvL [])) = true,
         (!r2) = false,
         (!r2) = false,
         Fn Try.prog 93 [(false, E3 now)] (E4 r3) [],
         (true || ((E4 r3).nv && nvL [])) = true,
         (!r2) = false,
         (!r2) = false,
         (!r3) = true,
         (!r3) = true,
         (!r3) = true,
         (!r3) = true,
         (!r3) = true,
         (!r3) = true,
         (!r3) = true,
         (!r3) = true,
         true = true]) (by kernel_rfl) (cj (impl_Ring_copied_ok r_ r1 h1) (cj rfl (cj (impl_RingOk_ok r_ r2 h2) (cj rfl (cj (nf h3) (cj (nf h3) (cj (impl_isTime_ok now r3 h4) (cj rfl (cj (nf h3) (cj (nf h3) (cj (nt h5) (cj (nt h5) (cj (nt h5) (cj (nt h5) (cj (nt h5) (cj (nt h5) (cj (nt h5) (cj (nt h5) (cj1 rfl))))))))))))))))))))))) (fun h3 =>
      Pn.some (Fn.of [.call [] (E51 r1) [], .draw [], .call [] (E4 r2) [], .bit true, .bit true, .bit true, .bit true, .bit true, .bit true, .bit true, .bit true, .bit true, .bit true, .bit true, .bit true, .bit true] (p := [Fn Try.prog 127 [(false, E51 r_)] (E51 r1) [],
       (true || ((E51 r1).nv && nvL [])) = true,
       Fn Try.prog 90 [(false, E51 r_)] (E4 r2) [],
       (true || ((E4 r2).nv && nvL [])) = true,
       (!r2) = true,
       (!r2) = true,
       (!r2) = true,
       (!r2) = true,
       true = true,
       true = true,
       true = true,
       true = true,
       true = true,
       true = true,
       true = true,
       true = true,
       true = true]) (by kernel_rfl) (cj (impl_Ring_copied_ok r_ r1 h1) (cj rfl (cj (impl_RingOk_ok r_ r2 h2) (cj rfl (cj (nt h3) (cj (nt h3) (cj (nt h3) (cj (nt h3) (cj rfl (cj rfl (cj rfl (cj rfl (cj rfl (cj rfl (cj rfl (cj rfl (cj1 rfl)))))))))))))))))))))
def impl_total_l0 (l : List Int) : List Int → Int → Option (Int)
  | [], v1 =>
   some v1
  | x1 :: t1, v1 =>
   (impl_AddSat v1 x1).bind fun r1 =>
   impl_total_l0 l t1 r1
theorem impl_total_l0_ok (l : List Int) (h2 : capOk l.length = true) : ∀ (t1 p1 : List Int) (_ : l = p1 ++ t1) (v1 : Int), Pn (LpO Try.prog (sub (codeOf Try.prog 115) [1, 1, 0, 1, 0, 0]) (st 17 [(3, V.sc (.int .i64 v1)), (6, V.sl false 3 (List.map E3 l)), (7, V.sc (.int .i64 (l.length : Int))), (8, V.sc (.int .i64 (p1.length : Int)))] [] []) (fun (y : Int) => (X.out 0, st 17 [(3, V.sc (.int .i64 y))] [] []))) (impl_total_l0 l t1 v1)
  | [], p1, h1, v1 => by
    unfold impl_total_l0
    exact
     Pn.some (LpO.out [.bit false, .mask [3], .ren []] (p := [(decide ((p1.length : Int) < (l.length : Int))) = false]) (by kernel_rfl) (show X.out 0 ≠ X.go from nofun) (cj1 (rng_end h1)))
  | x1 :: t1, p1, h1, v1 => by
    unfold impl_total_l0
    exact
     Pn.bind (fun r1 h3 =>
      LpO.go [.bit true, .el (E3 x1), .call [] (E3 r1) [], .wait 4, .mask [3, 6, 7, 8], .ren [], .nm 8 (V.sc (.int .i64 ((p1 ++ [x1]).length : Int)))] (p := [(decide ((p1.length : Int) < (l.length : Int))) = true,
       (0 : Int) ≤ (p1.length : Int),
       (List.map E3 l)[(p1.length : Int).toNat]? = some (E3 x1),
       Fn Try.prog 92 [(false, E3 v1), (false, E3 x1)] (E3 r1) [],
       (true || ((E3 r1).nv && nvL [])) = true,
       V.sc (.int .i64 (i64 ((p1.length : Int) + 1))) = V.sc (.int .i64 ((p1 ++ [x1]).length : Int))]) (by kernel_rfl) (cj (rng_lt h1) (cj (by omega) (cj (rng_get _ h1) (cj (impl_AddSat_ok v1 x1 r1 h3) (cj rfl (cj1 (rng_next h1 h2))))))) (impl_total_l0_ok l h2 t1 (p1 ++ [x1]) (rng_step h1) r1))
def impl_total (l : List Int) : Option (Int) :=
 if (capOk l.length) = true then
  (impl_total_l0 l l 0).bind fun r2 =>
  some r2
 else none
theorem impl_total_ok (l : List Int) : Pn (fun y => Fn Try.prog 115 [(false, E49 l)] (E3 y) []) (impl_total l) := by
  unfold impl_total
  exact
   Pn.ite (fun h4 =>
    Pn.bind (fun r2 h5 =>
     Pn.some (Fn.of [.wait 4, .nm 7 (V.sc (.int .i64 (l.length : Int))), .wait 2, .mask [3, 6, 7, 8], .ren [], .loop (X.out 0) (st 17 [(3, V.sc (.int .i64 r2))] [] [])] (p := [V.sc (.int .i64 ((List.map E3 l).length : Int)) = V.sc (.int .i64 (l.length : Int)),
      Loop Try.prog (sub (codeOf Try.prog 115) [1, 1, 0, 1, 0, 0]) (st 17 [(3, V.sc (.int .i64 0)), (6, V.sl false 3 (List.map E3 l)), (7, V.sc (.int .i64 (l.length : Int))), (8, V.sc (.int .i64 0))] [] []) (X.out 0) (st 17 [(3, V.sc (.int .i64 r2))] [] [])]) (by kernel_rfl) (cj (len_nm _ _) (cj1 (impl_total_l0_ok l h4 l [] rfl 0 r2 h5)))))) (fun h4 =>
    Pn.none)
def impl_RingCount (r_ : Ring) (now : Int) : Option (Int) :=
 (impl_RingOk r_).bind fun r1 =>
 if r1 = true then
  (impl_isTime now).bind fun r2 =>
  if r2 = true then
   (impl_RingRoll r_ now).bind fun r3 =>
   (impl_total r3.Counts).bind fun r4 =>
   some r4
  else
   some 0
 else
  some 0
theorem impl_RingCount_ok (r_ : Ring) (now : Int) : Pn (fun y => Fn Try.prog 58 [(false, E51 r_), (false, E3 now)] (E3 y) []) (impl_RingCount r_ now) := by
  unfold impl_RingCount
  exact
   Pn.bind (fun r1 h1 =>
    Pn.ite (fun h2 =>
     Pn.bind (fun r2 h3 =>
      Pn.ite (fun h4 =>
       Pn.bind (fun r3 h5 =>
        Pn.bind (fun r4 h6 =>
         Pn.some (Fn.of [.call [] (E4 r1) [], .bit false, .bit false, .call [] (E4 r2) [], .bit false, .bit false, .bit false, .call [] (E51 r3) [], .call [] (E3 r4) []] (p := [Fn Try.prog 90 [(false, E51 r_)] (E4 r1) [],
          (true || ((E4 r1).nv && nvL [])) = true,
          (!r1) = false,
          (!r1) = false,
          Fn Try.prog 93 [(false, E3 now)] (E4 r2) [],
          (true || ((E4 r2).nv && nvL [])) = true,
          (!r1) = false,
          (!r1) = false,
          (!r2) = false,
          Fn Try.prog 116 [(false, E51 r_), (false, E3 now)] (E51 r3) [],
          (true || ((E51 r3).nv && nvL [])) = true,
          Fn Try.prog 115 [(false, E49 r3.Counts)] (E3 r4) [],
          (false || ((E3 r4).nv && nvL [])) = true]) (by kernel_rfl) (cj (impl_RingOk_ok r_ r1 h1) (cj rfl (cj (nf h2) (cj (nf h2) (cj (impl_isTime_ok now r2 h3) (cj rfl (cj (nf h2) (cj (nf h2) (cj (nf h4) (cj (impl_RingRoll_ok r_ now r3 h5) (cj rfl (cj (impl_total_ok r3.Counts r4 h6) (cj1 (by simp [V.nv, nvL, nvL_all, nv_E3])))))))))))))))))) (fun h4 =>
       Pn.some (Fn.of [.call [] (E4 r1) [], .bit false, .bit false, .call [] (E4 r2) [], .bit false, .bit false, .bit true] (p := [Fn Try.prog 90 [(false, E51 r_)] (E4 r1) [],
        (true || ((E4 r1).nv && nvL [])) = true,
        (!r1) = false,
        (!r1) = false,
        Fn Try.prog 93 [(false, E3 now)] (E4 r2) [],
        (true || ((E4 r2).nv && nvL [])) = true,
        (!r1) = false,
        (!r1) = false,
        (!r2) = true]) (by kernel_rfl) (cj (impl_RingOk_ok r_ r1 h1) (cj rfl (cj (nf h2) (cj (nf h2) (cj (impl_isTime_ok now r2 h3) (cj rfl (cj (nf h2) (cj (nf h2) (cj1 (nt h4)))))))))))))) (fun h2 =>
     Pn.some (Fn.of [.call [] (E4 r1) [], .bit true, .bit true, .bit true, .bit true, .bit true] (p := [Fn Try.prog 90 [(false, E51 r_)] (E4 r1) [],
      (true || ((E4 r1).nv && nvL [])) = true,
      (!r1) = true,
      (!r1) = true,
      (!r1) = true,
      (!r1) = true,
      true = true]) (by kernel_rfl) (cj (impl_RingOk_ok r_ r1 h1) (cj rfl (cj (nt h2) (cj (nt h2) (cj (nt h2) (cj (nt h2) (cj1 rfl))))))))))
def impl_RingSum (r_ : Ring) (now : Int) : Option (Int) :=
 (impl_RingOk r_).bind fun r1 =>
 if r1 = true then
  (impl_isTime now).bind fun r2 =>
  if r2 = true then
   (impl_RingRoll r_ now).bind fun r3 =>
   (impl_total r3.Sums).bind fun r4 =>
   some r4
  else
   some 0
 else
  some 0
theorem impl_RingSum_ok (r_ : Ring) (now : Int) : Pn (fun y => Fn Try.prog 59 [(false, E51 r_), (false, E3 now)] (E3 y) []) (impl_RingSum r_ now) := by
  unfold impl_RingSum
  exact
   Pn.bind (fun r1 h1 =>
    Pn.ite (fun h2 =>
     Pn.bind (fun r2 h3 =>
      Pn.ite (fun h4 =>
       Pn.bind (fun r3 h5 =>
        Pn.bind (fun r4 h6 =>
         Pn.some (Fn.of [.call [] (E4 r1) [], .bit false, .bit false, .call [] (E4 r2) [], .bit false, .bit false, .bit false, .call [] (E51 r3) [], .call [] (E3 r4) []] (p := [Fn Try.prog 90 [(false, E51 r_)] (E4 r1) [],
          (true || ((E4 r1).nv && nvL [])) = true,
          (!r1) = false,
          (!r1) = false,
          Fn Try.prog 93 [(false, E3 now)] (E4 r2) [],
          (true || ((E4 r2).nv && nvL [])) = true,
          (!r1) = false,
          (!r1) = false,
          (!r2) = false,
          Fn Try.prog 116 [(false, E51 r_), (false, E3 now)] (E51 r3) [],
          (true || ((E51 r3).nv && nvL [])) = true,
          Fn Try.prog 115 [(false, E49 r3.Sums)] (E3 r4) [],
          (false || ((E3 r4).nv && nvL [])) = true]) (by kernel_rfl) (cj (impl_RingOk_ok r_ r1 h1) (cj rfl (cj (nf h2) (cj (nf h2) (cj (impl_isTime_ok now r2 h3) (cj rfl (cj (nf h2) (cj (nf h2) (cj (nf h4) (cj (impl_RingRoll_ok r_ now r3 h5) (cj rfl (cj (impl_total_ok r3.Sums r4 h6) (cj1 (by simp [V.nv, nvL, nvL_all, nv_E3])))))))))))))))))) (fun h4 =>
       Pn.some (Fn.of [.call [] (E4 r1) [], .bit false, .bit false, .call [] (E4 r2) [], .bit false, .bit false, .bit true] (p := [Fn Try.prog 90 [(false, E51 r_)] (E4 r1) [],
        (true || ((E4 r1).nv && nvL [])) = true,
        (!r1) = false,
        (!r1) = false,
        Fn Try.prog 93 [(false, E3 now)] (E4 r2) [],
        (true || ((E4 r2).nv && nvL [])) = true,
        (!r1) = false,
        (!r1) = false,
        (!r2) = true]) (by kernel_rfl) (cj (impl_RingOk_ok r_ r1 h1) (cj rfl (cj (nf h2) (cj (nf h2) (cj (impl_isTime_ok now r2 h3) (cj rfl (cj (nf h2) (cj (nf h2) (cj1 (nt h4)))))))))))))) (fun h2 =>
     Pn.some (Fn.of [.call [] (E4 r1) [], .bit true, .bit true, .bit true, .bit true, .bit true] (p := [Fn Try.prog 90 [(false, E51 r_)] (E4 r1) [],
      (true || ((E4 r1).nv && nvL [])) = true,
      (!r1) = true,
      (!r1) = true,
      (!r1) = true,
      (!r1) = true,
      true = true]) (by kernel_rfl) (cj (impl_RingOk_ok r_ r1 h1) (cj rfl (cj (nt h2) (cj (nt h2) (cj (nt h2) (cj (nt h2) (cj1 rfl))))))))))
def impl_checks (a : Acct) (amount : Int) (now : Int) : Option (Int) :=
 (impl_Room a now).bind fun r1 =>
 if (decide (r1 < amount)) = true then
  some 7
 else
  (impl_RingCount a.Ring now).bind fun r2 =>
  (impl_AddSat r2 1).bind fun r3 =>
  if (decide (a.Most < r3)) = true then
   some 8
  else
   (impl_RingSum a.Ring now).bind fun r4 =>
   (impl_AddSat r4 amount).bind fun r5 =>
   if (decide (a.MostSum < r5)) = true then
    some 9
   else
    some 0
theorem impl_checks_ok (a : Acct) (amount : Int) (now : Int) : Pn (fun y => Fn Try.prog 96 [(false, E54 a), (false, E3 amount), (false, E3 now)] (E3 y) []) (impl_checks a amount now) := by
  unfold impl_checks
  exact
   Pn.bind (fun r1 h1 =>
    Pn.ite (fun h2 =>
     Pn.some (Fn.of [.call [] (E3 r1) [], .bit true] (p := [Fn Try.prog 32 [(false, E54 a), (false, E3 now)] (E3 r1) [],
      (true || ((E3 r1).nv && nvL [])) = true,
      (decide (r1 < amount)) = true]) (by kernel_rfl) (cj (impl_Room_ok a now r1 h1) (cj rfl (cj1 h2))))) (fun h2 =>
     Pn.bind (fun r2 h3 =>
      Pn.bind (fun r3 h4 =>
       Pn.ite (fun h5 =>
        Pn.some (Fn.of [.call [] (E3 r1) [], .bit false, .draw [], .call [] (E3 r2) [], .call [] (E3 r3) [], .bit true] (p := [Fn Try.prog 32 [(false, E54 a), (false, E3 now)] (E3 r1) [],
         (true || ((E3 r1).nv && nvL [])) = true,
         (decide (r1 < amount)) = false,
         Fn Try.prog 58 [(false, E51 a.Ring), (false, E3 now)] (E3 r2) [],
         (true || ((E3 r2).nv && nvL [])) = true,
         Fn Try.prog 92 [(false, E3 r2), (false, E3 1)] (E3 r3) [],
         (true || ((E3 r3).nv && nvL [])) = true,
         (decide (a.Most < r3)) = true]) (by kernel_rfl) (cj (impl_Room_ok a now r1 h1) (cj rfl (cj h2 (cj (impl_RingCount_ok a.Ring now r2 h3) (cj rfl (cj (impl_AddSat_ok r2 1 r3 h4) (cj rfl (cj1 h5)))))))))) (fun h5 =>
        Pn.bind (fun r4 h6 =>
         Pn.bind (fun r5 h7 =>
          Pn.ite (fun h8 =>
           Pn.some (Fn.of [.call [] (E3 r1) [], .bit false, .draw [], .call [] (E3 r2) [], .call [] (E3 r3) [], .bit false, .draw [], .call [] (E3 r4) [], .call [] (E3 r5) [], .bit true] (p := [Fn Try.prog 32 [(false, E54 a), (false, E3 now)] (E3 r1) [],
            (true || ((E3 r1).nv && nvL [])) = true,
            (decide (r1 < amount)) = false,
            Fn Try.prog 58 [(false, E51 a.Ring), (false, E3 now)] (E3 r2) [],
            (true || ((E3 r2).nv && nvL [])) = true,
            Fn Try.prog 92 [(false, E3 r2), (false, E3 1)] (E3 r3) [],
            (true || ((E3 r3).nv && nvL [])) = true,
            (decide (a.Most < r3)) = false,
            Fn Try.prog 59 [(false, E51 a.Ring), (false, E3 now)] (E3 r4) [],
            (true || ((E3 r4).nv && nvL [])) = true,
            Fn Try.prog 92 [(false, E3 r4), (false, E3 amount)] (E3 r5) [],
            (true || ((E3 r5).nv && nvL [])) = true,
            (decide (a.MostSum < r5)) = true]) (by kernel_rfl) (cj (impl_Room_ok a now r1 h1) (cj rfl (cj h2 (cj (impl_RingCount_ok a.Ring now r2 h3) (cj rfl (cj (impl_AddSat_ok r2 1 r3 h4) (cj rfl (cj h5 (cj (impl_RingSum_ok a.Ring now r4 h6) (cj rfl (cj (impl_AddSat_ok r4 amount r5 h7) (cj rfl (cj1 h8))))))))))))))) (fun h8 =>
           Pn.some (Fn.of [.call [] (E3 r1) [], .bit false, .draw [], .call [] (E3 r2) [], .call [] (E3 r3) [], .bit false, .draw [], .call [] (E3 r4) [], .call [] (E3 r5) [], .bit false] (p := [Fn Try.prog 32 [(false, E54 a), (false, E3 now)] (E3 r1) [],
            (true || ((E3 r1).nv && nvL [])) = true,
            (decide (r1 < amount)) = false,
            Fn Try.prog 58 [(false, E51 a.Ring), (false, E3 now)] (E3 r2) [],
            (true || ((E3 r2).nv && nvL [])) = true,
            Fn Try.prog 92 [(false, E3 r2), (false, E3 1)] (E3 r3) [],
            (true || ((E3 r3).nv && nvL [])) = true,
            (decide (a.Most < r3)) = false,
            Fn Try.prog 59 [(false, E51 a.Ring), (false, E3 now)] (E3 r4) [],
            (true || ((E3 r4).nv && nvL [])) = true,
            Fn Try.prog 92 [(false, E3 r4), (false, E3 amount)] (E3 r5) [],
            (true || ((E3 r5).nv && nvL [])) = true,
            (decide (a.MostSum < r5)) = false]) (by kernel_rfl) (cj (impl_Room_ok a now r1 h1) (cj rfl (cj h2 (cj (impl_RingCount_ok a.Ring now r2 h3) (cj rfl (cj (impl_AddSat_ok r2 1 r3 h4) (cj rfl (cj h5 (cj (impl_RingSum_ok a.Ring now r4 h6) (cj rfl (cj (impl_AddSat_ok r4 amount r5 h7) (cj rfl (cj1 h8))))))))))))))))))))))
def impl_RingAdd (r_ : Ring) (now : Int) (amount : Int) : Option (Ring) :=
 (impl_RingOk r_).bind fun r1 =>
 if r1 = true then
  (impl_isTime now).bind fun r2 =>
  if r2 = true then
   (impl_isMoney amount).bind fun r3 =>
   if r3 = true then
    (impl_RingRoll r_ now).bind fun r4 =>
    (r4.Counts[0]?).bind fun x1 =>
    (r4.Sums[0]?).bind fun x2 =>
    (impl_AddSat x1 1).bind fun r5 =>
    (impl_AddSat x2 amount).bind fun r6 =>
    some (Ring.mk r4.Span r4.Head (r4.Counts.set 0 r5) (r4.Sums.set 0 r6))
   else
    (impl_Ring_copied r_).bind fun r7 =>
    some r7
  else
   (impl_Ring_copied r_).bind fun r8 =>
   some r8
 else
  (impl_Ring_copied r_).bind fun r9 =>
  some r9
theorem impl_RingAdd_ok (r_ : Ring) (now : Int) (amount : Int) : Pn (fun y => Fn Try.prog 97 [(false, E51 r_), (false, E3 now), (false, E3 amount)] (E51 y) []) (impl_RingAdd r_ now amount) := by
  unfold impl_RingAdd
  exact
   Pn.bind (fun r1 h1 =>
    Pn.ite (fun h2 =>
     Pn.bind (fun r2 h3 =>
      Pn.ite (fun h4 =>
       Pn.bind (fun r3 h5 =>
        Pn.ite (fun h6 =>
         Pn.bind (fun r4 h7 =>
          Pn.bind (fun x1 h8 =>
           Pn.bind (fun x2 h9 =>
            Pn.bind (fun r5 h10 =>
             Pn.bind (fun r6 h11 =>
              Pn.some (Fn.of [.call [] (E4 r1) [], .bit false, .bit false, .call [] (E4 r2) [], .bit false, .bit false, .bit false, .bit false, .call [] (E4 r3) [], .bit false, .bit false, .bit false, .call [] (E51 r4) [], .draw [16, 18], .el (E3 x1), .el (E3 x2), .loop .go (st 44 [(0, V.agg [V.sc (.int .i64 r_.Span), V.sc (.int .i64 r_.Head), V.sl false 3 (List.map E3 r_.Counts), V.sl false 3 (List.map E3 r_.Sums)]), (1, V.sc (.int .i64 now)), (2, V.sc (.int .i64 amount)), (3, V.ptr 0 0), (6, V.ptr 1 0), (7, V.ptr 2 0), (8, V.agg [V.sc (.int .i64 r_.Span), V.sc (.int .i64 r_.Head), V.sl false 3 (List.map E3 r_.Counts), V.sl false 3 (List.map E3 r_.Sums)]), (9, V.sc (.bool r1)), (10, V.sc (.bool (!r1))), (11, V.sc (.bool (!r1))), (12, V.sc (.int .i64 now)), (13, V.sc (.bool r2)), (14, V.sc (.bool (!r2))), (15, V.sc (.bool (!r2))), (16, V.sc (.bool (!r2))), (17, V.sc (.int .i64 amount)), (18, V.sc (.bool r3)), (19, V.sc (.bool (!r3))), (20, V.sc (.bool (!r3))), (23, V.agg [V.sc (.int .i64 r_.Span), V.sc (.int .i64 r_.Head), V.sl false 3 (List.map E3 r_.Counts), V.sl false 3 (List.map E3 r_.Sums)]), (24, V.sc (.int .i64 now)), (25, V.agg [V.sc (.int .i64 r4.Span), V.sc (.int .i64 r4.Head), V.ow 3, V.ow 4]), (26, V.ptr 2 2), (27, V.ow 3), (28, V.ptr 2 3), (29, V.ow 4), (30, V.ptr 2 2), (31, V.ow 3), (32, V.ep 3 1 0 0), (33, V.sc (.int .i64 x1)), (34, V.sc (.int .i64 r5)), (35, V.ptr 2 3), (36, V.ow 4), (37, V.ep 4 1 0 0), (38, V.sc (.int .i64 x2)), (39, V.sc (.int .i64 amount)), (40, V.sc (.int .i64 r6)), (41, V.ep 3 1 0 0), (42, V.ep 4 1 0 0)] [Blk.box 51 [V.sc (.int .i64 r_.Span), V.sc (.int .i64 r_.Head), V.sl false 3 (List.map E3 r_.Counts), V.sl false 3 (List.map E3 r_.Sums)], Blk.box 51 [V.sc (.int .i64 0), V.sc (.int .i64 0), V.nl 3, V.nl 3], Blk.box 51 [V.sc (.int .i64 r4.Span), V.sc (.int .i64 r4.Head), V.ow 3, V.ow 4], Blk.row 3 (List.map E3 (r4.Counts.set 0 r5)) [], Blk.row 3 (List.map E3 (r4.Sums.set 0 r6)) []] []), .loop .go (st 44 [(0, V.agg [V.sc (.int .i64 r_.Span), V.sc (.int .i64 r_.Head), V.sl false 3 (List.map E3 r_.Counts), V.sl false 3 (List.map E3 r_.Sums)]), (1, V.sc (.int .i64 now)), (2, V.sc (.int .i64 amount)), (3, V.ptr 0 0), (6, V.ptr 1 0), (7, V.ptr 2 0), (8, V.agg [V.sc (.int .i64 r_.Span), V.sc (.int .i64 r_.Head), V.sl false 3 (List.map E3 r_.Counts), V.sl false 3 (List.map E3 r_.Sums)]), (9, V.sc (.bool r1)), (10, V.sc (.bool (!r1))), (11, V.sc (.bool (!r1))), (12, V.sc (.int .i64 now)), (13, V.sc (.bool r2)), (14, V.sc (.bool (!r2))), (15, V.sc (.bool (!r2))), (16, V.sc (.bool (!r2))), (17, V.sc (.int .i64 amount)), (18, V.sc (.bool r3)), (19, V.sc (.bool (!r3))), (20, V.sc (.bool (!r3))), (23, V.agg [V.sc (.int .i64 r_.Span), V.sc (.int .i64 r_.Head), V.sl false 3 (List.map E3 r_.Counts), V.sl false 3 (List.map E3 r_.Sums)]), (24, V.sc (.int .i64 now)), (25, V.agg [V.sc (.int .i64 r4.Span), V.sc (.int .i64 r4.Head), V.ow 3, V.ow 4]), (26, V.ptr 2 2), (27, V.ow 3), (28, V.ptr 2 3), (29, V.ow 4), (30, V.ptr 2 2), (31, V.ow 3), (32, V.ep 3 1 0 0), (33, V.sc (.int .i64 x1)), (34, V.sc (.int .i64 r5)), (35, V.ptr 2 3), (36, V.ow 4), (37, V.ep 4 1 0 0), (38, V.sc (.int .i64 x2)), (39, V.sc (.int .i64 amount)), (40, V.sc (.int .i64 r6)), (41, V.ep 3 1 0 0), (42, V.ep 4 1 0 0)] [Blk.box 51 [V.sc (.int .i64 r_.Span), V.sc (.int .i64 r_.Head), V.sl false 3 (List.map E3 r_.Counts), V.sl false 3 (List.map E3 r_.Sums)], Blk.box 51 [V.sc (.int .i64 0), V.sc (.int .i64 0), V.nl 3, V.nl 3], Blk.box 51 [V.sc (.int .i64 r4.Span), V.sc (.int .i64 r4.Head), V.ow 3, V.ow 4], Blk.row 3 (List.map E3 (r4.Counts.set 0 r5)) [], Blk.row 3 (List.map E3 (r4.Sums.set 0 r6)) []] []), .call [] (E3 r5) [], .call [] (E3 r6) [], .el (E3 x1), .nb 2 (.row 3 (List.map E3 (r4.Counts.set 0 r5)) []), .el (E3 x2), .nb 3 (.row 3 (List.map E3 (r4.Sums.set 0 r6)) []), .ren [0, 1, 4, 2, 3], .call [] (E3 r5) [], .loop .go (st 44 [(0, V.agg [V.sc (.int .i64 r_.Span), V.sc (.int .i64 r_.Head), V.sl false 3 (List.map E3 r_.Counts), V.sl false 3 (List.map E3 r_.Sums)]), (1, V.sc (.int .i64 now)), (2, V.sc (.int .i64 amount)), (3, V.ptr 0 0), (6, V.ptr 1 0), (7, V.ptr 2 0), (8, V.agg [V.sc (.int .i64 r_.Span), V.sc (.int .i64 r_.Head), V.sl false 3 (List.map E3 r_.Counts), V.sl false 3 (List.map E3 r_.Sums)]), (9, V.sc (.bool r1)), (10, V.sc (.bool (!r1))), (11, V.sc (.bool (!r1))), (12, V.sc (.int .i64 now)), (13, V.sc (.bool r2)), (14, V.sc (.bool (!r2))), (15, V.sc (.bool (!r2))), (16, V.sc (.bool (!r2))), (17, V.sc (.int .i64 amount)), (18, V.sc (.bool r3)), (19, V.sc (.bool (!r3))), (20, V.sc (.bool (!r3))), (23, V.agg [V.sc (.int .i64 r_.Span), V.sc (.int .i64 r_.Head), V.sl false 3 (List.map E3 r_.Counts), V.sl false 3 (List.map E3 r_.Sums)]), (24, V.sc (.int .i64 now)), (25, V.agg [V.sc (.int .i64 r4.Span), V.sc (.int .i64 r4.Head), V.ow 3, V.ow 4]), (26, V.ptr 2 2), (27, V.ow 3), (28, V.ptr 2 3), (29, V.ow 4), (30, V.ptr 2 2), (31, V.ow 3), (32, V.ep 3 1 0 0), (33, V.sc (.int .i64 x1)), (34, V.sc (.int .i64 r5)), (35, V.ptr 2 3), (36, V.ow 4), (37, V.ep 4 1 0 0), (38, V.sc (.int .i64 x2)), (39, V.sc (.int .i64 amount)), (40, V.sc (.int .i64 r6)), (41, V.ep 3 1 0 0), (42, V.ep 4 1 0 0)] [Blk.box 51 [V.sc (.int .i64 r_.Span), V.sc (.int .i64 r_.Head), V.sl false 3 (List.map E3 r_.Counts), V.sl false 3 (List.map E3 r_.Sums)], Blk.box 51 [V.sc (.int .i64 0), V.sc (.int .i64 0), V.nl 3, V.nl 3], Blk.box 51 [V.sc (.int .i64 r4.Span), V.sc (.int .i64 r4.Head), V.ow 3, V.ow 4], Blk.row 3 (List.map E3 (r4.Counts.set 0 r5)) [], Blk.row 3 (List.map E3 (r4.Sums.set 0 r6)) []] []), .call [] (E3 r6) [], .el (E3 x1), .nb 2 (.row 3 (List.map E3 (r4.Counts.set 0 r5)) []), .el (E3 x2), .nb 3 (.row 3 (List.map E3 (r4.Sums.set 0 r6)) []), .ren [0, 1, 4, 2, 3], .call [] (E3 r6) [], .loop .go (st 44 [(0, V.agg [V.sc (.int .i64 r_.Span), V.sc (.int .i64 r_.Head), V.sl false 3 (List.map E3 r_.Counts), V.sl false 3 (List.map E3 r_.Sums)]), (1, V.sc (.int .i64 now)), (2, V.sc (.int .i64 amount)), (3, V.ptr 0 0), (6, V.ptr 1 0), (7, V.ptr 2 0), (8, V.agg [V.sc (.int .i64 r_.Span), V.sc (.int .i64 r_.Head), V.sl false 3 (List.map E3 r_.Counts), V.sl false 3 (List.map E3 r_.Sums)]), (9, V.sc (.bool r1)), (10, V.sc (.bool (!r1))), (11, V.sc (.bool (!r1))), (12, V.sc (.int .i64 now)), (13, V.sc (.bool r2)), (14, V.sc (.bool (!r2))), (15, V.sc (.bool (!r2))), (16, V.sc (.bool (!r2))), (17, V.sc (.int .i64 amount)), (18, V.sc (.bool r3)), (19, V.sc (.bool (!r3))), (20, V.sc (.bool (!r3))), (23, V.agg [V.sc (.int .i64 r_.Span), V.sc (.int .i64 r_.Head), V.sl false 3 (List.map E3 r_.Counts), V.sl false 3 (List.map E3 r_.Sums)]), (24, V.sc (.int .i64 now)), (25, V.agg [V.sc (.int .i64 r4.Span), V.sc (.int .i64 r4.Head), V.ow 3, V.ow 4]), (26, V.ptr 2 2), (27, V.ow 3), (28, V.ptr 2 3), (29, V.ow 4), (30, V.ptr 2 2), (31, V.ow 3), (32, V.ep 3 1 0 0), (33, V.sc (.int .i64 x1)), (34, V.sc (.int .i64 r5)), (35, V.ptr 2 3), (36, V.ow 4), (37, V.ep 4 1 0 0), (38, V.sc (.int .i64 x2)), (39, V.sc (.int .i64 amount)), (40, V.sc (.int .i64 r6)), (41, V.ep 3 1 0 0), (42, V.ep 4 1 0 0)] [Blk.box 51 [V.sc (.int .i64 r_.Span), V.sc (.int .i64 r_.Head), V.sl false 3 (List.map E3 r_.Counts), V.sl false 3 (List.map E3 r_.Sums)], Blk.box 51 [V.sc (.int .i64 0), V.sc (.int .i64 0), V.nl 3, V.nl 3], Blk.box 51 [V.sc (.int .i64 r4.Span), V.sc (.int .i64 r4.Head), V.ow 3, V.ow 4], Blk.row 3 (List.map E3 (r4.Counts.set 0 r5)) [], Blk.row 3 (List.map E3 (r4.Sums.set 0 r6)) []] []), .el (E3 x1), .nb 2 (.row 3 (List.map E3 (r4.Counts.set 0 r5)) []), .el (E3 x2), .nb 3 (.row 3 (List.map E3 (r4.Sums.set 0 r6)) []), .ren [0, 1, 4, 2, 3], .el (E3 x1), .nb 2 (.row 3 (List.map E3 (r4.Counts.set 0 r5)) []), .el (E3 x2), .nb 3 (.row 3 (List.map E3 (r4.Sums.set 0 r6)) []), .ren [0, 1, 4, 2, 3], .ren [0, 1, 2, 3, 4], .ren [0, 1, 2, 3, 4], .ren [0, 1, 2, 3, 4], .call [] (E3 r5) [], .loop .go (st 44 [(0, V.agg [V.sc (.int .i64 r_.Span), V.sc (.int .i64 r_.Head), V.sl false 3 (List.map E3 r_.Counts), V.sl false 3 (List.map E3 r_.Sums)]), (1, V.sc (.int .i64 now)), (2, V.sc (.int .i64 amount)), (3, V.ptr 0 0), (6, V.ptr 1 0), (7, V.ptr 2 0), (8, V.agg [V.sc (.int .i64 r_.Span), V.sc (.int .i64 r_.Head), V.sl false 3 (List.map E3 r_.Counts), V.sl false 3 (List.map E3 r_.Sums)]), (9, V.sc (.bool r1)), (10, V.sc (.bool (!r1))), (11, V.sc (.bool (!r1))), (12, V.sc (.int .i64 now)), (13, V.sc (.bool r2)), (14, V.sc (.bool (!r2))), (15, V.sc (.bool (!r2))), (16, V.sc (.bool (!r2))), (17, V.sc (.int .i64 amount)), (18, V.sc (.bool r3)), (19, V.sc (.bool (!r3))), (20, V.sc (.bool (!r3))), (23, V.agg [V.sc (.int .i64 r_.Span), V.sc (.int .i64 r_.Head), V.sl false 3 (List.map E3 r_.Counts), V.sl false 3 (List.map E3 r_.Sums)]), (24, V.sc (.int .i64 now)), (25, V.agg [V.sc (.int .i64 r4.Span), V.sc (.int .i64 r4.Head), V.ow 3, V.ow 4]), (26, V.ptr 2 2), (27, V.ow 3), (28, V.ptr 2 3), (29, V.ow 4), (30, V.ptr 2 2), (31, V.ow 3), (32, V.ep 3 1 0 0), (33, V.sc (.int .i64 x1)), (34, V.sc (.int .i64 r5)), (35, V.ptr 2 3), (36, V.ow 4), (37, V.ep 4 1 0 0), (38, V.sc (.int .i64 x2)), (39, V.sc (.int .i64 amount)), (40, V.sc (.int .i64 r6)), (41, V.ep 3 1 0 0), (42, V.ep 4 1 0 0)] [Blk.box 51 [V.sc (.int .i64 r_.Span), V.sc (.int .i64 r_.Head), V.sl false 3 (List.map E3 r_.Counts), V.sl false 3 (List.map E3 r_.Sums)], Blk.box 51 [V.sc (.int .i64 0), V.sc (.int .i64 0), V.nl 3, V.nl 3], Blk.box 51 [V.sc (.int .i64 r4.Span), V.sc (.int .i64 r4.Head), V.ow 3, V.ow 4], Blk.row 3 (List.map E3 (r4.Counts.set 0 r5)) [], Blk.row 3 (List.map E3 (r4.Sums.set 0 r6)) []] []), .loop .go (st 44 [(0, V.agg [V.sc (.int .i64 r_.Span), V.sc (.int .i64 r_.Head), V.sl false 3 (List.map E3 r_.Counts), V.sl false 3 (List.map E3 r_.Sums)]), (1, V.sc (.int .i64 now)), (2, V.sc (.int .i64 amount)), (3, V.ptr 0 0), (6, V.ptr 1 0), (7, V.ptr 2 0), (8, V.agg [V.sc (.int .i64 r_.Span), V.sc (.int .i64 r_.Head), V.sl false 3 (List.map E3 r_.Counts), V.sl false 3 (List.map E3 r_.Sums)]), (9, V.sc (.bool r1)), (10, V.sc (.bool (!r1))), (11, V.sc (.bool (!r1))), (12, V.sc (.int .i64 now)), (13, V.sc (.bool r2)), (14, V.sc (.bool (!r2))), (15, V.sc (.bool (!r2))), (16, V.sc (.bool (!r2))), (17, V.sc (.int .i64 amount)), (18, V.sc (.bool r3)), (19, V.sc (.bool (!r3))), (20, V.sc (.bool (!r3))), (23, V.agg [V.sc (.int .i64 r_.Span), V.sc (.int .i64 r_.Head), V.sl false 3 (List.map E3 r_.Counts), V.sl false 3 (List.map E3 r_.Sums)]), (24, V.sc (.int .i64 now)), (25, V.agg [V.sc (.int .i64 r4.Span), V.sc (.int .i64 r4.Head), V.ow 3, V.ow 4]), (26, V.ptr 2 2), (27, V.ow 3), (28, V.ptr 2 3), (29, V.ow 4), (30, V.ptr 2 2), (31, V.ow 3), (32, V.ep 3 1 0 0), (33, V.sc (.int .i64 x1)), (34, V.sc (.int .i64 r5)), (35, V.ptr 2 3), (36, V.ow 4), (37, V.ep 4 1 0 0), (38, V.sc (.int .i64 x2)), (39, V.sc (.int .i64 amount)), (40, V.sc (.int .i64 r6)), (41, V.ep 3 1 0 0), (42, V.ep 4 1 0 0)] [Blk.box 51 [V.sc (.int .i64 r_.Span), V.sc (.int .i64 r_.Head), V.sl false 3 (List.map E3 r_.Counts), V.sl false 3 (List.map E3 r_.Sums)], Blk.box 51 [V.sc (.int .i64 0), V.sc (.int .i64 0), V.nl 3, V.nl 3], Blk.box 51 [V.sc (.int .i64 r4.Span), V.sc (.int .i64 r4.Head), V.ow 3, V.ow 4], Blk.row 3 (List.map E3 (r4.Counts.set 0 r5)) [], Blk.row 3 (List.map E3 (r4.Sums.set 0 r6)) []] []), .call [] (E3 r6) [], .el (E3 x1), .nb 2 (.row 3 (List.map E3 (r4.Counts.set 0 r5)) []), .el (E3 x2), .nb 3 (.row 3 (List.map E3 (r4.Sums.set 0 r6)) []), .ren [0, 1, 4, 2, 3], .call [] (E3 r6) [], .loop .go (st 44 [(0, V.agg [V.sc (.int .i64 r_.Span), V.sc (.int .i64 r_.Head), V.sl false 3 (List.map E3 r_.Counts), V.sl false 3 (List.map E3 r_.Sums)]), (1, V.sc (.int .i64 now)), (2, V.sc (.int .i64 amount)), (3, V.ptr 0 0), (6, V.ptr 1 0), (7, V.ptr 2 0), (8, V.agg [V.sc (.int .i64 r_.Span), V.sc (.int .i64 r_.Head), V.sl false 3 (List.map E3 r_.Counts), V.sl false 3 (List.map E3 r_.Sums)]), (9, V.sc (.bool r1)), (10, V.sc (.bool (!r1))), (11, V.sc (.bool (!r1))), (12, V.sc (.int .i64 now)), (13, V.sc (.bool r2)), (14, V.sc (.bool (!r2))), (15, V.sc (.bool (!r2))), (16, V.sc (.bool (!r2))), (17, V.sc (.int .i64 amount)), (18, V.sc (.bool r3)), (19, V.sc (.bool (!r3))), (20, V.sc (.bool (!r3))), (23, V.agg [V.sc (.int .i64 r_.Span), V.sc (.int .i64 r_.Head), V.sl false 3 (List.map E3 r_.Counts), V.sl false 3 (List.map E3 r_.Sums)]), (24, V.sc (.int .i64 now)), (25, V.agg [V.sc (.int .i64 r4.Span), V.sc (.int .i64 r4.Head), V.ow 3, V.ow 4]), (26, V.ptr 2 2), (27, V.ow 3), (28, V.ptr 2 3), (29, V.ow 4), (30, V.ptr 2 2), (31, V.ow 3), (32, V.ep 3 1 0 0), (33, V.sc (.int .i64 x1)), (34, V.sc (.int .i64 r5)), (35, V.ptr 2 3), (36, V.ow 4), (37, V.ep 4 1 0 0), (38, V.sc (.int .i64 x2)), (39, V.sc (.int .i64 amount)), (40, V.sc (.int .i64 r6)), (41, V.ep 3 1 0 0), (42, V.ep 4 1 0 0)] [Blk.box 51 [V.sc (.int .i64 r_.Span), V.sc (.int .i64 r_.Head), V.sl false 3 (List.map E3 r_.Counts), V.sl false 3 (List.map E3 r_.Sums)], Blk.box 51 [V.sc (.int .i64 0), V.sc (.int .i64 0), V.nl 3, V.nl 3], Blk.box 51 [V.sc (.int .i64 r4.Span), V.sc (.int .i64 r4.Head), V.ow 3, V.ow 4], Blk.row 3 (List.map E3 (r4.Counts.set 0 r5)) [], Blk.row 3 (List.map E3 (r4.Sums.set 0 r6)) []] []), .el (E3 x1), .nb 2 (.row 3 (List.map E3 (r4.Counts.set 0 r5)) []), .el (E3 x2), .nb 3 (.row 3 (List.map E3 (r4.Sums.set 0 r6)) []), .ren [0, 1, 4, 2, 3], .el (E3 x1), .nb 2 (.row 3 (List.map E3 (r4.Counts.set 0 r5)) []), .el (E3 x2), .nb 3 (.row 3 (List.map E3 (r4.Sums.set 0 r6)) []), .ren [0, 1, 4, 2, 3], .ren [0, 1, 2, 3, 4], .ren [0, 1, 2, 3, 4], .call [] (E3 r6) [], .loop .go (st 44 [(0, V.agg [V.sc (.int .i64 r_.Span), V.sc (.int .i64 r_.Head), V.sl false 3 (List.map E3 r_.Counts), V.sl false 3 (List.map E3 r_.Sums)]), (1, V.sc (.int .i64 now)), (2, V.sc (.int .i64 amount)), (3, V.ptr 0 0), (6, V.ptr 1 0), (7, V.ptr 2 0), (8, V.agg [V.sc (.int .i64 r_.Span), V.sc (.int .i64 r_.Head), V.sl false 3 (List.map E3 r_.Counts), V.sl false 3 (List.map E3 r_.Sums)]), (9, V.sc (.bool r1)), (10, V.sc (.bool (!r1))), (11, V.sc (.bool (!r1))), (12, V.sc (.int .i64 now)), (13, V.sc (.bool r2)), (14, V.sc (.bool (!r2))), (15, V.sc (.bool (!r2))), (16, V.sc (.bool (!r2))), (17, V.sc (.int .i64 amount)), (18, V.sc (.bool r3)), (19, V.sc (.bool (!r3))), (20, V.sc (.bool (!r3))), (23, V.agg [V.sc (.int .i64 r_.Span), V.sc (.int .i64 r_.Head), V.sl false 3 (List.map E3 r_.Counts), V.sl false 3 (List.map E3 r_.Sums)]), (24, V.sc (.int .i64 now)), (25, V.agg [V.sc (.int .i64 r4.Span), V.sc (.int .i64 r4.Head), V.ow 3, V.ow 4]), (26, V.ptr 2 2), (27, V.ow 3), (28, V.ptr 2 3), (29, V.ow 4), (30, V.ptr 2 2), (31, V.ow 3), (32, V.ep 3 1 0 0), (33, V.sc (.int .i64 x1)), (34, V.sc (.int .i64 r5)), (35, V.ptr 2 3), (36, V.ow 4), (37, V.ep 4 1 0 0), (38, V.sc (.int .i64 x2)), (39, V.sc (.int .i64 amount)), (40, V.sc (.int .i64 r6)), (41, V.ep 3 1 0 0), (42, V.ep 4 1 0 0)] [Blk.box 51 [V.sc (.int .i64 r_.Span), V.sc (.int .i64 r_.Head), V.sl false 3 (List.map E3 r_.Counts), V.sl false 3 (List.map E3 r_.Sums)], Blk.box 51 [V.sc (.int .i64 0), V.sc (.int .i64 0), V.nl 3, V.nl 3], Blk.box 51 [V.sc (.int .i64 r4.Span), V.sc (.int .i64 r4.Head), V.ow 3, V.ow 4], Blk.row 3 (List.map E3 (r4.Counts.set 0 r5)) [], Blk.row 3 (List.map E3 (r4.Sums.set 0 r6)) []] []), .loop .go (st 44 [(0, V.agg [V.sc (.int .i64 r_.Span), V.sc (.int .i64 r_.Head), V.sl false 3 (List.map E3 r_.Counts), V.sl false 3 (List.map E3 r_.Sums)]), (1, V.sc (.int .i64 now)), (2, V.sc (.int .i64 amount)), (3, V.ptr 0 0), (6, V.ptr 1 0), (7, V.ptr 2 0), (8, V.agg [V.sc (.int .i64 r_.Span), V.sc (.int .i64 r_.Head), V.sl false 3 (List.map E3 r_.Counts), V.sl false 3 (List.map E3 r_.Sums)]), (9, V.sc (.bool r1)), (10, V.sc (.bool (!r1))), (11, V.sc (.bool (!r1))), (12, V.sc (.int .i64 now)), (13, V.sc (.bool r2)), (14, V.sc (.bool (!r2))), (15, V.sc (.bool (!r2))), (16, V.sc (.bool (!r2))), (17, V.sc (.int .i64 amount)), (18, V.sc (.bool r3)), (19, V.sc (.bool (!r3))), (20, V.sc (.bool (!r3))), (23, V.agg [V.sc (.int .i64 r_.Span), V.sc (.int .i64 r_.Head), V.sl false 3 (List.map E3 r_.Counts), V.sl false 3 (List.map E3 r_.Sums)]), (24, V.sc (.int .i64 now)), (25, V.agg [V.sc (.int .i64 r4.Span), V.sc (.int .i64 r4.Head), V.ow 3, V.ow 4]), (26, V.ptr 2 2), (27, V.ow 3), (28, V.ptr 2 3), (29, V.ow 4), (30, V.ptr 2 2), (31, V.ow 3), (32, V.ep 3 1 0 0), (33, V.sc (.int .i64 x1)), (34, V.sc (.int .i64 r5)), (35, V.ptr 2 3), (36, V.ow 4), (37, V.ep 4 1 0 0), (38, V.sc (.int .i64 x2)), (39, V.sc (.int .i64 amount)), (40, V.sc (.int .i64 r6)), (41, V.ep 3 1 0 0), (42, V.ep 4 1 0 0)] [Blk.box 51 [V.sc (.int .i64 r_.Span), V.sc (.int .i64 r_.Head), V.sl false 3 (List.map E3 r_.Counts), V.sl false 3 (List.map E3 r_.Sums)], Blk.box 51 [V.sc (.int .i64 0), V.sc (.int .i64 0), V.nl 3, V.nl 3], Blk.box 51 [V.sc (.int .i64 r4.Span), V.sc (.int .i64 r4.Head), V.ow 3, V.ow 4], Blk.row 3 (List.map E3 (r4.Counts.set 0 r5)) [], Blk.row 3 (List.map E3 (r4.Sums.set 0 r6)) []] []), .el (E3 x1), .nb 2 (.row 3 (List.map E3 (r4.Counts.set 0 r5)) []), .el (E3 x2), .nb 3 (.row 3 (List.map E3 (r4.Sums.set 0 r6)) []), .ren [0, 1, 4, 2, 3], .el (E3 x1), .nb 2 (.row 3 (List.map E3 (r4.Counts.set 0 r5)) []), .el (E3 x2), .nb 3 (.row 3 (List.map E3 (r4.Sums.set 0 r6)) []), .ren [0, 1, 4, 2, 3], .ren [0, 1, 2, 3, 4], .el (E3 x1), .nb 2 (.row 3 (List.map E3 (r4.Counts.set 0 r5)) []), .el (E3 x2), .nb 3 (.row 3 (List.map E3 (r4.Sums.set 0 r6)) []), .ren [0, 1, 4, 2, 3], .ren [0, 1, 2, 3, 4], .ren [0, 1, 2, 3, 4]] (p := [Fn Try.prog 90 [(false, E51 r_)] (E4 r1) [],
               (true || ((E4 r1).nv && nvL [])) = true,
               (!r1) = false,
               (!r1) = false,
               Fn Try.prog 93 [(false, E3 now)] (E4 r2) [],
               (true || ((E4 r2).nv && nvL [])) = true,
               (!r1) = false,
               (!r1) = false,
               (!r2) = false,
               (!r2) = false,
               Fn Try.prog 88 [(false, E3 amount)] (E4 r3) [],
               (true || ((E4 r3).nv && nvL [])) = true,
               (!r2) = false,
               (!r2) = false,
               (!r3) = false,
               Fn Try.prog 116 [(false, E51 r_), (false, E3 now)] (E51 r4) [],
               (true || ((E51 r4).nv && nvL [])) = true,
               (0 : Int) ≤ 0,
               (0 : Int) < ((List.map E3 r4.Counts).length : Int),
               look [] 0 = none,
               (List.map E3 r4.Counts)[0]? = some (E3 x1),
               (0 : Int) ≤ 0,
               (0 : Int) < ((List.map E3 r4.Sums).length : Int),
               look [] 0 = none,
               (List.map E3 r4.Sums)[0]? = some (E3 x2),
               Fn Try.prog 92 [(false, E3 x1), (false, E3 1)] (E3 r5) [],
               (true || ((E3 r5).nv && nvL [])) = true,
               Fn Try.prog 92 [(false, E3 x2), (false, E3 amount)] (E3 r6) [],
               (true || ((E3 r6).nv && nvL [])) = true,
               (0 : Int) ≤ 0,
               (0 : Int) < ((List.map E3 r4.Counts).length : Int),
               look [] 0 = none,
               (List.map E3 r4.Counts)[0]? = some (E3 x1),
               Blk.row 3 ((List.map E3 r4.Counts).set 0 (V.sc (.int .i64 r5))) [] = Blk.row 3 (List.map E3 (r4.Counts.set 0 r5)) [],
               (0 : Int) ≤ 0,
               (0 : Int) < ((List.map E3 r4.Sums).length : Int),
               look [] 0 = none,
               (List.map E3 r4.Sums)[0]? = some (E3 x2),
               Blk.row 3 ((List.map E3 r4.Sums).set 0 (V.sc (.int .i64 r6))) [] = Blk.row 3 (List.map E3 (r4.Sums.set 0 r6)) [],
               st 44 [(0, V.agg [V.sc (.int .i64 r_.Span), V.sc (.int .i64 r_.Head), V.sl false 3 (List.map E3 r_.Counts), V.sl false 3 (List.map E3 r_.Sums)]), (1, V.sc (.int .i64 now)), (2, V.sc (.int .i64 amount)), (3, V.ptr 0 0), (6, V.ptr 1 0), (7, V.ptr 2 0), (8, V.agg [V.sc (.int .i64 r_.Span), V.sc (.int .i64 r_.Head), V.sl false 3 (List.map E3 r_.Counts), V.sl false 3 (List.map E3 r_.Sums)]), (9, V.sc (.bool r1)), (10, V.sc (.bool (!r1))), (11, V.sc (.bool (!r1))), (12, V.sc (.int .i64 now)), (13, V.sc (.bool r2)), (14, V.sc (.bool (!r2))), (15, V.sc (.bool (!r2))), (16, V.sc (.bool (!r2))), (17, V.sc (.int .i64 amount)), (18, V.sc (.bool r3)), (19, V.sc (.bool (!r3))), (20, V.sc (.bool (!r3))), (23, V.agg [V.sc (.int .i64 r_.Span), V.sc (.int .i64 r_.Head), V.sl false 3 (List.map E3 r_.Counts), V.sl false 3 (List.map E3 r_.Sums)]), (24, V.sc (.int .i64 now)), (25, V.agg [V.sc (.int .i64 r4.Span), V.sc (.int .i64 r4.Head), V.ow 3, V.ow 4]), (26, V.ptr 2 2), (27, V.ow 3), (28, V.ptr 2 3), (29, V.ow 4), (30, V.ptr 2 2), (31, V.ow 3), (32, V.ep 3 1 0 0), (33, V.sc (.int .i64 x1)), (34, V.sc (.int .i64 r5)), (35, V.ptr 2 3), (36, V.ow 4), (37, V.ep 4 1 0 0), (38, V.sc (.int .i64 x2)), (39, V.sc (.int .i64 amount)), (40, V.sc (.int .i64 r6)), (41, V.ep 3 1 0 0), (42, V.ep 4 1 0 0)] [Blk.box 51 [V.sc (.int .i64 r_.Span), V.sc (.int .i64 r_.Head), V.sl false 3 (List.map E3 r_.Counts), V.sl false 3 (List.map E3 r_.Sums)], Blk.box 51 [V.sc (.int .i64 0), V.sc (.int .i64 0), V.nl 3, V.nl 3], Blk.box 51 [V.sc (.int .i64 r4.Span), V.sc (.int .i64 r4.Head), V.ow 3, V.ow 4], Blk.row 3 (List.map E3 (r4.Counts.set 0 r5)) [], Blk.row 3 (List.map E3 (r4.Sums.set 0 r6)) []] [] = st 44 [(0, V.agg [V.sc (.int .i64 r_.Span), V.sc (.int .i64 r_.Head), V.sl false 3 (List.map E3 r_.Counts), V.sl false 3 (List.map E3 r_.Sums)]), (1, V.sc (.int .i64 now)), (2, V.sc (.int .i64 amount)), (3, V.ptr 0 0), (6, V.ptr 1 0), (7, V.ptr 2 0), (8, V.agg [V.sc (.int .i64 r_.Span), V.sc (.int .i64 r_.Head), V.sl false 3 (List.map E3 r_.Counts), V.sl false 3 (List.map E3 r_.Sums)]), (9, V.sc (.bool r1)), (10, V.sc (.bool (!r1))), (11, V.sc (.bool (!r1))), (12, V.sc (.int .i64 now)), (13, V.sc (.bool r2)), (14, V.sc (.bool (!r2))), (15, V.sc (.bool (!r2))), (16, V.sc (.bool (!r2))), (17, V.sc (.int .i64 amount)), (18, V.sc (.bool r3)), (19, V.sc (.bool (!r3))), (20, V.sc (.bool (!r3))), (23, V.agg [V.sc (.int .i64 r_.Span), V.sc (.int .i64 r_.Head), V.sl false 3 (List.map E3 r_.Counts), V.sl false 3 (List.map E3 r_.Sums)]), (24, V.sc (.int .i64 now)), (25, V.agg [V.sc (.int .i64 r4.Span), V.sc (.int .i64 r4.Head), V.ow 3, V.ow 4]), (26, V.ptr 2 2), (27, V.ow 3), (28, V.ptr 2 3), (29, V.ow 4), (30, V.ptr 2 2), (31, V.ow 3), (32, V.ep 3 1 0 0), (33, V.sc (.int .i64 x1)), (34, V.sc (.int .i64 r5)), (35, V.ptr 2 3), (36, V.ow 4), (37, V.ep 4 1 0 0), (38, V.sc (.int .i64 x2)), (39, V.sc (.int .i64 amount)), (40, V.sc (.int .i64 r6)), (41, V.ep 3 1 0 0), (42, V.ep 4 1 0 0)] [Blk.box 51 [V.sc (.int .i64 r_.Span), V.sc (.int .i64 r_.Head), V.sl false 3 (List.map E3 r_.Counts), V.sl false 3 (List.map E3 r_.Sums)], Blk.box 51 [V.sc (.int .i64 0), V.sc (.int .i64 0), V.nl 3, V.nl 3], Blk.box 51 [V.sc (.int .i64 r4.Span), V.sc (.int .i64 r4.Head), V.ow 3, V.ow 4], Blk.row 3 (List.map E3 (r4.Counts.set 0 r5)) [], Blk.row 3 (List.map E3 (r4.Sums.set 0 r6)) []] [],
               Fn Try.prog 92 [(false, E3 x1), (false, E3 1)] (E3 r5) [],
               (true || ((E3 r5).nv && nvL [])) = true,
               Fn Try.prog 92 [(false, E3 x2), (false, E3 amount)] (E3 r6) [],
               (true || ((E3 r6).nv && nvL [])) = true,
               (0 : Int) ≤ 0,
               (0 : Int) < ((List.map E3 r4.Counts).length : Int),
               look [] 0 = none,
               (List.map E3 r4.Counts)[0]? = some (E3 x1),
               Blk.row 3 ((List.map E3 r4.Counts).set 0 (V.sc (.int .i64 r5))) [] = Blk.row 3 (List.map E3 (r4.Counts.set 0 r5)) [],
               (0 : Int) ≤ 0,
               (0 : Int) < ((List.map E3 r4.Sums).length : Int),
               look [] 0 = none,
               (List.map E3 r4.Sums)[0]? = some (E3 x2),
               Blk.row 3 ((List.map E3 r4.Sums).set 0 (V.sc (.int .i64 r6))) [] = Blk.row 3 (List.map E3 (r4.Sums.set 0 r6)) [],
               st 44 [(0, V.agg [V.sc (.int .i64 r_.Span), V.sc (.int .i64 r_.Head), V.sl false 3 (List.map E3 r_.Counts), V.sl false 3 (List.map E3 r_.Sums)]), (1, V.sc (.int .i64 now)), (2, V.sc (.int .i64 amount)), (3, V.ptr 0 0), (6, V.ptr 1 0), (7, V.ptr 2 0), (8, V.agg [V.sc (.int .i64 r_.Span), V.sc (.int .i64 r_.Head), V.sl false 3 (List.map E3 r_.Counts), V.sl false 3 (List.map E3 r_.Sums)]), (9, V.sc (.bool r1)), (10, V.sc (.bool (!r1))), (11, V.sc (.bool (!r1))), (12, V.sc (.int .i64 now)), (13, V.sc (.bool r2)), (14, V.sc (.bool (!r2))), (15, V.sc (.bool (!r2))), (16, V.sc (.bool (!r2))), (17, V.sc (.int .i64 amount)), (18, V.sc (.bool r3)), (19, V.sc (.bool (!r3))), (20, V.sc (.bool (!r3))), (23, V.agg [V.sc (.int .i64 r_.Span), V.sc (.int .i64 r_.Head), V.sl false 3 (List.map E3 r_.Counts), V.sl false 3 (List.map E3 r_.Sums)]), (24, V.sc (.int .i64 now)), (25, V.agg [V.sc (.int .i64 r4.Span), V.sc (.int .i64 r4.Head), V.ow 3, V.ow 4]), (26, V.ptr 2 2), (27, V.ow 3), (28, V.ptr 2 3), (29, V.ow 4), (30, V.ptr 2 2), (31, V.ow 3), (32, V.ep 3 1 0 0), (33, V.sc (.int .i64 x1)), (34, V.sc (.int .i64 r5)), (35, V.ptr 2 3), (36, V.ow 4), (37, V.ep 4 1 0 0), (38, V.sc (.int .i64 x2)), (39, V.sc (.int .i64 amount)), (40, V.sc (.int .i64 r6)), (41, V.ep 3 1 0 0), (42, V.ep 4 1 0 0)] [Blk.box 51 [V.sc (.int .i64 r_.Span), V.sc (.int .i64 r_.Head), V.sl false 3 (List.map E3 r_.Counts), V.sl false 3 (List.map E3 r_.Sums)], Blk.box 51 [V.sc (.int .i64 0), V.sc (.int .i64 0), V.nl 3, V.nl 3], Blk.box 51 [V.sc (.int .i64 r4.Span), V.sc (.int .i64 r4.Head), V.ow 3, V.ow 4], Blk.row 3 (List.map E3 (r4.Counts.set 0 r5)) [], Blk.row 3 (List.map E3 (r4.Sums.set 0 r6)) []] [] = st 44 [(0, V.agg [V.sc (.int .i64 r_.Span), V.sc (.int .i64 r_.Head), V.sl false 3 (List.map E3 r_.Counts), V.sl false 3 (List.map E3 r_.Sums)]), (1, V.sc (.int .i64 now)), (2, V.sc (.int .i64 amount)), (3, V.ptr 0 0), (6, V.ptr 1 0), (7, V.ptr 2 0), (8, V.agg [V.sc (.int .i64 r_.Span), V.sc (.int .i64 r_.Head), V.sl false 3 (List.map E3 r_.Counts), V.sl false 3 (List.map E3 r_.Sums)]), (9, V.sc (.bool r1)), (10, V.sc (.bool (!r1))), (11, V.sc (.bool (!r1))), (12, V.sc (.int .i64 now)), (13, V.sc (.bool r2)), (14, V.sc (.bool (!r2))), (15, V.sc (.bool (!r2))), (16, V.sc (.bool (!r2))), (17, V.sc (.int .i64 amount)), (18, V.sc (.bool r3)), (19, V.sc (.bool (!r3))), (20, V.sc (.bool (!r3))), (23, V.agg [V.sc (.int .i64 r_.Span), V.sc (.int .i64 r_.Head), V.sl false 3 (List.map E3 r_.Counts), V.sl false 3 (List.map E3 r_.Sums)]), (24, V.sc (.int .i64 now)), (25, V.agg [V.sc (.int .i64 r4.Span), V.sc (.int .i64 r4.Head), V.ow 3, V.ow 4]), (26, V.ptr 2 2), (27, V.ow 3), (28, V.ptr 2 3), (29, V.ow 4), (30, V.ptr 2 2), (31, V.ow 3), (32, V.ep 3 1 0 0), (33, V.sc (.int .i64 x1)), (34, V.sc (.int .i64 r5)), (35, V.ptr 2 3), (36, V.ow 4), (37, V.ep 4 1 0 0), (38, V.sc (.int .i64 x2)), (39, V.sc (.int .i64 amount)), (40, V.sc (.int .i64 r6)), (41, V.ep 3 1 0 0), (42, V.ep 4 1 0 0)] [Blk.box 51 [V.sc (.int .i64 r_.Span), V.sc (.int .i64 r_.Head), V.sl false 3 (List.map E3 r_.Counts), V.sl false 3 (List.map E3 r_.Sums)], Blk.box 51 [V.sc (.int .i64 0), V.sc (.int .i64 0), V.nl 3, V.nl 3], Blk.box 51 [V.sc (.int .i64 r4.Span), V.sc (.int .i64 r4.Head), V.ow 3, V.ow 4], Blk.row 3 (List.map E3 (r4.Counts.set 0 r5)) [], Blk.row 3 (List.map E3 (r4.Sums.set 0 r6)) []] [],
               Fn Try.prog 92 [(false, E3 x2), (false, E3 amount)] (E3 r6) [],
               (true || ((E3 r6).nv && nvL [])) = true,
               (0 : Int) ≤ 0,
               (0 : Int) < ((List.map E3 r4.Counts).length : Int),
               look [] 0 = none,
               (List.map E3 r4.Counts)[0]? = some (E3 x1),
               Blk.row 3 ((List.map E3 r4.Counts).set 0 (V.sc (.int .i64 r5))) [] = Blk.row 3 (List.map E3 (r4.Counts.set 0 r5)) [],
               (0 : Int) ≤ 0,
               (0 : Int) < ((List.map E3 r4.Sums).length : Int),
               look [] 0 = none,
               (List.map E3 r4.Sums)[0]? = some (E3 x2),
               Blk.row 3 ((List.map E3 r4.Sums).set 0 (V.sc (.int .i64 r6))) [] = Blk.row 3 (List.map E3 (r4.Sums.set 0 r6)) [],
               st 44 [(0, V.agg [V.sc (.int .i64 r_.Span), V.sc (.int .i64 r_.Head), V.sl false 3 (List.map E3 r_.Counts), V.sl false 3 (List.map E3 r_.Sums)]), (1, V.sc (.int .i64 now)), (2, V.sc (.int .i64 amount)), (3, V.ptr 0 0), (6, V.ptr 1 0), (7, V.ptr 2 0), (8, V.agg [V.sc (.int .i64 r_.Span), V.sc (.int .i64 r_.Head), V.sl false 3 (List.map E3 r_.Counts), V.sl false 3 (List.map E3 r_.Sums)]), (9, V.sc (.bool r1)), (10, V.sc (.bool (!r1))), (11, V.sc (.bool (!r1))), (12, V.sc (.int .i64 now)), (13, V.sc (.bool r2)), (14, V.sc (.bool (!r2))), (15, V.sc (.bool (!r2))), (16, V.sc (.bool (!r2))), (17, V.sc (.int .i64 amount)), (18, V.sc (.bool r3)), (19, V.sc (.bool (!r3))), (20, V.sc (.bool (!r3))), (23, V.agg [V.sc (.int .i64 r_.Span), V.sc (.int .i64 r_.Head), V.sl false 3 (List.map E3 r_.Counts), V.sl false 3 (List.map E3 r_.Sums)]), (24, V.sc (.int .i64 now)), (25, V.agg [V.sc (.int .i64 r4.Span), V.sc (.int .i64 r4.Head), V.ow 3, V.ow 4]), (26, V.ptr 2 2), (27, V.ow 3), (28, V.ptr 2 3), (29, V.ow 4), (30, V.ptr 2 2), (31, V.ow 3), (32, V.ep 3 1 0 0), (33, V.sc (.int .i64 x1)), (34, V.sc (.int .i64 r5)), (35, V.ptr 2 3), (36, V.ow 4), (37, V.ep 4 1 0 0), (38, V.sc (.int .i64 x2)), (39, V.sc (.int .i64 amount)), (40, V.sc (.int .i64 r6)), (41, V.ep 3 1 0 0), (42, V.ep 4 1 0 0)] [Blk.box 51 [V.sc (.int .i64 r_.Span), V.sc (.int .i64 r_.Head), V.sl false 3 (List.map E3 r_.Counts), V.sl false 3 (List.map E3 r_.Sums)], Blk.box 51 [V.sc (.int .i64 0), V.sc (.int .i64 0), V.nl 3, V.nl 3], Blk.box 51 [V.sc (.int .i64 r4.Span), V.sc (.int .i64 r4.Head), V.ow 3, V.ow 4], Blk.row 3 (List.map E3 (r4.Counts.set 0 r5)) [], Blk.row 3 (List.map E3 (r4.Sums.set 0 r6)) []] [] = st 44 [(0, V.agg [V.sc (.int .i64 r_.Span), V.sc (.int .i64 r_.Head), V.sl false 3 (List.map E3 r_.Counts), V.sl false 3 (List.map E3 r_.Sums)]), (1, V.sc (.int .i64 now)), (2, V.sc (.int .i64 amount)), (3, V.ptr 0 0), (6, V.ptr 1 0), (7, V.ptr 2 0), (8, V.agg [V.sc (.int .i64 r_.Span), V.sc (.int .i64 r_.Head), V.sl false 3 (List.map E3 r_.Counts), V.sl false 3 (List.map E3 r_.Sums)]), (9, V.sc (.bool r1)), (10, V.sc (.bool (!r1))), (11, V.sc (.bool (!r1))), (12, V.sc (.int .i64 now)), (13, V.sc (.bool r2)), (14, V.sc (.bool (!r2))), (15, V.sc (.bool (!r2))), (16, V.sc (.bool (!r2))), (17, V.sc (.int .i64 amount)), (18, V.sc (.bool r3)), (19, V.sc (.bool (!r3))), (20, V.sc (.bool (!r3))), (23, V.agg [V.sc (.int .i64 r_.Span), V.sc (.int .i64 r_.Head), V.sl false 3 (List.map E3 r_.Counts), V.sl false 3 (List.map E3 r_.Sums)]), (24, V.sc (.int .i64 now)), (25, V.agg [V.sc (.int .i64 r4.Span), V.sc (.int .i64 r4.Head), V.ow 3, V.ow 4]), (26, V.ptr 2 2), (27, V.ow 3), (28, V.ptr 2 3), (29, V.ow 4), (30, V.ptr 2 2), (31, V.ow 3), (32, V.ep 3 1 0 0), (33, V.sc (.int .i64 x1)), (34, V.sc (.int .i64 r5)), (35, V.ptr 2 3), (36, V.ow 4), (37, V.ep 4 1 0 0), (38, V.sc (.int .i64 x2)), (39, V.sc (.int .i64 amount)), (40, V.sc (.int .i64 r6)), (41, V.ep 3 1 0 0), (42, V.ep 4 1 0 0)] [Blk.box 51 [V.sc (.int .i64 r_.Span), V.sc (.int .i64 r_.Head), V.sl false 3 (List.map E3 r_.Counts), V.sl false 3 (List.map E3 r_.Sums)], Blk.box 51 [V.sc (.int .i64 0), V.sc (.int .i64 0), V.nl 3, V.nl 3], Blk.box 51 [V.sc (.int .i64 r4.Span), V.sc (.int .i64 r4.Head), V.ow 3, V.ow 4], Blk.row 3 (List.map E3 (r4.Counts.set 0 r5)) [], Blk.row 3 (List.map E3 (r4.Sums.set 0 r6)) []] [],
               look [] 0 = none,
               (List.map E3 r4.Counts)[0]? = some (E3 x1),
               Blk.row 3 ((List.map E3 r4.Counts).set 0 (V.sc (.int .i64 r5))) [] = Blk.row 3 (List.map E3 (r4.Counts.set 0 r5)) [],
               (0 : Int) ≤ 0,
               (0 : Int) < ((List.map E3 r4.Sums).length : Int),
               look [] 0 = none,
               (List.map E3 r4.Sums)[0]? = some (E3 x2),
               Blk.row 3 ((List.map E3 r4.Sums).set 0 (V.sc (.int .i64 r6))) [] = Blk.row 3 (List.map E3 (r4.Sums.set 0 r6)) [],
               st 44 [(0, V.agg [V.sc (.int .i64 r_.Span), V.sc (.int .i64 r_.Head), V.sl false 3 (List.map E3 r_.Counts), V.sl false 3 (List.map E3 r_.Sums)]), (1, V.sc (.int .i64 now)), (2, V.sc (.int .i64 amount)), (3, V.ptr 0 0), (6, V.ptr 1 0), (7, V.ptr 2 0), (8, V.agg [V.sc (.int .i64 r_.Span), V.sc (.int .i64 r_.Head), V.sl false 3 (List.map E3 r_.Counts), V.sl false 3 (List.map E3 r_.Sums)]), (9, V.sc (.bool r1)), (10, V.sc (.bool (!r1))), (11, V.sc (.bool (!r1))), (12, V.sc (.int .i64 now)), (13, V.sc (.bool r2)), (14, V.sc (.bool (!r2))), (15, V.sc (.bool (!r2))), (16, V.sc (.bool (!r2))), (17, V.sc (.int .i64 amount)), (18, V.sc (.bool r3)), (19, V.sc (.bool (!r3))), (20, V.sc (.bool (!r3))), (23, V.agg [V.sc (.int .i64 r_.Span), V.sc (.int .i64 r_.Head), V.sl false 3 (List.map E3 r_.Counts), V.sl false 3 (List.map E3 r_.Sums)]), (24, V.sc (.int .i64 now)), (25, V.agg [V.sc (.int .i64 r4.Span), V.sc (.int .i64 r4.Head), V.ow 3, V.ow 4]), (26, V.ptr 2 2), (27, V.ow 3), (28, V.ptr 2 3), (29, V.ow 4), (30, V.ptr 2 2), (31, V.ow 3), (32, V.ep 3 1 0 0), (33, V.sc (.int .i64 x1)), (34, V.sc (.int .i64 r5)), (35, V.ptr 2 3), (36, V.ow 4), (37, V.ep 4 1 0 0), (38, V.sc (.int .i64 x2)), (39, V.sc (.int .i64 amount)), (40, V.sc (.int .i64 r6)), (41, V.ep 3 1 0 0), (42, V.ep 4 1 0 0)] [Blk.box 51 [V.sc (.int .i64 r_.Span), V.sc (.int .i64 r_.Head), V.sl false 3 (List.map E3 r_.Counts), V.sl false 3 (List.map E3 r_.Sums)], Blk.box 51 [V.sc (.int .i64 0), V.sc (.int .i64 0), V.nl 3, V.nl 3], Blk.box 51 [V.sc (.int .i64 r4.Span), V.sc (.int .i64 r4.Head), V.ow 3, V.ow 4], Blk.row 3 (List.map E3 (r4.Counts.set 0 r5)) [], Blk.row 3 (List.map E3 (r4.Sums.set 0 r6)) []] [] = st 44 [(0, V.agg [V.sc (.int .i64 r_.Span), V.sc (.int .i64 r_.Head), V.sl false 3 (List.map E3 r_.Counts), V.sl false 3 (List.map E3 r_.Sums)]), (1, V.sc (.int .i64 now)), (2, V.sc (.int .i64 amount)), (3, V.ptr 0 0), (6, V.ptr 1 0), (7, V.ptr 2 0), (8, V.agg [V.sc (.int .i64 r_.Span), V.sc (.int .i64 r_.Head), V.sl false 3 (List.map E3 r_.Counts), V.sl false 3 (List.map E3 r_.Sums)]), (9, V.sc (.bool r1)), (10, V.sc (.bool (!r1))), (11, V.sc (.bool (!r1))), (12, V.sc (.int .i64 now)), (13, V.sc (.bool r2)), (14, V.sc (.bool (!r2))), (15, V.sc (.bool (!r2))), (16, V.sc (.bool (!r2))), (17, V.sc (.int .i64 amount)), (18, V.sc (.bool r3)), (19, V.sc (.bool (!r3))), (20, V.sc (.bool (!r3))), (23, V.agg [V.sc (.int .i64 r_.Span), V.sc (.int .i64 r_.Head), V.sl false 3 (List.map E3 r_.Counts), V.sl false 3 (List.map E3 r_.Sums)]), (24, V.sc (.int .i64 now)), (25, V.agg [V.sc (.int .i64 r4.Span), V.sc (.int .i64 r4.Head), V.ow 3, V.ow 4]), (26, V.ptr 2 2), (27, V.ow 3), (28, V.ptr 2 3), (29, V.ow 4), (30, V.ptr 2 2), (31, V.ow 3), (32, V.ep 3 1 0 0), (33, V.sc (.int .i64 x1)), (34, V.sc (.int .i64 r5)), (35, V.ptr 2 3), (36, V.ow 4), (37, V.ep 4 1 0 0), (38, V.sc (.int .i64 x2)), (39, V.sc (.int .i64 amount)), (40, V.sc (.int .i64 r6)), (41, V.ep 3 1 0 0), (42, V.ep 4 1 0 0)] [Blk.box 51 [V.sc (.int .i64 r_.Span), V.sc (.int .i64 r_.Head), V.sl false 3 (List.map E3 r_.Counts), V.sl false 3 (List.map E3 r_.Sums)], Blk.box 51 [V.sc (.int .i64 0), V.sc (.int .i64 0), V.nl 3, V.nl 3], Blk.box 51 [V.sc (.int .i64 r4.Span), V.sc (.int .i64 r4.Head), V.ow 3, V.ow 4], Blk.row 3 (List.map E3 (r4.Counts.set 0 r5)) [], Blk.row 3 (List.map E3 (r4.Sums.set 0 r6)) []] [],
               st 44 [(0, V.agg [V.sc (.int .i64 r_.Span), V.sc (.int .i64 r_.Head), V.sl false 3 (List.map E3 r_.Counts), V.sl false 3 (List.map E3 r_.Sums)]), (1, V.sc (.int .i64 now)), (2, V.sc (.int .i64 amount)), (3, V.ptr 0 0), (6, V.ptr 1 0), (7, V.ptr 2 0), (8, V.agg [V.sc (.int .i64 r_.Span), V.sc (.int .i64 r_.Head), V.sl false 3 (List.map E3 r_.Counts), V.sl false 3 (List.map E3 r_.Sums)]), (9, V.sc (.bool r1)), (10, V.sc (.bool (!r1))), (11, V.sc (.bool (!r1))), (12, V.sc (.int .i64 now)), (13, V.sc (.bool r2)), (14, V.sc (.bool (!r2))), (15, V.sc (.bool (!r2))), (16, V.sc (.bool (!r2))), (17, V.sc (.int .i64 amount)), (18, V.sc (.bool r3)), (19, V.sc (.bool (!r3))), (20, V.sc (.bool (!r3))), (23, V.agg [V.sc (.int .i64 r_.Span), V.sc (.int .i64 r_.Head), V.sl false 3 (List.map E3 r_.Counts), V.sl false 3 (List.map E3 r_.Sums)]), (24, V.sc (.int .i64 now)), (25, V.agg [V.sc (.int .i64 r4.Span), V.sc (.int .i64 r4.Head), V.ow 3, V.ow 4]), (26, V.ptr 2 2), (27, V.ow 3), (28, V.ptr 2 3), (29, V.ow 4), (30, V.ptr 2 2), (31, V.ow 3), (32, V.ep 3 1 0 0), (33, V.sc (.int .i64 x1)), (34, V.sc (.int .i64 r5)), (35, V.ptr 2 3), (36, V.ow 4), (37, V.ep 4 1 0 0), (38, V.sc (.int .i64 x2)), (39, V.sc (.int .i64 amount)), (40, V.sc (.int .i64 r6)), (41, V.ep 3 1 0 0), (42, V.ep 4 1 0 0)] [Blk.box 51 [V.sc (.int .i64 r_.Span), V.sc (.int .i64 r_.Head), V.sl false 3 (List.map E3 r_.Counts), V.sl false 3 (List.map E3 r_.Sums)], Blk.box 51 [V.sc (.int .i64 0), V.sc (.int .i64 0), V.nl 3, V.nl 3], Blk.box 51 [V.sc (.int .i64 r4.Span), V.sc (.int .i64 r4.Head), V.ow 3, V.ow 4], Blk.row 3 (List.map E3 (r4.Counts.set 0 r5)) [], Blk.row 3 (List.map E3 (r4.Sums.set 0 r6)) []] [] = st 44 [(0, V.agg [V.sc (.int .i64 r_.Span), V.sc (.int .i64 r_.Head), V.sl false 3 (List.map E3 r_.Counts), V.sl false 3 (List.map E3 r_.Sums)]), (1, V.sc (.int .i64 now)), (2, V.sc (.int .i64 amount)), (3, V.ptr 0 0), (6, V.ptr 1 0), (7, V.ptr 2 0), (8, V.agg [V.sc (.int .i64 r_.Span), V.sc (.int .i64 r_.Head), V.sl false 3 (List.map E3 r_.Counts), V.sl false 3 (List.map E3 r_.Sums)]), (9, V.sc (.bool r1)), (10, V.sc (.bool (!r1))), (11, V.sc (.bool (!r1))), (12, V.sc (.int .i64 now)), (13, V.sc (.bool r2)), (14, V.sc (.bool (!r2))), (15, V.sc (.bool (!r2))), (16, V.sc (.bool (!r2))), (17, V.sc (.int .i64 amount)), (18, V.sc (.bool r3)), (19, V.sc (.bool (!r3))), (20, V.sc (.bool (!r3))), (23, V.agg [V.sc (.int .i64 r_.Span), V.sc (.int .i64 r_.Head), V.sl false 3 (List.map E3 r_.Counts), V.sl false 3 (List.map E3 r_.Sums)]), (24, V.sc (.int .i64 now)), (25, V.agg [V.sc (.int .i64 r4.Span), V.sc (.int .i64 r4.Head), V.ow 3, V.ow 4]), (26, V.ptr 2 2), (27, V.ow 3), (28, V.ptr 2 3), (29, V.ow 4), (30, V.ptr 2 2), (31, V.ow 3), (32, V.ep 3 1 0 0), (33, V.sc (.int .i64 x1)), (34, V.sc (.int .i64 r5)), (35, V.ptr 2 3), (36, V.ow 4), (37, V.ep 4 1 0 0), (38, V.sc (.int .i64 x2)), (39, V.sc (.int .i64 amount)), (40, V.sc (.int .i64 r6)), (41, V.ep 3 1 0 0), (42, V.ep 4 1 0 0)] [Blk.box 51 [V.sc (.int .i64 r_.Span), V.sc (.int .i64 r_.Head), V.sl false 3 (List.map E3 r_.Counts), V.sl false 3 (List.map E3 r_.Sums)], Blk.box 51 [V.sc (.int .i64 0), V.sc (.int .i64 0), V.nl 3, V.nl 3], Blk.box 51 [V.sc (.int .i64 r4.Span), V.sc (.int .i64 r4.Head), V.ow 3, V.ow 4], Blk.row 3 (List.map E3 (r4.Counts.set 0 r5)) [], Blk.row 3 (List.map E3 (r4.Sums.set 0 r6)) []] [],
               st 44 [(0, V.agg [V.sc (.int .i64 r_.Span), V.sc (.int .i64 r_.Head), V.sl false 3 (List.map E3 r_.Counts), V.sl false 3 (List.map E3 r_.Sums)]), (1, V.sc (.int .i64 now)), (2, V.sc (.int .i64 amount)), (3, V.ptr 0 0), (6, V.ptr 1 0), (7, V.ptr 2 0), (8, V.agg [V.sc (.int .i64 r_.Span), V.sc (.int .i64 r_.Head), V.sl false 3 (List.map E3 r_.Counts), V.sl false 3 (List.map E3 r_.Sums)]), (9, V.sc (.bool r1)), (10, V.sc (.bool (!r1))), (11, V.sc (.bool (!r1))), (12, V.sc (.int .i64 now)), (13, V.sc (.bool r2)), (14, V.sc (.bool (!r2))), (15, V.sc (.bool (!r2))), (16, V.sc (.bool (!r2))), (17, V.sc (.int .i64 amount)), (18, V.sc (.bool r3)), (19, V.sc (.bool (!r3))), (20, V.sc (.bool (!r3))), (23, V.agg [V.sc (.int .i64 r_.Span), V.sc (.int .i64 r_.Head), V.sl false 3 (List.map E3 r_.Counts), V.sl false 3 (List.map E3 r_.Sums)]), (24, V.sc (.int .i64 now)), (25, V.agg [V.sc (.int .i64 r4.Span), V.sc (.int .i64 r4.Head), V.ow 3, V.ow 4]), (26, V.ptr 2 2), (27, V.ow 3), (28, V.ptr 2 3), (29, V.ow 4), (30, V.ptr 2 2), (31, V.ow 3), (32, V.ep 3 1 0 0), (33, V.sc (.int .i64 x1)), (34, V.sc (.int .i64 r5)), (35, V.ptr 2 3), (36, V.ow 4), (37, V.ep 4 1 0 0), (38, V.sc (.int .i64 x2)), (39, V.sc (.int .i64 amount)), (40, V.sc (.int .i64 r6)), (41, V.ep 3 1 0 0), (42, V.ep 4 1 0 0)] [Blk.box 51 [V.sc (.int .i64 r_.Span), V.sc (.int .i64 r_.Head), V.sl false 3 (List.map E3 r_.Counts), V.sl false 3 (List.map E3 r_.Sums)], Blk.box 51 [V.sc (.int .i64 0), V.sc (.int .i64 0), V.nl 3, V.nl 3], Blk.box 51 [V.sc (.int .i64 r4.Span), V.sc (.int .i64 r4.Head), V.ow 3, V.ow 4], Blk.row 3 (List.map E3 (r4.Counts.set 0 r5)) [], Blk.row 3 (List.map E3 (r4.Sums.set 0 r6)) []] [] = st 44 [(0, V.agg [V.sc (.int .i64 r_.Span), V.sc (.int .i64 r_.Head), V.sl false 3 (List.map E3 r_.Counts), V.sl false 3 (List.map E3 r_.Sums)]), (1, V.sc (.int .i64 now)), (2, V.sc (.int .i64 amount)), (3, V.ptr 0 0), (6, V.ptr 1 0), (7, V.ptr 2 0), (8, V.agg [V.sc (.int .i64 r_.Span), V.sc (.int .i64 r_.Head), V.sl false 3 (List.map E3 r_.Counts), V.sl false 3 (List.map E3 r_.Sums)]), (9, V.sc (.bool r1)), (10, V.sc (.bool (!r1))), (11, V.sc (.bool (!r1))), (12, V.sc (.int .i64 now)), (13, V.sc (.bool r2)), (14, V.sc (.bool (!r2))), (15, V.sc (.bool (!r2))), (16, V.sc (.bool (!r2))), (17, V.sc (.int .i64 amount)), (18, V.sc (.bool r3)), (19, V.sc (.bool (!r3))), (20, V.sc (.bool (!r3))), (23, V.agg [V.sc (.int .i64 r_.Span), V.sc (.int .i64 r_.Head), V.sl false 3 (List.map E3 r_.Counts), V.sl false 3 (List.map E3 r_.Sums)]), (24, V.sc (.int .i64 now)), (25, V.agg [V.sc (.int .i64 r4.Span), V.sc (.int .i64 r4.Head), V.ow 3, V.ow 4]), (26, V.ptr 2 2), (27, V.ow 3), (28, V.ptr 2 3), (29, V.ow 4), (30, V.ptr 2 2), (31, V.ow 3), (32, V.ep 3 1 0 0), (33, V.sc (.int .i64 x1)), (34, V.sc (.int .i64 r5)), (35, V.ptr 2 3), (36, V.ow 4), (37, V.ep 4 1 0 0), (38, V.sc (.int .i64 x2)), (39, V.sc (.int .i64 amount)), (40, V.sc (.int .i64 r6)), (41, V.ep 3 1 0 0), (42, V.ep 4 1 0 0)] [Blk.box 51 [V.sc (.int .i64 r_.Span), V.sc (.int .i64 r_.Head), V.sl false 3 (List.map E3 r_.Counts), V.sl false 3 (List.map E3 r_.Sums)], Blk.box 51 [V.sc (.int .i64 0), V.sc (.int .i64 0), V.nl 3, V.nl 3], Blk.box 51 [V.sc (.int .i64 r4.Span), V.sc (.int .i64 r4.Head), V.ow 3, V.ow 4], Blk.row 3 (List.map E3 (r4.Counts.set 0 r5)) [], Blk.row 3 (List.map E3 (r4.Sums.set 0 r6)) []] [],
               st 44 [(0, V.agg [V.sc (.int .i64 r_.Span), V.sc (.int .i64 r_.Head), V.sl false 3 (List.map E3 r_.Counts), V.sl false 3 (List.map E3 r_.Sums)]), (1, V.sc (.int .i64 now)), (2, V.sc (.int .i64 amount)), (3, V.ptr 0 0), (6, V.ptr 1 0), (7, V.ptr 2 0), (8, V.agg [V.sc (.int .i64 r_.Span), V.sc (.int .i64 r_.Head), V.sl false 3 (List.map E3 r_.Counts), V.sl false 3 (List.map E3 r_.Sums)]), (9, V.sc (.bool r1)), (10, V.sc (.bool (!r1))), (11, V.sc (.bool (!r1))), (12, V.sc (.int .i64 now)), (13, V.sc (.bool r2)), (14, V.sc (.bool (!r2))), (15, V.sc (.bool (!r2))), (16, V.sc (.bool (!r2))), (17, V.sc (.int .i64 amount)), (18, V.sc (.bool r3)), (19, V.sc (.bool (!r3))), (20, V.sc (.bool (!r3))), (23, V.agg [V.sc (.int .i64 r_.Span), V.sc (.int .i64 r_.Head), V.sl false 3 (List.map E3 r_.Counts), V.sl false 3 (List.map E3 r_.Sums)]), (24, V.sc (.int .i64 now)), (25, V.agg [V.sc (.int .i64 r4.Span), V.sc (.int .i64 r4.Head), V.ow 3, V.ow 4]), (26, V.ptr 2 2), (27, V.ow 3), (28, V.ptr 2 3), (29, V.ow 4), (30, V.ptr 2 2), (31, V.ow 3), (32, V.ep 3 1 0 0), (33, V.sc (.int .i64 x1)), (34, V.sc (.int .i64 r5)), (35, V.ptr 2 3), (36, V.ow 4), (37, V.ep 4 1 0 0), (38, V.sc (.int .i64 x2)), (39, V.sc (.int .i64 amount)), (40, V.sc (.int .i64 r6)), (41, V.ep 3 1 0 0), (42, V.ep 4 1 0 0)] [Blk.box 51 [V.sc (.int .i64 r_.Span), V.sc (.int .i64 r_.Head), V.sl false 3 (List.map E3 r_.Counts), V.sl false 3 (List.map E3 r_.Sums)], Blk.box 51 [V.sc (.int .i64 0), V.sc (.int .i64 0), V.nl 3, V.nl 3], Blk.box 51 [V.sc (.int .i64 r4.Span), V.sc (.int .i64 r4.Head), V.ow 3, V.ow 4], Blk.row 3 (List.map E3 (r4.Counts.set 0 r5)) [], Blk.row 3 (List.map E3 (r4.Sums.set 0 r6)) []] [] = st 44 [(0, V.agg [V.sc (.int .i64 r_.Span), V.sc (.int .i64 r_.Head), V.sl false 3 (List.map E3 r_.Counts), V.sl false 3 (List.map E3 r_.Sums)]), (1, V.sc (.int .i64 now)), (2, V.sc (.int .i64 amount)), (3, V.ptr 0 0), (6, V.ptr 1 0), (7, V.ptr 2 0), (8, V.agg [V.sc (.int .i64 r_.Span), V.sc (.int .i64 r_.Head), V.sl false 3 (List.map E3 r_.Counts), V.sl false 3 (List.map E3 r_.Sums)]), (9, V.sc (.bool r1)), (10, V.sc (.bool (!r1))), (11, V.sc (.bool (!r1))), (12, V.sc (.int .i64 now)), (13, V.sc (.bool r2)), (14, V.sc (.bool (!r2))), (15, V.sc (.bool (!r2))), (16, V.sc (.bool (!r2))), (17, V.sc (.int .i64 amount)), (18, V.sc (.bool r3)), (19, V.sc (.bool (!r3))), (20, V.sc (.bool (!r3))), (23, V.agg [V.sc (.int .i64 r_.Span), V.sc (.int .i64 r_.Head), V.sl false 3 (List.map E3 r_.Counts), V.sl false 3 (List.map E3 r_.Sums)]), (24, V.sc (.int .i64 now)), (25, V.agg [V.sc (.int .i64 r4.Span), V.sc (.int .i64 r4.Head), V.ow 3, V.ow 4]), (26, V.ptr 2 2), (27, V.ow 3), (28, V.ptr 2 3), (29, V.ow 4), (30, V.ptr 2 2), (31, V.ow 3), (32, V.ep 3 1 0 0), (33, V.sc (.int .i64 x1)), (34, V.sc (.int .i64 r5)), (35, V.ptr 2 3), (36, V.ow 4), (37, V.ep 4 1 0 0), (38, V.sc (.int .i64 x2)), (39, V.sc (.int .i64 amount)), (40, V.sc (.int .i64 r6)), (41, V.ep 3 1 0 0), (42, V.ep 4 1 0 0)] [Blk.box 51 [V.sc (.int .i64 r_.Span), V.sc (.int .i64 r_.Head), V.sl false 3 (List.map E3 r_.Counts), V.sl false 3 (List.map E3 r_.Sums)], Blk.box 51 [V.sc (.int .i64 0), V.sc (.int .i64 0), V.nl 3, V.nl 3], Blk.box 51 [V.sc (.int .i64 r4.Span), V.sc (.int .i64 r4.Head), V.ow 3, V.ow 4], Blk.row 3 (List.map E3 (r4.Counts.set 0 r5)) [], Blk.row 3 (List.map E3 (r4.Sums.set 0 r6)) []] [],
               Fn Try.prog 92 [(false, E3 x1), (false, E3 1)] (E3 r5) [],
               (true || ((E3 r5).nv && nvL [])) = true,
               Fn Try.prog 92 [(false, E3 x2), (false, E3 amount)] (E3 r6) [],
               (true || ((E3 r6).nv && nvL [])) = true,
               (0 : Int) ≤ 0,
               (0 : Int) < ((List.map E3 r4.Counts).length : Int),
               look [] 0 = none,
               (List.map E3 r4.Counts)[0]? = some (E3 x1),
               Blk.row 3 ((List.map E3 r4.Counts).set 0 (V.sc (.int .i64 r5))) [] = Blk.row 3 (List.map E3 (r4.Counts.set 0 r5)) [],
               (0 : Int) ≤ 0,
               (0 : Int) < ((List.map E3 r4.Sums).length : Int),
               look [] 0 = none,
               (List.map E3 r4.Sums)[0]? = some (E3 x2),
               Blk.row 3 ((List.map E3 r4.Sums).set 0 (V.sc (.int .i64 r6))) [] = Blk.row 3 (List.map E3 (r4.Sums.set 0 r6)) [],
               st 44 [(0, V.agg [V.sc (.int .i64 r_.Span), V.sc (.int .i64 r_.Head), V.sl false 3 (List.map E3 r_.Counts), V.sl false 3 (List.map E3 r_.Sums)]), (1, V.sc (.int .i64 now)), (2, V.sc (.int .i64 amount)), (3, V.ptr 0 0), (6, V.ptr 1 0), (7, V.ptr 2 0), (8, V.agg [V.sc (.int .i64 r_.Span), V.sc (.int .i64 r_.Head), V.sl false 3 (List.map E3 r_.Counts), V.sl false 3 (List.map E3 r_.Sums)]), (9, V.sc (.bool r1)), (10, V.sc (.bool (!r1))), (11, V.sc (.bool (!r1))), (12, V.sc (.int .i64 now)), (13, V.sc (.bool r2)), (14, V.sc (.bool (!r2))), (15, V.sc (.bool (!r2))), (16, V.sc (.bool (!r2))), (17, V.sc (.int .i64 amount)), (18, V.sc (.bool r3)), (19, V.sc (.bool (!r3))), (20, V.sc (.bool (!r3))), (23, V.agg [V.sc (.int .i64 r_.Span), V.sc (.int .i64 r_.Head), V.sl false 3 (List.map E3 r_.Counts), V.sl false 3 (List.map E3 r_.Sums)]), (24, V.sc (.int .i64 now)), (25, V.agg [V.sc (.int .i64 r4.Span), V.sc (.int .i64 r4.Head), V.ow 3, V.ow 4]), (26, V.ptr 2 2), (27, V.ow 3), (28, V.ptr 2 3), (29, V.ow 4), (30, V.ptr 2 2), (31, V.ow 3), (32, V.ep 3 1 0 0), (33, V.sc (.int .i64 x1)), (34, V.sc (.int .i64 r5)), (35, V.ptr 2 3), (36, V.ow 4), (37, V.ep 4 1 0 0), (38, V.sc (.int .i64 x2)), (39, V.sc (.int .i64 amount)), (40, V.sc (.int .i64 r6)), (41, V.ep 3 1 0 0), (42, V.ep 4 1 0 0)] [Blk.box 51 [V.sc (.int .i64 r_.Span), V.sc (.int .i64 r_.Head), V.sl false 3 (List.map E3 r_.Counts), V.sl false 3 (List.map E3 r_.Sums)], Blk.box 51 [V.sc (.int .i64 0), V.sc (.int .i64 0), V.nl 3, V.nl 3], Blk.box 51 [V.sc (.int .i64 r4.Span), V.sc (.int .i64 r4.Head), V.ow 3, V.ow 4], Blk.row 3 (List.map E3 (r4.Counts.set 0 r5)) [], Blk.row 3 (List.map E3 (r4.Sums.set 0 r6)) []] [] = st 44 [(0, V.agg [V.sc (.int .i64 r_.Span), V.sc (.int .i64 r_.Head), V.sl false 3 (List.map E3 r_.Counts), V.sl false 3 (List.map E3 r_.Sums)]), (1, V.sc (.int .i64 now)), (2, V.sc (.int .i64 amount)), (3, V.ptr 0 0), (6, V.ptr 1 0), (7, V.ptr 2 0), (8, V.agg [V.sc (.int .i64 r_.Span), V.sc (.int .i64 r_.Head), V.sl false 3 (List.map E3 r_.Counts), V.sl false 3 (List.map E3 r_.Sums)]), (9, V.sc (.bool r1)), (10, V.sc (.bool (!r1))), (11, V.sc (.bool (!r1))), (12, V.sc (.int .i64 now)), (13, V.sc (.bool r2)), (14, V.sc (.bool (!r2))), (15, V.sc (.bool (!r2))), (16, V.sc (.bool (!r2))), (17, V.sc (.int .i64 amount)), (18, V.sc (.bool r3)), (19, V.sc (.bool (!r3))), (20, V.sc (.bool (!r3))), (23, V.agg [V.sc (.int .i64 r_.Span), V.sc (.int .i64 r_.Head), V.sl false 3 (List.map E3 r_.Counts), V.sl false 3 (List.map E3 r_.Sums)]), (24, V.sc (.int .i64 now)), (25, V.agg [V.sc (.int .i64 r4.Span), V.sc (.int .i64 r4.Head), V.ow 3, V.ow 4]), (26, V.ptr 2 2), (27, V.ow 3), (28, V.ptr 2 3), (29, V.ow 4), (30, V.ptr 2 2), (31, V.ow 3), (32, V.ep 3 1 0 0), (33, V.sc (.int .i64 x1)), (34, V.sc (.int .i64 r5)), (35, V.ptr 2 3), (36, V.ow 4), (37, V.ep 4 1 0 0), (38, V.sc (.int .i64 x2)), (39, V.sc (.int .i64 amount)), (40, V.sc (.int .i64 r6)), (41, V.ep 3 1 0 0), (42, V.ep 4 1 0 0)] [Blk.box 51 [V.sc (.int .i64 r_.Span), V.sc (.int .i64 r_.Head), V.sl false 3 (List.map E3 r_.Counts), V.sl false 3 (List.map E3 r_.Sums)], Blk.box 51 [V.sc (.int .i64 0), V.sc (.int .i64 0), V.nl 3, V.nl 3], Blk.box 51 [V.sc (.int .i64 r4.Span), V.sc (.int .i64 r4.Head), V.ow 3, V.ow 4], Blk.row 3 (List.map E3 (r4.Counts.set 0 r5)) [], Blk.row 3 (List.map E3 (r4.Sums.set 0 r6)) []] [],
               Fn Try.prog 92 [(false, E3 x2), (false, E3 amount)] (E3 r6) [],
               (true || ((E3 r6).nv && nvL [])) = true,
               (0 : Int) ≤ 0,
               (0 : Int) < ((List.map E3 r4.Counts).length : Int),
               look [] 0 = none,
               (List.map E3 r4.Counts)[0]? = some (E3 x1),
               Blk.row 3 ((List.map E3 r4.Counts).set 0 (V.sc (.int .i64 r5))) [] = Blk.row 3 (List.map E3 (r4.Counts.set 0 r5)) [],
               (0 : Int) ≤ 0,
               (0 : Int) < ((List.map E3 r4.Sums).length : Int),
               look [] 0 = none,
               (List.map E3 r4.Sums)[0]? = some (E3 x2),
               Blk.row 3 ((List.map E3 r4.Sums).set 0 (V.sc (.int .i64 r6))) [] = Blk.row 3 (List.map E3 (r4.Sums.set 0 r6)) [],
               st 44 [(0, V.agg [V.sc (.int .i64 r_.Span), V.sc (.int .i64 r_.Head), V.sl false 3 (List.map E3 r_.Counts), V.sl false 3 (List.map E3 r_.Sums)]), (1, V.sc (.int .i64 now)), (2, V.sc (.int .i64 amount)), (3, V.ptr 0 0), (6, V.ptr 1 0), (7, V.ptr 2 0), (8, V.agg [V.sc (.int .i64 r_.Span), V.sc (.int .i64 r_.Head), V.sl false 3 (List.map E3 r_.Counts), V.sl false 3 (List.map E3 r_.Sums)]), (9, V.sc (.bool r1)), (10, V.sc (.bool (!r1))), (11, V.sc (.bool (!r1))), (12, V.sc (.int .i64 now)), (13, V.sc (.bool r2)), (14, V.sc (.bool (!r2))), (15, V.sc (.bool (!r2))), (16, V.sc (.bool (!r2))), (17, V.sc (.int .i64 amount)), (18, V.sc (.bool r3)), (19, V.sc (.bool (!r3))), (20, V.sc (.bool (!r3))), (23, V.agg [V.sc (.int .i64 r_.Span), V.sc (.int .i64 r_.Head), V.sl false 3 (List.map E3 r_.Counts), V.sl false 3 (List.map E3 r_.Sums)]), (24, V.sc (.int .i64 now)), (25, V.agg [V.sc (.int .i64 r4.Span), V.sc (.int .i64 r4.Head), V.ow 3, V.ow 4]), (26, V.ptr 2 2), (27, V.ow 3), (28, V.ptr 2 3), (29, V.ow 4), (30, V.ptr 2 2), (31, V.ow 3), (32, V.ep 3 1 0 0), (33, V.sc (.int .i64 x1)), (34, V.sc (.int .i64 r5)), (35, V.ptr 2 3), (36, V.ow 4), (37, V.ep 4 1 0 0), (38, V.sc (.int .i64 x2)), (39, V.sc (.int .i64 amount)), (40, V.sc (.int .i64 r6)), (41, V.ep 3 1 0 0), (42, V.ep 4 1 0 0)] [Blk.box 51 [V.sc (.int .i64 r_.Span), V.sc (.int .i64 r_.Head), V.sl false 3 (List.map E3 r_.Counts), V.sl false 3 (List.map E3 r_.Sums)], Blk.box 51 [V.sc (.int .i64 0), V.sc (.int .i64 0), V.nl 3, V.nl 3], Blk.box 51 [V.sc (.int .i64 r4.Span), V.sc (.int .i64 r4.Head), V.ow 3, V.ow 4], Blk.row 3 (List.map E3 (r4.Counts.set 0 r5)) [], Blk.row 3 (List.map E3 (r4.Sums.set 0 r6)) []] [] = st 44 [(0, V.agg [V.sc (.int .i64 r_.Span), V.sc (.int .i64 r_.Head), V.sl false 3 (List.map E3 r_.Counts), V.sl false 3 (List.map E3 r_.Sums)]), (1, V.sc (.int .i64 now)), (2, V.sc (.int .i64 amount)), (3, V.ptr 0 0), (6, V.ptr 1 0), (7, V.ptr 2 0), (8, V.agg [V.sc (.int .i64 r_.Span), V.sc (.int .i64 r_.Head), V.sl false 3 (List.map E3 r_.Counts), V.sl false 3 (List.map E3 r_.Sums)]), (9, V.sc (.bool r1)), (10, V.sc (.bool (!r1))), (11, V.sc (.bool (!r1))), (12, V.sc (.int .i64 now)), (13, V.sc (.bool r2)), (14, V.sc (.bool (!r2))), (15, V.sc (.bool (!r2))), (16, V.sc (.bool (!r2))), (17, V.sc (.int .i64 amount)), (18, V.sc (.bool r3)), (19, V.sc (.bool (!r3))), (20, V.sc (.bool (!r3))), (23, V.agg [V.sc (.int .i64 r_.Span), V.sc (.int .i64 r_.Head), V.sl false 3 (List.map E3 r_.Counts), V.sl false 3 (List.map E3 r_.Sums)]), (24, V.sc (.int .i64 now)), (25, V.agg [V.sc (.int .i64 r4.Span), V.sc (.int .i64 r4.Head), V.ow 3, V.ow 4]), (26, V.ptr 2 2), (27, V.ow 3), (28, V.ptr 2 3), (29, V.ow 4), (30, V.ptr 2 2), (31, V.ow 3), (32, V.ep 3 1 0 0), (33, V.sc (.int .i64 x1)), (34, V.sc (.int .i64 r5)), (35, V.ptr 2 3), (36, V.ow 4), (37, V.ep 4 1 0 0), (38, V.sc (.int .i64 x2)), (39, V.sc (.int .i64 amount)), (40, V.sc (.int .i64 r6)), (41, V.ep 3 1 0 0), (42, V.ep 4 1 0 0)] [Blk.box 51 [V.sc (.int .i64 r_.Span), V.sc (.int .i64 r_.Head), V.sl false 3 (List.map E3 r_.Counts), V.sl false 3 (List.map E3 r_.Sums)], Blk.box 51 [V.sc (.int .i64 0), V.sc (.int .i64 0), V.nl 3, V.nl 3], Blk.box 51 [V.sc (.int .i64 r4.Span), V.sc (.int .i64 r4.Head), V.ow 3, V.ow 4], Blk.row 3 (List.map E3 (r4.Counts.set 0 r5)) [], Blk.row 3 (List.map E3 (r4.Sums.set 0 r6)) []] [],
               look [] 0 = none,
               (List.map E3 r4.Counts)[0]? = some (E3 x1),
               Blk.row 3 ((List.map E3 r4.Counts).set 0 (V.sc (.int .i64 r5))) [] = Blk.row 3 (List.map E3 (r4.Counts.set 0 r5)) [],
               (0 : Int) ≤ 0,
               (0 : Int) < ((List.map E3 r4.Sums).length : Int),
               look [] 0 = none,
               (List.map E3 r4.Sums)[0]? = some (E3 x2),
               Blk.row 3 ((List.map E3 r4.Sums).set 0 (V.sc (.int .i64 r6))) [] = Blk.row 3 (List.map E3 (r4.Sums.set 0 r6)) [],
               st 44 [(0, V.agg [V.sc (.int .i64 r_.Span), V.sc (.int .i64 r_.Head), V.sl false 3 (List.map E3 r_.Counts), V.sl false 3 (List.map E3 r_.Sums)]), (1, V.sc (.int .i64 now)), (2, V.sc (.int .i64 amount)), (3, V.ptr 0 0), (6, V.ptr 1 0), (7, V.ptr 2 0), (8, V.agg [V.sc (.int .i64 r_.Span), V.sc (.int .i64 r_.Head), V.sl false 3 (List.map E3 r_.Counts), V.sl false 3 (List.map E3 r_.Sums)]), (9, V.sc (.bool r1)), (10, V.sc (.bool (!r1))), (11, V.sc (.bool (!r1))), (12, V.sc (.int .i64 now)), (13, V.sc (.bool r2)), (14, V.sc (.bool (!r2))), (15, V.sc (.bool (!r2))), (16, V.sc (.bool (!r2))), (17, V.sc (.int .i64 amount)), (18, V.sc (.bool r3)), (19, V.sc (.bool (!r3))), (20, V.sc (.bool (!r3))), (23, V.agg [V.sc (.int .i64 r_.Span), V.sc (.int .i64 r_.Head), V.sl false 3 (List.map E3 r_.Counts), V.sl false 3 (List.map E3 r_.Sums)]), (24, V.sc (.int .i64 now)), (25, V.agg [V.sc (.int .i64 r4.Span), V.sc (.int .i64 r4.Head), V.ow 3, V.ow 4]), (26, V.ptr 2 2), (27, V.ow 3), (28, V.ptr 2 3), (29, V.ow 4), (30, V.ptr 2 2), (31, V.ow 3), (32, V.ep 3 1 0 0), (33, V.sc (.int .i64 x1)), (34, V.sc (.int .i64 r5)), (35, V.ptr 2 3), (36, V.ow 4), (37, V.ep 4 1 0 0), (38, V.sc (.int .i64 x2)), (39, V.sc (.int .i64 amount)), (40, V.sc (.int .i64 r6)), (41, V.ep 3 1 0 0), (42, V.ep 4 1 0 0)] [Blk.box 51 [V.sc (.int .i64 r_.Span), V.sc (.int .i64 r_.Head), V.sl false 3 (List.map E3 r_.Counts), V.sl false 3 (List.map E3 r_.Sums)], Blk.box 51 [V.sc (.int .i64 0), V.sc (.int .i64 0), V.nl 3, V.nl 3], Blk.box 51 [V.sc (.int .i64 r4.Span), V.sc (.int .i64 r4.Head), V.ow 3, V.ow 4], Blk.row 3 (List.map E3 (r4.Counts.set 0 r5)) [], Blk.row 3 (List.map E3 (r4.Sums.set 0 r6)) []] [] = st 44 [(0, V.agg [V.sc (.int .i64 r_.Span), V.sc (.int .i64 r_.Head), V.sl false 3 (List.map E3 r_.Counts), V.sl false 3 (List.map E3 r_.Sums)]), (1, V.sc (.int .i64 now)), (2, V.sc (.int .i64 amount)), (3, V.ptr 0 0), (6, V.ptr 1 0), (7, V.ptr 2 0), (8, V.agg [V.sc (.int .i64 r_.Span), V.sc (.int .i64 r_.Head), V.sl false 3 (List.map E3 r_.Counts), V.sl false 3 (List.map E3 r_.Sums)]), (9, V.sc (.bool r1)), (10, V.sc (.bool (!r1))), (11, V.sc (.bool (!r1))), (12, V.sc (.int .i64 now)), (13, V.sc (.bool r2)), (14, V.sc (.bool (!r2))), (15, V.sc (.bool (!r2))), (16, V.sc (.bool (!r2))), (17, V.sc (.int .i64 amount)), (18, V.sc (.bool r3)), (19, V.sc (.bool (!r3))), (20, V.sc (.bool (!r3))), (23, V.agg [V.sc (.int .i64 r_.Span), V.sc (.int .i64 r_.Head), V.sl false 3 (List.map E3 r_.Counts), V.sl false 3 (List.map E3 r_.Sums)]), (24, V.sc (.int .i64 now)), (25, V.agg [V.sc (.int .i64 r4.Span), V.sc (.int .i64 r4.Head), V.ow 3, V.ow 4]), (26, V.ptr 2 2), (27, V.ow 3), (28, V.ptr 2 3), (29, V.ow 4), (30, V.ptr 2 2), (31, V.ow 3), (32, V.ep 3 1 0 0), (33, V.sc (.int .i64 x1)), (34, V.sc (.int .i64 r5)), (35, V.ptr 2 3), (36, V.ow 4), (37, V.ep 4 1 0 0), (38, V.sc (.int .i64 x2)), (39, V.sc (.int .i64 amount)), (40, V.sc (.int .i64 r6)), (41, V.ep 3 1 0 0), (42, V.ep 4 1 0 0)] [Blk.box 51 [V.sc (.int .i64 r_.Span), V.sc (.int .i64 r_.Head), V.sl false 3 (List.map E3 r_.Counts), V.sl false 3 (List.map E3 r_.Sums)], Blk.box 51 [V.sc (.int .i64 0), V.sc (.int .i64 0), V.nl 3, V.nl 3], Blk.box 51 [V.sc (.int .i64 r4.Span), V.sc (.int .i64 r4.Head), V.ow 3, V.ow 4], Blk.row 3 (List.map E3 (r4.Counts.set 0 r5)) [], Blk.row 3 (List.map E3 (r4.Sums.set 0 r6)) []] [],
               st 44 [(0, V.agg [V.sc (.int .i64 r_.Span), V.sc (.int .i64 r_.Head), V.sl false 3 (List.map E3 r_.Counts), V.sl false 3 (List.map E3 r_.Sums)]), (1, V.sc (.int .i64 now)), (2, V.sc (.int .i64 amount)), (3, V.ptr 0 0), (6, V.ptr 1 0), (7, V.ptr 2 0), (8, V.agg [V.sc (.int .i64 r_.Span), V.sc (.int .i64 r_.Head), V.sl false 3 (List.map E3 r_.Counts), V.sl false 3 (List.map E3 r_.Sums)]), (9, V.sc (.bool r1)), (10, V.sc (.bool (!r1))), (11, V.sc (.bool (!r1))), (12, V.sc (.int .i64 now)), (13, V.sc (.bool r2)), (14, V.sc (.bool (!r2))), (15, V.sc (.bool (!r2))), (16, V.sc (.bool (!r2))), (17, V.sc (.int .i64 amount)), (18, V.sc (.bool r3)), (19, V.sc (.bool (!r3))), (20, V.sc (.bool (!r3))), (23, V.agg [V.sc (.int .i64 r_.Span), V.sc (.int .i64 r_.Head), V.sl false 3 (List.map E3 r_.Counts), V.sl false 3 (List.map E3 r_.Sums)]), (24, V.sc (.int .i64 now)), (25, V.agg [V.sc (.int .i64 r4.Span), V.sc (.int .i64 r4.Head), V.ow 3, V.ow 4]), (26, V.ptr 2 2), (27, V.ow 3), (28, V.ptr 2 3), (29, V.ow 4), (30, V.ptr 2 2), (31, V.ow 3), (32, V.ep 3 1 0 0), (33, V.sc (.int .i64 x1)), (34, V.sc (.int .i64 r5)), (35, V.ptr 2 3), (36, V.ow 4), (37, V.ep 4 1 0 0), (38, V.sc (.int .i64 x2)), (39, V.sc (.int .i64 amount)), (40, V.sc (.int .i64 r6)), (41, V.ep 3 1 0 0), (42, V.ep 4 1 0 0)] [Blk.box 51 [V.sc (.int .i64 r_.Span), V.sc (.int .i64 r_.Head), V.sl false 3 (List.map E3 r_.Counts), V.sl false 3 (List.map E3 r_.Sums)], Blk.box 51 [V.sc (.int .i64 0), V.sc (.int .i64 0), V.nl 3, V.nl 3], Blk.box 51 [V.sc (.int .i64 r4.Span), V.sc (.int .i64 r4.Head), V.ow 3, V.ow 4], Blk.row 3 (List.map E3 (r4.Counts.set 0 r5)) [], Blk.row 3 (List.map E3 (r4.Sums.set 0 r6)) []] [] = st 44 [(0, V.agg [V.sc (.int .i64 r_.Span), V.sc (.int .i64 r_.Head), V.sl false 3 (List.map E3 r_.Counts), V.sl false 3 (List.map E3 r_.Sums)]), (1, V.sc (.int .i64 now)), (2, V.sc (.int .i64 amount)), (3, V.ptr 0 0), (6, V.ptr 1 0), (7, V.ptr 2 0), (8, V.agg [V.sc (.int .i64 r_.Span), V.sc (.int .i64 r_.Head), V.sl false 3 (List.map E3 r_.Counts), V.sl false 3 (List.map E3 r_.Sums)]), (9, V.sc (.bool r1)), (10, V.sc (.bool (!r1))), (11, V.sc (.bool (!r1))), (12, V.sc (.int .i64 now)), (13, V.sc (.bool r2)), (14, V.sc (.bool (!r2))), (15, V.sc (.bool (!r2))), (16, V.sc (.bool (!r2))), (17, V.sc (.int .i64 amount)), (18, V.sc (.bool r3)), (19, V.sc (.bool (!r3))), (20, V.sc (.bool (!r3))), (23, V.agg [V.sc (.int .i64 r_.Span), V.sc (.int .i64 r_.Head), V.sl false 3 (List.map E3 r_.Counts), V.sl false 3 (List.map E3 r_.Sums)]), (24, V.sc (.int .i64 now)), (25, V.agg [V.sc (.int .i64 r4.Span), V.sc (.int .i64 r4.Head), V.ow 3, V.ow 4]), (26, V.ptr 2 2), (27, V.ow 3), (28, V.ptr 2 3), (29, V.ow 4), (30, V.ptr 2 2), (31, V.ow 3), (32, V.ep 3 1 0 0), (33, V.sc (.int .i64 x1)), (34, V.sc (.int .i64 r5)), (35, V.ptr 2 3), (36, V.ow 4), (37, V.ep 4 1 0 0), (38, V.sc (.int .i64 x2)), (39, V.sc (.int .i64 amount)), (40, V.sc (.int .i64 r6)), (41, V.ep 3 1 0 0), (42, V.ep 4 1 0 0)] [Blk.box 51 [V.sc (.int .i64 r_.Span), V.sc (.int .i64 r_.Head), V.sl false 3 (List.map E3 r_.Counts), V.sl false 3 (List.map E3 r_.Sums)], Blk.box 51 [V.sc (.int .i64 0), V.sc (.int .i64 0), V.nl 3, V.nl 3], Blk.box 51 [V.sc (.int .i64 r4.Span), V.sc (.int .i64 r4.Head), V.ow 3, V.ow 4], Blk.row 3 (List.map E3 (r4.Counts.set 0 r5)) [], Blk.row 3 (List.map E3 (r4.Sums.set 0 r6)) []] [],
               st 44 [(0, V.agg [V.sc (.int .i64 r_.Span), V.sc (.int .i64 r_.Head), V.sl false 3 (List.map E3 r_.Counts), V.sl false 3 (List.map E3 r_.Sums)]), (1, V.sc (.int .i64 now)), (2, V.sc (.int .i64 amount)), (3, V.ptr 0 0), (6, V.ptr 1 0), (7, V.ptr 2 0), (8, V.agg [V.sc (.int .i64 r_.Span), V.sc (.int .i64 r_.Head), V.sl false 3 (List.map E3 r_.Counts), V.sl false 3 (List.map E3 r_.Sums)]), (9, V.sc (.bool r1)), (10, V.sc (.bool (!r1))), (11, V.sc (.bool (!r1))), (12, V.sc (.int .i64 now)), (13, V.sc (.bool r2)), (14, V.sc (.bool (!r2))), (15, V.sc (.bool (!r2))), (16, V.sc (.bool (!r2))), (17, V.sc (.int .i64 amount)), (18, V.sc (.bool r3)), (19, V.sc (.bool (!r3))), (20, V.sc (.bool (!r3))), (23, V.agg [V.sc (.int .i64 r_.Span), V.sc (.int .i64 r_.Head), V.sl false 3 (List.map E3 r_.Counts), V.sl false 3 (List.map E3 r_.Sums)]), (24, V.sc (.int .i64 now)), (25, V.agg [V.sc (.int .i64 r4.Span), V.sc (.int .i64 r4.Head), V.ow 3, V.ow 4]), (26, V.ptr 2 2), (27, V.ow 3), (28, V.ptr 2 3), (29, V.ow 4), (30, V.ptr 2 2), (31, V.ow 3), (32, V.ep 3 1 0 0), (33, V.sc (.int .i64 x1)), (34, V.sc (.int .i64 r5)), (35, V.ptr 2 3), (36, V.ow 4), (37, V.ep 4 1 0 0), (38, V.sc (.int .i64 x2)), (39, V.sc (.int .i64 amount)), (40, V.sc (.int .i64 r6)), (41, V.ep 3 1 0 0), (42, V.ep 4 1 0 0)] [Blk.box 51 [V.sc (.int .i64 r_.Span), V.sc (.int .i64 r_.Head), V.sl false 3 (List.map E3 r_.Counts), V.sl false 3 (List.map E3 r_.Sums)], Blk.box 51 [V.sc (.int .i64 0), V.sc (.int .i64 0), V.nl 3, V.nl 3], Blk.box 51 [V.sc (.int .i64 r4.Span), V.sc (.int .i64 r4.Head), V.ow 3, V.ow 4], Blk.row 3 (List.map E3 (r4.Counts.set 0 r5)) [], Blk.row 3 (List.map E3 (r4.Sums.set 0 r6)) []] [] = st 44 [(0, V.agg [V.sc (.int .i64 r_.Span), V.sc (.int .i64 r_.Head), V.sl false 3 (List.map E3 r_.Counts), V.sl false 3 (List.map E3 r_.Sums)]), (1, V.sc (.int .i64 now)), (2, V.sc (.int .i64 amount)), (3, V.ptr 0 0), (6, V.ptr 1 0), (7, V.ptr 2 0), (8, V.agg [V.sc (.int .i64 r_.Span), V.sc (.int .i64 r_.Head), V.sl false 3 (List.map E3 r_.Counts), V.sl false 3 (List.map E3 r_.Sums)]), (9, V.sc (.bool r1)), (10, V.sc (.bool (!r1))), (11, V.sc (.bool (!r1))), (12, V.sc (.int .i64 now)), (13, V.sc (.bool r2)), (14, V.sc (.bool (!r2))), (15, V.sc (.bool (!r2))), (16, V.sc (.bool (!r2))), (17, V.sc (.int .i64 amount)), (18, V.sc (.bool r3)), (19, V.sc (.bool (!r3))), (20, V.sc (.bool (!r3))), (23, V.agg [V.sc (.int .i64 r_.Span), V.sc (.int .i64 r_.Head), V.sl false 3 (List.map E3 r_.Counts), V.sl false 3 (List.map E3 r_.Sums)]), (24, V.sc (.int .i64 now)), (25, V.agg [V.sc (.int .i64 r4.Span), V.sc (.int .i64 r4.Head), V.ow 3, V.ow 4]), (26, V.ptr 2 2), (27, V.ow 3), (28, V.ptr 2 3), (29, V.ow 4), (30, V.ptr 2 2), (31, V.ow 3), (32, V.ep 3 1 0 0), (33, V.sc (.int .i64 x1)), (34, V.sc (.int .i64 r5)), (35, V.ptr 2 3), (36, V.ow 4), (37, V.ep 4 1 0 0), (38, V.sc (.int .i64 x2)), (39, V.sc (.int .i64 amount)), (40, V.sc (.int .i64 r6)), (41, V.ep 3 1 0 0), (42, V.ep 4 1 0 0)] [Blk.box 51 [V.sc (.int .i64 r_.Span), V.sc (.int .i64 r_.Head), V.sl false 3 (List.map E3 r_.Counts), V.sl false 3 (List.map E3 r_.Sums)], Blk.box 51 [V.sc (.int .i64 0), V.sc (.int .i64 0), V.nl 3, V.nl 3], Blk.box 51 [V.sc (.int .i64 r4.Span), V.sc (.int .i64 r4.Head), V.ow 3, V.ow 4], Blk.row 3 (List.map E3 (r4.Counts.set 0 r5)) [], Blk.row 3 (List.map E3 (r4.Sums.set 0 r6)) []] [],
               Fn Try.prog 92 [(false, E3 x2), (false, E3 amount)] (E3 r6) [],
               (true || ((E3 r6).nv && nvL [])) = true,
               (0 : Int) ≤ 0,
               (0 : Int) < ((List.map E3 r4.Counts).length : Int),
               look [] 0 = none,
               (List.map E3 r4.Counts)[0]? = some (E3 x1),
               Blk.row 3 ((List.map E3 r4.Counts).set 0 (V.sc (.int .i64 r5))) [] = Blk.row 3 (List.map E3 (r4.Counts.set 0 r5)) [],
               (0 : Int) ≤ 0,
               (0 : Int) < ((List.map E3 r4.Sums).length : Int),
               look [] 0 = none,
               (List.map E3 r4.Sums)[0]? = some (E3 x2),
               Blk.row 3 ((List.map E3 r4.Sums).set 0 (V.sc (.int .i64 r6))) [] = Blk.row 3 (List.map E3 (r4.Sums.set 0 r6)) [],
               st 44 [(0, V.agg [V.sc (.int .i64 r_.Span), V.sc (.int .i64 r_.Head), V.sl false 3 (List.map E3 r_.Counts), V.sl false 3 (List.map E3 r_.Sums)]), (1, V.sc (.int .i64 now)), (2, V.sc (.int .i64 amount)), (3, V.ptr 0 0), (6, V.ptr 1 0), (7, V.ptr 2 0), (8, V.agg [V.sc (.int .i64 r_.Span), V.sc (.int .i64 r_.Head), V.sl false 3 (List.map E3 r_.Counts), V.sl false 3 (List.map E3 r_.Sums)]), (9, V.sc (.bool r1)), (10, V.sc (.bool (!r1))), (11, V.sc (.bool (!r1))), (12, V.sc (.int .i64 now)), (13, V.sc (.bool r2)), (14, V.sc (.bool (!r2))), (15, V.sc (.bool (!r2))), (16, V.sc (.bool (!r2))), (17, V.sc (.int .i64 amount)), (18, V.sc (.bool r3)), (19, V.sc (.bool (!r3))), (20, V.sc (.bool (!r3))), (23, V.agg [V.sc (.int .i64 r_.Span), V.sc (.int .i64 r_.Head), V.sl false 3 (List.map E3 r_.Counts), V.sl false 3 (List.map E3 r_.Sums)]), (24, V.sc (.int .i64 now)), (25, V.agg [V.sc (.int .i64 r4.Span), V.sc (.int .i64 r4.Head), V.ow 3, V.ow 4]), (26, V.ptr 2 2), (27, V.ow 3), (28, V.ptr 2 3), (29, V.ow 4), (30, V.ptr 2 2), (31, V.ow 3), (32, V.ep 3 1 0 0), (33, V.sc (.int .i64 x1)), (34, V.sc (.int .i64 r5)), (35, V.ptr 2 3), (36, V.ow 4), (37, V.ep 4 1 0 0), (38, V.sc (.int .i64 x2)), (39, V.sc (.int .i64 amount)), (40, V.sc (.int .i64 r6)), (41, V.ep 3 1 0 0), (42, V.ep 4 1 0 0)] [Blk.box 51 [V.sc (.int .i64 r_.Span), V.sc (.int .i64 r_.Head), V.sl false 3 (List.map E3 r_.Counts), V.sl false 3 (List.map E3 r_.Sums)], Blk.box 51 [V.sc (.int .i64 0), V.sc (.int .i64 0), V.nl 3, V.nl 3], Blk.box 51 [V.sc (.int .i64 r4.Span), V.sc (.int .i64 r4.Head), V.ow 3, V.ow 4], Blk.row 3 (List.map E3 (r4.Counts.set 0 r5)) [], Blk.row 3 (List.map E3 (r4.Sums.set 0 r6)) []] [] = st 44 [(0, V.agg [V.sc (.int .i64 r_.Span), V.sc (.int .i64 r_.Head), V.sl false 3 (List.map E3 r_.Counts), V.sl false 3 (List.map E3 r_.Sums)]), (1, V.sc (.int .i64 now)), (2, V.sc (.int .i64 amount)), (3, V.ptr 0 0), (6, V.ptr 1 0), (7, V.ptr 2 0), (8, V.agg [V.sc (.int .i64 r_.Span), V.sc (.int .i64 r_.Head), V.sl false 3 (List.map E3 r_.Counts), V.sl false 3 (List.map E3 r_.Sums)]), (9, V.sc (.bool r1)), (10, V.sc (.bool (!r1))), (11, V.sc (.bool (!r1))), (12, V.sc (.int .i64 now)), (13, V.sc (.bool r2)), (14, V.sc (.bool (!r2))), (15, V.sc (.bool (!r2))), (16, V.sc (.bool (!r2))), (17, V.sc (.int .i64 amount)), (18, V.sc (.bool r3)), (19, V.sc (.bool (!r3))), (20, V.sc (.bool (!r3))), (23, V.agg [V.sc (.int .i64 r_.Span), V.sc (.int .i64 r_.Head), V.sl false 3 (List.map E3 r_.Counts), V.sl false 3 (List.map E3 r_.Sums)]), (24, V.sc (.int .i64 now)), (25, V.agg [V.sc (.int .i64 r4.Span), V.sc (.int .i64 r4.Head), V.ow 3, V.ow 4]), (26, V.ptr 2 2), (27, V.ow 3), (28, V.ptr 2 3), (29, V.ow 4), (30, V.ptr 2 2), (31, V.ow 3), (32, V.ep 3 1 0 0), (33, V.sc (.int .i64 x1)), (34, V.sc (.int .i64 r5)), (35, V.ptr 2 3), (36, V.ow 4), (37, V.ep 4 1 0 0), (38, V.sc (.int .i64 x2)), (39, V.sc (.int .i64 amount)), (40, V.sc (.int .i64 r6)), (41, V.ep 3 1 0 0), (42, V.ep 4 1 0 0)] [Blk.box 51 [V.sc (.int .i64 r_.Span), V.sc (.int .i64 r_.Head), V.sl false 3 (List.map E3 r_.Counts), V.sl false 3 (List.map E3 r_.Sums)], Blk.box 51 [V.sc (.int .i64 0), V.sc (.int .i64 0), V.nl 3, V.nl 3], Blk.box 51 [V.sc (.int .i64 r4.Span), V.sc (.int .i64 r4.Head), V.ow 3, V.ow 4], Blk.row 3 (List.map E3 (r4.Counts.set 0 r5)) [], Blk.row 3 (List.map E3 (r4.Sums.set 0 r6)) []] [],
               look [] 0 = none,
               (List.map E3 r4.Counts)[0]? = some (E3 x1),
               Blk.row 3 ((List.map E3 r4.Counts).set 0 (V.sc (.int .i64 r5))) [] = Blk.row 3 (List.map E3 (r4.Counts.set 0 r5)) [],
               (0 : Int) ≤ 0,
               (0 : Int) < ((List.map E3 r4.Sums).length : Int),
               look [] 0 = none,
               (List.map E3 r4.Sums)[0]? = some (E3 x2),
               Blk.row 3 ((List.map E3 r4.Sums).set 0 (V.sc (.int .i64 r6))) [] = Blk.row 3 (List.map E3 (r4.Sums.set 0 r6)) [],
               st 44 [(0, V.agg [V.sc (.int .i64 r_.Span), V.sc (.int .i64 r_.Head), V.sl false 3 (List.map E3 r_.Counts), V.sl false 3 (List.map E3 r_.Sums)]), (1, V.sc (.int .i64 now)), (2, V.sc (.int .i64 amount)), (3, V.ptr 0 0), (6, V.ptr 1 0), (7, V.ptr 2 0), (8, V.agg [V.sc (.int .i64 r_.Span), V.sc (.int .i64 r_.Head), V.sl false 3 (List.map E3 r_.Counts), V.sl false 3 (List.map E3 r_.Sums)]), (9, V.sc (.bool r1)), (10, V.sc (.bool (!r1))), (11, V.sc (.bool (!r1))), (12, V.sc (.int .i64 now)), (13, V.sc (.bool r2)), (14, V.sc (.bool (!r2))), (15, V.sc (.bool (!r2))), (16, V.sc (.bool (!r2))), (17, V.sc (.int .i64 amount)), (18, V.sc (.bool r3)), (19, V.sc (.bool (!r3))), (20, V.sc (.bool (!r3))), (23, V.agg [V.sc (.int .i64 r_.Span), V.sc (.int .i64 r_.Head), V.sl false 3 (List.map E3 r_.Counts), V.sl false 3 (List.map E3 r_.Sums)]), (24, V.sc (.int .i64 now)), (25, V.agg [V.sc (.int .i64 r4.Span), V.sc (.int .i64 r4.Head), V.ow 3, V.ow 4]), (26, V.ptr 2 2), (27, V.ow 3), (28, V.ptr 2 3), (29, V.ow 4), (30, V.ptr 2 2), (31, V.ow 3), (32, V.ep 3 1 0 0), (33, V.sc (.int .i64 x1)), (34, V.sc (.int .i64 r5)), (35, V.ptr 2 3), (36, V.ow 4), (37, V.ep 4 1 0 0), (38, V.sc (.int .i64 x2)), (39, V.sc (.int .i64 amount)), (40, V.sc (.int .i64 r6)), (41, V.ep 3 1 0 0), (42, V.ep 4 1 0 0)] [Blk.box 51 [V.sc (.int .i64 r_.Span), V.sc (.int .i64 r_.Head), V.sl false 3 (List.map E3 r_.Counts), V.sl false 3 (List.map E3 r_.Sums)], Blk.box 51 [V.sc (.int .i64 0), V.sc (.int .i64 0), V.nl 3, V.nl 3], Blk.box 51 [V.sc (.int .i64 r4.Span), V.sc (.int .i64 r4.Head), V.ow 3, V.ow 4], Blk.row 3 (List.map E3 (r4.Counts.set 0 r5)) [], Blk.row 3 (List.map E3 (r4.Sums.set 0 r6)) []] [] = st 44 [(0, V.agg [V.sc (.int .i64 r_.Span), V.sc (.int .i64 r_.Head), V.sl false 3 (List.map E3 r_.Counts), V.sl false 3 (List.map E3 r_.Sums)]), (1, V.sc (.int .i64 now)), (2, V.sc (.int .i64 amount)), (3, V.ptr 0 0), (6, V.ptr 1 0), (7, V.ptr 2 0), (8, V.agg [V.sc (.int .i64 r_.Span), V.sc (.int .i64 r_.Head), V.sl false 3 (List.map E3 r_.Counts), V.sl false 3 (List.map E3 r_.Sums)]), (9, V.sc (.bool r1)), (10, V.sc (.bool (!r1))), (11, V.sc (.bool (!r1))), (12, V.sc (.int .i64 now)), (13, V.sc (.bool r2)), (14, V.sc (.bool (!r2))), (15, V.sc (.bool (!r2))), (16, V.sc (.bool (!r2))), (17, V.sc (.int .i64 amount)), (18, V.sc (.bool r3)), (19, V.sc (.bool (!r3))), (20, V.sc (.bool (!r3))), (23, V.agg [V.sc (.int .i64 r_.Span), V.sc (.int .i64 r_.Head), V.sl false 3 (List.map E3 r_.Counts), V.sl false 3 (List.map E3 r_.Sums)]), (24, V.sc (.int .i64 now)), (25, V.agg [V.sc (.int .i64 r4.Span), V.sc (.int .i64 r4.Head), V.ow 3, V.ow 4]), (26, V.ptr 2 2), (27, V.ow 3), (28, V.ptr 2 3), (29, V.ow 4), (30, V.ptr 2 2), (31, V.ow 3), (32, V.ep 3 1 0 0), (33, V.sc (.int .i64 x1)), (34, V.sc (.int .i64 r5)), (35, V.ptr 2 3), (36, V.ow 4), (37, V.ep 4 1 0 0), (38, V.sc (.int .i64 x2)), (39, V.sc (.int .i64 amount)), (40, V.sc (.int .i64 r6)), (41, V.ep 3 1 0 0), (42, V.ep 4 1 0 0)] [Blk.box 51 [V.sc (.int .i64 r_.Span), V.sc (.int .i64 r_.Head), V.sl false 3 (List.map E3 r_.Counts), V.sl false 3 (List.map E3 r_.Sums)], Blk.box 51 [V.sc (.int .i64 0), V.sc (.int .i64 0), V.nl 3, V.nl 3], Blk.box 51 [V.sc (.int .i64 r4.Span), V.sc (.int .i64 r4.Head), V.ow 3, V.ow 4], Blk.row 3 (List.map E3 (r4.Counts.set 0 r5)) [], Blk.row 3 (List.map E3 (r4.Sums.set 0 r6)) []] [],
               st 44 [(0, V.agg [V.sc (.int .i64 r_.Span), V.sc (.int .i64 r_.Head), V.sl false 3 (List.map E3 r_.Counts), V.sl false 3 (List.map E3 r_.Sums)]), (1, V.sc (.int .i64 now)), (2, V.sc (.int .i64 amount)), (3, V.ptr 0 0), (6, V.ptr 1 0), (7, V.ptr 2 0), (8, V.agg [V.sc (.int .i64 r_.Span), V.sc (.int .i64 r_.Head), V.sl false 3 (List.map E3 r_.Counts), V.sl false 3 (List.map E3 r_.Sums)]), (9, V.sc (.bool r1)), (10, V.sc (.bool (!r1))), (11, V.sc (.bool (!r1))), (12, V.sc (.int .i64 now)), (13, V.sc (.bool r2)), (14, V.sc (.bool (!r2))), (15, V.sc (.bool (!r2))), (16, V.sc (.bool (!r2))), (17, V.sc (.int .i64 amount)), (18, V.sc (.bool r3)), (19, V.sc (.bool (!r3))), (20, V.sc (.bool (!r3))), (23, V.agg [V.sc (.int .i64 r_.Span), V.sc (.int .i64 r_.Head), V.sl false 3 (List.map E3 r_.Counts), V.sl false 3 (List.map E3 r_.Sums)]), (24, V.sc (.int .i64 now)), (25, V.agg [V.sc (.int .i64 r4.Span), V.sc (.int .i64 r4.Head), V.ow 3, V.ow 4]), (26, V.ptr 2 2), (27, V.ow 3), (28, V.ptr 2 3), (29, V.ow 4), (30, V.ptr 2 2), (31, V.ow 3), (32, V.ep 3 1 0 0), (33, V.sc (.int .i64 x1)), (34, V.sc (.int .i64 r5)), (35, V.ptr 2 3), (36, V.ow 4), (37, V.ep 4 1 0 0), (38, V.sc (.int .i64 x2)), (39, V.sc (.int .i64 amount)), (40, V.sc (.int .i64 r6)), (41, V.ep 3 1 0 0), (42, V.ep 4 1 0 0)] [Blk.box 51 [V.sc (.int .i64 r_.Span), V.sc (.int .i64 r_.Head), V.sl false 3 (List.map E3 r_.Counts), V.sl false 3 (List.map E3 r_.Sums)], Blk.box 51 [V.sc (.int .i64 0), V.sc (.int .i64 0), V.nl 3, V.nl 3], Blk.box 51 [V.sc (.int .i64 r4.Span), V.sc (.int .i64 r4.Head), V.ow 3, V.ow 4], Blk.row 3 (List.map E3 (r4.Counts.set 0 r5)) [], Blk.row 3 (List.map E3 (r4.Sums.set 0 r6)) []] [] = st 44 [(0, V.agg [V.sc (.int .i64 r_.Span), V.sc (.int .i64 r_.Head), V.sl false 3 (List.map E3 r_.Counts), V.sl false 3 (List.map E3 r_.Sums)]), (1, V.sc (.int .i64 now)), (2, V.sc (.int .i64 amount)), (3, V.ptr 0 0), (6, V.ptr 1 0), (7, V.ptr 2 0), (8, V.agg [V.sc (.int .i64 r_.Span), V.sc (.int .i64 r_.Head), V.sl false 3 (List.map E3 r_.Counts), V.sl false 3 (List.map E3 r_.Sums)]), (9, V.sc (.bool r1)), (10, V.sc (.bool (!r1))), (11, V.sc (.bool (!r1))), (12, V.sc (.int .i64 now)), (13, V.sc (.bool r2)), (14, V.sc (.bool (!r2))), (15, V.sc (.bool (!r2))), (16, V.sc (.bool (!r2))), (17, V.sc (.int .i64 amount)), (18, V.sc (.bool r3)), (19, V.sc (.bool (!r3))), (20, V.sc (.bool (!r3))), (23, V.agg [V.sc (.int .i64 r_.Span), V.sc (.int .i64 r_.Head), V.sl false 3 (List.map E3 r_.Counts), V.sl false 3 (List.map E3 r_.Sums)]), (24, V.sc (.int .i64 now)), (25, V.agg [V.sc (.int .i64 r4.Span), V.sc (.int .i64 r4.Head), V.ow 3, V.ow 4]), (26, V.ptr 2 2), (27, V.ow 3), (28, V.ptr 2 3), (29, V.ow 4), (30, V.ptr 2 2), (31, V.ow 3), (32, V.ep 3 1 0 0), (33, V.sc (.int .i64 x1)), (34, V.sc (.int .i64 r5)), (35, V.ptr 2 3), (36, V.ow 4), (37, V.ep 4 1 0 0), (38, V.sc (.int .i64 x2)), (39, V.sc (.int .i64 amount)), (40, V.sc (.int .i64 r6)), (41, V.ep 3 1 0 0), (42, V.ep 4 1 0 0)] [Blk.box 51 [V.sc (.int .i64 r_.Span), V.sc (.int .i64 r_.Head), V.sl false 3 (List.map E3 r_.Counts), V.sl false 3 (List.map E3 r_.Sums)], Blk.box 51 [V.sc (.int .i64 0), V.sc (.int .i64 0), V.nl 3, V.nl 3], Blk.box 51 [V.sc (.int .i64 r4.Span), V.sc (.int .i64 r4.Head), V.ow 3, V.ow 4], Blk.row 3 (List.map E3 (r4.Counts.set 0 r5)) [], Blk.row 3 (List.map E3 (r4.Sums.set 0 r6)) []] [],
               look [] 0 = none,
               (List.map E3 r4.Counts)[0]? = some (E3 x1),
               Blk.row 3 ((List.map E3 r4.Counts).set 0 (V.sc (.int .i64 r5))) [] = Blk.row 3 (List.map E3 (r4.Counts.set 0 r5)) [],
               (0 : Int) ≤ 0,
               (0 : Int) < ((List.map E3 r4.Sums).length : Int),
               look [] 0 = none,
               (List.map E3 r4.Sums)[0]? = some (E3 x2),
               Blk.row 3 ((List.map E3 r4.Sums).set 0 (V.sc (.int .i64 r6))) [] = Blk.row 3 (List.map E3 (r4.Sums.set 0 r6)) [],
               st 44 [(0, V.agg [V.sc (.int .i64 r_.Span), V.sc (.int .i64 r_.Head), V.sl false 3 (List.map E3 r_.Counts), V.sl false 3 (List.map E3 r_.Sums)]), (1, V.sc (.int .i64 now)), (2, V.sc (.int .i64 amount)), (3, V.ptr 0 0), (6, V.ptr 1 0), (7, V.ptr 2 0), (8, V.agg [V.sc (.int .i64 r_.Span), V.sc (.int .i64 r_.Head), V.sl false 3 (List.map E3 r_.Counts), V.sl false 3 (List.map E3 r_.Sums)]), (9, V.sc (.bool r1)), (10, V.sc (.bool (!r1))), (11, V.sc (.bool (!r1))), (12, V.sc (.int .i64 now)), (13, V.sc (.bool r2)), (14, V.sc (.bool (!r2))), (15, V.sc (.bool (!r2))), (16, V.sc (.bool (!r2))), (17, V.sc (.int .i64 amount)), (18, V.sc (.bool r3)), (19, V.sc (.bool (!r3))), (20, V.sc (.bool (!r3))), (23, V.agg [V.sc (.int .i64 r_.Span), V.sc (.int .i64 r_.Head), V.sl false 3 (List.map E3 r_.Counts), V.sl false 3 (List.map E3 r_.Sums)]), (24, V.sc (.int .i64 now)), (25, V.agg [V.sc (.int .i64 r4.Span), V.sc (.int .i64 r4.Head), V.ow 3, V.ow 4]), (26, V.ptr 2 2), (27, V.ow 3), (28, V.ptr 2 3), (29, V.ow 4), (30, V.ptr 2 2), (31, V.ow 3), (32, V.ep 3 1 0 0), (33, V.sc (.int .i64 x1)), (34, V.sc (.int .i64 r5)), (35, V.ptr 2 3), (36, V.ow 4), (37, V.ep 4 1 0 0), (38, V.sc (.int .i64 x2)), (39, V.sc (.int .i64 amount)), (40, V.sc (.int .i64 r6)), (41, V.ep 3 1 0 0), (42, V.ep 4 1 0 0)] [Blk.box 51 [V.sc (.int .i64 r_.Span), V.sc (.int .i64 r_.Head), V.sl false 3 (List.map E3 r_.Counts), V.sl false 3 (List.map E3 r_.Sums)], Blk.box 51 [V.sc (.int .i64 0), V.sc (.int .i64 0), V.nl 3, V.nl 3], Blk.box 51 [V.sc (.int .i64 r4.Span), V.sc (.int .i64 r4.Head), V.ow 3, V.ow 4], Blk.row 3 (List.map E3 (r4.Counts.set 0 r5)) [], Blk.row 3 (List.map E3 (r4.Sums.set 0 r6)) []] [] = st 44 [(0, V.agg [V.sc (.int .i64 r_.Span), V.sc (.int .i64 r_.Head), V.sl false 3 (List.map E3 r_.Counts), V.sl false 3 (List.map E3 r_.Sums)]), (1, V.sc (.int .i64 now)), (2, V.sc (.int .i64 amount)), (3, V.ptr 0 0), (6, V.ptr 1 0), (7, V.ptr 2 0), (8, V.agg [V.sc (.int .i64 r_.Span), V.sc (.int .i64 r_.Head), V.sl false 3 (List.map E3 r_.Counts), V.sl false 3 (List.map E3 r_.Sums)]), (9, V.sc (.bool r1)), (10, V.sc (.bool (!r1))), (11, V.sc (.bool (!r1))), (12, V.sc (.int .i64 now)), (13, V.sc (.bool r2)), (14, V.sc (.bool (!r2))), (15, V.sc (.bool (!r2))), (16, V.sc (.bool (!r2))), (17, V.sc (.int .i64 amount)), (18, V.sc (.bool r3)), (19, V.sc (.bool (!r3))), (20, V.sc (.bool (!r3))), (23, V.agg [V.sc (.int .i64 r_.Span), V.sc (.int .i64 r_.Head), V.sl false 3 (List.map E3 r_.Counts), V.sl false 3 (List.map E3 r_.Sums)]), (24, V.sc (.int .i64 now)), (25, V.agg [V.sc (.int .i64 r4.Span), V.sc (.int .i64 r4.Head), V.ow 3, V.ow 4]), (26, V.ptr 2 2), (27, V.ow 3), (28, V.ptr 2 3), (29, V.ow 4), (30, V.ptr 2 2), (31, V.ow 3), (32, V.ep 3 1 0 0), (33, V.sc (.int .i64 x1)), (34, V.sc (.int .i64 r5)), (35, V.ptr 2 3), (36, V.ow 4), (37, V.ep 4 1 0 0), (38, V.sc (.int .i64 x2)), (39, V.sc (.int .i64 amount)), (40, V.sc (.int .i64 r6)), (41, V.ep 3 1 0 0), (42, V.ep 4 1 0 0)] [Blk.box 51 [V.sc (.int .i64 r_.Span), V.sc (.int .i64 r_.Head), V.sl false 3 (List.map E3 r_.Counts), V.sl false 3 (List.map E3 r_.Sums)], Blk.box 51 [V.sc (.int .i64 0), V.sc (.int .i64 0), V.nl 3, V.nl 3], Blk.box 51 [V.sc (.int .i64 r4.Span), V.sc (.int .i64 r4.Head), V.ow 3, V.ow 4], Blk.row 3 (List.map E3 (r4.Counts.set 0 r5)) [], Blk.row 3 (List.map E3 (r4.Sums.set 0 r6)) []] [],
               st 44 [(0, V.agg [V.sc (.int .i64 r_.Span), V.sc (.int .i64 r_.Head), V.sl false 3 (List.map E3 r_.Counts), V.sl false 3 (List.map E3 r_.Sums)]), (1, V.sc (.int .i64 now)), (2, V.sc (.int .i64 amount)), (3, V.ptr 0 0), (6, V.ptr 1 0), (7, V.ptr 2 0), (8, V.agg [V.sc (.int .i64 r_.Span), V.sc (.int .i64 r_.Head), V.sl false 3 (List.map E3 r_.Counts), V.sl false 3 (List.map E3 r_.Sums)]), (9, V.sc (.bool r1)), (10, V.sc (.bool (!r1))), (11, V.sc (.bool (!r1))), (12, V.sc (.int .i64 now)), (13, V.sc (.bool r2)), (14, V.sc (.bool (!r2))), (15, V.sc (.bool (!r2))), (16, V.sc (.bool (!r2))), (17, V.sc (.int .i64 amount)), (18, V.sc (.bool r3)), (19, V.sc (.bool (!r3))), (20, V.sc (.bool (!r3))), (23, V.agg [V.sc (.int .i64 r_.Span), V.sc (.int .i64 r_.Head), V.sl false 3 (List.map E3 r_.Counts), V.sl false 3 (List.map E3 r_.Sums)]), (24, V.sc (.int .i64 now)), (25, V.agg [V.sc (.int .i64 r4.Span), V.sc (.int .i64 r4.Head), V.ow 3, V.ow 4]), (26, V.ptr 2 2), (27, V.ow 3), (28, V.ptr 2 3), (29, V.ow 4), (30, V.ptr 2 2), (31, V.ow 3), (32, V.ep 3 1 0 0), (33, V.sc (.int .i64 x1)), (34, V.sc (.int .i64 r5)), (35, V.ptr 2 3), (36, V.ow 4), (37, V.ep 4 1 0 0), (38, V.sc (.int .i64 x2)), (39, V.sc (.int .i64 amount)), (40, V.sc (.int .i64 r6)), (41, V.ep 3 1 0 0), (42, V.ep 4 1 0 0)] [Blk.box 51 [V.sc (.int .i64 r_.Span), V.sc (.int .i64 r_.Head), V.sl false 3 (List.map E3 r_.Counts), V.sl false 3 (List.map E3 r_.Sums)], Blk.box 51 [V.sc (.int .i64 0), V.sc (.int .i64 0), V.nl 3, V.nl 3], Blk.box 51 [V.sc (.int .i64 r4.Span), V.sc (.int .i64 r4.Head), V.ow 3, V.ow 4], Blk.row 3 (List.map E3 (r4.Counts.set 0 r5)) [], Blk.row 3 (List.map E3 (r4.Sums.set 0 r6)) []] [] = st 44 [(0, V.agg [V.sc (.int .i64 r_.Span), V.sc (.int .i64 r_.Head), V.sl false 3 (List.map E3 r_.Counts), V.sl false 3 (List.map E3 r_.Sums)]), (1, V.sc (.int .i64 now)), (2, V.sc (.int .i64 amount)), (3, V.ptr 0 0), (6, V.ptr 1 0), (7, V.ptr 2 0), (8, V.agg [V.sc (.int .i64 r_.Span), V.sc (.int .i64 r_.Head), V.sl false 3 (List.map E3 r_.Counts), V.sl false 3 (List.map E3 r_.Sums)]), (9, V.sc (.bool r1)), (10, V.sc (.bool (!r1))), (11, V.sc (.bool (!r1))), (12, V.sc (.int .i64 now)), (13, V.sc (.bool r2)), (14, V.sc (.bool (!r2))), (15, V.sc (.bool (!r2))), (16, V.sc (.bool (!r2))), (17, V.sc (.int .i64 amount)), (18, V.sc (.bool r3)), (19, V.sc (.bool (!r3))), (20, V.sc (.bool (!r3))), (23, V.agg [V.sc (.int .i64 r_.Span), V.sc (.int .i64 r_.Head), V.sl false 3 (List.map E3 r_.Counts), V.sl false 3 (List.map E3 r_.Sums)]), (24, V.sc (.int .i64 now)), (25, V.agg [V.sc (.int .i64 r4.Span), V.sc (.int .i64 r4.Head), V.ow 3, V.ow 4]), (26, V.ptr 2 2), (27, V.ow 3), (28, V.ptr 2 3), (29, V.ow 4), (30, V.ptr 2 2), (31, V.ow 3), (32, V.ep 3 1 0 0), (33, V.sc (.int .i64 x1)), (34, V.sc (.int .i64 r5)), (35, V.ptr 2 3), (36, V.ow 4), (37, V.ep 4 1 0 0), (38, V.sc (.int .i64 x2)), (39, V.sc (.int .i64 amount)), (40, V.sc (.int .i64 r6)), (41, V.ep 3 1 0 0), (42, V.ep 4 1 0 0)] [Blk.box 51 [V.sc (.int .i64 r_.Span), V.sc (.int .i64 r_.Head), V.sl false 3 (List.map E3 r_.Counts), V.sl false 3 (List.map E3 r_.Sums)], Blk.box 51 [V.sc (.int .i64 0), V.sc (.int .i64 0), V.nl 3, V.nl 3], Blk.box 51 [V.sc (.int .i64 r4.Span), V.sc (.int .i64 r4.Head), V.ow 3, V.ow 4], Blk.row 3 (List.map E3 (r4.Counts.set 0 r5)) [], Blk.row 3 (List.map E3 (r4.Sums.set 0 r6)) []] [],
               st 44 [(0, V.agg [V.sc (.int .i64 r_.Span), V.sc (.int .i64 r_.Head), V.sl false 3 (List.map E3 r_.Counts), V.sl false 3 (List.map E3 r_.Sums)]), (1, V.sc (.int .i64 now)), (2, V.sc (.int .i64 amount)), (3, V.ptr 0 0), (6, V.ptr 1 0), (7, V.ptr 2 0), (8, V.agg [V.sc (.int .i64 r_.Span), V.sc (.int .i64 r_.Head), V.sl false 3 (List.map E3 r_.Counts), V.sl false 3 (List.map E3 r_.Sums)]), (9, V.sc (.bool r1)), (10, V.sc (.bool (!r1))), (11, V.sc (.bool (!r1))), (12, V.sc (.int .i64 now)), (13, V.sc (.bool r2)), (14, V.sc (.bool (!r2))), (15, V.sc (.bool (!r2))), (16, V.sc (.bool (!r2))), (17, V.sc (.int .i64 amount)), (18, V.sc (.bool r3)), (19, V.sc (.bool (!r3))), (20, V.sc (.bool (!r3))), (23, V.agg [V.sc (.int .i64 r_.Span), V.sc (.int .i64 r_.Head), V.sl false 3 (List.map E3 r_.Counts), V.sl false 3 (List.map E3 r_.Sums)]), (24, V.sc (.int .i64 now)), (25, V.agg [V.sc (.int .i64 r4.Span), V.sc (.int .i64 r4.Head), V.ow 3, V.ow 4]), (26, V.ptr 2 2), (27, V.ow 3), (28, V.ptr 2 3), (29, V.ow 4), (30, V.ptr 2 2), (31, V.ow 3), (32, V.ep 3 1 0 0), (33, V.sc (.int .i64 x1)), (34, V.sc (.int .i64 r5)), (35, V.ptr 2 3), (36, V.ow 4), (37, V.ep 4 1 0 0), (38, V.sc (.int .i64 x2)), (39, V.sc (.int .i64 amount)), (40, V.sc (.int .i64 r6)), (41, V.ep 3 1 0 0), (42, V.ep 4 1 0 0)] [Blk.box 51 [V.sc (.int .i64 r_.Span), V.sc (.int .i64 r_.Head), V.sl false 3 (List.map E3 r_.Counts), V.sl false 3 (List.map E3 r_.Sums)], Blk.box 51 [V.sc (.int .i64 0), V.sc (.int .i64 0), V.nl 3, V.nl 3], Blk.box 51 [V.sc (.int .i64 r4.Span), V.sc (.int .i64 r4.Head), V.ow 3, V.ow 4], Blk.row 3 (List.map E3 (r4.Counts.set 0 r5)) [], Blk.row 3 (List.map E3 (r4.Sums.set 0 r6)) []] [] = st 44 [(0, V.agg [V.sc (.int .i64 r_.Span), V.sc (.int .i64 r_.Head), V.sl false 3 (List.map E3 r_.Counts), V.sl false 3 (List.map E3 r_.Sums)]), (1, V.sc (.int .i64 now)), (2, V.sc (.int .i64 amount)), (3, V.ptr 0 0), (6, V.ptr 1 0), (7, V.ptr 2 0), (8, V.agg [V.sc (.int .i64 r_.Span), V.sc (.int .i64 r_.Head), V.sl false 3 (List.map E3 r_.Counts), V.sl false 3 (List.map E3 r_.Sums)]), (9, V.sc (.bool r1)), (10, V.sc (.bool (!r1))), (11, V.sc (.bool (!r1))), (12, V.sc (.int .i64 now)), (13, V.sc (.bool r2)), (14, V.sc (.bool (!r2))), (15, V.sc (.bool (!r2))), (16, V.sc (.bool (!r2))), (17, V.sc (.int .i64 amount)), (18, V.sc (.bool r3)), (19, V.sc (.bool (!r3))), (20, V.sc (.bool (!r3))), (23, V.agg [V.sc (.int .i64 r_.Span), V.sc (.int .i64 r_.Head), V.sl false 3 (List.map E3 r_.Counts), V.sl false 3 (List.map E3 r_.Sums)]), (24, V.sc (.int .i64 now)), (25, V.agg [V.sc (.int .i64 r4.Span), V.sc (.int .i64 r4.Head), V.ow 3, V.ow 4]), (26, V.ptr 2 2), (27, V.ow 3), (28, V.ptr 2 3), (29, V.ow 4), (30, V.ptr 2 2), (31, V.ow 3), (32, V.ep 3 1 0 0), (33, V.sc (.int .i64 x1)), (34, V.sc (.int .i64 r5)), (35, V.ptr 2 3), (36, V.ow 4), (37, V.ep 4 1 0 0), (38, V.sc (.int .i64 x2)), (39, V.sc (.int .i64 amount)), (40, V.sc (.int .i64 r6)), (41, V.ep 3 1 0 0), (42, V.ep 4 1 0 0)] [Blk.box 51 [V.sc (.int .i64 r_.Span), V.sc (.int .i64 r_.Head), V.sl false 3 (List.map E3 r_.Counts), V.sl false 3 (List.map E3 r_.Sums)], Blk.box 51 [V.sc (.int .i64 0), V.sc (.int .i64 0), V.nl 3, V.nl 3], Blk.box 51 [V.sc (.int .i64 r4.Span), V.sc (.int .i64 r4.Head), V.ow 3, V.ow 4], Blk.row 3 (List.map E3 (r4.Counts.set 0 r5)) [], Blk.row 3 (List.map E3 (r4.Sums.set 0 r6)) []] []]) (by kernel_rfl) (cj (impl_RingOk_ok r_ r1 h1) (cj rfl (cj (nf h2) (cj (nf h2) (cj (impl_isTime_ok now r2 h3) (cj rfl (cj (nf h2) (cj (nf h2) (cj (nf h4) (cj (nf h4) (cj (impl_isMoney_ok amount r3 h5) (cj rfl (cj (nf h4) (cj (nf h4) (cj (nf h6) (cj (impl_RingRoll_ok r_ now r4 h7) (cj rfl (cj (by decide) (cj (map_ltN (by decide) h8) (cj rfl (cj (map_get h8) (cj (by decide) (cj (map_ltN (by decide) h9) (cj rfl (cj (map_get h9) (cj (impl_AddSat_ok x1 1 r5 h10) (cj rfl (cj (impl_AddSat_ok x2 amount r6 h11) (cj rfl (cj (by decide) (cj (map_ltN (by decide) h8) (cj rfl (cj (map_get h8) (cj (nb_set E3 _ _ r5) (cj (by decide) (cj (map_ltN (by decide) h9) (cj rfl (cj (map_get h9) (cj (nb_set E3 _ _ r6) (cj rfl (cj (impl_AddSat_ok x1 1 r5 h10) (cj rfl (cj (impl_AddSat_ok x2 amount r6 h11) (cj rfl (cj (by decide) (cj (map_ltN (by decide) h8) (cj rfl (cj (map_get h8) (cj (nb_set E3 _ _ r5) (cj (by decide) (cj (map_ltN (by decide) h9) (cj rfl (cj (map_get h9) (cj (nb_set E3 _ _ r6) (cj rfl (cj (impl_AddSat_ok x2 amount r6 h11) (cj rfl (cj (by decide) (cj (map_ltN (by decide) h8) (cj rfl (cj (map_get h8) (cj (nb_set E3 _ _ r5) (cj (by decide) (cj (map_ltN (by decide) h9) (cj rfl (cj (map_get h9) (cj (nb_set E3 _ _ r6) (cj rfl (cj rfl (cj (map_get h8) (cj (nb_set E3 _ _ r5) (cj (by decide) (cj (map_ltN (by decide) h9) (cj rfl (cj (map_get h9) (cj (nb_set E3 _ _ r6) (cj rfl (cj rfl (cj rfl (cj rfl (cj (impl_AddSat_ok x1 1 r5 h10) (cj rfl (cj (impl_AddSat_ok x2 amount r6 h11) (cj rfl (cj (by decide) (cj (map_ltN (by decide) h8) (cj rfl (cj (map_get h8) (cj (nb_set E3 _ _ r5) (cj (by decide) (cj (map_ltN (by decide) h9) (cj rfl (cj (map_get h9) (cj (nb_set E3 _ _ r6) (cj rfl (cj (impl_AddSat_ok x2 amount r6 h11) (cj rfl (cj (by decide) (cj (map_ltN (by decide) h8) (cj rfl (cj (map_get h8) (cj (nb_set E3 _ _ r5) (cj (by decide) (cj (map_ltN (by decide) h9) (cj rfl (cj (map_get h9) (cj (nb_set E3 _ _ r6) (cj rfl (cj rfl (cj (map_get h8) (cj (nb_set E3 _ _ r5) (cj (by decide) (cj (map_ltN (by decide) h9) (cj rfl (cj (map_get h9) (cj (nb_set E3 _ _ r6) (cj rfl (cj rfl (cj rfl (cj (impl_AddSat_ok x2 amount r6 h11) (cj rfl (cj (by decide) (cj (map_ltN (by decide) h8) (cj rfl (cj (map_get h8) (cj (nb_set E3 _ _ r5) (cj (by decide) (cj (map_ltN (by decide) h9) (cj rfl (cj (map_get h9) (cj (nb_set E3 _ _ r6) (cj rfl (cj rfl (cj (map_get h8) (cj (nb_set E3 _ _ r5) (cj (by decide) (cj (map_ltN (by decide) h9) (cj rfl (cj (map_get h9) (cj (nb_set E3 _ _ r6) (cj rfl (cj rfl (cj rfl (cj (map_get h8) (cj (nb_set E3 _ _ r5) (cj (by decide) (cj (map_ltN (by decide) h9) (cj rfl (cj (map_get h9) (cj (nb_set E3 _ _ r6) (cj rfl (cj rfl (cj1 rfl)))))))))))))))))))))))))))))))))))))))))))))))))))))))))))))))))))))))))))))))))))))))))))))))))))))))))))))))))))))))))))))))))))))))))))))))))))))))))))))))) (fun h6 =>
         Pn.bind (fun r7 h12 =>
          Pn.some (Fn.of [.call [] (E4 r1) [], .bit false, .bit false, .call [] (E4 r2) [], .bit false, .bit false, .bit false, .bit false, .call [] (E4 r3) [], .bit false, .bit false, .bit true, .call [] (E51 r7) []] (p := [Fn Try.prog 90 [(false, E51 r_)] (E4 r1) [],
           (true || ((E4 r1).nv && nvL [])) = true,
           (!r1) = false,
           (!r1) = false,
           Fn Try.prog 93 [(false, E3 now)] (E4 r2) [],
           (true || ((E4 r2).nv && nvL [])) = true,
           (!r1) = false,
           (!r1) = false,
           (!r2) = false,
           (!r2) = false,
           Fn Try.prog 88 [(false, E3 amount)] (E4 r3) [],
           (true || ((E4 r3).nv && nvL [])) = true,
           (!r2) = false,
           (!r2) = false,
           (!r3) = true,
           Fn Try.prog 127 [(false, E51 r_)] (E51 r7) [],
           (true || ((E51 r7).nv && nvL [])) = true]) (by kernel_rfl) (cj (impl_RingOk_ok r_ r1 h1) (cj rfl (cj (nf h2) (cj (nf h2) (cj (impl_isTime_ok now r2 h3) (cj rfl (cj (nf h2) (cj (nf h2) (cj (nf h4) (cj (nf h4) (cj (impl_isMoney_ok amount r3 h5) (cj rfl (cj (nf h4) (cj (nf h4) (cj (nt h6) (cj (impl_Ring_copied_ok r_ r7 h12) (cj1 rfl)))))))))))))))))))))) (fun h4 =>
       Pn.bind (fun r8 h13 =>
        Pn.some (Fn.of [.call [] (E4 r1) [], .bit false, .bit false, .call [] (E4 r2) [], .bit false, .bit false, .bit true, .bit true, .bit true, .bit true, .bit true, .call [] (E51 r8) []] (p := [Fn Try.prog 90 [(false, E51 r_)] (E4 r1) [],
         (true || ((E4 r1).nv && nvL [])) = true,
         (!r1) = false,
         (!r1) = false,
         Fn Try.prog 93 [(false, E3 now)] (E4 r2) [],
         (true || ((E4 r2).nv && nvL [])) = true,
         (!r1) = false,
         (!r1) = false,
         (!r2) = true,
         (!r2) = true,
         (!r2) = true,
         (!r2) = true,
         true = true,
         Fn Try.prog 127 [(false, E51 r_)] (E51 r8) [],
         (true || ((E51 r8).nv && nvL [])) = true]) (by kernel_rfl) (cj (impl_RingOk_ok r_ r1 h1) (cj rfl (cj (nf h2) (cj (nf h2) (cj (impl_isTime_ok now r2 h3) (cj rfl (cj (nf h2) (cj (nf h2) (cj (nt h4) (cj (nt h4) (cj (nt h4) (cj (nt h4) (cj rfl (cj (impl_Ring_copied_ok r_ r8 h13) (cj1 rfl)))))))))))))))))))) (fun h2 =>
     Pn.bind (fun r9 h14 =>
      Pn.some (Fn.of [.call [] (E4 r1) [], .bit true, .bit true, .bit true, .bit true, .bit true, .bit true, .bit true, .bit true, .bit true, .call [] (E51 r9) []] (p := [Fn Try.prog 90 [(false, E51 r_)] (E4 r1) [],
       (true || ((E4 r1).nv && nvL [])) = true,
       (!r1) = true,
       (!r1) = true,
       (!r1) = true,
       (!r1) = true,
       true = true,
       true = true,
       true = true,
       true = true,
       true = true,
       Fn Try.prog 127 [(false, E51 r_)] (E51 r9) [],
       (true || ((E51 r9).nv && nvL [])) = true]) (by kernel_rfl) (cj (impl_RingOk_ok r_ r1 h1) (cj rfl (cj (nt h2) (cj (nt h2) (cj (nt h2) (cj (nt h2) (cj rfl (cj rfl (cj rfl (cj rfl (cj rfl (cj (impl_Ring_copied_ok r_ r9 h14) (cj1 rfl)))))))))))))))))
def impl_More (a : Acct) (id : ByteArray) (amount : Int) (now : Int) : Option (Acct × Int) :=
 (impl_holdOf a id amount now).bind fun r1 =>
 if (r1.2.2 == 0) = true then
  (impl_checks r1.1 amount now).bind fun r2 =>
  if (r2 != 0) = true then
   some ((Acct.mk ByteArray.empty 0 0 0 0 [] (Ring.mk 0 0 [] []) []), r2)
  else
   if (decide (0 ≤ r1.2.1)) = true then
    (r1.1.Holds[r1.2.1.toNat]?).bind fun x1 =>
    (impl_RingAdd r1.1.Ring now amount).bind fun r3 =>
    some ((Acct.mk r1.1.Id r1.1.Limit r1.1.Posted r1.1.Most r1.1.MostSum (r1.1.Holds.set r1.2.1.toNat (Hold.mk x1.Id (i64 (x1.Amount + amount)) x1.Due)) r3 r1.1.Slots), 0)
   else none
 else
  if (r1.2.2 != 0) = true then
   some ((Acct.mk ByteArray.empty 0 0 0 0 [] (Ring.mk 0 0 [] []) []), r1.2.2)
  else
   if (decide (0 ≤ r1.2.1)) = true then
    (r1.1.Holds[r1.2.1.toNat]?).bind fun x2 =>
    (impl_RingAdd r1.1.Ring now amount).bind fun r4 =>
    some ((Acct.mk r1.1.Id r1.1.Limit r1.1.Posted r1.1.Most r1.1.MostSum (r1.1.Holds.set r1.2.1.toNat (Hold.mk x2.Id (i64 (x2.Amount + amount)) x2.Due)) r4 r1.1.Slots), 0)
   else none
theorem impl_More_ok (a : Acct) (id : ByteArray) (amount : Int) (now : Int) : Pn (fun y => Fn Try.prog 39 [(false, E54 a), (false, E9 id), (false, E3 amount), (false, E3 now)] (V.tup [E54 y.1, E3 y.2]) []) (impl_More a id amount now) := by
  unfold impl_More
  exact
   Pn.bind (fun r1 h1 =>
    Pn.ite (fun h2 =>
     Pn.bind (fun r2 h3 =>
      Pn.ite (fun h4 =>
       Pn.some (Fn.of [.call [] (V.tup [E54 r1.1, E3 r1.2.1, E3 r1.2.2]) [], .bit true, .call [] (E3 r2) [], .bit true] (p := [Fn Try.prog 84 [(false, E54 a), (false, E9 id), (false, E3 amount), (false, E3 now)] (V.tup [E54 r1.1, E3 r1.2.1, E3 r1.2.2]) [],
        (true || ((V.tup [E54 r1.1, E3 r1.2.1, E3 r1.2.2]).nv && nvL [])) = true,
        (r1.2.2 == 0) = true,
        Fn Try.prog 96 [(false, E54 r1.1), (false, E3 amount), (false, E3 now)] (E3 r2) [],
        (false || ((E3 r2).nv && nvL [])) = true,
        (r2 != 0) = true]) (by kernel_rfl) (cj (impl_holdOf_ok a id amount now r1 h1) (cj rfl (cj h2 (cj (impl_checks_ok r1.1 amount now r2 h3) (cj (by simp [V.nv, nvL, nvL_all, nv_E3]) (cj1 h4)))))))) (fun h4 =>
       Pn.ite (fun h5 =>
        Pn.bind (fun x1 h6 =>
         Pn.bind (fun r3 h7 =>
          Pn.some (Fn.of [.call [] (V.tup [E54 r1.1, E3 r1.2.1, E3 r1.2.2]) [], .bit true, .call [] (E3 r2) [], .bit false, .el (E61 x1), .el (E61 x1), .nb 2 (.row 61 (List.map E61 (r1.1.Holds.set r1.2.1.toNat (Hold.mk x1.Id (i64 (x1.Amount + amount)) x1.Due))) []), .call [] (E51 r3) []] (p := [Fn Try.prog 84 [(false, E54 a), (false, E9 id), (false, E3 amount), (false, E3 now)] (V.tup [E54 r1.1, E3 r1.2.1, E3 r1.2.2]) [],
           (true || ((V.tup [E54 r1.1, E3 r1.2.1, E3 r1.2.2]).nv && nvL [])) = true,
           (r1.2.2 == 0) = true,
           Fn Try.prog 96 [(false, E54 r1.1), (false, E3 amount), (false, E3 now)] (E3 r2) [],
           (false || ((E3 r2).nv && nvL [])) = true,
           (r2 != 0) = false,
           (0 : Int) ≤ r1.2.1,
           (r1.2.1 : Int) < ((List.map E61 r1.1.Holds).length : Int),
           look [] r1.2.1.toNat = none,
           (List.map E61 r1.1.Holds)[r1.2.1.toNat]? = some (E61 x1),
           (0 : Int) ≤ r1.2.1,
           (r1.2.1 : Int) < ((List.map E61 r1.1.Holds).length : Int),
           look [] r1.2.1.toNat = none,
           (List.map E61 r1.1.Holds)[r1.2.1.toNat]? = some (E61 x1),
           Blk.row 61 ((List.map E61 r1.1.Holds).set r1.2.1.toNat (V.agg [V.sc (.string x1.Id), V.sc (.int .i64 (i64 (x1.Amount + amount))), V.sc (.int .i64 x1.Due)])) [] = Blk.row 61 (List.map E61 (r1.1.Holds.set r1.2.1.toNat (Hold.mk x1.Id (i64 (x1.Amount + amount)) x1.Due))) [],
           Fn Try.prog 97 [(false, E51 r1.1.Ring), (false, E3 now), (false, E3 amount)] (E51 r3) [],
           (false || ((E51 r3).nv && nvL [])) = true]) (by kernel_rfl) (cj (impl_holdOf_ok a id amount now r1 h1) (cj rfl (cj h2 (cj (impl_checks_ok r1.1 amount now r2 h3) (cj (by simp [V.nv, nvL, nvL_all, nv_E3]) (cj h4 (cj (od h5) (cj (map_ltN (od h5) h6) (cj rfl (cj (map_get h6) (cj (od h5) (cj (map_ltN (od h5) h6) (cj rfl (cj (map_get h6) (cj (nb_set E61 _ _ (Hold.mk x1.Id (i64 (x1.Amount + amount)) x1.Due)) (cj (impl_RingAdd_ok r1.1.Ring now amount r3 h7) (cj1 (by simp [V.nv, nvL, nvL_all, nv_E3, nv_E49, nv_E51])))))))))))))))))))))) (fun h5 =>
        Pn.none)))) (fun h2 =>
     Pn.ite (fun h8 =>
      Pn.some (Fn.of [.call [] (V.tup [E54 r1.1, E3 r1.2.1, E3 r1.2.2]) [], .bit false, .bit true] (p := [Fn Try.prog 84 [(false, E54 a), (false, E9 id), (false, E3 amount), (false, E3 now)] (V.tup [E54 r1.1, E3 r1.2.1, E3 r1.2.2]) [],
       (true || ((V.tup [E54 r1.1, E3 r1.2.1, E3 r1.2.2]).nv && nvL [])) = true,
       (r1.2.2 == 0) = false,
       (r1.2.2 != 0) = true]) (by kernel_rfl) (cj (impl_holdOf_ok a id amount now r1 h1) (cj rfl (cj h2 (cj1 h8)))))) (fun h8 =>
      Pn.ite (fun h9 =>
       Pn.bind (fun x2 h10 =>
        Pn.bind (fun r4 h11 =>
         Pn.some (Fn.of [.call [] (V.tup [E54 r1.1, E3 r1.2.1, E3 r1.2.2]) [], .bit false, .bit false, .el (E61 x2), .el (E61 x2), .nb 2 (.row 61 (List.map E61 (r1.1.Holds.set r1.2.1.toNat (Hold.mk x2.Id (i64 (x2.Amount + amount)) x2.Due))) []), .call [] (E51 r4) []] (p := [Fn Try.prog 84 [(false, E54 a), (false, E9 id), (false, E3 amount), (false, E3 now)] (V.tup [E54 r1.1, E3 r1.2.1, E3 r1.2.2]) [],
          (true || ((V.tup [E54 r1.1, E3 r1.2.1, E3 r1.2.2]).nv && nvL [])) = true,
          (r1.2.2 == 0) = false,
          (r1.2.2 != 0) = false,
          (0 : Int) ≤ r1.2.1,
          (r1.2.1 : Int) < ((List.map E61 r1.1.Holds).length : Int),
          look [] r1.2.1.toNat = none,
          (List.map E61 r1.1.Holds)[r1.2.1.toNat]? = some (E61 x2),
          (0 : Int) ≤ r1.2.1,
          (r1.2.1 : Int) < ((List.map E61 r1.1.Holds).length : Int),
          look [] r1.2.1.toNat = none,
          (List.map E61 r1.1.Holds)[r1.2.1.toNat]? = some (E61 x2),
          Blk.row 61 ((List.map E61 r1.1.Holds).set r1.2.1.toNat (V.agg [V.sc (.string x2.Id), V.sc (.int .i64 (i64 (x2.Amount + amount))), V.sc (.int .i64 x2.Due)])) [] = Blk.row 61 (List.map E61 (r1.1.Holds.set r1.2.1.toNat (Hold.mk x2.Id (i64 (x2.Amount + amount)) x2.Due))) [],
          Fn Try.prog 97 [(false, E51 r1.1.Ring), (false, E3 now), (false, E3 amount)] (E51 r4) [],
          (false || ((E51 r4).nv && nvL [])) = true]) (by kernel_rfl) (cj (impl_holdOf_ok a id amount now r1 h1) (cj rfl (cj h2 (cj h8 (cj (od h9) (cj (map_ltN (od h9) h10) (cj rfl (cj (map_get h10) (cj (od h9) (cj (map_ltN (od h9) h10) (cj rfl (cj (map_get h10) (cj (nb_set E61 _ _ (Hold.mk x2.Id (i64 (x2.Amount + amount)) x2.Due)) (cj (impl_RingAdd_ok r1.1.Ring now amount r4 h11) (cj1 (by simp [V.nv, nvL, nvL_all, nv_E3, nv_E49, nv_E51])))))))))))))))))))) (fun h9 =>
       Pn.none))))
def impl_HoldDrop_1 (h_ : Hold) (c0_0 : ByteArray) : Option (Bool) :=
 some (h_.Id == c0_0)
theorem impl_HoldDrop_1_ok (h_ : Hold) (c0_0 : ByteArray) : Pn (fun y => Fn Try.prog 154 [(false, E61 h_), (false, V.cp [V.sc (.string c0_0)])] (E4 y) []) (impl_HoldDrop_1 h_ c0_0) := by
  unfold impl_HoldDrop_1
  exact
   Pn.some (Fn.of [] (p := []) (by kernel_rfl) trivial)
def slices_IndexFunc_impl_Hold_impl_HoldDrop_1_l0 (s_ : List Hold) (f0_0 : ByteArray) : List Hold → List Hold → Option (Lo Unit Int)
  | [], p1 =>
   some (.out ())
  | x1 :: t1, p1 =>
   (impl_HoldDrop_1 x1 f0_0).bind fun r1 =>
   if r1 = true then
    some (.ret (p1.length : Int))
   else
    slices_IndexFunc_impl_Hold_impl_HoldDrop_1_l0 s_ f0_0 t1 (p1 ++ [x1])
theorem slices_IndexFunc_impl_Hold_impl_HoldDrop_1_l0_ok (s_ : List Hold) (f0_0 : ByteArray) (h2 : capOk s_.length = true) : ∀ (t1 p1 : List Hold) (_ : s_ = p1 ++ t1) , Pn (LpO Try.prog (sub (codeOf Try.prog 98) [1, 0, 1, 0, 0]) (st 19 [(0, V.sl false 61 (List.map E61 s_)), (1, V.fn 154 [V.cp [V.sc (.string f0_0)]]), (7, V.sc (.int .i64 (s_.length : Int))), (8, V.sc (.int .i64 (p1.length : Int)))] [] []) (fun (y : Lo Unit Int) => Lo.elim y (fun s => (X.out 0, st 19 [] [] [])) (fun s => (X.ret, st 19 [(4, V.sc (.int .i64 s))] [] [])))) (slices_IndexFunc_impl_Hold_impl_HoldDrop_1_l0 s_ f0_0 t1 p1)
  | [], p1, h1 => by
    unfold slices_IndexFunc_impl_Hold_impl_HoldDrop_1_l0
    exact
     Pn.some (LpO.out [.bit false, .mask [], .ren []] (p := [(decide ((p1.length : Int) < (s_.length : Int))) = false]) (by kernel_rfl) (show X.out 0 ≠ X.go from nofun) (cj1 (rng_end h1)))
  | x1 :: t1, p1, h1 => by
    unfold slices_IndexFunc_impl_Hold_impl_HoldDrop_1_l0
    exact
     Pn.bind (fun r1 h3 =>
      Pn.ite (fun h4 =>
       Pn.some (LpO.out [.bit true, .el (E61 x1), .call [] (E4 r1) [], .bit true, .wait 2, .mask [4], .ren []] (p := [(decide ((p1.length : Int) < (s_.length : Int))) = true,
        (0 : Int) ≤ (p1.length : Int),
        (List.map E61 s_)[(p1.length : Int).toNat]? = some (E61 x1),
        Fn Try.prog 154 [(false, E61 x1), (false, V.cp [V.sc (.string f0_0)])] (E4 r1) [],
        (true || ((E4 r1).nv && nvL [])) = true,
        r1 = true]) (by kernel_rfl) (show X.ret ≠ X.go from nofun) (cj (rng_lt h1) (cj (by omega) (cj (rng_get _ h1) (cj (impl_HoldDrop_1_ok x1 f0_0 r1 h3) (cj rfl (cj1 h4)))))))) (fun h4 =>
       LpO.go [.bit true, .el (E61 x1), .call [] (E4 r1) [], .bit false, .wait 2, .mask [0, 1, 7, 8], .ren [], .nm 8 (V.sc (.int .i64 ((p1 ++ [x1]).length : Int)))] (p := [(decide ((p1.length : Int) < (s_.length : Int))) = true,
        (0 : Int) ≤ (p1.length : Int),
        (List.map E61 s_)[(p1.length : Int).toNat]? = some (E61 x1),
        Fn Try.prog 154 [(false, E61 x1), (false, V.cp [V.sc (.string f0_0)])] (E4 r1) [],
        (true || ((E4 r1).nv && nvL [])) = true,
        r1 = false,
        V.sc (.int .i64 (i64 ((p1.length : Int) + 1))) = V.sc (.int .i64 ((p1 ++ [x1]).length : Int))]) (by kernel_rfl) (cj (rng_lt h1) (cj (by omega) (cj (rng_get _ h1) (cj (impl_HoldDrop_1_ok x1 f0_0 r1 h3) (cj rfl (cj h4 (cj1 (rng_next h1 h2)))))))) (slices_IndexFunc_impl_Hold_impl_HoldDrop_1_l0_ok s_ f0_0 h2 t1 (p1 ++ [x1]) (rng_step h1))))
def slices_IndexFunc_impl_Hold_impl_HoldDrop_1 (s_ : List Hold) (f0_0 : ByteArray) : Option (Int) :=
 if (capOk s_.length) = true then
  (slices_IndexFunc_impl_Hold_impl_HoldDrop_1_l0 s_ f0_0 s_ []).bind fun r2 =>
  Lo.elim r2 (fun s1 =>
   some (-1)) (fun s2 =>
   some s2)
 else none
theorem slices_IndexFunc_impl_Hold_impl_HoldDrop_1_ok (s_ : List Hold) (f0_0 : ByteArray) : Pn (fun y => Fn Try.prog 98 [(false, E48 s_), (false, V.fn 154 [V.cp [V.sc (.string f0_0)]])] (E3 y) []) (slices_IndexFunc_impl_Hold_impl_HoldDrop_1 s_ f0_0) := by
  unfold slices_IndexFunc_impl_Hold_impl_HoldDrop_1
  exact
   Pn.ite (fun h5 =>
    Pn.bind (fun r2 h6 =>
     Pn.lo (fun s1 h7 =>
      Pn.some (Fn.of [.wait 3, .nm 7 (V.sc (.int .i64 (s_.length : Int))), .wait 2, .mask [0, 1, 7, 8], .ren [], .loop (X.out 0) (st 19 [] [] [])] (p := [V.sc (.int .i64 ((List.map E61 s_).length : Int)) = V.sc (.int .i64 (s_.length : Int)),
       Loop Try.prog (sub (codeOf Try.prog 98) [1, 0, 1, 0, 0]) (st 19 [(0, V.sl false 61 (List.map E61 s_)), (1, V.fn 154 [V.cp [V.sc (.string f0_0)]]), (7, V.sc (.int .i64 (s_.length : Int))), (8, V.sc (.int .i64 0))] [] []) (X.out 0) (st 19 [] [] [])]) (by kernel_rfl) (cj (len_nm _ _) (cj1 ((slices_IndexFunc_impl_Hold_impl_HoldDrop_1_l0_ok s_ f0_0 h5 s_ [] rfl r2 h6).at h7))))) (fun s2 h8 =>
      Pn.some (Fn.of [.wait 3, .nm 7 (V.sc (.int .i64 (s_.length : Int))), .wait 2, .mask [0, 1, 7, 8], .ren [], .loop (X.ret) (st 19 [(4, V.sc (.int .i64 s2))] [] [])] (p := [V.sc (.int .i64 ((List.map E61 s_).length : Int)) = V.sc (.int .i64 (s_.length : Int)),
       Loop Try.prog (sub (codeOf Try.prog 98) [1, 0, 1, 0, 0]) (st 19 [(0, V.sl false 61 (List.map E61 s_)), (1, V.fn 154 [V.cp [V.sc (.string f0_0)]]), (7, V.sc (.int .i64 (s_.length : Int))), (8, V.sc (.int .i64 0))] [] []) (X.ret) (st 19 [(4, V.sc (.int .i64 s2))] [] [])]) (by kernel_rfl) (cj (len_nm _ _) (cj1 ((slices_IndexFunc_impl_Hold_impl_HoldDrop_1_l0_ok s_ f0_0 h5 s_ [] rfl r2 h6).at h8))))))) (fun h5 =>
    Pn.none)
def slices_DeleteFunc_impl_Hold_impl_HoldDrop_1_l0 (del0_0 : ByteArray) : Nat → Int → Int → (List Hold) → Option (Int × (List Hold))
  | 0, _, _, _ => none
  | n + 1, v1, v2, v3 =>
   if (decide (v2 < (v3.length : Int))) = true then
    if (decide (0 ≤ v2)) = true then
     (v3[v2.toNat]?).bind fun x1 =>
     (impl_HoldDrop_1 x1 del0_0).bind fun r2 =>
     if r2 = true then
      slices_DeleteFunc_impl_Hold_impl_HoldDrop_1_l0 del0_0 n v1 (i64 (v2 + 1)) v3
     else
      if (decide (0 ≤ v1)) = true then
       (v3[v1.toNat]?).bind fun x2 =>
       slices_DeleteFunc_impl_Hold_impl_HoldDrop_1_l0 del0_0 n (i64 (v1 + 1)) (i64 (v2 + 1)) (v3.set v1.toNat x1)
      else none
    else none
   else
    some (v1, v3)
theorem slices_DeleteFunc_impl_Hold_impl_HoldDrop_1_l0_ok (del0_0 : ByteArray) : ∀ (n : Nat) (v1 : Int) (v2 : Int) (v3 : List Hold), Pn (LpO Try.prog (sub (codeOf Try.prog 153) [1, 1, 1, 0, 1, 0, 0]) (st 42 [(0, V.ow 0), (1, V.fn 154 [V.cp [V.sc (.string del0_0)]]), (5, V.sc (.int .i64 v1)), (6, V.sc (.int .i64 v2))] [Blk.row 61 (List.map E61 v3) []] [some 0]) (fun (y : Int × (List Hold)) => (X.out 0, st 42 [(0, V.ow 0), (5, V.sc (.int .i64 y.1))] [Blk.row 61 (List.map E61 y.2) []] [some 0]))) (slices_DeleteFunc_impl_Hold_impl_HoldDrop_1_l0 del0_0 n v1 v2 v3)
  | 0, _, _, _ => Pn.none
  | n + 1, v1, v2, v3 => by
    unfold slices_DeleteFunc_impl_Hold_impl_HoldDrop_1_l0
    exact
     Pn.ite (fun h3 =>
      Pn.ite (fun h4 =>
       Pn.bind (fun x1 h5 =>
        Pn.bind (fun r2 h6 =>
         Pn.ite (fun h7 =>
          LpO.go [.wait 3, .nm 18 (V.sc (.int .i64 (v3.length : Int))), .bit true, .el (E61 x1), .call [] (E4 r2) [], .bit false, .wait 3, .mask [0, 1, 5, 6], .ren [0]] (p := [V.sc (.int .i64 ((List.map E61 v3).length : Int)) = V.sc (.int .i64 (v3.length : Int)),
           (decide (v2 < (v3.length : Int))) = true,
           (0 : Int) ≤ v2,
           (v2 : Int) < ((List.map E61 v3).length : Int),
           look [] v2.toNat = none,
           (List.map E61 v3)[v2.toNat]? = some (E61 x1),
           Fn Try.prog 154 [(false, E61 x1), (false, V.cp [V.sc (.string del0_0)])] (E4 r2) [],
           (true || ((E4 r2).nv && nvL [])) = true,
           (!r2) = false]) (by kernel_rfl) (cj (len_nm _ _) (cj h3 (cj (od h4) (cj (map_ltN (od h4) h5) (cj rfl (cj (map_get h5) (cj (impl_HoldDrop_1_ok x1 del0_0 r2 h6) (cj rfl (cj1 (nf h7)))))))))) (slices_DeleteFunc_impl_Hold_impl_HoldDrop_1_l0_ok del0_0 n v1 (i64 (v2 + 1)) v3)) (fun h7 =>
          Pn.ite (fun h8 =>
           Pn.bind (fun x2 h9 =>
            LpO.go [.wait 3, .nm 18 (V.sc (.int .i64 (v3.length : Int))), .bit true, .el (E61 x1), .call [] (E4 r2) [], .bit true, .el (E61 x2), .nb 0 (.row 61 (List.map E61 (v3.set v1.toNat x1)) []), .wait 7, .mask [0, 1, 5, 6], .ren [0]] (p := [V.sc (.int .i64 ((List.map E61 v3).length : Int)) = V.sc (.int .i64 (v3.length : Int)),
             (decide (v2 < (v3.length : Int))) = true,
             (0 : Int) ≤ v2,
             (v2 : Int) < ((List.map E61 v3).length : Int),
             look [] v2.toNat = none,
             (List.map E61 v3)[v2.toNat]? = some (E61 x1),
             Fn Try.prog 154 [(false, E61 x1), (false, V.cp [V.sc (.string del0_0)])] (E4 r2) [],
             (true || ((E4 r2).nv && nvL [])) = true,
             (!r2) = true,
             (0 : Int) ≤ v1,
             (v1 : Int) < ((List.map E61 v3).length : Int),
             look [] v1.toNat = none,
             (List.map E61 v3)[v1.toNat]? = some (E61 x2),
             Blk.row 61 ((List.map E61 v3).set v1.toNat (V.agg [V.sc (.string x1.Id), V.sc (.int .i64 x1.Amount), V.sc (.int .i64 x1.Due)])) [] = Blk.row 61 (List.map E61 (v3.set v1.toNat x1)) []]) (by kernel_rfl) (cj (len_nm _ _) (cj h3 (cj (od h4) (cj (map_ltN (od h4) h5) (cj rfl (cj (map_get h5) (cj (impl_HoldDrop_1_ok x1 del0_0 r2 h6) (cj rfl (cj (nt h7) (cj (od h8) (cj (map_ltN (od h8) h9) (cj rfl (cj (map_get h9) (cj1 (nb_set E61 _ _ x1))))))))))))))) (slices_DeleteFunc_impl_Hold_impl_HoldDrop_1_l0_ok del0_0 n (i64 (v1 + 1)) (i64 (v2 + 1)) (v3.set v1.toNat x1)))) (fun h8 =>
           Pn.none))))) (fun h4 =>
       Pn.none)) (fun h3 =>
      Pn.some (LpO.out [.wait 3, .nm 18 (V.sc (.int .i64 (v3.length : Int))), .bit false, .mask [0, 5], .ren [0]] (p := [V.sc (.int .i64 ((List.map E61 v3).length : Int)) = V.sc (.int .i64 (v3.length : Int)),
       (decide (v2 < (v3.length : Int))) = false]) (by kernel_rfl) (show X.out 0 ≠ X.go from nofun) (cj (len_nm _ _) (cj1 h3))))
def slices_DeleteFunc_impl_Hold_impl_HoldDrop_1 (s_ : List Hold) (del0_0 : ByteArray) : Option ((List Hold)) :=
 (slices_IndexFunc_impl_Hold_impl_HoldDrop_1 s_ del0_0).bind fun r1 =>
 if (r1 == (-1)) = true then
  some s_
 else
  (slices_DeleteFunc_impl_Hold_impl_HoldDrop_1_l0 del0_0 FUEL r1 (i64 (r1 + 1)) s_).bind fun r3 =>
  if (decide (0 ≤ r3.1)) = true then
   if (decide (r3.1 ≤ (r3.2.length : Int))) = true then
    if (decide (r3.1 ≤ ((r3.2.take r3.1.toNat ++ (List.replicate (r3.2.length - r3.1.toNat) (Hold.mk ByteArray.empty 0 0) ++ r3.2.drop (r3.1.toNat + (r3.2.length - r3.1.toNat)))).length : Int))) = true then
     some ((r3.2.take r3.1.toNat ++ (List.replicate (r3.2.length - r3.1.toNat) (Hold.mk ByteArray.empty 0 0) ++ r3.2.drop (r3.1.toNat + (r3.2.length - r3.1.toNat)))).take r3.1.toNat)
    else none
   else none
  else none
theorem slices_DeleteFunc_impl_Hold_impl_HoldDrop_1_ok (s_ : List Hold) (del0_0 : ByteArray) : Pn (fun y => Fn Try.prog 153 [(true, E48 s_), (false, V.fn 154 [V.cp [V.sc (.string del0_0)]])] (E48 y) [V.un]) (slices_DeleteFunc_impl_Hold_impl_HoldDrop_1 s_ del0_0) := by
  unfold slices_DeleteFunc_impl_Hold_impl_HoldDrop_1
  exact
   Pn.bind (fun r1 h1 =>
    Pn.ite (fun h2 =>
     Pn.some (Fn.of [.call [] (E3 r1) [], .bit true] (p := [Fn Try.prog 98 [(false, E48 s_), (false, V.fn 154 [V.cp [V.sc (.string del0_0)]])] (E3 r1) [],
      (false || ((E3 r1).nv && nvL [])) = true,
      (r1 == (-1)) = true]) (by kernel_rfl) (cj (slices_IndexFunc_impl_Hold_impl_HoldDrop_1_ok s_ del0_0 r1 h1) (cj (by simp [V.nv, nvL, nvL_all, nv_E3]) (cj1 h2))))) (fun h2 =>
     Pn.bind (fun r3 h10 =>
      Pn.ite (fun h11 =>
       Pn.ite (fun h12 =>
        Pn.ite (fun h13 =>
         Pn.some (Fn.as (res := V.sl true 61 ((List.map E61 (r3.2.take r3.1.toNat ++ (List.replicate (r3.2.length - r3.1.toNat) (Hold.mk ByteArray.empty 0 0) ++ r3.2.drop (r3.1.toNat + (r3.2.length - r3.1.toNat))))).take r3.1.toNat)) (sb_take _ _ _) rfl (Fn.of [.call [] (E3 r1) [], .bit false, .wait 3, .mask [0, 1, 5, 6], .ren [0], .loop (X.out 0) (st 42 [(0, V.ow 0), (5, V.sc (.int .i64 r3.1))] [Blk.row 61 (List.map E61 r3.2) []] [some 0]), .wait 3, .nm 38 (V.sb 0 3 r3.1.toNat (r3.2.length - r3.1.toNat)), .wait 1, .nb 0 (.row 61 (List.map E61 (r3.2.take r3.1.toNat ++ (List.replicate (r3.2.length - r3.1.toNat) (Hold.mk ByteArray.empty 0 0) ++ r3.2.drop (r3.1.toNat + (r3.2.length - r3.1.toNat))))) [])] (p := [Fn Try.prog 98 [(false, E48 s_), (false, V.fn 154 [V.cp [V.sc (.string del0_0)]])] (E3 r1) [],
          (false || ((E3 r1).nv && nvL [])) = true,
          (r1 == (-1)) = false,
          Loop Try.prog (sub (codeOf Try.prog 153) [1, 1, 1, 0, 1, 0, 0]) (st 42 [(0, V.ow 0), (1, V.fn 154 [V.cp [V.sc (.string del0_0)]]), (5, V.sc (.int .i64 r1)), (6, V.sc (.int .i64 (i64 (r1 + 1))))] [Blk.row 61 (List.map E61 s_) []] [some 0]) (X.out 0) (st 42 [(0, V.ow 0), (5, V.sc (.int .i64 r3.1))] [Blk.row 61 (List.map E61 r3.2) []] [some 0]),
          (0 : Int) ≤ r3.1,
          (r3.1 : Int) ≤ ((List.map E61 r3.2).length : Int),
          (((List.map E61 r3.2).length : Int) : Int) ≤ ((List.map E61 r3.2).length : Int),
          V.sb 0 3 r3.1.toNat ((((List.map E61 r3.2).length : Int).toNat) - (r3.1.toNat)) = V.sb 0 3 r3.1.toNat (r3.2.length - r3.1.toNat),
          Blk.row 61 ((List.map E61 r3.2).take r3.1.toNat ++ (List.replicate (r3.2.length - r3.1.toNat) (V.agg [V.sc (.string ByteArray.empty), V.sc (.int .i64 0), V.sc (.int .i64 0)]) ++ (List.map E61 r3.2).drop (r3.1.toNat + (r3.2.length - r3.1.toNat)))) [] = Blk.row 61 (List.map E61 (r3.2.take r3.1.toNat ++ (List.replicate (r3.2.length - r3.1.toNat) (Hold.mk ByteArray.empty 0 0) ++ r3.2.drop (r3.1.toNat + (r3.2.length - r3.1.toNat))))) [],
          (0 : Int) ≤ 0,
          (0 : Int) ≤ r3.1,
          (r3.1 : Int) ≤ ((List.map E61 (r3.2.take r3.1.toNat ++ (List.replicate (r3.2.length - r3.1.toNat) (Hold.mk ByteArray.empty 0 0) ++ r3.2.drop (r3.1.toNat + (r3.2.length - r3.1.toNat))))).length : Int)]) (by kernel_rfl) (cj (slices_IndexFunc_impl_Hold_impl_HoldDrop_1_ok s_ del0_0 r1 h1) (cj (by simp [V.nv, nvL, nvL_all, nv_E3]) (cj h2 (cj (slices_DeleteFunc_impl_Hold_impl_HoldDrop_1_l0_ok del0_0 FUEL r1 (i64 (r1 + 1)) s_ r3 h10) (cj (od h11) (cj (by rw [List.length_map]; exact (od h12)) (cj (Int.le_refl _) (cj (by simp) (cj (nb_clr E61 _ _ _ (Hold.mk ByteArray.empty 0 0)) (cj (by decide) (cj (od h11) (cj1 (by rw [List.length_map]; exact (od h13))))))))))))))))) (fun h13 =>
         Pn.none)) (fun h12 =>
        Pn.none)) (fun h11 =>
       Pn.none))))
def impl_HoldDrop (l : List Hold) (id : ByteArray) : Option ((List Hold)) :=
 (slices_Clone_impl_Hold l).bind fun r1 =>
 (slices_DeleteFunc_impl_Hold_impl_HoldDrop_1 r1 id).bind fun r2 =>
 some r2
theorem impl_HoldDrop_ok (l : List Hold) (id : ByteArray) : Pn (fun y => Fn Try.prog 85 [(false, E48 l), (false, E9 id)] (E48 y) []) (impl_HoldDrop l id) := by
  unfold impl_HoldDrop
  exact
   Pn.bind (fun r1 h1 =>
    Pn.bind (fun r2 h2 =>
     Pn.some (Fn.of [.call [] (E48 r1) [], .call [true, false] (E48 r2) [V.un]] (p := [Fn Try.prog 126 [(false, E48 l)] (E48 r1) [],
      (true || ((E48 r1).nv && nvL [])) = true,
      Fn Try.prog 153 [(true, E48 r1), (false, V.fn 154 [V.cp [V.sc (.string id)]])] (E48 r2) [V.un],
      (false || ((E48 r2).nv && nvL [V.un])) = true]) (by kernel_rfl) (cj (slices_Clone_impl_Hold_ok l r1 h1) (cj rfl (cj (slices_DeleteFunc_impl_Hold_impl_HoldDrop_1_ok r1 id r2 h2) (cj1 (by simp [V.nv, nvL, nvL_all, nv_E3, nv_E9, nv_E48, nv_E61]))))))))
def impl_Free (a : Acct) (id : ByteArray) (now : Int) : Option (Acct × Int) :=
 (impl_holdOf a id 1 now).bind fun r1 =>
 if (r1.2.2 != 0) = true then
  some ((Acct.mk ByteArray.empty 0 0 0 0 [] (Ring.mk 0 0 [] []) []), r1.2.2)
 else
  (impl_HoldDrop r1.1.Holds id).bind fun r2 =>
  some ((Acct.mk r1.1.Id r1.1.Limit r1.1.Posted r1.1.Most r1.1.MostSum r2 r1.1.Ring r1.1.Slots), 0)
theorem impl_Free_ok (a : Acct) (id : ByteArray) (now : Int) : Pn (fun y => Fn Try.prog 40 [(false, E54 a), (false, E9 id), (false, E3 now)] (V.tup [E54 y.1, E3 y.2]) []) (impl_Free a id now) := by
  unfold impl_Free
  exact
   Pn.bind (fun r1 h1 =>
    Pn.ite (fun h2 =>
     Pn.some (Fn.of [.call [] (V.tup [E54 r1.1, E3 r1.2.1, E3 r1.2.2]) [], .bit true] (p := [Fn Try.prog 84 [(false, E54 a), (false, E9 id), (false, E3 1), (false, E3 now)] (V.tup [E54 r1.1, E3 r1.2.1, E3 r1.2.2]) [],
      (true || ((V.tup [E54 r1.1, E3 r1.2.1, E3 r1.2.2]).nv && nvL [])) = true,
      (r1.2.2 != 0) = true]) (by kernel_rfl) (cj (impl_holdOf_ok a id 1 now r1 h1) (cj rfl (cj1 h2))))) (fun h2 =>
     Pn.bind (fun r2 h3 =>
      Pn.some (Fn.of [.call [] (V.tup [E54 r1.1, E3 r1.2.1, E3 r1.2.2]) [], .bit false, .call [] (E48 r2) []] (p := [Fn Try.prog 84 [(false, E54 a), (false, E9 id), (false, E3 1), (false, E3 now)] (V.tup [E54 r1.1, E3 r1.2.1, E3 r1.2.2]) [],
       (true || ((V.tup [E54 r1.1, E3 r1.2.1, E3 r1.2.2]).nv && nvL [])) = true,
       (r1.2.2 != 0) = false,
       Fn Try.prog 85 [(false, E48 r1.1.Holds), (false, E9 id)] (E48 r2) [],
       (false || ((E48 r2).nv && nvL [])) = true]) (by kernel_rfl) (cj (impl_holdOf_ok a id 1 now r1 h1) (cj rfl (cj h2 (cj (impl_HoldDrop_ok r1.1.Holds id r2 h3) (cj1 (by simp [V.nv, nvL, nvL_all, nv_E3, nv_E9, nv_E48, nv_E61]))))))))))
def spec_HoldAt_l0 (l : List Hold) (id : ByteArray) : List Hold → List Hold → Option (Lo Unit Int)
  | [], p1 =>
   some (.out ())
  | x1 :: t1, p1 =>
   if (x1.Id == id) = true then
    some (.ret (p1.length : Int))
   else
    spec_HoldAt_l0 l id t1 (p1 ++ [x1])
theorem spec_HoldAt_l0_ok (l : List Hold) (id : ByteArray) (h2 : capOk l.length = true) : ∀ (t1 p1 : List Hold) (_ : l = p1 ++ t1) , Pn (LpO Try.prog (sub (codeOf Try.prog 30) [1, 0, 1, 0, 0]) (st 20 [(1, V.sc (.string id)), (7, V.sl false 61 (List.map E61 l)), (8, V.sc (.int .i64 (l.length : Int))), (9, V.sc (.int .i64 (p1.length : Int)))] [] []) (fun (y : Lo Unit Int) => Lo.elim y (fun s => (X.out 0, st 20 [] [] [])) (fun s => (X.ret, st 20 [(4, V.sc (.int .i64 s))] [] [])))) (spec_HoldAt_l0 l id t1 p1)
  | [], p1, h1 => by
    unfold spec_HoldAt_l0
    exact
     Pn.some (LpO.out [.bit false, .mask [], .ren []] (p := [(decide ((p1.length : Int) < (l.length : Int))) = false]) (by kernel_rfl) (show X.out 0 ≠ X.go from nofun) (cj1 (rng_end h1)))
  | x1 :: t1, p1, h1 => by
    unfold spec_HoldAt_l0
    exact
     Pn.ite (fun h3 =>
      Pn.some (LpO.out [.bit true, .el (E61 x1), .bit true, .wait 2, .mask [4], .ren []] (p := [(decide ((p1.length : Int) < (l.length : Int))) = true,
       (0 : Int) ≤ (p1.length : Int),
       (List.map E61 l)[(p1.length : Int).toNat]? = some (E61 x1),
       (x1.Id == id) = true]) (by kernel_rfl) (show X.ret ≠ X.go from nofun) (cj (rng_lt h1) (cj (by omega) (cj (rng_get _ h1) (cj1 h3)))))) (fun h3 =>
      LpO.go [.bit true, .el (E61 x1), .bit false, .wait 2, .mask [1, 7, 8, 9], .ren [], .nm 9 (V.sc (.int .i64 ((p1 ++ [x1]).length : Int)))] (p := [(decide ((p1.length : Int) < (l.length : Int))) = true,
       (0 : Int) ≤ (p1.length : Int),
       (List.map E61 l)[(p1.length : Int).toNat]? = some (E61 x1),
       (x1.Id == id) = false,
       V.sc (.int .i64 (i64 ((p1.length : Int) + 1))) = V.sc (.int .i64 ((p1 ++ [x1]).length : Int))]) (by kernel_rfl) (cj (rng_lt h1) (cj (by omega) (cj (rng_get _ h1) (cj h3 (cj1 (rng_next h1 h2)))))) (spec_HoldAt_l0_ok l id h2 t1 (p1 ++ [x1]) (rng_step h1)))
def spec_HoldAt (l : List Hold) (id : ByteArray) : Option (Int) :=
 if (capOk l.length) = true then
  (spec_HoldAt_l0 l id l []).bind fun r1 =>
  Lo.elim r1 (fun s1 =>
   some (-1)) (fun s2 =>
   some s2)
 else none
theorem spec_HoldAt_ok (l : List Hold) (id : ByteArray) : Pn (fun y => Fn Try.prog 30 [(false, E48 l), (false, E9 id)] (E3 y) []) (spec_HoldAt l id) := by
  unfold spec_HoldAt
  exact
   Pn.ite (fun h4 =>
    Pn.bind (fun r1 h5 =>
     Pn.lo (fun s1 h6 =>
      Pn.some (Fn.of [.wait 3, .nm 8 (V.sc (.int .i64 (l.length : Int))), .wait 2, .mask [1, 7, 8, 9], .ren [], .loop (X.out 0) (st 20 [] [] [])] (p := [V.sc (.int .i64 ((List.map E61 l).length : Int)) = V.sc (.int .i64 (l.length : Int)),
       Loop Try.prog (sub (codeOf Try.prog 30) [1, 0, 1, 0, 0]) (st 20 [(1, V.sc (.string id)), (7, V.sl false 61 (List.map E61 l)), (8, V.sc (.int .i64 (l.length : Int))), (9, V.sc (.int .i64 0))] [] []) (X.out 0) (st 20 [] [] [])]) (by kernel_rfl) (cj (len_nm _ _) (cj1 ((spec_HoldAt_l0_ok l id h4 l [] rfl r1 h5).at h6))))) (fun s2 h7 =>
      Pn.some (Fn.of [.wait 3, .nm 8 (V.sc (.int .i64 (l.length : Int))), .wait 2, .mask [1, 7, 8, 9], .ren [], .loop (X.ret) (st 20 [(4, V.sc (.int .i64 s2))] [] [])] (p := [V.sc (.int .i64 ((List.map E61 l).length : Int)) = V.sc (.int .i64 (l.length : Int)),
       Loop Try.prog (sub (codeOf Try.prog 30) [1, 0, 1, 0, 0]) (st 20 [(1, V.sc (.string id)), (7, V.sl false 61 (List.map E61 l)), (8, V.sc (.int .i64 (l.length : Int))), (9, V.sc (.int .i64 0))] [] []) (X.ret) (st 20 [(4, V.sc (.int .i64 s2))] [] [])]) (by kernel_rfl) (cj (len_nm _ _) (cj1 ((spec_HoldAt_l0_ok l id h4 l [] rfl r1 h5).at h7))))))) (fun h4 =>
    Pn.none)
def laws_FnMore_l0 (r1 : Acct) (r2 : ByteArray × Int × Int × Int) (r3 : Acct) : List Hold → Option (Lo Unit Unit)
  | [] =>
   some (.out ())
  | x1 :: t1 =>
   (impl_More r1 x1.Id r2.2.1 r2.2.2.2).bind fun r4 =>
   (impl_Free r1 x1.Id r2.2.2.2).bind fun r5 =>
   if (r5.2 != 0) = true then
    some (.ret ())
   else
    (impl_Room r5.1 r2.2.2.2).bind fun r6 =>
    (impl_Room r1 r2.2.2.2).bind fun r7 =>
    if (r6 != (i64 (r7 + x1.Amount))) = true then
     some (.ret ())
    else
     (impl_HoldAt r5.1.Holds x1.Id).bind fun r8 =>
     if (decide (0 ≤ r8)) = true then
      some (.ret ())
     else
      if (r5.1.Posted != r1.Posted) = true then
       some (.ret ())
      else
       if (r4.2 != 0) = true then
        laws_FnMore_l0 r1 r2 r3 t1
       else
        (spec_HoldAt r4.1.Holds x1.Id).bind fun r9 =>
        if (decide (r9 < 0)) = true then
         some (.ret ())
        else
         if (decide (0 ≤ r9)) = true then
          (r4.1.Holds[r9.toNat]?).bind fun x2 =>
          if (x2.Amount != (i64 (x1.Amount + r2.2.1))) = true then
           some (.ret ())
          else
           if (x2.Due != x1.Due) = true then
            some (.ret ())
           else
            (impl_Room r4.1 r2.2.2.2).bind fun r10 =>
            (impl_Room r1 r2.2.2.2).bind fun r11 =>
            if (r10 != (i64 (r11 - r2.2.1))) = true then
             some (.ret ())
            else
             (impl_AcctOk r4.1).bind fun r12 =>
             if r12 = true then
              laws_FnMore_l0 r1 r2 r3 t1
             else
              some (.ret ())
         else none
theorem laws_FnMore_l0_ok (r1 : Acct) (r2 : ByteArray × Int × Int × Int) (r3 : Acct) (h6 : capOk r3.Holds.length = true) : ∀ (t1 p1 : List Hold) (_ : r3.Holds = p1 ++ t1) , Pn (LpO Try.prog (sub (codeOf Try.prog 7) [1, 1, 1, 1, 1, 0, 1, 0, 0]) (st 134 [(3, V.ptr 0 0), (5, V.sc (.int .i64 r2.2.1)), (7, V.sc (.int .i64 r2.2.2.2)), (32, V.ow 5), (33, V.sc (.int .i64 (r3.Holds.length : Int))), (34, V.sc (.int .i64 (p1.length : Int)))] [Blk.box 54 [V.sc (.string r1.Id), V.sc (.int .i64 r1.Limit), V.sc (.int .i64 r1.Posted), V.sc (.int .i64 r1.Most), V.sc (.int .i64 r1.MostSum), V.ow 1, V.sc (.int .i64 r1.Ring.Span), V.sc (.int .i64 r1.Ring.Head), V.ow 2, V.ow 3, V.ow 4], Blk.row 61 (List.map E61 r1.Holds) [], Blk.row 3 (List.map E3 r1.Ring.Counts) [], Blk.row 3 (List.map E3 r1.Ring.Sums) [], Blk.row 177 (List.map E177 r1.Slots) [], Blk.row 61 (List.map E61 r3.Holds) []] []) (fun (y : Lo Unit Unit) => Lo.elim y (fun s => (X.out 0, st 134 [] [] [])) (fun s => (X.ret, st 134 [(2, V.sc (.bool false))] [] [])))) (laws_FnMore_l0 r1 r2 r3 t1)
  | [], p1, h5 => by
    unfold laws_FnMore_l0
    exact
     Pn.some (LpO.out [.bit false, .mask [], .ren []] (p := [(decide ((p1.length : Int) < (r3.Holds.length : Int))) = false]) (by kernel_rfl) (show X.out 0 ≠ X.go from nofun) (cj1 (rng_end h5)))
  | x1 :: t1, p1, h5 => by
    unfold laws_FnMore_l0
    exact
     Pn.bind (fun r4 h7 =>
      Pn.bind (fun r5 h8 =>
       Pn.ite (fun h9 =>
        Pn.some (LpO.out [.bit true, .el (E61 x1), .call [] (V.tup [E54 r4.1, E3 r4.2]) [], .call [] (V.tup [E54 r5.1, E3 r5.2]) [], .draw [], .bit true, .bit true, .bit true, .bit true, .bit true, .bit true, .bit true, .bit true, .bit true, .bit true, .bit true, .bit true, .bit true, .bit true, .bit true, .bit true, .bit true, .bit true, .bit true, .bit true, .bit true, .bit true, .bit true, .bit true, .bit true, .wait 1, .mask [2], .ren []] (p := [(decide ((p1.length : Int) < (r3.Holds.length : Int))) = true,
         (0 : Int) ≤ (p1.length : Int),
         ((p1.length : Int) : Int) < ((List.map E61 r3.Holds).length : Int),
         look [] ((p1.length : Int).toNat) = none,
         (List.map E61 r3.Holds)[(p1.length : Int).toNat]? = some (E61 x1),
         Fn Try.prog 39 [(false, E54 r1), (false, E9 x1.Id), (false, E3 r2.2.1), (false, E3 r2.2.2.2)] (V.tup [E54 r4.1, E3 r4.2]) [],
         (false || ((V.tup [E54 r4.1, E3 r4.2]).nv && nvL [])) = true,
         Fn Try.prog 40 [(false, E54 r1), (false, E9 x1.Id), (false, E3 r2.2.2.2)] (V.tup [E54 r5.1, E3 r5.2]) [],
         (false || ((V.tup [E54 r5.1, E3 r5.2]).nv && nvL [])) = true,
         (r5.2 != 0) = true,
         (r5.2 != 0) = true,
         (r5.2 != 0) = true,
         (r5.2 != 0) = true,
         (r5.2 != 0) = true,
         (r5.2 != 0) = true,
         (r5.2 != 0) = true,
         (r5.2 != 0) = true,
         (r5.2 != 0) = true,
         (r5.2 != 0) = true,
         (r5.2 != 0) = true,
         true = true,
         true = true,
         true = true,
         true = true,
         true = true,
         true = true,
         true = true,
         true = true,
         true = true,
         true = true,
         true = true,
         true = true,
         true = true,
         true = true]) (by kernel_rfl) (show X.ret ≠ X.go from nofun) (cj (rng_lt h5) (cj (by omega) (cj (rng_ltI _ h5) (cj rfl (cj (rng_get _ h5) (cj (impl_More_ok r1 x1.Id r2.2.1 r2.2.2.2 r4 h7) (cj (by simp [V.nv, nvL, nvL_all, nv_E3, nv_E5, nv_E9, nv_E47, nv_E48, nv_E49, nv_E51, nv_E52, nv_E54, nv_E61, nv_E177]) (cj (impl_Free_ok r1 x1.Id r2.2.2.2 r5 h8) (cj (by simp [V.nv, nvL, nvL_all, nv_E3, nv_E5, nv_E9, nv_E47, nv_E48, nv_E49, nv_E51, nv_E52, nv_E54, nv_E61, nv_E177]) (cj h9 (cj h9 (cj h9 (cj h9 (cj h9 (cj h9 (cj h9 (cj h9 (cj h9 (cj h9 (cj h9 (cj rfl (cj rfl (cj rfl (cj rfl (cj rfl (cj rfl (cj rfl (cj rfl (cj rfl (cj rfl (cj rfl (cj rfl (cj rfl (cj1 rfl)))))))))))))))))))))))))))))))))))) (fun h9 =>
        Pn.bind (fun r6 h10 =>
         Pn.bind (fun r7 h11 =>
          Pn.ite (fun h12 =>
           Pn.some (LpO.out [.bit true, .el (E61 x1), .call [] (V.tup [E54 r4.1, E3 r4.2]) [], .call [] (V.tup [E54 r5.1, E3 r5.2]) [], .draw [], .bit false, .bit false, .bit false, .bit false, .bit false, .bit false, .bit false, .call [] (E3 r6) [], .bit false, .call [] (E3 r7) [], .bit false, .bit false, .bit false, .bit true, .bit true, .bit true, .bit true, .bit true, .bit true, .bit true, .bit true, .bit true, .bit true, .bit true, .bit true, .bit true, .bit true, .wait 1, .mask [2], .ren []] (p := [(decide ((p1.length : Int) < (r3.Holds.length : Int))) = true,
            (0 : Int) ≤ (p1.length : Int),
            ((p1.length : Int) : Int) < ((List.map E61 r3.Holds).length : Int),
            look [] ((p1.length : Int).toNat) = none,
            (List.map E61 r3.Holds)[(p1.length : Int).toNat]? = some (E61 x1),
            Fn Try.prog 39 [(false, E54 r1), (false, E9 x1.Id), (false, E3 r2.2.1), (false, E3 r2.2.2.2)] (V.tup [E54 r4.1, E3 r4.2]) [],
            (false || ((V.tup [E54 r4.1, E3 r4.2]).nv && nvL [])) = true,
            Fn Try.prog 40 [(false, E54 r1), (false, E9 x1.Id), (false, E3 r2.2.2.2)] (V.tup [E54 r5.1, E3 r5.2]) [],
            (false || ((V.tup [E54 r5.1, E3 r5.2]).nv && nvL [])) = true,
            (r5.2 != 0) = false,
            (r5.2 != 0) = false,
            (r5.2 != 0) = false,
            (r5.2 != 0) = false,
            (r5.2 != 0) = false,
            (r5.2 != 0) = false,
            (r5.2 != 0) = false,
            Fn Try.prog 32 [(false, E54 r5.1), (false, E3 r2.2.2.2)] (E3 r6) [],
            (false || ((E3 r6).nv && nvL [])) = true,
            (r5.2 != 0) = false,
            Fn Try.prog 32 [(false, E54 r1), (false, E3 r2.2.2.2)] (E3 r7) [],
            (false || ((E3 r7).nv && nvL [])) = true,
            (r5.2 != 0) = false,
            (r5.2 != 0) = false,
            (r5.2 != 0) = false,
            (r6 != (i64 (r7 + x1.Amount))) = true,
            (r6 != (i64 (r7 + x1.Amount))) = true,
            (r6 != (i64 (r7 + x1.Amount))) = true,
            (r6 != (i64 (r7 + x1.Amount))) = true,
            (r6 != (i64 (r7 + x1.Amount))) = true,
            (r6 != (i64 (r7 + x1.Amount))) = true,
            (r6 != (i64 (r7 + x1.Amount))) = true,
            true = true,
            true = true,
            true = true,
            true = true,
            true = true,
            true = true,
            true = true]) (by kernel_rfl) (show X.ret ≠ X.go from nofun) (cj (rng_lt h5) (cj (by omega) (cj (rng_ltI _ h5) (cj rfl (cj (rng_get _ h5) (cj (impl_More_ok r1 x1.Id r2.2.1 r2.2.2.2 r4 h7) (cj (by simp [V.nv, nvL, nvL_all, nv_E3, nv_E5, nv_E9, nv_E47, nv_E48, nv_E49, nv_E51, nv_E52, nv_E54, nv_E61, nv_E177]) (cj (impl_Free_ok r1 x1.Id r2.2.2.2 r5 h8) (cj (by simp [V.nv, nvL, nvL_all, nv_E3, nv_E5, nv_E9, nv_E47, nv_E48, nv_E49, nv_E51, nv_E52, nv_E54, nv_E61, nv_E177]) (cj h9 (cj h9 (cj h9 (cj h9 (cj h9 (cj h9 (cj h9 (cj (impl_Room_ok r5.1 r2.2.2.2 r6 h10) (cj (by simp [V.nv, nvL, nvL_all, nv_E3]) (cj h9 (cj (impl_Room_ok r1 r2.2.2.2 r7 h11) (cj (by simp [V.nv, nvL, nvL_all, nv_E3]) (cj h9 (cj h9 (cj h9 (cj h12 (cj h12 (cj h12 (cj h12 (cj h12 (cj h12 (cj h12 (cj rfl (cj rfl (cj rfl (cj rfl (cj rfl (cj rfl (cj1 rfl)))))))))))))))))))))))))))))))))))))))) (fun h12 =>
           Pn.bind (fun r8 h13 =>
            Pn.ite (fun h14 =>
             Pn.some (LpO.out [.bit true, .el (E61 x1), .call [] (V.tup [E54 r4.1, E3 r4.2]) [], .call [] (V.tup [E54 r5.1, E3 r5.2]) [], .draw [], .bit false, .bit false, .bit false, .bit false, .bit false, .bit false, .bit false, .call [] (E3 r6) [], .bit false, .call [] (E3 r7) [], .bit false, .bit false, .bit false, .bit false, .bit false, .bit false, .bit false, .bit false, .call [] (E3 r8) [], .bit false, .bit false, .bit true, .bit true, .bit true, .bit true, .bit true, .bit true, .bit true, .wait 1, .mask [2], .ren []] (p := [(decide ((p1.length : Int) < (r3.Holds.length : Int))) = true,
              (0 : Int) ≤ (p1.length : Int),
              ((p1.length : Int) : Int) < ((List.map E61 r3.Holds).length : Int),
              look [] ((p1.length : Int).toNat) = none,
              (List.map E61 r3.Holds)[(p1.length : Int).toNat]? = some (E61 x1),
              Fn Try.prog 39 [(false, E54 r1), (false, E9 x1.Id), (false, E3 r2.2.1), (false, E3 r2.2.2.2)] (V.tup [E54 r4.1, E3 r4.2]) [],
              (false || ((V.tup [E54 r4.1, E3 r4.2]).nv && nvL [])) = true,
              Fn Try.prog 40 [(false, E54 r1), (false, E9 x1.Id), (false, E3 r2.2.2.2)] (V.tup [E54 r5.1, E3 r5.2]) [],
              (false || ((V.tup [E54 r5.1, E3 r5.2]).nv && nvL [])) = true,
              (r5.2 != 0) = false,
              (r5.2 != 0) = false,
              (r5.2 != 0) = false,
              (r5.2 != 0) = false,
              (r5.2 != 0) = false,
              (r5.2 != 0) = false,
              (r5.2 != 0) = false,
              Fn Try.prog 32 [(false, E54 r5.1), (false, E3 r2.2.2.2)] (E3 r6) [],
              (false || ((E3 r6).nv && nvL [])) = true,
              (r5.2 != 0) = false,
              Fn Try.prog 32 [(false, E54 r1), (false, E3 r2.2.2.2)] (E3 r7) [],
              (false || ((E3 r7).nv && nvL [])) = true,
              (r5.2 != 0) = false,
              (r5.2 != 0) = false,
              (r5.2 != 0) = false,
              (r6 != (i64 (r7 + x1.Amount))) = false,
              (r6 != (i64 (r7 + x1.Amount))) = false,
              (r6 != (i64 (r7 + x1.Amount))) = false,
              (r6 != (i64 (r7 + x1.Amount))) = false,
              (r6 != (i64 (r7 + x1.Amount))) = false,
              Fn Try.prog 41 [(false, E48 r5.1.Holds), (false, E9 x1.Id)] (E3 r8) [],
              (false || ((E3 r8).nv && nvL [])) = true,
              (r6 != (i64 (r7 + x1.Amount))) = false,
              (r6 != (i64 (r7 + x1.Amount))) = false,
              (decide (0 ≤ r8)) = true,
              (decide (0 ≤ r8)) = true,
              (decide (0 ≤ r8)) = true,
              (decide (0 ≤ r8)) = true,
              (decide (0 ≤ r8)) = true,
              (decide (0 ≤ r8)) = true,
              true = true]) (by kernel_rfl) (show X.ret ≠ X.go from nofun) (cj (rng_lt h5) (cj (by omega) (cj (rng_ltI _ h5) (cj rfl (cj (rng_get _ h5) (cj (impl_More_ok r1 x1.Id r2.2.1 r2.2.2.2 r4 h7) (cj (by simp [V.nv, nvL, nvL_all, nv_E3, nv_E5, nv_E9, nv_E47, nv_E48, nv_E49, nv_E51, nv_E52, nv_E54, nv_E61, nv_E177]) (cj (impl_Free_ok r1 x1.Id r2.2.2.2 r5 h8) (cj (by simp [V.nv, nvL, nvL_all, nv_E3, nv_E5, nv_E9, nv_E47, nv_E48, nv_E49, nv_E51, nv_E52, nv_E54, nv_E61, nv_E177]) (cj h9 (cj h9 (cj h9 (cj h9 (cj h9 (cj h9 (cj h9 (cj (impl_Room_ok r5.1 r2.2.2.2 r6 h10) (cj (by simp [V.nv, nvL, nvL_all, nv_E3]) (cj h9 (cj (impl_Room_ok r1 r2.2.2.2 r7 h11) (cj (by simp [V.nv, nvL, nvL_all, nv_E3]) (cj h9 (cj h9 (cj h9 (cj h12 (cj h12 (cj h12 (cj h12 (cj h12 (cj (impl_HoldAt_ok r5.1.Holds x1.Id r8 h13) (cj (by simp [V.nv, nvL, nvL_all, nv_E3]) (cj h12 (cj h12 (cj h14 (cj h14 (cj h14 (cj h14 (cj h14 (cj h14 (cj1 rfl)))))))))))))))))))))))))))))))))))))))))) (fun h14 =>
             Pn.ite (fun h15 =>
              Pn.some (LpO.out [.bit true, .el (E61 x1), .call [] (V.tup [E54 r4.1, E3 r4.2]) [], .call [] (V.tup [E54 r5.1, E3 r5.2]) [], .draw [], .bit false, .bit false, .bit false, .bit false, .bit false, .bit false, .bit false, .call [] (E3 r6) [], .bit false, .call [] (E3 r7) [], .bit false, .bit false, .bit false, .bit false, .bit false, .bit false, .bit false, .bit false, .call [] (E3 r8) [], .bit false, .bit false, .bit false, .bit false, .bit false, .bit false, .bit false, .bit false, .bit true, .wait 1, .mask [2], .ren []] (p := [(decide ((p1.length : Int) < (r3.Holds.length : Int))) = true,
               (0 : Int) ≤ (p1.length : Int),
               ((p1.length : Int) : Int) < ((List.map E61 r3.Holds).length : Int),
               look [] ((p1.length : Int).toNat) = none,
               (List.map E61 r3.Holds)[(p1.length : Int).toNat]? = some (E61 x1),
               Fn Try.prog 39 [(false, E54 r1), (false, E9 x1.Id), (false, E3 r2.2.1), (false, E3 r2.2.2.2)] (V.tup [E54 r4.1, E3 r4.2]) [],
               (false || ((V.tup [E54 r4.1, E3 r4.2]).nv && nvL [])) = true,
               Fn Try.prog 40 [(false, E54 r1), (false, E9 x1.Id), (false, E3 r2.2.2.2)] (V.tup [E54 r5.1, E3 r5.2]) [],
               (false || ((V.tup [E54 r5.1, E3 r5.2]).nv && nvL [])) = true,
               (r5.2 != 0) = false,
               (r5.2 != 0) = false,
               (r5.2 != 0) = false,
               (r5.2 != 0) = false,
               (r5.2 != 0) = false,
               (r5.2 != 0) = false,
               (r5.2 != 0) = false,
               Fn Try.prog 32 [(false, E54 r5.1), (false, E3 r2.2.2.2)] (E3 r6) [],
               (false || ((E3 r6).nv && nvL [])) = true,
               (r5.2 != 0) = false,
               Fn Try.prog 32 [(false, E54 r1), (false, E3 r2.2.2.2)] (E3 r7) [],
               (false || ((E3 r7).nv && nvL [])) = true,
               (r5.2 != 0) = false,
               (r5.2 != 0) = false,
               (r5.2 != 0) = false,
               (r6 != (i64 (r7 + x1.Amount))) = false,
               (r6 != (i64 (r7 + x1.Amount))) = false,
               (r6 != (i64 (r7 + x1.Amount))) = false,
               (r6 != (i64 (r7 + x1.Amount))) = false,
               (r6 != (i64 (r7 + x1.Amount))) = false,
               Fn Try.prog 41 [(false, E48 r5.1.Holds), (false, E9 x1.Id)] (E3 r8) [],
               (false || ((E3 r8).nv && nvL [])) = true,
               (r6 != (i64 (r7 + x1.Amount))) = false,
               (r6 != (i64 (r7 + x1.Amount))) = false,
               (decide (0 ≤ r8)) = false,
               (decide (0 ≤ r8)) = false,
               (decide (0 ≤ r8)) = false,
               (decide (0 ≤ r8)) = false,
               (decide (0 ≤ r8)) = false,
               (decide (0 ≤ r8)) = false,
               (r5.1.Posted != r1.Posted) = true]) (by kernel_rfl) (show X.ret ≠ X.go from nofun) (cj (rng_lt h5) (cj (by omega) (cj (rng_ltI _ h5) (cj rfl (cj (rng_get _ h5) (cj (impl_More_ok r1 x1.Id r2.2.1 r2.2.2.2 r4 h7) (cj (by simp [V.nv, nvL, nvL_all, nv_E3, nv_E5, nv_E9, nv_E47, nv_E48, nv_E49, nv_E51, nv_E52, nv_E54, nv_E61, nv_E177]) (cj (impl_Free_ok r1 x1.Id r2.2.2.2 r5 h8) (cj (by simp [V.nv, nvL, nvL_all, nv_E3, nv_E5, nv_E9, nv_E47, nv_E48, nv_E49, nv_E51, nv_E52, nv_E54, nv_E61, nv_E177]) (cj h9 (cj h9 (cj h9 (cj h9 (cj h9 (cj h9 (cj h9 (cj (impl_Room_ok r5.1 r2.2.2.2 r6 h10) (cj (by simp [V.nv, nvL, nvL_all, nv_E3]) (cj h9 (cj (impl_Room_ok r1 r2.2.2.2 r7 h11) (cj (by simp [V.nv, nvL, nvL_all, nv_E3]) (cj h9 (cj h9 (cj h9 (cj h12 (cj h12 (cj h12 (cj h12 (cj h12 (cj (impl_HoldAt_ok r5.1.Holds x1.Id r8 h13) (cj (by simp [V.nv, nvL, nvL_all, nv_E3]) (cj h12 (cj h12 (cj h14 (cj h14 (cj h14 (cj h14 (cj h14 (cj h14 (cj1 h15)))))))))))))))))))))))))))))))))))))))))) (fun h15 =>
              Pn.ite (fun h16 =>
               LpO.go [.bit true, .el (E61 x1), .call [] (V.tup [E54 r4.1, E3 r4.2]) [], .call [] (V.tup [E54 r5.1, E3 r5.2]) [], .draw [], .bit false, .bit false, .bit false, .bit false, .bit false, .bit false, .bit false, .call [] (E3 r6) [], .bit false, .call [] (E3 r7) [], .bit false, .bit false, .bit false, .bit false, .bit false, .bit false, .bit false, .bit false, .call [] (E3 r8) [], .bit false, .bit false, .bit false, .bit false, .bit false, .bit false, .bit false, .bit false, .bit false, .bit true, .wait 2, .mask [3, 5, 7, 32, 33, 34], .ren [0, 1, 2, 3, 4, 5], .nm 34 (V.sc (.int .i64 ((p1 ++ [x1]).length : Int)))] (p := [(decide ((p1.length : Int) < (r3.Holds.length : Int))) = true,
                (0 : Int) ≤ (p1.length : Int),
                ((p1.length : Int) : Int) < ((List.map E61 r3.Holds).length : Int),
                look [] ((p1.length : Int).toNat) = none,
                (List.map E61 r3.Holds)[(p1.length : Int).toNat]? = some (E61 x1),
                Fn Try.prog 39 [(false, E54 r1), (false, E9 x1.Id), (false, E3 r2.2.1), (false, E3 r2.2.2.2)] (V.tup [E54 r4.1, E3 r4.2]) [],
                (false || ((V.tup [E54 r4.1, E3 r4.2]).nv && nvL [])) = true,
                Fn Try.prog 40 [(false, E54 r1), (false, E9 x1.Id), (false, E3 r2.2.2.2)] (V.tup [E54 r5.1, E3 r5.2]) [],
                (false || ((V.tup [E54 r5.1, E3 r5.2]).nv && nvL [])) = true,
                (r5.2 != 0) = false,
                (r5.2 != 0) = false,
                (r5.2 != 0) = false,
                (r5.2 != 0) = false,
                (r5.2 != 0) = false,
                (r5.2 != 0) = false,
                (r5.2 != 0) = false,
                Fn Try.prog 32 [(false, E54 r5.1), (false, E3 r2.2.2.2)] (E3 r6) [],
                (false || ((E3 r6).nv && nvL [])) = true,
                (r5.2 != 0) = false,
                Fn Try.prog 32 [(false, E54 r1), (false, E3 r2.2.2.2)] (E3 r7) [],
                (false || ((E3 r7).nv && nvL [])) = true,
                (r5.2 != 0) = false,
                (r5.2 != 0) = false,
                (r5.2 != 0) = false,
                (r6 != (i64 (r7 + x1.Amount))) = false,
                (r6 != (i64 (r7 + x1.Amount))) = false,
                (r6 != (i64 (r7 + x1.Amount))) = false,
                (r6 != (i64 (r7 + x1.Amount))) = false,
                (r6 != (i64 (r7 + x1.Amount))) = false,
                Fn Try.prog 41 [(false, E48 r5.1.Holds), (false, E9 x1.Id)] (E3 r8) [],
                (false || ((E3 r8).nv && nvL [])) = true,
                (r6 != (i64 (r7 + x1.Amount))) = false,
                (r6 != (i64 (r7 + x1.Amount))) = false,
                (decide (0 ≤ r8)) = false,
                (decide (0 ≤ r8)) = false,
                (decide (0 ≤ r8)) = false,
                (decide (0 ≤ r8)) = false,
                (decide (0 ≤ r8)) = false,
                (decide (0 ≤ r8)) = false,
                (r5.1.Posted != r1.Posted) = false,
                (r4.2 != 0) = true,
                V.sc (.int .i64 (i64 ((p1.length : Int) + 1))) = V.sc (.int .i64 ((p1 ++ [x1]).length : Int))]) (by kernel_rfl) (cj (rng_lt h5) (cj (by omega) (cj (rng_ltI _ h5) (cj rfl (cj (rng_get _ h5) (cj (impl_More_ok r1 x1.Id r2.2.1 r2.2.2.2 r4 h7) (cj (by simp [V.nv, nvL, nvL_all, nv_E3, nv_E5, nv_E9, nv_E47, nv_E48, nv_E49, nv_E51, nv_E52, nv_E54, nv_E61, nv_E177]) (cj (impl_Free_ok r1 x1.Id r2.2.2.2 r5 h8) (cj (by simp [V.nv, nvL, nvL_all, nv_E3, nv_E5, nv_E9, nv_E47, nv_E48, nv_E49, nv_E51, nv_E52, nv_E54, nv_E61, nv_E177]) (cj h9 (cj h9 (cj h9 (cj h9 (cj h9 (cj h9 (cj h9 (cj (impl_Room_ok r5.1 r2.2.2.2 r6 h10) (cj (by simp [V.nv, nvL, nvL_all, nv_E3]) (cj h9 (cj (impl_Room_ok r1 r2.2.2.2 r7 h11) (cj (by simp [V.nv, nvL, nvL_all, nv_E3]) (cj h9 (cj h9 (cj h9 (cj h12 (cj h12 (cj h12 (cj h12 (cj h12 (cj (impl_HoldAt_ok r5.1.Holds x1.Id r8 h13) (cj (by simp [V.nv, nvL, nvL_all, nv_E3]) (cj h12 (cj h12 (cj h14 (cj h14 (cj h14 (cj h14 (cj h14 (cj h14 (cj h15 (cj h16 (cj1 (rng_next h5 h6))))))))))))))))))))))))))))))))))))))))))) (laws_FnMore_l0_ok r1 r2 r3 h6 t1 (p1 ++ [x1]) (rng_step h5))) (fun h16 =>
               Pn.bind (fun r9 h17 =>
                Pn.ite (fun h18 =>
                 Pn.some (LpO.out [.bit true, .el (E61 x1), .call [] (V.tup [E54 r4.1, E3 r4.2]) [], .call [] (V.tup [E54 r5.1, E3 r5.2]) [], .draw [], .bit false, .bit false, .bit false, .bit false, .bit false, .bit false, .bit false, .call [] (E3 r6) [], .bit false, .call [] (E3 r7) [], .bit false, .bit false, .bit false, .bit false, .bit false, .bit false, .bit false, .bit false, .call [] (E3 r8) [], .bit false, .bit false, .bit false, .bit false, .bit false, .bit false, .bit false, .bit false, .bit false, .bit false, .call [] (E3 r9) [], .draw [], .bit true, .bit true, .bit true, .bit true, .bit true, .bit true, .bit true, .bit true, .bit true, .bit true, .bit true, .bit true, .bit true, .bit true, .bit true, .bit true, .bit true, .bit true, .bit true, .bit true, .bit true, .bit true, .bit true, .bit true, .bit true, .bit true, .bit true, .bit true, .bit true, .bit true, .bit true, .bit true, .bit true, .bit true, .bit true, .bit true, .bit true, .wait 1, .mask [2], .ren []] (p := [(decide ((p1.length : Int) < (r3.Holds.length : Int))) = true,
                  (0 : Int) ≤ (p1.length : Int),
                  ((p1.length : Int) : Int) < ((List.map E61 r3.Holds).length : Int),
                  look [] ((p1.length : Int).toNat) = none,
                  (List.map E61 r3.Holds)[(p1.length : Int).toNat]? = some (E61 x1),
                  Fn Try.prog 39 [(false, E54 r1), (false, E9 x1.Id), (false, E3 r2.2.1), (false, E3 r2.2.2.2)] (V.tup [E54 r4.1, E3 r4.2]) [],
                  (false || ((V.tup [E54 r4.1, E3 r4.2]).nv && nvL [])) = true,
                  Fn Try.prog 40 [(false, E54 r1), (false, E9 x1.Id), (false, E3 r2.2.2.2)] (V.tup [E54 r5.1, E3 r5.2]) [],
                  (false || ((V.tup [E54 r5.1, E3 r5.2]).nv && nvL [])) = true,
                  (r5.2 != 0) = false,
                  (r5.2 != 0) = false,
                  (r5.2 != 0) = false,
                  (r5.2 != 0) = false,
                  (r5.2 != 0) = false,
                  (r5.2 != 0) = false,
                  (r5.2 != 0) = false,
                  Fn Try.prog 32 [(false, E54 r5.1), (false, E3 r2.2.2.2)] (E3 r6) [],
                  (false || ((E3 r6).nv && nvL [])) = true,
                  (r5.2 != 0) = false,
                  Fn Try.prog 32 [(false, E54 r1), (false, E3 r2.2.2.2)] (E3 r7) [],
                  (false || ((E3 r7).nv && nvL [])) = true,
                  (r5.2 != 0) = false,
                  (r5.2 != 0) = false,
                  (r5.2 != 0) = false,
                  (r6 != (i64 (r7 + x1.Amount))) = false,
                  (r6 != (i64 (r7 + x1.Amount))) = false,
                  (r6 != (i64 (r7 + x1.Amount))) = false,
                  (r6 != (i64 (r7 + x1.Amount))) = false,
                  (r6 != (i64 (r7 + x1.Amount))) = false,
                  Fn Try.prog 41 [(false, E48 r5.1.Holds), (false, E9 x1.Id)] (E3 r8) [],
                  (false || ((E3 r8).nv && nvL [])) = true,
                  (r6 != (i64 (r7 + x1.Amount))) = false,
                  (r6 != (i64 (r7 + x1.Amount))) = false,
                  (decide (0 ≤ r8)) = false,
                  (decide (0 ≤ r8)) = false,
                  (decide (0 ≤ r8)) = false,
                  (decide (0 ≤ r8)) = false,
                  (decide (0 ≤ r8)) = false,
                  (decide (0 ≤ r8)) = false,
                  (r5.1.Posted != r1.Posted) = false,
                  (r4.2 != 0) = false,
                  Fn Try.prog 30 [(false, E48 r4.1.Holds), (false, E9 x1.Id)] (E3 r9) [],
                  (false || ((E3 r9).nv && nvL [])) = true,
                  (decide (r9 < 0)) = true,
                  (decide (r9 < 0)) = true,
                  (decide (r9 < 0)) = true,
                  (decide (r9 < 0)) = true,
                  (decide (r9 < 0)) = true,
                  (decide (r9 < 0)) = true,
                  (decide (r9 < 0)) = true,
                  (decide (r9 < 0)) = true,
                  (decide (r9 < 0)) = true,
                  (decide (r9 < 0)) = true,
                  (decide (r9 < 0)) = true,
                  (decide (r9 < 0)) = true,
                  true = true,
                  true = true,
                  true = true,
                  true = true,
                  true = true,
                  true = true,
                  true = true,
                  true = true,
                  true = true,
                  true = true,
                  true = true,
                  true = true,
                  true = true,
                  true = true,
                  true = true,
                  true = true,
                  true = true,
                  true = true,
                  true = true,
                  true = true,
                  true = true,
                  true = true,
                  true = true,
                  true = true,
                  true = true]) (by kernel_rfl) (show X.ret ≠ X.go from nofun) (cj (rng_lt h5) (cj (by omega) (cj (rng_ltI _ h5) (cj rfl (cj (rng_get _ h5) (cj (impl_More_ok r1 x1.Id r2.2.1 r2.2.2.2 r4 h7) (cj (by simp [V.nv, nvL, nvL_all, nv_E3, nv_E5, nv_E9, nv_E47, nv_E48, nv_E49, nv_E51, nv_E52, nv_E54, nv_E61, nv_E177]) (cj (impl_Free_ok r1 x1.Id r2.2.2.2 r5 h8) (cj (by simp [V.nv, nvL, nvL_all, nv_E3, nv_E5, nv_E9, nv_E47, nv_E48, nv_E49, nv_E51, nv_E52, nv_E54, nv_E61, nv_E177]) (cj h9 (cj h9 (cj h9 (cj h9 (cj h9 (cj h9 (cj h9 (cj (impl_Room_ok r5.1 r2.2.2.2 r6 h10) (cj (by simp [V.nv, nvL, nvL_all, nv_E3]) (cj h9 (cj (impl_Room_ok r1 r2.2.2.2 r7 h11) (cj (by simp [V.nv, nvL, nvL_all, nv_E3]) (cj h9 (cj h9 (cj h9 (cj h12 (cj h12 (cj h12 (cj h12 (cj h12 (cj (impl_HoldAt_ok r5.1.Holds x1.Id r8 h13) (cj (by simp [V.nv, nvL, nvL_all, nv_E3]) (cj h12 (cj h12 (cj h14 (cj h14 (cj h14 (cj h14 (cj h14 (cj h14 (cj h15 (cj h16 (cj (spec_HoldAt_ok r4.1.Holds x1.Id r9 h17) (cj (by simp [V.nv, nvL, nvL_all, nv_E3]) (cj h18 (cj h18 (cj h18 (cj h18 (cj h18 (cj h18 (cj h18 (cj h18 (cj h18 (cj h18 (cj h18 (cj h18 (cj rfl (cj rfl (cj rfl (cj rfl (cj rfl (cj rfl (cj rfl (cj rfl (cj rfl (cj rfl (cj rfl (cj rfl (cj rfl (cj rfl (cj rfl (cj rfl (cj rfl (cj rfl (cj rfl (cj rfl (cj rfl (cj rfl (cj rfl (cj rfl (cj1 rfl)))))))))))))))))))))))))))))))))))))))))))))))))))))))))))))))))))))))))))))))))) (fun h18 =>
                 Pn.ite (fun h19 =>
                  Pn.bind (fun x2 h20 =>
                   Pn.ite (fun h21 =>
                    Pn.some (LpO.out [.bit true, .el (E61 x1), .call [] (V.tup [E54 r4.1, E3 r4.2]) [], .call [] (V.tup [E54 r5.1, E3 r5.2]) [], .draw [], .bit false, .bit false, .bit false, .bit false, .bit false, .bit false, .bit false, .call [] (E3 r6) [], .bit false, .call [] (E3 r7) [], .bit false, .bit false, .bit false, .bit false, .bit false, .bit false, .bit false, .bit false, .call [] (E3 r8) [], .bit false, .bit false, .bit false, .bit false, .bit false, .bit false, .bit false, .bit false, .bit false, .bit false, .call [] (E3 r9) [], .draw [], .bit false, .bit false, .bit false, .bit false, .bit false, .bit false, .el (E61 x2), .bit false, .bit false, .bit false, .bit false, .bit false, .bit false, .bit true, .bit true, .bit true, .bit true, .bit true, .bit true, .bit true, .bit true, .bit true, .bit true, .bit true, .bit true, .bit true, .bit true, .bit true, .bit true, .bit true, .bit true, .bit true, .bit true, .bit true, .bit true, .bit true, .bit true, .bit true, .wait 1, .mask [2], .ren []] (p := [(decide ((p1.length : Int) < (r3.Holds.length : Int))) = true,
                     (0 : Int) ≤ (p1.length : Int),
                     ((p1.length : Int) : Int) < ((List.map E61 r3.Holds).length : Int),
                     look [] ((p1.length : Int).toNat) = none,
                     (List.map E61 r3.Holds)[(p1.length : Int).toNat]? = some (E61 x1),
                     Fn Try.prog 39 [(false, E54 r1), (false, E9 x1.Id), (false, E3 r2.2.1), (false, E3 r2.2.2.2)] (V.tup [E54 r4.1, E3 r4.2]) [],
                     (false || ((V.tup [E54 r4.1, E3 r4.2]).nv && nvL [])) = true,
                     Fn Try.prog 40 [(false, E54 r1), (false, E9 x1.Id), (false, E3 r2.2.2.2)] (V.tup [E54 r5.1, E3 r5.2]) [],
                     (false || ((V.tup [E54 r5.1, E3 r5.2]).nv && nvL [])) = true,
                     (r5.2 != 0) = false,
                     (r5.2 != 0) = false,
                     (r5.2 != 0) = false,
                     (r5.2 != 0) = false,
                     (r5.2 != 0) = false,
                     (r5.2 != 0) = false,
                     (r5.2 != 0) = false,
                     Fn Try.prog 32 [(false, E54 r5.1), (false, E3 r2.2.2.2)] (E3 r6) [],
                     (false || ((E3 r6).nv && nvL [])) = true,
                     (r5.2 != 0) = false,
                     Fn Try.prog 32 [(false, E54 r1), (false, E3 r2.2.2.2)] (E3 r7) [],
                     (false || ((E3 r7).nv && nvL [])) = true,
                     (r5.2 != 0) = false,
                     (r5.2 != 0) = false,
                     (r5.2 != 0) = false,
                     (r6 != (i64 (r7 + x1.Amount))) = false,
                     (r6 != (i64 (r7 + x1.Amount))) = false,
                     (r6 != (i64 (r7 + x1.Amount))) = false,
                     (r6 != (i64 (r7 + x1.Amount))) = false,
                     (r6 != (i64 (r7 + x1.Amount))) = false,
                     Fn Try.prog 41 [(false, E48 r5.1.Holds), (false, E9 x1.Id)] (E3 r8) [],
                     (false || ((E3 r8).nv && nvL [])) = true,
                     (r6 != (i64 (r7 + x1.Amount))) = false,
                     (r6 != (i64 (r7 + x1.Amount))) = false,
                     (decide (0 ≤ r8)) = false,
                     (decide (0 ≤ r8)) = false,
                     (decide (0 ≤ r8)) = false,
                     (decide (0 ≤ r8)) = false,
                     (decide (0 ≤ r8)) = false,
                     (decide (0 ≤ r8)) = false,
                     (r5.1.Posted != r1.Posted) = false,
                     (r4.2 != 0) = false,
                     Fn Try.prog 30 [(false, E48 r4.1.Holds), (false, E9 x1.Id)] (E3 r9) [],
                     (false || ((E3 r9).nv && nvL [])) = true,
                     (decide (r9 < 0)) = false,
                     (decide (r9 < 0)) = false,
                     (decide (r9 < 0)) = false,
                     (decide (r9 < 0)) = false,
                     (0 : Int) ≤ r9,
                     (r9 : Int) < ((List.map E61 r4.1.Holds).length : Int),
                     (decide (r9 < 0)) = false,
                     (decide (r9 < 0)) = false,
                     look [] r9.toNat = none,
                     (List.map E61 r4.1.Holds)[r9.toNat]? = some (E61 x2),
                     (decide (r9 < 0)) = false,
                     (decide (r9 < 0)) = false,
                     (decide (r9 < 0)) = false,
                     (decide (r9 < 0)) = false,
                     (decide (r9 < 0)) = false,
                     (decide (r9 < 0)) = false,
                     (x2.Amount != (i64 (x1.Amount + r2.2.1))) = true,
                     (x2.Amount != (i64 (x1.Amount + r2.2.1))) = true,
                     (x2.Amount != (i64 (x1.Amount + r2.2.1))) = true,
                     (x2.Amount != (i64 (x1.Amount + r2.2.1))) = true,
                     (x2.Amount != (i64 (x1.Amount + r2.2.1))) = true,
                     (x2.Amount != (i64 (x1.Amount + r2.2.1))) = true,
                     (x2.Amount != (i64 (x1.Amount + r2.2.1))) = true,
                     (x2.Amount != (i64 (x1.Amount + r2.2.1))) = true,
                     (x2.Amount != (i64 (x1.Amount + r2.2.1))) = true,
                     (x2.Amount != (i64 (x1.Amount + r2.2.1))) = true,
                     true = true,
                     true = true,
                     true = true,
                     true = true,
                     true = true,
                     true = true,
                     true = true,
                     true = true,
                     true = true,
                     true = true,
                     true = true,
                     true = true,
                     true = true,
                     true = true,
                     true = true]) (by kernel_rfl) (show X.ret ≠ X.go from nofun) (cj (rng_lt h5) (cj (by omega) (cj (rng_ltI _ h5) (cj rfl (cj (rng_get _ h5) (cj (impl_More_ok r1 x1.Id r2.2.1 r2.2.2.2 r4 h7) (cj (by simp [V.nv, nvL, nvL_all, nv_E3, nv_E5, nv_E9, nv_E47, nv_E48, nv_E49, nv_E51, nv_E52, nv_E54, nv_E61, nv_E177]) (cj (impl_Free_ok r1 x1.Id r2.2.2.2 r5 h8) (cj (by simp [V.nv, nvL, nvL_all, nv_E3, nv_E5, nv_E9, nv_E47, nv_E48, nv_E49, nv_E51, nv_E52, nv_E54, nv_E61, nv_E177]) (cj h9 (cj h9 (cj h9 (cj h9 (cj h9 (cj h9 (cj h9 (cj (impl_Room_ok r5.1 r2.2.2.2 r6 h10) (cj (by simp [V.nv, nvL, nvL_all, nv_E3]) (cj h9 (cj (impl_Room_ok r1 r2.2.2.2 r7 h11) (cj (by simp [V.nv, nvL, nvL_all, nv_E3]) (cj h9 (cj h9 (cj h9 (cj h12 (cj h12 (cj h12 (cj h12 (cj h12 (cj (impl_HoldAt_ok r5.1.Holds x1.Id r8 h13) (cj (by simp [V.nv, nvL, nvL_all, nv_E3]) (cj h12 (cj h12 (cj h14 (cj h14 (cj h14 (cj h14 (cj h14 (cj h14 (cj h15 (cj h16 (cj (spec_HoldAt_ok r4.1.Holds x1.Id r9 h17) (cj (by simp [V.nv, nvL, nvL_all, nv_E3]) (cj h18 (cj h18 (cj h18 (cj h18 (cj (od h19) (cj (map_ltN (od h19) h20) (cj h18 (cj h18 (cj rfl (cj (map_get h20) (cj h18 (cj h18 (cj h18 (cj h18 (cj h18 (cj h18 (cj h21 (cj h21 (cj h21 (cj h21 (cj h21 (cj h21 (cj h21 (cj h21 (cj h21 (cj h21 (cj rfl (cj rfl (cj rfl (cj rfl (cj rfl (cj rfl (cj rfl (cj rfl (cj rfl (cj rfl (cj rfl (cj rfl (cj rfl (cj rfl (cj1 rfl)))))))))))))))))))))))))))))))))))))))))))))))))))))))))))))))))))))))))))))))))))))) (fun h21 =>
                    Pn.ite (fun h22 =>
                     Pn.some (LpO.out [.bit true, .el (E61 x1), .call [] (V.tup [E54 r4.1, E3 r4.2]) [], .call [] (V.tup [E54 r5.1, E3 r5.2]) [], .draw [], .bit false, .bit false, .bit false, .bit false, .bit false, .bit false, .bit false, .call [] (E3 r6) [], .bit false, .call [] (E3 r7) [], .bit false, .bit false, .bit false, .bit false, .bit false, .bit false, .bit false, .bit false, .call [] (E3 r8) [], .bit false, .bit false, .bit false, .bit false, .bit false, .bit false, .bit false, .bit false, .bit false, .bit false, .call [] (E3 r9) [], .draw [], .bit false, .bit false, .bit false, .bit false, .bit false, .bit false, .el (E61 x2), .bit false, .bit false, .bit false, .bit false, .bit false, .bit false, .bit false, .bit false, .bit false, .bit false, .bit false, .bit false, .el (E61 x2), .bit false, .bit false, .bit false, .bit false, .bit true, .bit true, .bit true, .bit true, .bit true, .bit true, .bit true, .bit true, .bit true, .bit true, .bit true, .bit true, .bit true, .bit true, .bit true, .wait 1, .mask [2], .ren []] (p := [(decide ((p1.length : Int) < (r3.Holds.length : Int))) = true,
                      (0 : Int) ≤ (p1.length : Int),
                      ((p1.length : Int) : Int) < ((List.map E61 r3.Holds).length : Int),
                      look [] ((p1.length : Int).toNat) = none,
                      (List.map E61 r3.Holds)[(p1.length : Int).toNat]? = some (E61 x1),
                      Fn Try.prog 39 [(false, E54 r1), (false, E9 x1.Id), (false, E3 r2.2.1), (false, E3 r2.2.2.2)] (V.tup [E54 r4.1, E3 r4.2]) [],
                      (false || ((V.tup [E54 r4.1, E3 r4.2]).nv && nvL [])) = true,
                      Fn Try.prog 40 [(false, E54 r1), (false, E9 x1.Id), (false, E3 r2.2.2.2)] (V.tup [E54 r5.1, E3 r5.2]) [],
                      (false || ((V.tup [E54 r5.1, E3 r5.2]).nv && nvL [])) = true,
                      (r5.2 != 0) = false,
                      (r5.2 != 0) = false,
                      (r5.2 != 0) = false,
                      (r5.2 != 0) = false,
                      (r5.2 != 0) = false,
                      (r5.2 != 0) = false,
                      (r5.2 != 0) = false,
                      Fn Try.prog 32 [(false, E54 r5.1), (false, E3 r2.2.2.2)] (E3 r6) [],
                      (false || ((E3 r6).nv && nvL [])) = true,
                      (r5.2 != 0) = false,
                      Fn Try.prog 32 [(false, E54 r1), (false, E3 r2.2.2.2)] (E3 r7) [],
                      (false || ((E3 r7).nv && nvL [])) = true,
                      (r5.2 != 0) = false,
                      (r5.2 != 0) = false,
                      (r5.2 != 0) = false,
                      (r6 != (i64 (r7 + x1.Amount))) = false,
                      (r6 != (i64 (r7 + x1.Amount))) = false,
                      (r6 != (i64 (r7 + x1.Amount))) = false,
                      (r6 != (i64 (r7 + x1.Amount))) = false,
                      (r6 != (i64 (r7 + x1.Amount))) = false,
                      Fn Try.prog 41 [(false, E48 r5.1.Holds), (false, E9 x1.Id)] (E3 r8) [],
                      (false || ((E3 r8).nv && nvL [])) = true,
                      (r6 != (i64 (r7 + x1.Amount))) = false,
                      (r6 != (i64 (r7 + x1.Amount))) = false,
                      (decide (0 ≤ r8)) = false,
                      (decide (0 ≤ r8)) = false,
                      (decide (0 ≤ r8)) = false,
                      (decide (0 ≤ r8)) = false,
                      (decide (0 ≤ r8)) = false,
                      (decide (0 ≤ r8)) = false,
                      (r5.1.Posted != r1.Posted) = false,
                      (r4.2 != 0) = false,
                      Fn Try.prog 30 [(false, E48 r4.1.Holds), (false, E9 x1.Id)] (E3 r9) [],
                      (false || ((E3 r9).nv && nvL [])) = true,
                      (decide (r9 < 0)) = false,
                      (decide (r9 < 0)) = false,
                      (decide (r9 < 0)) = false,
                      (decide (r9 < 0)) = false,
                      (0 : Int) ≤ r9,
                      (r9 : Int) < ((List.map E61 r4.1.Holds).length : Int),
                      (decide (r9 < 0)) = false,
                      (decide (r9 < 0)) = false,
                      look [] r9.toNat = none,
                      (List.map E61 r4.1.Holds)[r9.toNat]? = some (E61 x2),
                      (decide (r9 < 0)) = false,
                      (decide (r9 < 0)) = false,
                      (decide (r9 < 0)) = false,
                      (decide (r9 < 0)) = false,
                      (decide (r9 < 0)) = false,
                      (decide (r9 < 0)) = false,
                      (x2.Amount != (i64 (x1.Amount + r2.2.1))) = false,
                      (x2.Amount != (i64 (x1.Amount + r2.2.1))) = false,
                      (x2.Amount != (i64 (x1.Amount + r2.2.1))) = false,
                      (x2.Amount != (i64 (x1.Amount + r2.2.1))) = false,
                      (0 : Int) ≤ r9,
                      (r9 : Int) < ((List.map E61 r4.1.Holds).length : Int),
                      (x2.Amount != (i64 (x1.Amount + r2.2.1))) = false,
                      (x2.Amount != (i64 (x1.Amount + r2.2.1))) = false,
                      look [] r9.toNat = none,
                      (List.map E61 r4.1.Holds)[r9.toNat]? = some (E61 x2),
                      (x2.Amount != (i64 (x1.Amount + r2.2.1))) = false,
                      (x2.Amount != (i64 (x1.Amount + r2.2.1))) = false,
                      (x2.Amount != (i64 (x1.Amount + r2.2.1))) = false,
                      (x2.Amount != (i64 (x1.Amount + r2.2.1))) = false,
                      (x2.Due != x1.Due) = true,
                      (x2.Due != x1.Due) = true,
                      (x2.Due != x1.Due) = true,
                      (x2.Due != x1.Due) = true,
                      (x2.Due != x1.Due) = true,
                      (x2.Due != x1.Due) = true,
                      (x2.Due != x1.Due) = true,
                      (x2.Due != x1.Due) = true,
                      (x2.Due != x1.Due) = true,
                      (x2.Due != x1.Due) = true,
                      true = true,
                      true = true,
                      true = true,
                      true = true,
                      true = true]) (by kernel_rfl) (show X.ret ≠ X.go from nofun) (cj (rng_lt h5) (cj (by omega) (cj (rng_ltI _ h5) (cj rfl (cj (rng_get _ h5) (cj (impl_More_ok r1 x1.Id r2.2.1 r2.2.2.2 r4 h7) (cj (by simp [V.nv, nvL, nvL_all, nv_E3, nv_E5, nv_E9, nv_E47, nv_E48, nv_E49, nv_E51, nv_E52, nv_E54, nv_E61, nv_E177]) (cj (impl_Free_ok r1 x1.Id r2.2.2.2 r5 h8) (cj (by simp [V.nv, nvL, nvL_all, nv_E3, nv_E5, nv_E9, nv_E47, nv_E48, nv_E49, nv_E51, nv_E52, nv_E54, nv_E61, nv_E177]) (cj h9 (cj h9 (cj h9 (cj h9 (cj h9 (cj h9 (cj h9 (cj (impl_Room_ok r5.1 r2.2.2.2 r6 h10) (cj (by simp [V.nv, nvL, nvL_all, nv_E3]) (cj h9 (cj (impl_Room_ok r1 r2.2.2.2 r7 h11) (cj (by simp [V.nv, nvL, nvL_all, nv_E3]) (cj h9 (cj h9 (cj h9 (cj h12 (cj h12 (cj h12 (cj h12 (cj h12 (cj (impl_HoldAt_ok r5.1.Holds x1.Id r8 h13) (cj (by simp [V.nv, nvL, nvL_all, nv_E3]) (cj h12 (cj h12 (cj h14 (cj h14 (cj h14 (cj h14 (cj h14 (cj h14 (cj h15 (cj h16 (cj (spec_HoldAt_ok r4.1.Holds x1.Id r9 h17) (cj (by simp [V.nv, nvL, nvL_all, nv_E3]) (cj h18 (cj h18 (cj h18 (cj h18 (cj (od h19) (cj (map_ltN (od h19) h20) (cj h18 (cj h18 (cj rfl (cj (map_get h20) (cj h18 (cj h18 (cj h18 (cj h18 (cj h18 (cj h18 (cj h21 (cj h21 (cj h21 (cj h21 (cj (od h19) (cj (map_ltN (od h19) h20) (cj h21 (cj h21 (cj rfl (cj (map_get h20) (cj h21 (cj h21 (cj h21 (cj h21 (cj h22 (cj h22 (cj h22 (cj h22 (cj h22 (cj h22 (cj h22 (cj h22 (cj h22 (cj h22 (cj rfl (cj rfl (cj rfl (cj rfl (cj1 rfl)))))))))))))))))))))))))))))))))))))))))))))))))))))))))))))))))))))))))))))))))))))))))) (fun h22 =>
                     Pn.bind (fun r10 h23 =>
                      Pn.bind (fun r11 h24 =>
                       Pn.ite (fun h25 =>
                        Pn.some (LpO.out [.bit true, .el (E61 x1), .call [] (V.tup [E54 r4.1, E3 r4.2]) [], .call [] (V.tup [E54 r5.1, E3 r5.2]) [], .draw [], .bit false, .bit false, .bit false, .bit false, .bit false, .bit false, .bit false, .call [] (E3 r6) [], .bit false, .call [] (E3 r7) [], .bit false, .bit false, .bit false, .bit false, .bit false, .bit false, .bit false, .bit false, .call [] (E3 r8) [], .bit false, .bit false, .bit false, .bit false, .bit false, .bit false, .bit false, .bit false, .bit false, .bit false, .call [] (E3 r9) [], .draw [], .bit false, .bit false, .bit false, .bit false, .bit false, .bit false, .el (E61 x2), .bit false, .bit false, .bit false, .bit false, .bit false, .bit false, .bit false, .bit false, .bit false, .bit false, .bit false, .bit false, .el (E61 x2), .bit false, .bit false, .bit false, .bit false, .bit false, .bit false, .bit false, .bit false, .bit false, .bit false, .call [] (E3 r10) [], .bit false, .call [] (E3 r11) [], .bit false, .bit false, .bit false, .bit true, .bit true, .bit true, .bit true, .bit true, .wait 1, .mask [2], .ren []] (p := [(decide ((p1.length : Int) < (r3.Holds.length : Int))) = true,
                         (0 : Int) ≤ (p1.length : Int),
                         ((p1.length : Int) : Int) < ((List.map E61 r3.Holds).length : Int),
                         look [] ((p1.length : Int).toNat) = none,
                         (List.map E61 r3.Holds)[(p1.length : Int).toNat]? = some (E61 x1),
                         Fn Try.prog 39 [(false, E54 r1), (false, E9 x1.Id), (false, E3 r2.2.1), (false, E3 r2.2.2.2)] (V.tup [E54 r4.1, E3 r4.2]) [],
                         (false || ((V.tup [E54 r4.1, E3 r4.2]).nv && nvL [])) = true,
                         Fn Try.prog 40 [(false, E54 r1), (false, E9 x1.Id), (false, E3 r2.2.2.2)] (V.tup [E54 r5.1, E3 r5.2]) [],
                         (false || ((V.tup [E54 r5.1, E3 r5.2]).nv && nvL [])) = true,
                         (r5.2 != 0) = false,
                         (r5.2 != 0) = false,
                         (r5.2 != 0) = false,
                         (r5.2 != 0) = false,
                         (r5.2 != 0) = false,
                         (r5.2 != 0) = false,
                         (r5.2 != 0) = false,
                         Fn Try.prog 32 [(false, E54 r5.1), (false, E3 r2.2.2.2)] (E3 r6) [],
                         (false || ((E3 r6).nv && nvL [])) = true,
                         (r5.2 != 0) = false,
                         Fn Try.prog 32 [(false, E54 r1), (false, E3 r2.2.2.2)] (E3 r7) [],
                         (false || ((E3 r7).nv && nvL [])) = true,
                         (r5.2 != 0) = false,
                         (r5.2 != 0) = false,
                         (r5.2 != 0) = false,
                         (r6 != (i64 (r7 + x1.Amount))) = false,
                         (r6 != (i64 (r7 + x1.Amount))) = false,
                         (r6 != (i64 (r7 + x1.Amount))) = false,
                         (r6 != (i64 (r7 + x1.Amount))) = false,
                         (r6 != (i64 (r7 + x1.Amount))) = false,
                         Fn Try.prog 41 [(false, E48 r5.1.Holds), (false, E9 x1.Id)] (E3 r8) [],
                         (false || ((E3 r8).nv && nvL [])) = true,
                         (r6 != (i64 (r7 + x1.Amount))) = false,
                         (r6 != (i64 (r7 + x1.Amount))) = false,
                         (decide (0 ≤ r8)) = false,
                         (decide (0 ≤ r8)) = false,
                         (decide (0 ≤ r8)) = false,
                         (decide (0 ≤ r8)) = false,
                         (decide (0 ≤ r8)) = false,
                         (decide (0 ≤ r8)) = false,
                         (r5.1.Posted != r1.Posted) = false,
                         (r4.2 != 0) = false,
                         Fn Try.prog 30 [(false, E48 r4.1.Holds), (false, E9 x1.Id)] (E3 r9) [],
                         (false || ((E3 r9).nv && nvL [])) = true,
                         (decide (r9 < 0)) = false,
                         (decide (r9 < 0)) = false,
                         (decide (r9 < 0)) = false,
                         (decide (r9 < 0)) = false,
                         (0 : Int) ≤ r9,
                         (r9 : Int) < ((List.map E61 r4.1.Holds).length : Int),
                         (decide (r9 < 0)) = false,
                         (decide (r9 < 0)) = false,
                         look [] r9.toNat = none,
                         (List.map E61 r4.1.Holds)[r9.toNat]? = some (E61 x2),
                         (decide (r9 < 0)) = false,
                         (decide (r9 < 0)) = false,
                         (decide (r9 < 0)) = false,
                         (decide (r9 < 0)) = false,
                         (decide (r9 < 0)) = false,
                         (decide (r9 < 0)) = false,
                         (x2.Amount != (i64 (x1.Amount + r2.2.1))) = false,
                         (x2.Amount != (i64 (x1.Amount + r2.2.1))) = false,
                         (x2.Amount != (i64 (x1.Amount + r2.2.1))) = false,
                         (x2.Amount != (i64 (x1.Amount + r2.2.1))) = false,
                         (0 : Int) ≤ r9,
                         (r9 : Int) < ((List.map E61 r4.1.Holds).length : Int),
                         (x2.Amount != (i64 (x1.Amount + r2.2.1))) = false,
                         (x2.Amount != (i64 (x1.Amount + r2.2.1))) = false,
                         look [] r9.toNat = none,
                         (List.map E61 r4.1.Holds)[r9.toNat]? = some (E61 x2),
                         (x2.Amount != (i64 (x1.Amount + r2.2.1))) = false,
                         (x2.Amount != (i64 (x1.Amount + r2.2.1))) = false,
                         (x2.Amount != (i64 (x1.Amount + r2.2.1))) = false,
                         (x2.Amount != (i64 (x1.Amount + r2.2.1))) = false,
                         (x2.Due != x1.Due) = false,
                         (x2.Due != x1.Due) = false,
                         (x2.Due != x1.Due) = false,
                         (x2.Due != x1.Due) = false,
                         (x2.Due != x1.Due) = false,
                         (x2.Due != x1.Due) = false,
                         Fn Try.prog 32 [(false, E54 r4.1), (false, E3 r2.2.2.2)] (E3 r10) [],
                         (false || ((E3 r10).nv && nvL [])) = true,
                         (x2.Due != x1.Due) = false,
                         Fn Try.prog 32 [(false, E54 r1), (false, E3 r2.2.2.2)] (E3 r11) [],
                         (false || ((E3 r11).nv && nvL [])) = true,
                         (x2.Due != x1.Due) = false,
                         (x2.Due != x1.Due) = false,
                         (x2.Due != x1.Due) = false,
                         (r10 != (i64 (r11 - r2.2.1))) = true,
                         (r10 != (i64 (r11 - r2.2.1))) = true,
                         (r10 != (i64 (r11 - r2.2.1))) = true,
                         (r10 != (i64 (r11 - r2.2.1))) = true,
                         true = true]) (by kernel_rfl) (show X.ret ≠ X.go from nofun) (cj (rng_lt h5) (cj (by omega) (cj (rng_ltI _ h5) (cj rfl (cj (rng_get _ h5) (cj (impl_More_ok r1 x1.Id r2.2.1 r2.2.2.2 r4 h7) (cj (by simp [V.nv, nvL, nvL_all, nv_E3, nv_E5, nv_E9, nv_E47, nv_E48, nv_E49, nv_E51, nv_E52, nv_E54, nv_E61, nv_E177]) (cj (impl_Free_ok r1 x1.Id r2.2.2.2 r5 h8) (cj (by simp [V.nv, nvL, nvL_all, nv_E3, nv_E5, nv_E9, nv_E47, nv_E48, nv_E49, nv_E51, nv_E52, nv_E54, nv_E61, nv_E177]) (cj h9 (cj h9 (cj h9 (cj h9 (cj h9 (cj h9 (cj h9 (cj (impl_Room_ok r5.1 r2.2.2.2 r6 h10) (cj (by simp [V.nv, nvL, nvL_all, nv_E3]) (cj h9 (cj (impl_Room_ok r1 r2.2.2.2 r7 h11) (cj (by simp [V.nv, nvL, nvL_all, nv_E3]) (cj h9 (cj h9 (cj h9 (cj h12 (cj h12 (cj h12 (cj h12 (cj h12 (cj (impl_HoldAt_ok r5.1.Holds x1.Id r8 h13) (cj (by simp [V.nv, nvL, nvL_all, nv_E3]) (cj h12 (cj h12 (cj h14 (cj h14 (cj h14 (cj h14 (cj h14 (cj h14 (cj h15 (cj h16 (cj (spec_HoldAt_ok r4.1.Holds x1.Id r9 h17) (cj (by simp [V.nv, nvL, nvL_all, nv_E3]) (cj h18 (cj h18 (cj h18 (cj h18 (cj (od h19) (cj (map_ltN (od h19) h20) (cj h18 (cj h18 (cj rfl (cj (map_get h20) (cj h18 (cj h18 (cj h18 (cj h18 (cj h18 (cj h18 (cj h21 (cj h21 (cj h21 (cj h21 (cj (od h19) (cj (map_ltN (od h19) h20) (cj h21 (cj h21 (cj rfl (cj (map_get h20) (cj h21 (cj h21 (cj h21 (cj h21 (cj h22 (cj h22 (cj h22 (cj h22 (cj h22 (cj h22 (cj (impl_Room_ok r4.1 r2.2.2.2 r10 h23) (cj (by simp [V.nv, nvL, nvL_all, nv_E3]) (cj h22 (cj (impl_Room_ok r1 r2.2.2.2 r11 h24) (cj (by simp [V.nv, nvL, nvL_all, nv_E3]) (cj h22 (cj h22 (cj h22 (cj h25 (cj h25 (cj h25 (cj h25 (cj1 rfl)))))))))))))))))))))))))))))))))))))))))))))))))))))))))))))))))))))))))))))))))))))))))))))) (fun h25 =>
                        Pn.bind (fun r12 h26 =>
                         Pn.ite (fun h27 =>
                          LpO.go [.bit true, .el (E61 x1), .call [] (V.tup [E54 r4.1, E3 r4.2]) [], .call [] (V.tup [E54 r5.1, E3 r5.2]) [], .draw [], .bit false, .bit false, .bit false, .bit false, .bit false, .bit false, .bit false, .call [] (E3 r6) [], .bit false, .call [] (E3 r7) [], .bit false, .bit false, .bit false, .bit false, .bit false, .bit false, .bit false, .bit false, .call [] (E3 r8) [], .bit false, .bit false, .bit false, .bit false, .bit false, .bit false, .bit false, .bit false, .bit false, .bit false, .call [] (E3 r9) [], .draw [], .bit false, .bit false, .bit false, .bit false, .bit false, .bit false, .el (E61 x2), .bit false, .bit false, .bit false, .bit false, .bit false, .bit false, .bit false, .bit false, .bit false, .bit false, .bit false, .bit false, .el (E61 x2), .bit false, .bit false, .bit false, .bit false, .bit false, .bit false, .bit false, .bit false, .bit false, .bit false, .call [] (E3 r10) [], .bit false, .call [] (E3 r11) [], .bit false, .bit false, .bit false, .bit false, .bit false, .call [] (E4 r12) [], .bit false, .bit false, .bit false, .wait 2, .mask [3, 5, 7, 32, 33, 34], .ren [0, 1, 2, 3, 4, 5], .nm 34 (V.sc (.int .i64 ((p1 ++ [x1]).length : Int)))] (p := [(decide ((p1.length : Int) < (r3.Holds.length : Int))) = true,
                           (0 : Int) ≤ (p1.length : Int),
                           ((p1.length : Int) : Int) < ((List.map E61 r3.Holds).length : Int),
                           look [] ((p1.length : Int).toNat) = none,
                           (List.map E61 r3.Holds)[(p1.length : Int).toNat]? = some (E61 x1),
                           Fn Try.prog 39 [(false, E54 r1), (false, E9 x1.Id), (false, E3 r2.2.1), (false, E3 r2.2.2.2)] (V.tup [E54 r4.1, E3 r4.2]) [],
                           (false || ((V.tup [E54 r4.1, E3 r4.2]).nv && nvL [])) = true,
                           Fn Try.prog 40 [(false, E54 r1), (false, E9 x1.Id), (false, E3 r2.2.2.2)] (V.tup [E54 r5.1, E3 r5.2]) [],
                           (false || ((V.tup [E54 r5.1, E3 r5.2]).nv && nvL [])) = true,
                           (r5.2 != 0) = false,
                           (r5.2 != 0) = false,
                           (r5.2 != 0) = false,
                           (r5.2 != 0) = false,
                           (r5.2 != 0) = false,
                           (r5.2 != 0) = false,
                           (r5.2 != 0) = false,
                           Fn Try.prog 32 [(false, E54 r5.1), (false, E3 r2.2.2.2)] (E3 r6) [],
                           (false || ((E3 r6).nv && nvL [])) = true,
                           (r5.2 != 0) = false,
                           Fn Try.prog 32 [(false, E54 r1), (false, E3 r2.2.2.2)] (E3 r7) [],
                           (false || ((E3 r7).nv && nvL [])) = true,
                           (r5.2 != 0) = false,
                           (r5.2 != 0) = false,
                           (r5.2 != 0) = false,
                           (r6 != (i64 (r7 + x1.Amount))) = false,
                           (r6 != (i64 (r7 + x1.Amount))) = false,
                           (r6 != (i64 (r7 + x1.Amount))) = false,
                           (r6 != (i64 (r7 + x1.Amount))) = false,
                           (r6 != (i64 (r7 + x1.Amount))) = false,
                           Fn Try.prog 41 [(false, E48 r5.1.Holds), (false, E9 x1.Id)] (E3 r8) [],
                           (false || ((E3 r8).nv && nvL [])) = true,
                           (r6 != (i64 (r7 + x1.Amount))) = false,
                           (r6 != (i64 (r7 + x1.Amount))) = false,
                           (decide (0 ≤ r8)) = false,
                           (decide (0 ≤ r8)) = false,
                           (decide (0 ≤ r8)) = false,
                           (decide (0 ≤ r8)) = false,
                           (decide (0 ≤ r8)) = false,
                           (decide (0 ≤ r8)) = false,
                           (r5.1.Posted != r1.Posted) = false,
                           (r4.2 != 0) = false,
                           Fn Try.prog 30 [(false, E48 r4.1.Holds), (false, E9 x1.Id)] (E3 r9) [],
                           (false || ((E3 r9).nv && nvL [])) = true,
                           (decide (r9 < 0)) = false,
                           (decide (r9 < 0)) = false,
                           (decide (r9 < 0)) = false,
                           (decide (r9 < 0)) = false,
                           (0 : Int) ≤ r9,
                           (r9 : Int) < ((List.map E61 r4.1.Holds).length : Int),
                           (decide (r9 < 0)) = false,
                           (decide (r9 < 0)) = false,
                           look [] r9.toNat = none,
                           (List.map E61 r4.1.Holds)[r9.toNat]? = some (E61 x2),
                           (decide (r9 < 0)) = false,
                           (decide (r9 < 0)) = false,
                           (decide (r9 < 0)) = false,
                           (decide (r9 < 0)) = false,
                           (decide (r9 < 0)) = false,
                           (decide (r9 < 0)) = false,
                           (x2.Amount != (i64 (x1.Amount + r2.2.1))) = false,
                           (x2.Amount != (i64 (x1.Amount + r2.2.1))) = false,
                           (x2.Amount != (i64 (x1.Amount + r2.2.1))) = false,
                           (x2.Amount != (i64 (x1.Amount + r2.2.1))) = false,
                           (0 : Int) ≤ r9,
                           (r9 : Int) < ((List.map E61 r4.1.Holds).length : Int),
                           (x2.Amount != (i64 (x1.Amount + r2.2.1))) = false,
                           (x2.Amount != (i64 (x1.Amount + r2.2.1))) = false,
                           look [] r9.toNat = none,
                           (List.map E61 r4.1.Holds)[r9.toNat]? = some (E61 x2),
                           (x2.Amount != (i64 (x1.Amount + r2.2.1))) = false,
                           (x2.Amount != (i64 (x1.Amount + r2.2.1))) = false,
                           (x2.Amount != (i64 (x1.Amount + r2.2.1))) = false,
                           (x2.Amount != (i64 (x1.Amount + r2.2.1))) = false,
                           (x2.Due != x1.Due) = false,
                           (x2.Due != x1.Due) = false,
                           (x2.Due != x1.Due) = false,
                           (x2.Due != x1.Due) = false,
                           (x2.Due != x1.Due) = false,
                           (x2.Due != x1.Due) = false,
                           Fn Try.prog 32 [(false, E54 r4.1), (false, E3 r2.2.2.2)] (E3 r10) [],
                           (false || ((E3 r10).nv && nvL [])) = true,
                           (x2.Due != x1.Due) = false,
                           Fn Try.prog 32 [(false, E54 r1), (false, E3 r2.2.2.2)] (E3 r11) [],
                           (false || ((E3 r11).nv && nvL [])) = true,
                           (x2.Due != x1.Due) = false,
                           (x2.Due != x1.Due) = false,
                           (x2.Due != x1.Due) = false,
                           (r10 != (i64 (r11 - r2.2.1))) = false,
                           (r10 != (i64 (r11 - r2.2.1))) = false,
                           Fn Try.prog 31 [(false, E54 r4.1)] (E4 r12) [],
                           (false || ((E4 r12).nv && nvL [])) = true,
                           (r10 != (i64 (r11 - r2.2.1))) = false,
                           (r10 != (i64 (r11 - r2.2.1))) = false,
                           (!r12) = false,
                           V.sc (.int .i64 (i64 ((p1.length : Int) + 1))) = V.sc (.int .i64 ((p1 ++ [x1]).length : Int))]) (by kernel_rfl) (cj (rng_lt h5) (cj (by omega) (cj (rng_ltI _ h5) (cj rfl (cj (rng_get _ h5) (cj (impl_More_ok r1 x1.Id r2.2.1 r2.2.2.2 r4 h7) (cj (by simp [V.nv, nvL, nvL_all, nv_E3, nv_E5, nv_E9, nv_E47, nv_E48, nv_E49, nv_E51, nv_E52, nv_E54, nv_E61, nv_E177]) (cj (impl_Free_ok r1 x1.Id r2.2.2.2 r5 h8) (cj (by simp [V.nv, nvL, nvL_all, nv_E3, nv_E5, nv_E9, nv_E47, nv_E48, nv_E49, nv_E51, nv_E52, nv_E54, nv_E61, nv_E177]) (cj h9 (cj h9 (cj h9 (cj h9 (cj h9 (cj h9 (cj h9 (cj (impl_Room_ok r5.1 r2.2.2.2 r6 h10) (cj (by simp [V.nv, nvL, nvL_all, nv_E3]) (cj h9 (cj (impl_Room_ok r1 r2.2.2.2 r7 h11) (cj (by simp [V.nv, nvL, nvL_all, nv_E3]) (cj h9 (cj h9 (cj h9 (cj h12 (cj h12 (cj h12 (cj h12 (cj h12 (cj (impl_HoldAt_ok r5.1.Holds x1.Id r8 h13) (cj (by simp [V.nv, nvL, nvL_all, nv_E3]) (cj h12 (cj h12 (cj h14 (cj h14 (cj h14 (cj h14 (cj h14 (cj h14 (cj h15 (cj h16 (cj (spec_HoldAt_ok r4.1.Holds x1.Id r9 h17) (cj (by simp [V.nv, nvL, nvL_all, nv_E3]) (cj h18 (cj h18 (cj h18 (cj h18 (cj (od h19) (cj (map_ltN (od h19) h20) (cj h18 (cj h18 (cj rfl (cj (map_get h20) (cj h18 (cj h18 (cj h18 (cj h18 (cj h18 (cj h18 (cj h21 (cj h21 (cj h21 (cj h21 (cj (od h19) (cj (map_ltN (od h19) h20) (cj h21 (cj h21 (cj rfl (cj (map_get h20) (cj h21 (cj h21 (cj h21 (cj h21 (cj h22 (cj h22 (cj h22 (cj h22 (cj h22 (cj h22 (cj (impl_Room_ok r4.1 r2.2.2.2 r10 h23) (cj (by simp [V.nv, nvL, nvL_all, nv_E3]) (cj h22 (cj (impl_Room_ok r1 r2.2.2.2 r11 h24) (cj (by simp [V.nv, nvL, nvL_all, nv_E3]) (cj h22 (cj h22 (cj h22 (cj h25 (cj h25 (cj (impl_AcctOk_ok r4.1 r12 h26) (cj (by simp [V.nv, nvL, nvL_all, nv_E4]) (cj h25 (cj h25 (cj (nf h27) (cj1 (rng_next h5 h6)))))))))))))))))))))))))))))))))))))))))))))))))))))))))))))))))))))))))))))))))))))))))))))))) (laws_FnMore_l0_ok r1 r2 r3 h6 t1 (p1 ++ [x1]) (rng_step h5))) (fun h27 =>
                          Pn.some (LpO.out [.bit true, .el (E61 x1), .call [] (V.tup [E54 r4.1, E3 r4.2]) [], .call [] (V.tup [E54 r5.1, E3 r5.2]) [], .draw [], .bit false, .bit false, .bit false, .bit false, .bit false, .bit false, .bit false, .call [] (E3 r6) [], .bit false, .call [] (E3 r7) [], .bit false, .bit false, .bit false, .bit false, .bit false, .bit false, .bit false, .bit false, .call [] (E3 r8) [], .bit false, .bit false, .bit false, .bit false, .bit false, .bit false, .bit false, .bit false, .bit false, .bit false, .call [] (E3 r9) [], .draw [], .bit false, .bit false, .bit false, .bit false, .bit false, .bit false, .el (E61 x2), .bit false, .bit false, .bit false, .bit false, .bit false, .bit false, .bit false, .bit false, .bit false, .bit false, .bit false, .bit false, .el (E61 x2), .bit false, .bit false, .bit false, .bit false, .bit false, .bit false, .bit false, .bit false, .bit false, .bit false, .call [] (E3 r10) [], .bit false, .call [] (E3 r11) [], .bit false, .bit false, .bit false, .bit false, .bit false, .call [] (E4 r12) [], .bit false, .bit false, .bit true, .wait 1, .mask [2], .ren []] (p := [(decide ((p1.length : Int) < (r3.Holds.length : Int))) = true,
                           (0 : Int) ≤ (p1.length : Int),
                           ((p1.length : Int) : Int) < ((List.map E61 r3.Holds).length : Int),
                           look [] ((p1.length : Int).toNat) = none,
                           (List.map E61 r3.Holds)[(p1.length : Int).toNat]? = some (E61 x1),
                           Fn Try.prog 39 [(false, E54 r1), (false, E9 x1.Id), (false, E3 r2.2.1), (false, E3 r2.2.2.2)] (V.tup [E54 r4.1, E3 r4.2]) [],
                           (false || ((V.tup [E54 r4.1, E3 r4.2]).nv && nvL [])) = true,
                           Fn Try.prog 40 [(false, E54 r1), (false, E9 x1.Id), (false, E3 r2.2.2.2)] (V.tup [E54 r5.1, E3 r5.2]) [],
                           (false || ((V.tup [E54 r5.1, E3 r5.2]).nv && nvL [])) = true,
                           (r5.2 != 0) = false,
                           (r5.2 != 0) = false,
                           (r5.2 != 0) = false,
                           (r5.2 != 0) = false,
                           (r5.2 != 0) = false,
                           (r5.2 != 0) = false,
                           (r5.2 != 0) = false,
                           Fn Try.prog 32 [(false, E54 r5.1), (false, E3 r2.2.2.2)] (E3 r6) [],
                           (false || ((E3 r6).nv && nvL [])) = true,
                           (r5.2 != 0) = false,
                           Fn Try.prog 32 [(false, E54 r1), (false, E3 r2.2.2.2)] (E3 r7) [],
                           (false || ((E3 r7).nv && nvL [])) = true,
                           (r5.2 != 0) = false,
                           (r5.2 != 0) = false,
                           (r5.2 != 0) = false,
                           (r6 != (i64 (r7 + x1.Amount))) = false,
                           (r6 != (i64 (r7 + x1.Amount))) = false,
                           (r6 != (i64 (r7 + x1.Amount))) = false,
                           (r6 != (i64 (r7 + x1.Amount))) = false,
                           (r6 != (i64 (r7 + x1.Amount))) = false,
                           Fn Try.prog 41 [(false, E48 r5.1.Holds), (false, E9 x1.Id)] (E3 r8) [],
                           (false || ((E3 r8).nv && nvL [])) = true,
                           (r6 != (i64 (r7 + x1.Amount))) = false,
                           (r6 != (i64 (r7 + x1.Amount))) = false,
                           (decide (0 ≤ r8)) = false,
                           (decide (0 ≤ r8)) = false,
                           (decide (0 ≤ r8)) = false,
                           (decide (0 ≤ r8)) = false,
                           (decide (0 ≤ r8)) = false,
                           (decide (0 ≤ r8)) = false,
                           (r5.1.Posted != r1.Posted) = false,
                           (r4.2 != 0) = false,
                           Fn Try.prog 30 [(false, E48 r4.1.Holds), (false, E9 x1.Id)] (E3 r9) [],
                           (false || ((E3 r9).nv && nvL [])) = true,
                           (decide (r9 < 0)) = false,
                           (decide (r9 < 0)) = false,
                           (decide (r9 < 0)) = false,
                           (decide (r9 < 0)) = false,
                           (0 : Int) ≤ r9,
                           (r9 : Int) < ((List.map E61 r4.1.Holds).length : Int),
                           (decide (r9 < 0)) = false,
                           (decide (r9 < 0)) = false,
                           look [] r9.toNat = none,
                           (List.map E61 r4.1.Holds)[r9.toNat]? = some (E61 x2),
                           (decide (r9 < 0)) = false,
                           (decide (r9 < 0)) = false,
                           (decide (r9 < 0)) = false,
                           (decide (r9 < 0)) = false,
                           (decide (r9 < 0)) = false,
                           (decide (r9 < 0)) = false,
                           (x2.Amount != (i64 (x1.Amount + r2.2.1))) = false,
                           (x2.Amount != (i64 (x1.Amount + r2.2.1))) = false,
                           (x2.Amount != (i64 (x1.Amount + r2.2.1))) = false,
                           (x2.Amount != (i64 (x1.Amount + r2.2.1))) = false,
                           (0 : Int) ≤ r9,
                           (r9 : Int) < ((List.map E61 r4.1.Holds).length : Int),
                           (x2.Amount != (i64 (x1.Amount + r2.2.1))) = false,
                           (x2.Amount != (i64 (x1.Amount + r2.2.1))) = false,
                           look [] r9.toNat = none,
                           (List.map E61 r4.1.Holds)[r9.toNat]? = some (E61 x2),
                           (x2.Amount != (i64 (x1.Amount + r2.2.1))) = false,
                           (x2.Amount != (i64 (x1.Amount + r2.2.1))) = false,
                           (x2.Amount != (i64 (x1.Amount + r2.2.1))) = false,
                           (x2.Amount != (i64 (x1.Amount + r2.2.1))) = false,
                           (x2.Due != x1.Due) = false,
                           (x2.Due != x1.Due) = false,
                           (x2.Due != x1.Due) = false,
                           (x2.Due != x1.Due) = false,
                           (x2.Due != x1.Due) = false,
                           (x2.Due != x1.Due) = false,
                           Fn Try.prog 32 [(false, E54 r4.1), (false, E3 r2.2.2.2)] (E3 r10) [],
                           (false || ((E3 r10).nv && nvL [])) = true,
                           (x2.Due != x1.Due) = false,
                           Fn Try.prog 32 [(false, E54 r1), (false, E3 r2.2.2.2)] (E3 r11) [],
                           (false || ((E3 r11).nv && nvL [])) = true,
                           (x2.Due != x1.Due) = false,
                           (x2.Due != x1.Due) = false,
                           (x2.Due != x1.Due) = false,
                           (r10 != (i64 (r11 - r2.2.1))) = false,
                           (r10 != (i64 (r11 - r2.2.1))) = false,
                           Fn Try.prog 31 [(false, E54 r4.1)] (E4 r12) [],
                           (false || ((E4 r12).nv && nvL [])) = true,
                           (r10 != (i64 (r11 - r2.2.1))) = false,
                           (r10 != (i64 (r11 - r2.2.1))) = false,
                           (!r12) = true]) (by kernel_rfl) (show X.ret ≠ X.go from nofun) (cj (rng_lt h5) (cj (by omega) (cj (rng_ltI _ h5) (cj rfl (cj (rng_get _ h5) (cj (impl_More_ok r1 x1.Id r2.2.1 r2.2.2.2 r4 h7) (cj (by simp [V.nv, nvL, nvL_all, nv_E3, nv_E5, nv_E9, nv_E47, nv_E48, nv_E49, nv_E51, nv_E52, nv_E54, nv_E61, nv_E177]) (cj (impl_Free_ok r1 x1.Id r2.2.2.2 r5 h8) (cj (by simp [V.nv, nvL, nvL_all, nv_E3, nv_E5, nv_E9, nv_E47, nv_E48, nv_E49, nv_E51, nv_E52, nv_E54, nv_E61, nv_E177]) (cj h9 (cj h9 (cj h9 (cj h9 (cj h9 (cj h9 (cj h9 (cj (impl_Room_ok r5.1 r2.2.2.2 r6 h10) (cj (by simp [V.nv, nvL, nvL_all, nv_E3]) (cj h9 (cj (impl_Room_ok r1 r2.2.2.2 r7 h11) (cj (by simp [V.nv, nvL, nvL_all, nv_E3]) (cj h9 (cj h9 (cj h9 (cj h12 (cj h12 (cj h12 (cj h12 (cj h12 (cj (impl_HoldAt_ok r5.1.Holds x1.Id r8 h13) (cj (by simp [V.nv, nvL, nvL_all, nv_E3]) (cj h12 (cj h12 (cj h14 (cj h14 (cj h14 (cj h14 (cj h14 (cj h14 (cj h15 (cj h16 (cj (spec_HoldAt_ok r4.1.Holds x1.Id r9 h17) (cj (by simp [V.nv, nvL, nvL_all, nv_E3]) (cj h18 (cj h18 (cj h18 (cj h18 (cj (od h19) (cj (map_ltN (od h19) h20) (cj h18 (cj h18 (cj rfl (cj (map_get h20) (cj h18 (cj h18 (cj h18 (cj h18 (cj h18 (cj h18 (cj h21 (cj h21 (cj h21 (cj h21 (cj (od h19) (cj (map_ltN (od h19) h20) (cj h21 (cj h21 (cj rfl (cj (map_get h20) (cj h21 (cj h21 (cj h21 (cj h21 (cj h22 (cj h22 (cj h22 (cj h22 (cj h22 (cj h22 (cj (impl_Room_ok r4.1 r2.2.2.2 r10 h23) (cj (by simp [V.nv, nvL, nvL_all, nv_E3]) (cj h22 (cj (impl_Room_ok r1 r2.2.2.2 r11 h24) (cj (by simp [V.nv, nvL, nvL_all, nv_E3]) (cj h22 (cj h22 (cj h22 (cj h25 (cj h25 (cj (impl_AcctOk_ok r4.1 r12 h26) (cj (by simp [V.nv, nvL, nvL_all, nv_E4]) (cj h25 (cj h25 (cj1 (nt h27))))))))))))))))))))))))))))))))))))))))))))))))))))))))))))))))))))))))))))))))))))))))))))))))))))))))) (fun h19 =>
                  Pn.none)))))))))))))
def laws_FnMore (o : List Int) : Option (Bool) :=
 if (decide (1048576 < (o.length : Int))) = true then
  some true
 else
  (spec_MakeAcct o).bind fun r1 =>
  (spec_MakeHold o).bind fun r2 =>
  (spec_AcctSwept r1 r2.2.2.2).bind fun r3 =>
  if (capOk r3.Holds.length) = true then
   (laws_FnMore_l0 r1 r2 r3 r3.Holds).bind fun r13 =>
   Lo.elim r13 (fun s1 =>
    some true) (fun s2 =>
    some false)
  else none
theorem laws_FnMore_ok (o : List Int) : Pn (fun y => Fn Try.prog 7 [(false, E47 o)] (E4 y) []) (laws_FnMore o) := by
  unfold laws_FnMore
  exact
   Pn.ite (fun h1 =>
    Pn.some (Fn.of [.wait 3, .nm 17 (V.sc (.int .i64 (o.length : Int))), .bit true] (p := [V.sc (.int .i64 ((List.map E5 o).length : Int)) = V.sc (.int .i64 (o.length : Int)),
     (decide (1048576 < (o.length : Int))) = true]) (by kernel_rfl) (cj (len_nm _ _) (cj1 h1)))) (fun h1 =>
    Pn.bind (fun r1 h2 =>
     Pn.bind (fun r2 h3 =>
      Pn.bind (fun r3 h4 =>
       Pn.ite (fun h28 =>
        Pn.bind (fun r13 h29 =>
         Pn.lo (fun s1 h30 =>
          Pn.some (Fn.of [.wait 3, .nm 17 (V.sc (.int .i64 (o.length : Int))), .bit false, .call [] (E54 r1) [], .call [] (V.tup [E9 r2.1, E3 r2.2.1, E3 r2.2.2.1, E3 r2.2.2.2]) [], .call [] (E54 r3) [], .wait 5, .nm 33 (V.sc (.int .i64 (r3.Holds.length : Int))), .wait 2, .mask [3, 5, 7, 32, 33, 34], .ren [4, 0, 1, 2, 3, 5], .loop (X.out 0) (st 134 [] [] [])] (p := [V.sc (.int .i64 ((List.map E5 o).length : Int)) = V.sc (.int .i64 (o.length : Int)),
           (decide (1048576 < (o.length : Int))) = false,
           Fn Try.prog 25 [(false, E47 o)] (E54 r1) [],
           (true || ((E54 r1).nv && nvL [])) = true,
           Fn Try.prog 26 [(false, E47 o)] (V.tup [E9 r2.1, E3 r2.2.1, E3 r2.2.2.1, E3 r2.2.2.2]) [],
           (true || ((V.tup [E9 r2.1, E3 r2.2.1, E3 r2.2.2.1, E3 r2.2.2.2]).nv && nvL [])) = true,
           Fn Try.prog 28 [(false, E54 r1), (false, E3 r2.2.2.2)] (E54 r3) [],
           (false || ((E54 r3).nv && nvL [])) = true,
           V.sc (.int .i64 ((List.map E61 r3.Holds).length : Int)) = V.sc (.int .i64 (r3.Holds.length : Int)),
           Loop Try.prog (sub (codeOf Try.prog 7) [1, 1, 1, 1, 1, 0, 1, 0, 0]) (st 134 [(3, V.ptr 0 0), (5, V.sc (.int .i64 r2.2.1)), (7, V.sc (.int .i64 r2.2.2.2)), (32, V.ow 5), (33, V.sc (.int .i64 (r3.Holds.length : Int))), (34, V.sc (.int .i64 0))] [Blk.box 54 [V.sc (.string r1.Id), V.sc (.int .i64 r1.Limit), V.sc (.int .i64 r1.Posted), V.sc (.int .i64 r1.Most), V.sc (.int .i64 r1.MostSum), V.ow 1, V.sc (.int .i64 r1.Ring.Span), V.sc (.int .i64 r1.Ring.Head), V.ow 2, V.ow 3, V.ow 4], Blk.row 61 (List.map E61 r1.Holds) [], Blk.row 3 (List.map E3 r1.Ring.Counts) [], Blk.row 3 (List.map E3 r1.Ring.Sums) [], Blk.row 177 (List.map E177 r1.Slots) [], Blk.row 61 (List.map E61 r3.Holds) []] []) (X.out 0) (st 134 [] [] [])]) (by kernel_rfl) (cj (len_nm _ _) (cj h1 (cj (spec_MakeAcct_ok o r1 h2) (cj rfl (cj (spec_MakeHold_ok o r2 h3) (cj rfl (cj (spec_AcctSwept_ok r1 r2.2.2.2 r3 h4) (cj (by simp [V.nv, nvL, nvL_all, nv_E3, nv_E5, nv_E9, nv_E47, nv_E48, nv_E49, nv_E51, nv_E52, nv_E54, nv_E61, nv_E177]) (cj (len_nm _ _) (cj1 ((laws_FnMore_l0_ok r1 r2 r3 h28 r3.Holds [] rfl r13 h29).at h30))))))))))))) (fun s2 h31 =>
          Pn.some (Fn.of [.wait 3, .nm 17 (V.sc (.int .i64 (o.length : Int))), .bit false, .call [] (E54 r1) [], .call [] (V.tup [E9 r2.1, E3 r2.2.1, E3 r2.2.2.1, E3 r2.2.2.2]) [], .call [] (E54 r3) [], .wait 5, .nm 33 (V.sc (.int .i64 (r3.Holds.length : Int))), .wait 2, .mask [3, 5, 7, 32, 33, 34], .ren [4, 0, 1, 2, 3, 5], .loop (X.ret) (st 134 [(2, V.sc (.bool false))] [] [])] (p := [V.sc (.int .i64 ((List.map E5 o).length : Int)) = V.sc (.int .i64 (o.length : Int)),
           (decide (1048576 < (o.length : Int))) = false,
           Fn Try.prog 25 [(false, E47 o)] (E54 r1) [],
           (true || ((E54 r1).nv && nvL [])) = true,
           Fn Try.prog 26 [(false, E47 o)] (V.tup [E9 r2.1, E3 r2.2.1, E3 r2.2.2.1, E3 r2.2.2.2]) [],
           (true || ((V.tup [E9 r2.1, E3 r2.2.1, E3 r2.2.2.1, E3 r2.2.2.2]).nv && nvL [])) = true,
           Fn Try.prog 28 [(false, E54 r1), (false, E3 r2.2.2.2)] (E54 r3) [],
           (false || ((E54 r3).nv && nvL [])) = true,
           V.sc (.int .i64 ((List.map E61 r3.Holds).length : Int)) = V.sc (.int .i64 (r3.Holds.length : Int)),
           Loop Try.prog (sub (codeOf Try.prog 7) [1, 1, 1, 1, 1, 0, 1, 0, 0]) (st 134 [(3, V.ptr 0 0), (5, V.sc (.int .i64 r2.2.1)), (7, V.sc (.int .i64 r2.2.2.2)), (32, V.ow 5), (33, V.sc (.int .i64 (r3.Holds.length : Int))), (34, V.sc (.int .i64 0))] [Blk.box 54 [V.sc (.string r1.Id), V.sc (.int .i64 r1.Limit), V.sc (.int .i64 r1.Posted), V.sc (.int .i64 r1.Most), V.sc (.int .i64 r1.MostSum), V.ow 1, V.sc (.int .i64 r1.Ring.Span), V.sc (.int .i64 r1.Ring.Head), V.ow 2, V.ow 3, V.ow 4], Blk.row 61 (List.map E61 r1.Holds) [], Blk.row 3 (List.map E3 r1.Ring.Counts) [], Blk.row 3 (List.map E3 r1.Ring.Sums) [], Blk.row 177 (List.map E177 r1.Slots) [], Blk.row 61 (List.map E61 r3.Holds) []] []) (X.ret) (st 134 [(2, V.sc (.bool false))] [] [])]) (by kernel_rfl) (cj (len_nm _ _) (cj h1 (cj (spec_MakeAcct_ok o r1 h2) (cj rfl (cj (spec_MakeHold_ok o r2 h3) (cj rfl (cj (spec_AcctSwept_ok r1 r2.2.2.2 r3 h4) (cj (by simp [V.nv, nvL, nvL_all, nv_E3, nv_E5, nv_E9, nv_E47, nv_E48, nv_E49, nv_E51, nv_E52, nv_E54, nv_E61, nv_E177]) (cj (len_nm _ _) (cj1 ((laws_FnMore_l0_ok r1 r2 r3 h28 r3.Holds [] rfl r13 h29).at h31))))))))))))))) (fun h28 =>
        Pn.none)))))
end Go.Proofs.YtdpbcmajmojolaaM
