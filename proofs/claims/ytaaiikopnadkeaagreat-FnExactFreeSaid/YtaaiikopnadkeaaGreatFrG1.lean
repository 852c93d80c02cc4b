/- Printed by gen.py: functions on plain data, and that the program computes them. No condition. -/
import Derived.Test.YtaaiikopnadkeaaGreatFrG0
namespace Go.Proofs.YtaaiikopnadkeaaGreatM
set_option linter.unusedVariables false
set_option linter.unusedSimpArgs false
open Go.RowKit
set_option maxRecDepth 100000

def impl_SlotsOk_l0 (l : List Slot) : List Slot → List Slot → Option (Lo Unit Unit)
  | [], p1 =>
   some (.out ())
  | x1 :: t1, p1 =>
   (impl_SlotOk x1).bind fun r1 =>
   if r1 = true then
    (impl_slotAt l x1.Trace x1.Mti).bind fun r2 =>
    if (r2 != (p1.length : Int)) = true then
     some (.ret ())
    else
     impl_SlotsOk_l0 l t1 (p1 ++ [x1])
   else
    some (.ret ())
theorem impl_SlotsOk_l0_ok (l : List Slot) (h2 : capOk l.length = true) : ∀ (t1 p1 : List Slot) (_ : l = p1 ++ t1) , Pn (LpO Tryz.prog (sub (codeOf Tryz.prog 109) [1, 0, 1, 0, 0]) (st 29 [(0, V.sl false 94 (List.map E94 l)), (5, V.sl false 94 (List.map E94 l)), (6, V.sc (.int .i64 (l.length : Int))), (7, V.sc (.int .i64 (p1.length : Int)))] [] []) (fun (y : Lo Unit Unit) => Lo.elim y (fun s => (X.out 0, st 29 [(0, V.sl false 94 (List.map E94 l))] [] [])) (fun s => (X.ret, st 29 [(2, V.sc (.bool false))] [] [])))) (impl_SlotsOk_l0 l t1 p1)
  | [], p1, h1 => by
    unfold impl_SlotsOk_l0
    exact
     Pn.some (LpO.out [.bit false, .mask [0], .ren []] (p := [(decide ((p1.length : Int) < (l.length : Int))) = false]) (by kernel_rfl) (show X.out 0 ≠ X.go from nofun) (cj1 (rng_end h1)))
  | x1 :: t1, p1, h1 => by
    unfold impl_SlotsOk_l0
    exact
     Pn.bind (fun r1 h3 =>
      Pn.ite (fun h4 =>
       Pn.bind (fun r2 h5 =>
        Pn.ite (fun h6 =>
         Pn.some (LpO.out [.bit true, .el (E94 x1), .call [] (E4 r1) [], .bit false, .bit false, .bit false, .bit false, .bit false, .bit false, .call [] (E3 r2) [], .bit false, .bit false, .bit false, .bit true, .wait 1, .mask [2], .ren []] (p := [(decide ((p1.length : Int) < (l.length : Int))) = true,
          (0 : Int) ≤ (p1.length : Int),
          (List.map E94 l)[(p1.length : Int).toNat]? = some (E94 x1),
          Fn Tryz.prog 126 [(false, E94 x1)] (E4 r1) [],
          (true || ((E4 r1).nv && nvL [])) = true,
          (!r1) = false,
          (!r1) = false,
          (!r1) = false,
          (!r1) = false,
          (!r1) = false,
          (!r1) = false,
          Fn Tryz.prog 127 [(false, E32 l), (false, E9 x1.Trace), (false, E9 x1.Mti)] (E3 r2) [],
          (true || ((E3 r2).nv && nvL [])) = true,
          (!r1) = false,
          (!r1) = false,
          (!r1) = false,
          (r2 != (p1.length : Int)) = true]) (by kernel_rfl) (show X.ret ≠ X.go from nofun) (cj (rng_lt h1) (cj (by omega) (cj (rng_get _ h1) (cj (impl_SlotOk_ok x1 r1 h3) (cj rfl (cj (nf h4) (cj (nf h4) (cj (nf h4) (cj (nf h4) (cj (nf h4) (cj (nf h4) (cj (impl_slotAt_ok l x1.Trace x1.Mti r2 h5) (cj rfl (cj (nf h4) (cj (nf h4) (cj (nf h4) (cj1 h6))))))))))))))))))) (fun h6 =>
         LpO.go [.bit true, .el (E94 x1), .call [] (E4 r1) [], .bit false, .bit false, .bit false, .bit false, .bit false, .bit false, .call [] (E3 r2) [], .bit false, .bit false, .bit false, .bit false, .wait 2, .mask [0, 5, 6, 7], .ren [], .nm 7 (V.sc (.int .i64 ((p1 ++ [x1]).length : Int)))] (p := [(decide ((p1.length : Int) < (l.length : Int))) = true,
          (0 : Int) ≤ (p1.length : Int),
          (List.map E94 l)[(p1.length : Int).toNat]? = some (E94 x1),
          Fn Tryz.prog 126 [(false, E94 x1)] (E4 r1) [],
          (true || ((E4 r1).nv && nvL [])) = true,
          (!r1) = false,
          (!r1) = false,
          (!r1) = false,
          (!r1) = false,
          (!r1) = false,
          (!r1) = false,
          Fn Tryz.prog 127 [(false, E32 l), (false, E9 x1.Trace), (false, E9 x1.Mti)] (E3 r2) [],
          (true || ((E3 r2).nv && nvL [])) = true,
          (!r1) = false,
          (!r1) = false,
          (!r1) = false,
          (r2 != (p1.length : Int)) = false,
          V.sc (.int .i64 (i64 ((p1.length : Int) + 1))) = V.sc (.int .i64 ((p1 ++ [x1]).length : Int))]) (by kernel_rfl) (cj (rng_lt h1) (cj (by omega) (cj (rng_get _ h1) (cj (impl_SlotOk_ok x1 r1 h3) (cj rfl (cj (nf h4) (cj (nf h4) (cj (nf h4) (cj (nf h4) (cj (nf h4) (cj (nf h4) (cj (impl_slotAt_ok l x1.Trace x1.Mti r2 h5) (cj rfl (cj (nf h4) (cj (nf h4) (cj (nf h4) (cj h6 (cj1 (rng_next h1 h2))))))))))))))))))) (impl_SlotsOk_l0_ok l h2 t1 (p1 ++ [x1]) (rng_step h1))))) (fun h4 =>
       Pn.some (LpO.out [.bit true, .el (E94 x1), .call [] (E4 r1) [], .bit true, .bit true, .bit true, .bit true, .bit true, .bit true, .bit true, .bit true, .bit true, .bit true, .wait 1, .mask [2], .ren []] (p := [(decide ((p1.length : Int) < (l.length : Int))) = true,
        (0 : Int) ≤ (p1.length : Int),
        (List.map E94 l)[(p1.length : Int).toNat]? = some (E94 x1),
        Fn Tryz.prog 126 [(false, E94 x1)] (E4 r1) [],
        (true || ((E4 r1).nv && nvL [])) = true,
        (!r1) = true,
        (!r1) = true,
        (!r1) = true,
        (!r1) = true,
        (!r1) = true,
        (!r1) = true,
        (!r1) = true,
        (!r1) = true,
        (!r1) = true,
        true = true]) (by kernel_rfl) (show X.ret ≠ X.go from nofun) (cj (rng_lt h1) (cj (by omega) (cj (rng_get _ h1) (cj (impl_SlotOk_ok x1 r1 h3) (cj rfl (cj (nt h4) (cj (nt h4) (cj (nt h4) (cj (nt h4) (cj (nt h4) (cj (nt h4) (cj (nt h4) (cj (nt h4) (cj (nt h4) (cj1 rfl))))))))))))))))))
def impl_SlotsOk (l : List Slot) : Option (Bool) :=
 if (capOk l.length) = true then
  (impl_SlotsOk_l0 l l []).bind fun r3 =>
  Lo.elim r3 (fun s1 =>
   some (decide ((l.length : Int) ≤ 6))) (fun s2 =>
   some false)
 else none
theorem impl_SlotsOk_ok (l : List Slot) : Pn (fun y => Fn Tryz.prog 109 [(false, E32 l)] (E4 y) []) (impl_SlotsOk l) := by
  unfold impl_SlotsOk
  exact
   Pn.ite (fun h7 =>
    Pn.bind (fun r3 h8 =>
     Pn.lo (fun s1 h9 =>
      Pn.some (Fn.of [.wait 3, .nm 6 (V.sc (.int .i64 (l.length : Int))), .wait 2, .mask [0, 5, 6, 7], .ren [], .loop (X.out 0) (st 29 [(0, V.sl false 94 (List.map E94 l))] [] []), .wait 2, .nm 27 (V.sc (.int .i64 (l.length : Int)))] (p := [V.sc (.int .i64 ((List.map E94 l).length : Int)) = V.sc (.int .i64 (l.length : Int)),
       Loop Tryz.prog (sub (codeOf Tryz.prog 109) [1, 0, 1, 0, 0]) (st 29 [(0, V.sl false 94 (List.map E94 l)), (5, V.sl false 94 (List.map E94 l)), (6, V.sc (.int .i64 (l.length : Int))), (7, V.sc (.int .i64 0))] [] []) (X.out 0) (st 29 [(0, V.sl false 94 (List.map E94 l))] [] []),
       V.sc (.int .i64 ((List.map E94 l).length : Int)) = V.sc (.int .i64 (l.length : Int))]) (by kernel_rfl) (cj (len_nm _ _) (cj ((impl_SlotsOk_l0_ok l h7 l [] rfl r3 h8).at h9) (cj1 (len_nm _ _)))))) (fun s2 h10 =>
      Pn.some (Fn.of [.wait 3, .nm 6 (V.sc (.int .i64 (l.length : Int))), .wait 2, .mask [0, 5, 6, 7], .ren [], .loop (X.ret) (st 29 [(2, V.sc (.bool false))] [] [])] (p := [V.sc (.int .i64 ((List.map E94 l).length : Int)) = V.sc (.int .i64 (l.length : Int)),
       Loop Tryz.prog (sub (codeOf Tryz.prog 109) [1, 0, 1, 0, 0]) (st 29 [(0, V.sl false 94 (List.map E94 l)), (5, V.sl false 94 (List.map E94 l)), (6, V.sc (.int .i64 (l.length : Int))), (7, V.sc (.int .i64 0))] [] []) (X.ret) (st 29 [(2, V.sc (.bool false))] [] [])]) (by kernel_rfl) (cj (len_nm _ _) (cj1 ((impl_SlotsOk_l0_ok l h7 l [] rfl r3 h8).at h10))))))) (fun h7 =>
    Pn.none)
def impl_AddSat (a : Int) (b : Int) : Option (Int) :=
 if (decide ((i64 (4611686018427387904 - (imax 0 (imin b 4611686018427387904)))) < (imax 0 (imin a 4611686018427387904)))) = true then
  some 4611686018427387904
 else
  some (i64 ((imax 0 (imin a 4611686018427387904)) + (imax 0 (imin b 4611686018427387904))))
theorem impl_AddSat_ok (a : Int) (b : Int) : Pn (fun y => Fn Tryz.prog 110 [(false, E3 a), (false, E3 b)] (E3 y) []) (impl_AddSat a b) := by
  unfold impl_AddSat
  exact
   Pn.ite (fun h1 =>
    Pn.some (Fn.of [.bit true] (p := [(decide ((i64 (4611686018427387904 - (imax 0 (imin b 4611686018427387904)))) < (imax 0 (imin a 4611686018427387904)))) = true]) (by kernel_rfl) (cj1 h1))) (fun h1 =>
    Pn.some (Fn.of [.bit false] (p := [(decide ((i64 (4611686018427387904 - (imax 0 (imin b 4611686018427387904)))) < (imax 0 (imin a 4611686018427387904)))) = false]) (by kernel_rfl) (cj1 h1)))
def impl_Stored_l0 (l : List Hold) : List Hold → Int → Option (Int)
  | [], v1 =>
   some v1
  | x1 :: t1, v1 =>
   (impl_AddSat v1 x1.Amount).bind fun r1 =>
   impl_Stored_l0 l t1 r1
theorem impl_Stored_l0_ok (l : List Hold) (h2 : capOk l.length = true) : ∀ (t1 p1 : List Hold) (_ : l = p1 ++ t1) (v1 : Int), Pn (LpO Tryz.prog (sub (codeOf Tryz.prog 111) [1, 1, 0, 1, 0, 0]) (st 18 [(3, V.sc (.int .i64 v1)), (6, V.sl false 74 (List.map E74 l)), (7, V.sc (.int .i64 (l.length : Int))), (8, V.sc (.int .i64 (p1.length : Int)))] [] []) (fun (y : Int) => (X.out 0, st 18 [(3, V.sc (.int .i64 y))] [] []))) (impl_Stored_l0 l t1 v1)
  | [], p1, h1, v1 => by
    unfold impl_Stored_l0
    exact
     Pn.some (LpO.out [.bit false, .mask [3], .ren []] (p := [(decide ((p1.length : Int) < (l.length : Int))) = false]) (by kernel_rfl) (show X.out 0 ≠ X.go from nofun) (cj1 (rng_end h1)))
  | x1 :: t1, p1, h1, v1 => by
    unfold impl_Stored_l0
    exact
     Pn.bind (fun r1 h3 =>
      LpO.go [.bit true, .el (E74 x1), .call [] (E3 r1) [], .wait 4, .mask [3, 6, 7, 8], .ren [], .nm 8 (V.sc (.int .i64 ((p1 ++ [x1]).length : Int)))] (p := [(decide ((p1.length : Int) < (l.length : Int))) = true,
       (0 : Int) ≤ (p1.length : Int),
       (List.map E74 l)[(p1.length : Int).toNat]? = some (E74 x1),
       Fn Tryz.prog 110 [(false, E3 v1), (false, E3 x1.Amount)] (E3 r1) [],
       (true || ((E3 r1).nv && nvL [])) = true,
       V.sc (.int .i64 (i64 ((p1.length : Int) + 1))) = V.sc (.int .i64 ((p1 ++ [x1]).length : Int))]) (by kernel_rfl) (cj (rng_lt h1) (cj (by omega) (cj (rng_get _ h1) (cj (impl_AddSat_ok v1 x1.Amount r1 h3) (cj rfl (cj1 (rng_next h1 h2))))))) (impl_Stored_l0_ok l h2 t1 (p1 ++ [x1]) (rng_step h1) r1))
def impl_Stored (l : List Hold) : Option (Int) :=
 if (capOk l.length) = true then
  (impl_Stored_l0 l l 0).bind fun r2 =>
  some r2
 else none
theorem impl_Stored_ok (l : List Hold) : Pn (fun y => Fn Tryz.prog 111 [(false, E30 l)] (E3 y) []) (impl_Stored l) := by
  unfold impl_Stored
  exact
   Pn.ite (fun h4 =>
    Pn.bind (fun r2 h5 =>
     Pn.some (Fn.of [.wait 4, .nm 7 (V.sc (.int .i64 (l.length : Int))), .wait 2, .mask [3, 6, 7, 8], .ren [], .loop (X.out 0) (st 18 [(3, V.sc (.int .i64 r2))] [] [])] (p := [V.sc (.int .i64 ((List.map E74 l).length : Int)) = V.sc (.int .i64 (l.length : Int)),
      Loop Tryz.prog (sub (codeOf Tryz.prog 111) [1, 1, 0, 1, 0, 0]) (st 18 [(3, V.sc (.int .i64 0)), (6, V.sl false 74 (List.map E74 l)), (7, V.sc (.int .i64 (l.length : Int))), (8, V.sc (.int .i64 0))] [] []) (X.out 0) (st 18 [(3, V.sc (.int .i64 r2))] [] [])]) (by kernel_rfl) (cj (len_nm _ _) (cj1 (impl_Stored_l0_ok l h4 l [] rfl 0 r2 h5)))))) (fun h4 =>
    Pn.none)
def impl_AcctOk (a : Acct) : Option (Bool) :=
 (impl_AcctIdOk a.Id).bind fun r1 =>
 if r1 = true then
  (impl_within a.Limit 0 9007199254740992).bind fun r2 =>
  if r2 = true then
   (impl_within a.Most 0 1000).bind fun r3 =>
   if r3 = true then
    (impl_within a.MostSum 0 9007199254740992).bind fun r4 =>
    if r4 = true then
     (impl_isMoney a.Posted).bind fun r5 =>
     if r5 = true then
      (impl_HoldsOk a.Holds).bind fun r6 =>
      if r6 = true then
       (impl_RingOk a.Ring).bind fun r7 =>
       if r7 = true then
        (impl_SlotsOk a.Slots).bind fun r8 =>
        if r8 = true then
         (impl_Stored a.Holds).bind fun r9 =>
         (impl_AddSat a.Posted r9).bind fun r10 =>
         some (decide (r10 ≤ a.Limit))
        else
         some false
       else
        some false
      else
       some false
     else
      some false
    else
     some false
   else
    some false
  else
   some false
 else
  some false
theorem impl_AcctOk_ok (a : Acct) : Pn (fun y => Fn Tryz.prog 80 [(false, E34 a)] (E4 y) []) (impl_AcctOk a) := by
  unfold impl_AcctOk
  exact
   Pn.bind (fun r1 h1 =>
    Pn.ite (fun h2 =>
     Pn.bind (fun r2 h3 =>
      Pn.ite (fun h4 =>
       Pn.bind (fun r3 h5 =>
        Pn.ite (fun h6 =>
         Pn.bind (fun r4 h7 =>
          Pn.ite (fun h8 =>
           Pn.bind (fun r5 h9 =>
            Pn.ite (fun h10 =>
             Pn.bind (fun r6 h11 =>
              Pn.ite (fun h12 =>
               Pn.bind (fun r7 h13 =>
                Pn.ite (fun h14 =>
                 Pn.bind (fun r8 h15 =>
                  Pn.ite (fun h16 =>
                   Pn.bind (fun r9 h17 =>
                    Pn.bind (fun r10 h18 =>
                     Pn.some (Fn.of [.draw [], .call [] (E4 r1) [], .bit true, .bit true, .bit true, .call [] (E4 r2) [], .bit true, .bit true, .bit true, .bit true, .call [] (E4 r3) [], .bit true, .bit true, .bit true, .bit true, .call [] (E4 r4) [], .bit true, .bit true, .bit true, .bit true, .call [] (E4 r5) [], .bit true, .bit true, .bit true, .bit true, .call [] (E4 r6) [], .bit true, .bit true, .bit true, .bit true, .call [] (E4 r7) [], .bit true, .bit true, .bit true, .bit true, .call [] (E4 r8) [], .bit true, .bit true, .bit true, .bit true, .bit true, .bit true, .bit true, .bit true, .call [] (E3 r9) [], .bit true, .call [] (E3 r10) [], .bit true, .bit true] (p := [Fn Tryz.prog 105 [(false, E9 a.Id)] (E4 r1) [],
                      (true || ((E4 r1).nv && nvL [])) = true,
                      r1 = true,
                      r1 = true,
                      r1 = true,
                      Fn Tryz.prog 66 [(false, E3 a.Limit), (false, E3 0), (false, E3 9007199254740992)] (E4 r2) [],
                      (true || ((E4 r2).nv && nvL [])) = true,
                      r1 = true,
                      r2 = true,
                      r2 = true,
                      r2 = true,
                      Fn Tryz.prog 66 [(false, E3 a.Most), (false, E3 0), (false, E3 1000)] (E4 r3) [],
                      (true || ((E4 r3).nv && nvL [])) = true,
                      r2 = true,
                      r3 = true,
                      r3 = true,
                      r3 = true,
                      Fn Tryz.prog 66 [(false, E3 a.MostSum), (false, E3 0), (false, E3 9007199254740992)] (E4 r4) [],
                      (true || ((E4 r4).nv && nvL [])) = true,
                      r3 = true,
                      r4 = true,
                      r4 = true,
                      r4 = true,
                      Fn Tryz.prog 106 [(false, E3 a.Posted)] (E4 r5) [],
                      (true || ((E4 r5).nv && nvL [])) = true,
                      r4 = true,
                      r5 = true,
                      r5 = true,
                      r5 = true,
                      Fn Tryz.prog 107 [(false, E30 a.Holds)] (E4 r6) [],
                      (true || ((E4 r6).nv && nvL [])) = true,
                      r5 = true,
                      r6 = true,
                      r6 = true,
                      r6 = true,
                      Fn Tryz.prog 108 [(false, E31 a.Ring)] (E4 r7) [],
                      (true || ((E4 r7).nv && nvL [])) = true,
                      r6 = true,
                      r7 = true,
                      r7 = true,
                      r7 = true,
                      Fn Tryz.prog 109 [(false, E32 a.Slots)] (E4 r8) [],
                      (true || ((E4 r8).nv && nvL [])) = true,
                      r7 = true,
                      r8 = true,
                      r8 = true,
                      r8 = true,
                      r8 = true,
                      r8 = true,
                      r8 = true,
                      r8 = true,
                      Fn Tryz.prog 111 [(false, E30 a.Holds)] (E3 r9) [],
                      (true || ((E3 r9).nv && nvL [])) = true,
                      r8 = true,
                      Fn Tryz.prog 110 [(false, E3 a.Posted), (false, E3 r9)] (E3 r10) [],
                      (true || ((E3 r10).nv && nvL [])) = true,
                      r8 = true,
                      r8 = true]) (by kernel_rfl) (cj (impl_AcctIdOk_ok a.Id r1 h1) (cj rfl (cj h2 (cj h2 (cj h2 (cj (impl_within_ok a.Limit 0 9007199254740992 r2 h3) (cj rfl (cj h2 (cj h4 (cj h4 (cj h4 (cj (impl_within_ok a.Most 0 1000 r3 h5) (cj rfl (cj h4 (cj h6 (cj h6 (cj h6 (cj (impl_within_ok a.MostSum 0 9007199254740992 r4 h7) (cj rfl (cj h6 (cj h8 (cj h8 (cj h8 (cj (impl_isMoney_ok a.Posted r5 h9) (cj rfl (cj h8 (cj h10 (cj h10 (cj h10 (cj (impl_HoldsOk_ok a.Holds r6 h11) (cj rfl (cj h10 (cj h12 (cj h12 (cj h12 (cj (impl_RingOk_ok a.Ring r7 h13) (cj rfl (cj h12 (cj h14 (cj h14 (cj h14 (cj (impl_SlotsOk_ok a.Slots r8 h15) (cj rfl (cj h14 (cj h16 (cj h16 (cj h16 (cj h16 (cj h16 (cj h16 (cj h16 (cj (impl_Stored_ok a.Holds r9 h17) (cj rfl (cj h16 (cj (impl_AddSat_ok a.Posted r9 r10 h18) (cj rfl (cj h16 (cj1 h16)))))))))))))))))))))))))))))))))))))))))))))))))))))))))))))) (fun h16 =>
                   Pn.some (Fn.of [.draw [], .call [] (E4 r1) [], .bit true, .bit true, .bit true, .call [] (E4 r2) [], .bit true, .bit true, .bit true, .bit true, .call [] (E4 r3) [], .bit true, .bit true, .bit true, .bit true, .call [] (E4 r4) [], .bit true, .bit true, .bit true, .bit true, .call [] (E4 r5) [], .bit true, .bit true, .bit true, .bit true, .call [] (E4 r6) [], .bit true, .bit true, .bit true, .bit true, .call [] (E4 r7) [], .bit true, .bit true, .bit true, .bit true, .call [] (E4 r8) [], .bit true, .bit false, .bit false, .bit false, .bit false, .bit false, .bit false, .bit false, .bit false, .bit false, .bit false] (p := [Fn Tryz.prog 105 [(false, E9 a.Id)] (E4 r1) [],
                    (true || ((E4 r1).nv && nvL [])) = true,
                    r1 = true,
                    r1 = true,
                    r1 = true,
                    Fn Tryz.prog 66 [(false, E3 a.Limit), (false, E3 0), (false, E3 9007199254740992)] (E4 r2) [],
                    (true || ((E4 r2).nv && nvL [])) = true,
                    r1 = true,
                    r2 = true,
                    r2 = true,
                    r2 = true,
                    Fn Tryz.prog 66 [(false, E3 a.Most), (false, E3 0), (false, E3 1000)] (E4 r3) [],
                    (true || ((E4 r3).nv && nvL [])) = true,
                    r2 = true,
                    r3 = true,
                    r3 = true,
                    r3 = true,
                    Fn Tryz.prog 66 [(false, E3 a.MostSum), (false, E3 0), (false, E3 9007199254740992)] (E4 r4) [],
                    (true || ((E4 r4).nv && nvL [])) = true,
                    r3 = true,
                    r4 = true,
                    r4 = true,
                    r4 = true,
                    Fn Tryz.prog 106 [(false, E3 a.Posted)] (E4 r5) [],
                    (true || ((E4 r5).nv && nvL [])) = true,
                    r4 = true,
                    r5 = true,
                    r5 = true,
                    r5 = true,
                    Fn Tryz.prog 107 [(false, E30 a.Holds)] (E4 r6) [],
                    (true || ((E4 r6).nv && nvL [])) = true,
                    r5 = true,
                    r6 = true,
                    r6 = true,
                    r6 = true,
                    Fn Tryz.prog 108 [(false, E31 a.Ring)] (E4 r7) [],
                    (true || ((E4 r7).nv && nvL [])) = true,
                    r6 = true,
                    r7 = true,
                    r7 = true,
                    r7 = true,
                    Fn Tryz.prog 109 [(false, E32 a.Slots)] (E4 r8) [],
                    (true || ((E4 r8).nv && nvL [])) = true,
                    r7 = true,
                    r8 = false,
                    r8 = false,
                    r8 = false,
                    r8 = false,
                    r8 = false,
                    r8 = false,
                    r8 = false,
                    r8 = false,
                    r8 = false,
                    r8 = false]) (by kernel_rfl) (cj (impl_AcctIdOk_ok a.Id r1 h1) (cj rfl (cj h2 (cj h2 (cj h2 (cj (impl_within_ok a.Limit 0 9007199254740992 r2 h3) (cj rfl (cj h2 (cj h4 (cj h4 (cj h4 (cj (impl_within_ok a.Most 0 1000 r3 h5) (cj rfl (cj h4 (cj h6 (cj h6 (cj h6 (cj (impl_within_ok a.MostSum 0 9007199254740992 r4 h7) (cj rfl (cj h6 (cj h8 (cj h8 (cj h8 (cj (impl_isMoney_ok a.Posted r5 h9) (cj rfl (cj h8 (cj h10 (cj h10 (cj h10 (cj (impl_HoldsOk_ok a.Holds r6 h11) (cj rfl (cj h10 (cj h12 (cj h12 (cj h12 (cj (impl_RingOk_ok a.Ring r7 h13) (cj rfl (cj h12 (cj h14 (cj h14 (cj h14 (cj (impl_SlotsOk_ok a.Slots r8 h15) (cj rfl (cj h14 (cj h16 (cj h16 (cj h16 (cj h16 (cj h16 (cj h16 (cj h16 (cj h16 (cj h16 (cj1 h16)))))))))))))))))))))))))))))))))))))))))))))))))))))))))) (fun h14 =>
                 Pn.some (Fn.of [.draw [], .call [] (E4 r1) [], .bit true, .bit true, .bit true, .call [] (E4 r2) [], .bit true, .bit true, .bit true, .bit true, .call [] (E4 r3) [], .bit true, .bit true, .bit true, .bit true, .call [] (E4 r4) [], .bit true, .bit true, .bit true, .bit true, .call [] (E4 r5) [], .bit true, .bit true, .bit true, .bit true, .call [] (E4 r6) [], .bit true, .bit true, .bit true, .bit true, .call [] (E4 r7) [], .bit true, .bit false, .bit false, .bit false, .bit false, .bit false, .bit false, .bit false, .bit false, .bit false, .bit false, .bit false, .bit false, .bit false, .bit false] (p := [Fn Tryz.prog 105 [(false, E9 a.Id)] (E4 r1) [],
                  (true || ((E4 r1).nv && nvL [])) = true,
                  r1 = true,
                  r1 = true,
                  r1 = true,
                  Fn Tryz.prog 66 [(false, E3 a.Limit), (false, E3 0), (false, E3 9007199254740992)] (E4 r2) [],
                  (true || ((E4 r2).nv && nvL [])) = true,
                  r1 = true,
                  r2 = true,
                  r2 = true,
                  r2 = true,
                  Fn Tryz.prog 66 [(false, E3 a.Most), (false, E3 0), (false, E3 1000)] (E4 r3) [],
                  (true || ((E4 r3).nv && nvL [])) = true,
                  r2 = true,
                  r3 = true,
                  r3 = true,
                  r3 = true,
                  Fn Tryz.prog 66 [(false, E3 a.MostSum), (false, E3 0), (false, E3 9007199254740992)] (E4 r4) [],
                  (true || ((E4 r4).nv && nvL [])) = true,
                  r3 = true,
                  r4 = true,
                  r4 = true,
                  r4 = true,
                  Fn Tryz.prog 106 [(false, E3 a.Posted)] (E4 r5) [],
                  (true || ((E4 r5).nv && nvL [])) = true,
                  r4 = true,
                  r5 = true,
                  r5 = true,
                  r5 = true,
                  Fn Tryz.prog 107 [(false, E30 a.Holds)] (E4 r6) [],
                  (true || ((E4 r6).nv && nvL [])) = true,
                  r5 = true,
                  r6 = true,
                  r6 = true,
                  r6 = true,
                  Fn Tryz.prog 108 [(false, E31 a.Ring)] (E4 r7) [],
                  (true || ((E4 r7).nv && nvL [])) = true,
                  r6 = true,
                  r7 = false,
                  r7 = false,
                  r7 = false,
                  r7 = false,
                  false = false,
                  false = false,
                  false = false,
                  false = false,
                  false = false,
                  false = false,
                  false = false,
                  false = false,
                  false = false,
                  false = false]) (by kernel_rfl) (cj (impl_AcctIdOk_ok a.Id r1 h1) (cj rfl (cj h2 (cj h2 (cj h2 (cj (impl_within_ok a.Limit 0 9007199254740992 r2 h3) (cj rfl (cj h2 (cj h4 (cj h4 (cj h4 (cj (impl_within_ok a.Most 0 1000 r3 h5) (cj rfl (cj h4 (cj h6 (cj h6 (cj h6 (cj (impl_within_ok a.MostSum 0 9007199254740992 r4 h7) (cj rfl (cj h6 (cj h8 (cj h8 (cj h8 (cj (impl_isMoney_ok a.Posted r5 h9) (cj rfl (cj h8 (cj h10 (cj h10 (cj h10 (cj (impl_HoldsOk_ok a.Holds r6 h11) (cj rfl (cj h10 (cj h12 (cj h12 (cj h12 (cj (impl_RingOk_ok a.Ring r7 h13) (cj rfl (cj h12 (cj h14 (cj h14 (cj h14 (cj h14 (cj rfl (cj rfl (cj rfl (cj rfl (cj rfl (cj rfl (cj rfl (cj rfl (cj rfl (cj1 rfl)))))))))))))))))))))))))))))))))))))))))))))))))))))))) (fun h12 =>
               Pn.some (Fn.of [.draw [], .call [] (E4 r1) [], .bit true, .bit true, .bit true, .call [] (E4 r2) [], .bit true, .bit true, .bit true, .bit true, .call [] (E4 r3) [], .bit true, .bit true, .bit true, .bit true, .call [] (E4 r4) [], .bit true, .bit true, .bit true, .bit true, .call [] (E4 r5) [], .bit true, .bit true, .bit true, .bit true, .call [] (E4 r6) [], .bit true, .bit false, .bit false, .bit false, .bit false, .bit false, .bit false, .bit false, .bit false, .bit false, .bit false, .bit false, .bit false, .bit false, .bit false, .bit false, .bit false, .bit false, .bit false] (p := [Fn Tryz.prog 105 [(false, E9 a.Id)] (E4 r1) [],
                (true || ((E4 r1).nv && nvL [])) = true,
                r1 = true,
                r1 = true,
                r1 = true,
                Fn Tryz.prog 66 [(false, E3 a.Limit), (false, E3 0), (false, E3 9007199254740992)] (E4 r2) [],
                (true || ((E4 r2).nv && nvL [])) = true,
                r1 = true,
                r2 = true,
                r2 = true,
                r2 = true,
                Fn Tryz.prog 66 [(false, E3 a.Most), (false, E3 0), (false, E3 1000)] (E4 r3) [],
                (true || ((E4 r3).nv && nvL [])) = true,
                r2 = true,
                r3 = true,
                r3 = true,
                r3 = true,
                Fn Tryz.prog 66 [(false, E3 a.MostSum), (false, E3 0), (false, E3 9007199254740992)] (E4 r4) [],
                (true || ((E4 r4).nv && nvL [])) = true,
                r3 = true,
                r4 = true,
                r4 = true,
                r4 = true,
                Fn Tryz.prog 106 [(false, E3 a.Posted)] (E4 r5) [],
                (true || ((E4 r5).nv && nvL [])) = true,
                r4 = true,
                r5 = true,
                r5 = true,
                r5 = true,
                Fn Tryz.prog 107 [(false, E30 a.Holds)] (E4 r6) [],
                (true || ((E4 r6).nv && nvL [])) = true,
                r5 = true,
                r6 = false,
                r6 = false,
                r6 = false,
                r6 = false,
                false = false,
                false = false,
                false = false,
                false = false,
                false = false,
                false = false,
                false = false,
                false = false,
                false = false,
                false = false,
                false = false,
                false = false,
                false = false,
                false = false]) (by kernel_rfl) (cj (impl_AcctIdOk_ok a.Id r1 h1) (cj rfl (cj h2 (cj h2 (cj h2 (cj (impl_within_ok a.Limit 0 9007199254740992 r2 h3) (cj rfl (cj h2 (cj h4 (cj h4 (cj h4 (cj (impl_within_ok a.Most 0 1000 r3 h5) (cj rfl (cj h4 (cj h6 (cj h6 (cj h6 (cj (impl_within_ok a.MostSum 0 9007199254740992 r4 h7) (cj rfl (cj h6 (cj h8 (cj h8 (cj h8 (cj (impl_isMoney_ok a.Posted r5 h9) (cj rfl (cj h8 (cj h10 (cj h10 (cj h10 (cj (impl_HoldsOk_ok a.Holds r6 h11) (cj rfl (cj h10 (cj h12 (cj h12 (cj h12 (cj h12 (cj rfl (cj rfl (cj rfl (cj rfl (cj rfl (cj rfl (cj rfl (cj rfl (cj rfl (cj rfl (cj rfl (cj rfl (cj rfl (cj1 rfl)))))))))))))))))))))))))))))))))))))))))))))))))))))) (fun h10 =>
             Pn.some (Fn.of [.draw [], .call [] (E4 r1) [], .bit true, .bit true, .bit true, .call [] (E4 r2) [], .bit true, .bit true, .bit true, .bit true, .call [] (E4 r3) [], .bit true, .bit true, .bit true, .bit true, .call [] (E4 r4) [], .bit true, .bit true, .bit true, .bit true, .call [] (E4 r5) [], .bit true, .bit false, .bit false, .bit false, .bit false, .bit false, .bit false, .bit false, .bit false, .bit false, .bit false, .bit false, .bit false, .bit false, .bit false, .bit false, .bit false, .bit false, .bit false, .bit false, .bit false, .bit false, .bit false] (p := [Fn Tryz.prog 105 [(false, E9 a.Id)] (E4 r1) [],
              (true || ((E4 r1).nv && nvL [])) = true,
              r1 = true,
              r1 = true,
              r1 = true,
              Fn Tryz.prog 66 [(false, E3 a.Limit), (false, E3 0), (false, E3 9007199254740992)] (E4 r2) [],
              (true || ((E4 r2).nv && nvL [])) = true,
              r1 = true,
              r2 = true,
              r2 = true,
              r2 = true,
              Fn Tryz.prog 66 [(false, E3 a.Most), (false, E3 0), (false, E3 1000)] (E4 r3) [],
              (true || ((E4 r3).nv && nvL [])) = true,
              r2 = true,
              r3 = true,
              r3 = true,
              r3 = true,
              Fn Tryz.prog 66 [(false, E3 a.MostSum), (false, E3 0), (false, E3 9007199254740992)] (E4 r4) [],
              (true || ((E4 r4).nv && nvL [])) = true,
              r3 = true,
              r4 = true,
              r4 = true,
              r4 = true,
              Fn Tryz.prog 106 [(false, E3 a.Posted)] (E4 r5) [],
              (true || ((E4 r5).nv && nvL [])) = true,
              r4 = true,
              r5 = false,
              r5 = false,
              r5 = false,
              r5 = false,
              false = false,
              false = false,
              false = false,
              false = false,
              false = false,
              false = false,
              false = false,
              false = false,
              false = false,
              false = false,
              false = false,
              false = false,
              false = false,
              false = false,
              false = false,
              false = false,
              false = false,
              false = false]) (by kernel_rfl) (cj (impl_AcctIdOk_ok a.Id r1 h1) (cj rfl (cj h2 (cj h2 (cj h2 (cj (impl_within_ok a.Limit 0 9007199254740992 r2 h3) (cj rfl (cj h2 (cj h4 (cj h4 (cj h4 (cj (impl_within_ok a.Most 0 1000 r3 h5) (cj rfl (cj h4 (cj h6 (cj h6 (cj h6 (cj (impl_within_ok a.MostSum 0 9007199254740992 r4 h7) (cj rfl (cj h6 (cj h8 (cj h8 (cj h8 (cj (impl_isMoney_ok a.Posted r5 h9) (cj rfl (cj h8 (cj h10 (cj h10 (cj h10 (cj h10 (cj rfl (cj rfl (cj rfl (cj rfl (cj rfl (cj rfl (cj rfl (cj rfl (cj rfl (cj rfl (cj rfl (cj rfl (cj rfl (cj rfl (cj rfl (cj rfl (cj rfl (cj1 rfl)))))))))))))))))))))))))))))))))))))))))))))))))))) (fun h8 =>
           Pn.some (Fn.of [.draw [], .call [] (E4 r1) [], .bit true, .bit true, .bit true, .call [] (E4 r2) [], .bit true, .bit true, .bit true, .bit true, .call [] (E4 r3) [], .bit true, .bit true, .bit true, .bit true, .call [] (E4 r4) [], .bit true, .bit false, .bit false, .bit false, .bit false, .bit false, .bit false, .bit false, .bit false, .bit false, .bit false, .bit false, .bit false, .bit false, .bit false, .bit false, .bit false, .bit false, .bit false, .bit false, .bit false, .bit false, .bit false, .bit false, .bit false, .bit false, .bit false] (p := [Fn Tryz.prog 105 [(false, E9 a.Id)] (E4 r1) [],
            (true || ((E4 r1).nv && nvL [])) = true,
            r1 = true,
            r1 = true,
            r1 = true,
            Fn Tryz.prog 66 [(false, E3 a.Limit), (false, E3 0), (false, E3 9007199254740992)] (E4 r2) [],
            (true || ((E4 r2).nv && nvL [])) = true,
            r1 = true,
            r2 = true,
            r2 = true,
            r2 = true,
            Fn Tryz.prog 66 [(false, E3 a.Most), (false, E3 0), (false, E3 1000)] (E4 r3) [],
            (true || ((E4 r3).nv && nvL [])) = true,
            r2 = true,
            r3 = true,
            r3 = true,
            r3 = true,
            Fn Tryz.prog 66 [(false, E3 a.MostSum), (false, E3 0), (false, E3 9007199254740992)] (E4 r4) [],
            (true || ((E4 r4).nv && nvL [])) = true,
            r3 = true,
            r4 = false,
            r4 = false,
            r4 = false,
            r4 = false,
            false = false,
            false = false,
            false = false,
            false = false,
            false = false,
            false = false,
            false = false,
            false = false,
            false = false,
            false = false,
            false = false,
            false = false,
            false = false,
            false = false,
            false = false,
            false = false,
            false = false,
            false = false,
            false = false,
            false = false,
            false = false,
            false = false]) (by kernel_rfl) (cj (impl_AcctIdOk_ok a.Id r1 h1) (cj rfl (cj h2 (cj h2 (cj h2 (cj (impl_within_ok a.Limit 0 9007199254740992 r2 h3) (cj rfl (cj h2 (cj h4 (cj h4 (cj h4 (cj (impl_within_ok a.Most 0 1000 r3 h5) (cj rfl (cj h4 (cj h6 (cj h6 (cj h6 (cj (impl_within_ok a.MostSum 0 9007199254740992 r4 h7) (cj rfl (cj h6 (cj h8 (cj h8 (cj h8 (cj h8 (cj rfl (cj rfl (cj rfl (cj rfl (cj rfl (cj rfl (cj rfl (cj rfl (cj rfl (cj rfl (cj rfl (cj rfl (cj rfl (cj rfl (cj rfl (cj rfl (cj rfl (cj rfl (cj rfl (cj rfl (cj rfl (cj1 rfl)))))))))))))))))))))))))))))))))))))))))))))))))) (fun h6 =>
         Pn.some (Fn.of [.draw [], .call [] (E4 r1) [], .bit true, .bit true, .bit true, .call [] (E4 r2) [], .bit true, .bit true, .bit true, .bit true, .call [] (E4 r3) [], .bit true, .bit false, .bit false, .bit false, .bit false, .bit false, .bit false, .bit false, .bit false, .bit false, .bit false, .bit false, .bit false, .bit false, .bit false, .bit false, .bit false, .bit false, .bit false, .bit false, .bit false, .bit false, .bit false, .bit false, .bit false, .bit false, .bit false, .bit false, .bit false, .bit false, .bit false] (p := [Fn Tryz.prog 105 [(false, E9 a.Id)] (E4 r1) [],
          (true || ((E4 r1).nv && nvL [])) = true,
          r1 = true,
          r1 = true,
          r1 = true,
          Fn Tryz.prog 66 [(false, E3 a.Limit), (false, E3 0), (false, E3 9007199254740992)] (E4 r2) [],
          (true || ((E4 r2).nv && nvL [])) = true,
          r1 = true,
          r2 = true,
          r2 = true,
          r2 = true,
          Fn Tryz.prog 66 [(false, E3 a.Most), (false, E3 0), (false, E3 1000)] (E4 r3) [],
          (true || ((E4 r3).nv && nvL [])) = true,
          r2 = true,
          r3 = false,
          r3 = false,
          r3 = false,
          r3 = false,
          false = false,
          false = false,
          false = false,
          false = false,
          false = false,
          false = false,
          false = false,
          false = false,
          false = false,
          false = false,
          false = false,
          false = false,
          false = false,
          false = false,
          false = false,
          false = false,
          false = false,
          false = false,
          false = false,
          false = false,
          false = false,
          false = false,
          false = false,
          false = false,
          false = false,
          false = false]) (by kernel_rfl) (cj (impl_AcctIdOk_ok a.Id r1 h1) (cj rfl (cj h2 (cj h2 (cj h2 (cj (impl_within_ok a.Limit 0 9007199254740992 r2 h3) (cj rfl (cj h2 (cj h4 (cj h4 (cj h4 (cj (impl_within_ok a.Most 0 1000 r3 h5) (cj rfl (cj h4 (cj h6 (cj h6 (cj h6 (cj h6 (cj rfl (cj rfl (cj rfl (cj rfl (cj rfl (cj rfl (cj rfl (cj rfl (cj rfl (cj rfl (cj rfl (cj rfl (cj rfl (cj rfl (cj rfl (cj rfl (cj rfl (cj rfl (cj rfl (cj rfl (cj rfl (cj rfl (cj rfl (cj rfl (cj rfl (cj1 rfl)))))))))))))))))))))))))))))))))))))))))))))))) (fun h4 =>
       Pn.some (Fn.of [.draw [], .call [] (E4 r1) [], .bit true, .bit true, .bit true, .call [] (E4 r2) [], .bit true, .bit false, .bit false, .bit false, .bit false, .bit false, .bit false, .bit false, .bit false, .bit false, .bit false, .bit false, .bit false, .bit false, .bit false, .bit false, .bit false, .bit false, .bit false, .bit false, .bit false, .bit false, .bit false, .bit false, .bit false, .bit false, .bit false, .bit false, .bit false, .bit false, .bit false, .bit false, .bit false, .bit false, .bit false] (p := [Fn Tryz.prog 105 [(false, E9 a.Id)] (E4 r1) [],
        (true || ((E4 r1).nv && nvL [])) = true,
        r1 = true,
        r1 = true,
        r1 = true,
        Fn Tryz.prog 66 [(false, E3 a.Limit), (false, E3 0), (false, E3 9007199254740992)] (E4 r2) [],
        (true || ((E4 r2).nv && nvL [])) = true,
        r1 = true,
        r2 = false,
        r2 = false,
        r2 = false,
        r2 = false,
        false = false,
        false = false,
        false = false,
        false = false,
        false = false,
        false = false,
        false = false,
        false = false,
        false = false,
        false = false,
        false = false,
        false = false,
        false = false,
        false = false,
        false = false,
        false = false,
        false = false,
        false = false,
        false = false,
        false = false,
        false = false,
        false = false,
        false = false,
        false = false,
        false = false,
        false = false,
        false = false,
        false = false,
        false = false,
        false = false]) (by kernel_rfl) (cj (impl_AcctIdOk_ok a.Id r1 h1) (cj rfl (cj h2 (cj h2 (cj h2 (cj (impl_within_ok a.Limit 0 9007199254740992 r2 h3) (cj rfl (cj h2 (cj h4 (cj h4 (cj h4 (cj h4 (cj rfl (cj rfl (cj rfl (cj rfl (cj rfl (cj rfl (cj rfl (cj rfl (cj rfl (cj rfl (cj rfl (cj rfl (cj rfl (cj rfl (cj rfl (cj rfl (cj rfl (cj rfl (cj rfl (cj rfl (cj rfl (cj rfl (cj rfl (cj rfl (cj rfl (cj rfl (cj rfl (cj rfl (cj rfl (cj1 rfl)))))))))))))))))))))))))))))))))))))))))))))) (fun h2 =>
     Pn.some (Fn.of [.draw [], .call [] (E4 r1) [], .bit false, .bit false, .bit false, .bit false, .bit false, .bit false, .bit false, .bit false, .bit false, .bit false, .bit false, .bit false, .bit false, .bit false, .bit false, .bit false, .bit false, .bit false, .bit false, .bit false, .bit false, .bit false, .bit false, .bit false, .bit false, .bit false, .bit false, .bit false, .bit false, .bit false, .bit false, .bit false, .bit false, .bit false, .bit false, .bit false, .bit false, .bit false] (p := [Fn Tryz.prog 105 [(false, E9 a.Id)] (E4 r1) [],
      (true || ((E4 r1).nv && nvL [])) = true,
      r1 = false,
      r1 = false,
      r1 = false,
      r1 = false,
      false = false,
      false = false,
      false = false,
      false = false,
      false = false,
      false = false,
      false = false,
      false = false,
      false = false,
      false = false,
      false = false,
      false = false,
      false = false,
      false = false,
      false = false,
      false = false,
      false = false,
      false = false,
      false = false,
      false = false,
      false = false,
      false = false,
      false = false,
      false = false,
      false = false,
      false = false,
      false = false,
      false = false,
      false = false,
      false = false,
      false = false,
      false = false,
      false = false,
      false = false]) (by kernel_rfl) (cj (impl_AcctIdOk_ok a.Id r1 h1) (cj rfl (cj h2 (cj h2 (cj h2 (cj h2 (cj rfl (cj rfl (cj rfl (cj rfl (cj rfl (cj rfl (cj rfl (cj rfl (cj rfl (cj rfl (cj rfl (cj rfl (cj rfl (cj rfl (cj rfl (cj rfl (cj rfl (cj rfl (cj rfl (cj rfl (cj rfl (cj rfl (cj rfl (cj rfl (cj rfl (cj rfl (cj rfl (cj rfl (cj rfl (cj rfl (cj rfl (cj rfl (cj rfl (cj1 rfl)))))))))))))))))))))))))))))))))))))))))))
def slices_Clone_impl_Hold (s_ : List Hold) : Option (List Hold) := if capOk s_.length = true then some s_ else none
theorem slices_Clone_impl_Hold_ok : ∀ (s_ : List Hold), Pn (fun y => Fn Tryz.prog 68 [(false, E30 s_)] (E30 y) []) (slices_Clone_impl_Hold s_)
  | [] => by
    unfold slices_Clone_impl_Hold
    exact Pn.ite (fun h => Pn.some (Fn.two [] [.bit true] [.bit false, .cp (List.map E74 []), .nb 1 (.row 74 (List.map E74 []) [])] (p := []) (pT := [true = true]) (pF := [false = false, (List.map E74 []).map V.vw = (List.map E74 []), ([] : List V).length + (List.map E74 []).length ≤ 9223372036854775807, (([] : List V).length + (List.map E74 []).length) * 32 ≤ 140737488355328, Blk.row 74 (([] : List V) ++ (List.map E74 [])) [] = Blk.row 74 (List.map E74 []) []]) (by kernel_rfl) trivial (cj1 rfl) (cj rfl (cj (vw_id (fun _ => rfl) _) (cj (cap1 (capN (by simp) h)) (cj (cap2 (capN (by simp) h) (by decide)) (cj1 rfl))))))) (fun _ => Pn.none)
  | x :: t => by
    unfold slices_Clone_impl_Hold
    exact Pn.ite (fun h => Pn.some (Fn.two [] [.bit true] [.bit false, .cp (List.map E74 (x :: t)), .nb 1 (.row 74 (List.map E74 (x :: t)) [])] (p := []) (pT := [false = false, (List.map E74 (x :: t)).map V.vw = (List.map E74 (x :: t)), ([] : List V).length + (List.map E74 (x :: t)).length ≤ 9223372036854775807, (([] : List V).length + (List.map E74 (x :: t)).length) * 32 ≤ 140737488355328, Blk.row 74 (([] : List V) ++ (List.map E74 (x :: t))) [] = Blk.row 74 (List.map E74 (x :: t)) []]) (pF := [false = false, (List.map E74 (x :: t)).map V.vw = (List.map E74 (x :: t)), ([] : List V).length + (List.map E74 (x :: t)).length ≤ 9223372036854775807, (([] : List V).length + (List.map E74 (x :: t)).length) * 32 ≤ 140737488355328, Blk.row 74 (([] : List V) ++ (List.map E74 (x :: t))) [] = Blk.row 74 (List.map E74 (x :: t)) []]) (by kernel_rfl) trivial (cj rfl (cj (vw_id (fun _ => rfl) _) (cj (cap1 (capN (by simp) h)) (cj (cap2 (capN (by simp) h) (by decide)) (cj1 rfl))))) (cj rfl (cj (vw_id (fun _ => rfl) _) (cj (cap1 (capN (by simp) h)) (cj (cap2 (capN (by simp) h) (by decide)) (cj1 rfl))))))) (fun _ => Pn.none)
def slices_Clone_int (s_ : List Int) : Option (List Int) := if capOk s_.length = true then some s_ else none
theorem slices_Clone_int_ok : ∀ (s_ : List Int), Pn (fun y => Fn Tryz.prog 145 [(false, E23 s_)] (E23 y) []) (slices_Clone_int s_)
  | [] => by
    unfold slices_Clone_int
    exact Pn.ite (fun h => Pn.some (Fn.two [] [.bit true] [.bit false, .cp (List.map E3 []), .nb 1 (.row 3 (List.map E3 []) [])] (p := []) (pT := [true = true]) (pF := [false = false, (List.map E3 []).map V.vw = (List.map E3 []), ([] : List V).length + (List.map E3 []).length ≤ 9223372036854775807, (([] : List V).length + (List.map E3 []).length) * 8 ≤ 140737488355328, Blk.row 3 (([] : List V) ++ (List.map E3 [])) [] = Blk.row 3 (List.map E3 []) []]) (by kernel_rfl) trivial (cj1 rfl) (cj rfl (cj (vw_id (fun _ => rfl) _) (cj (cap1 (capN (by simp) h)) (cj (cap2 (capN (by simp) h) (by decide)) (cj1 rfl))))))) (fun _ => Pn.none)
  | x :: t => by
    unfold slices_Clone_int
    exact Pn.ite (fun h => Pn.some (Fn.two [] [.bit true] [.bit false, .cp (List.map E3 (x :: t)), .nb 1 (.row 3 (List.map E3 (x :: t)) [])] (p := []) (pT := [false = false, (List.map E3 (x :: t)).map V.vw = (List.map E3 (x :: t)), ([] : List V).length + (List.map E3 (x :: t)).length ≤ 9223372036854775807, (([] : List V).length + (List.map E3 (x :: t)).length) * 8 ≤ 140737488355328, Blk.row 3 (([] : List V) ++ (List.map E3 (x :: t))) [] = Blk.row 3 (List.map E3 (x :: t)) []]) (pF := [false = false, (List.map E3 (x :: t)).map V.vw = (List.map E3 (x :: t)), ([] : List V).length + (List.map E3 (x :: t)).length ≤ 9223372036854775807, (([] : List V).length + (List.map E3 (x :: t)).length) * 8 ≤ 140737488355328, Blk.row 3 (([] : List V) ++ (List.map E3 (x :: t))) [] = Blk.row 3 (List.map E3 (x :: t)) []]) (by kernel_rfl) trivial (cj rfl (cj (vw_id (fun _ => rfl) _) (cj (cap1 (capN (by simp) h)) (cj (cap2 (capN (by simp) h) (by decide)) (cj1 rfl))))) (cj rfl (cj (vw_id (fun _ => rfl) _) (cj (cap1 (capN (by simp) h)) (cj (cap2 (capN (by simp) h) (by decide)) (cj1 rfl))))))) (fun _ => Pn.none)
def impl_Ring_copied (r_ : Ring) : Option (Ring) :=
 (slices_Clone_int r_.Counts).bind fun r1 =>
 (slices_Clone_int r_.Sums).bind fun r2 =>
 some (Ring.mk r_.Span r_.Head r1 r2)
theorem impl_Ring_copied_ok (r_ : Ring) : Pn (fun y => Fn Tryz.prog 132 [(false, E31 r_)] (E31 y) []) (impl_Ring_copied r_) := by
  unfold impl_Ring_copied
  exact
   Pn.bind (fun r1 h1 =>
    Pn.bind (fun r2 h2 =>
     Pn.some (Fn.of [.draw [7, 9], .call [] (E23 r1) [], .call [] (E23 r2) []] (p := [Fn Tryz.prog 145 [(false, E23 r_.Counts)] (E23 r1) [],
      (true || ((E23 r1).nv && nvL [])) = true,
      Fn Tryz.prog 145 [(false, E23 r_.Sums)] (E23 r2) [],
      (true || ((E23 r2).nv && nvL [])) = true]) (by kernel_rfl) (cj (slices_Clone_int_ok r_.Counts r1 h1) (cj rfl (cj (slices_Clone_int_ok r_.Sums r2 h2) (cj1 rfl)))))))
def slices_Clone_byte (s_ : List Int) : Option (List Int) := if capOk s_.length = true then some s_ else none
theorem slices_Clone_byte_ok : ∀ (s_ : List Int), Pn (fun y => Fn Tryz.prog 146 [(false, E85 s_)] (E85 y) []) (slices_Clone_byte s_)
  | [] => by
    unfold slices_Clone_byte
    exact Pn.ite (fun h => Pn.some (Fn.two [] [.bit true] [.bit false, .cp (List.map E5 []), .nb 1 (.row 5 (List.map E5 []) [])] (p := []) (pT := [true = true]) (pF := [false = false, (List.map E5 []).map V.vw = (List.map E5 []), ([] : List V).length + (List.map E5 []).length ≤ 9223372036854775807, (([] : List V).length + (List.map E5 []).length) * 1 ≤ 140737488355328, Blk.row 5 (([] : List V) ++ (List.map E5 [])) [] = Blk.row 5 (List.map E5 []) []]) (by kernel_rfl) trivial (cj1 rfl) (cj rfl (cj (vw_id (fun _ => rfl) _) (cj (cap1 (capN (by simp) h)) (cj (cap2 (capN (by simp) h) (by decide)) (cj1 rfl))))))) (fun _ => Pn.none)
  | x :: t => by
    unfold slices_Clone_byte
    exact Pn.ite (fun h => Pn.some (Fn.two [] [.bit true] [.bit false, .cp (List.map E5 (x :: t)), .nb 1 (.row 5 (List.map E5 (x :: t)) [])] (p := []) (pT := [false = false, (List.map E5 (x :: t)).map V.vw = (List.map E5 (x :: t)), ([] : List V).length + (List.map E5 (x :: t)).length ≤ 9223372036854775807, (([] : List V).length + (List.map E5 (x :: t)).length) * 1 ≤ 140737488355328, Blk.row 5 (([] : List V) ++ (List.map E5 (x :: t))) [] = Blk.row 5 (List.map E5 (x :: t)) []]) (pF := [false = false, (List.map E5 (x :: t)).map V.vw = (List.map E5 (x :: t)), ([] : List V).length + (List.map E5 (x :: t)).length ≤ 9223372036854775807, (([] : List V).length + (List.map E5 (x :: t)).length) * 1 ≤ 140737488355328, Blk.row 5 (([] : List V) ++ (List.map E5 (x :: t))) [] = Blk.row 5 (List.map E5 (x :: t)) []]) (by kernel_rfl) trivial (cj rfl (cj (vw_id (fun _ => rfl) _) (cj (cap1 (capN (by simp) h)) (cj (cap2 (capN (by simp) h) (by decide)) (cj1 rfl))))) (cj rfl (cj (vw_id (fun _ => rfl) _) (cj (cap1 (capN (by simp) h)) (cj (cap2 (capN (by simp) h) (by decide)) (cj1 rfl))))))) (fun _ => Pn.none)
def impl_copySlots_l0 (l : List Slot) : List Slot → (List Slot) → Option ((List Slot))
  | [], v1 =>
   some v1
  | x1 :: t1, v1 =>
   (slices_Clone_byte x1.Reply).bind fun r1 =>
   if (capOk (v1.length + 1)) = true then
    impl_copySlots_l0 l t1 (v1 ++ [(Slot.mk x1.Trace x1.Mti r1)])
   else none
theorem impl_copySlots_l0_ok (l : List Slot) (h2 : capOk l.length = true) : ∀ (t1 p1 : List Slot) (_ : l = p1 ++ t1) (v1 : List Slot), Pn (LpO Tryz.prog (sub (codeOf Tryz.prog 136) [1, 1, 0, 1, 0, 0]) (st 26 [(3, V.ow 0), (7, V.sl false 94 (List.map E94 l)), (8, V.sc (.int .i64 (l.length : Int))), (9, V.sc (.int .i64 (p1.length : Int)))] [Blk.row 94 (List.map E94 v1) []] []) (fun (y : (List Slot)) => (X.out 0, st 26 [(3, V.ow 0)] [Blk.row 94 (List.map E94 y) []] []))) (impl_copySlots_l0 l t1 v1)
  | [], p1, h1, v1 => by
    unfold impl_copySlots_l0
    exact
     Pn.some (LpO.out [.bit false, .mask [3], .ren [0]] (p := [(decide ((p1.length : Int) < (l.length : Int))) = false]) (by kernel_rfl) (show X.out 0 ≠ X.go from nofun) (cj1 (rng_end h1)))
  | x1 :: t1, p1, h1, v1 => by
    unfold impl_copySlots_l0
    exact
     Pn.bind (fun r1 h3 =>
      Pn.ite (fun h4 =>
       LpO.go [.bit true, .el (E94 x1), .draw [10], .call [] (E85 r1) [], .wait 2, .shut 3, .mv, .nb 4 (.row 94 (List.map E94 (v1 ++ [(Slot.mk x1.Trace x1.Mti r1)])) []), .wait 4, .mask [3, 7, 8, 9], .ren [4], .nm 9 (V.sc (.int .i64 ((p1 ++ [x1]).length : Int)))] (p := [(decide ((p1.length : Int) < (l.length : Int))) = true,
        (0 : Int) ≤ (p1.length : Int),
        (List.map E94 l)[(p1.length : Int).toNat]? = some (E94 x1),
        Fn Tryz.prog 146 [(false, E85 x1.Reply)] (E85 r1) [],
        (true || ((E85 r1).nv && nvL [])) = true,
        (List.map E94 v1).length + [V.agg [V.sc (.string x1.Trace), V.sc (.string x1.Mti), V.sl true 5 (List.map E5 r1)]].length ≤ 9223372036854775807,
        ((List.map E94 v1).length + [V.agg [V.sc (.string x1.Trace), V.sc (.string x1.Mti), V.sl true 5 (List.map E5 r1)]].length) * 56 ≤ 140737488355328,
        Blk.row 94 ((List.map E94 v1) ++ [V.agg [V.sc (.string x1.Trace), V.sc (.string x1.Mti), V.sl true 5 (List.map E5 r1)]]) [] = Blk.row 94 (List.map E94 (v1 ++ [(Slot.mk x1.Trace x1.Mti r1)])) [],
        V.sc (.int .i64 (i64 ((p1.length : Int) + 1))) = V.sc (.int .i64 ((p1 ++ [x1]).length : Int))]) (by kernel_rfl) (cj (rng_lt h1) (cj (by omega) (cj (rng_get _ h1) (cj (slices_Clone_byte_ok x1.Reply r1 h3) (cj rfl (cj (cap1 (capN (by simp) h4)) (cj (cap2 (capN (by simp) h4) (by decide)) (cj (nb_app E94 v1 [(Slot.mk x1.Trace x1.Mti r1)]) (cj1 (rng_next h1 h2)))))))))) (impl_copySlots_l0_ok l h2 t1 (p1 ++ [x1]) (rng_step h1) (v1 ++ [(Slot.mk x1.Trace x1.Mti r1)]))) (fun h4 =>
       Pn.none))
def impl_copySlots (l : List Slot) : Option ((List Slot)) :=
 if (capOk l.length) = true then
  (impl_copySlots_l0 l l []).bind fun r2 =>
  some r2
 else none
theorem impl_copySlots_ok (l : List Slot) : Pn (fun y => Fn Tryz.prog 136 [(false, E32 l)] (E32 y) []) (impl_copySlots l) := by
  unfold impl_copySlots
  exact
   Pn.ite (fun h5 =>
    Pn.bind (fun r2 h6 =>
     Pn.some (Fn.of [.wait 5, .nm 8 (V.sc (.int .i64 (l.length : Int))), .wait 2, .mask [3, 7, 8, 9], .ren [0], .loop (X.out 0) (st 26 [(3, V.ow 0)] [Blk.row 94 (List.map E94 r2) []] [])] (p := [V.sc (.int .i64 ((List.map E94 l).length : Int)) = V.sc (.int .i64 (l.length : Int)),
      Loop Tryz.prog (sub (codeOf Tryz.prog 136) [1, 1, 0, 1, 0, 0]) (st 26 [(3, V.ow 0), (7, V.sl false 94 (List.map E94 l)), (8, V.sc (.int .i64 (l.length : Int))), (9, V.sc (.int .i64 0))] [Blk.row 94 ([] : List V) []] []) (X.out 0) (st 26 [(3, V.ow 0)] [Blk.row 94 (List.map E94 r2) []] [])]) (by kernel_rfl) (cj (len_nm _ _) (cj1 (impl_copySlots_l0_ok l h5 l [] rfl [] r2 h6)))))) (fun h5 =>
    Pn.none)
def impl_Acct_copied (a : Acct) : Option (Acct) :=
 (slices_Clone_impl_Hold a.Holds).bind fun r1 =>
 (impl_Ring_copied a.Ring).bind fun r2 =>
 (impl_copySlots a.Slots).bind fun r3 =>
 some (Acct.mk a.Id a.Limit a.Posted a.Most a.MostSum r1 r2 r3)
theorem impl_Acct_copied_ok (a : Acct) : Pn (fun y => Fn Tryz.prog 121 [(false, E34 a)] (E34 y) []) (impl_Acct_copied a) := by
  unfold impl_Acct_copied
  exact
   Pn.bind (fun r1 h1 =>
    Pn.bind (fun r2 h2 =>
     Pn.bind (fun r3 h3 =>
      Pn.some (Fn.of [.draw [10, 12, 14], .call [] (E30 r1) [], .call [] (E31 r2) [], .call [] (E32 r3) []] (p := [Fn Tryz.prog 68 [(false, E30 a.Holds)] (E30 r1) [],
       (true || ((E30 r1).nv && nvL [])) = true,
       Fn Tryz.prog 132 [(false, E31 a.Ring)] (E31 r2) [],
       (true || ((E31 r2).nv && nvL [])) = true,
       Fn Tryz.prog 136 [(false, E32 a.Slots)] (E32 r3) [],
       (true || ((E32 r3).nv && nvL [])) = true]) (by kernel_rfl) (cj (slices_Clone_impl_Hold_ok a.Holds r1 h1) (cj rfl (cj (impl_Ring_copied_ok a.Ring r2 h2) (cj rfl (cj (impl_copySlots_ok a.Slots r3 h3) (cj1 rfl))))))))))
def impl_Live (h_ : Hold) (now : Int) : Option (Bool) :=
 some (decide (now < h_.Due))
theorem impl_Live_ok (h_ : Hold) (now : Int) : Pn (fun y => Fn Tryz.prog 138 [(false, E74 h_), (false, E3 now)] (E4 y) []) (impl_Live h_ now) := by
  unfold impl_Live
  exact
   Pn.some (Fn.of [] (p := []) (by kernel_rfl) trivial)
def impl_LiveOnes_1 (h_ : Hold) (c0_0 : Int) : Option (Bool) :=
 (impl_Live h_ c0_0).bind fun r1 =>
 some (!r1)
theorem impl_LiveOnes_1_ok (h_ : Hold) (c0_0 : Int) : Pn (fun y => Fn Tryz.prog 137 [(false, E74 h_), (false, V.cp [V.sc (.int .i64 c0_0)])] (E4 y) []) (impl_LiveOnes_1 h_ c0_0) := by
  unfold impl_LiveOnes_1
  exact
   Pn.bind (fun r1 h1 =>
    Pn.some (Fn.of [.call [] (E4 r1) []] (p := [Fn Tryz.prog 138 [(false, E74 h_), (false, E3 c0_0)] (E4 r1) [],
     (true || ((E4 r1).nv && nvL [])) = true]) (by kernel_rfl) (cj (impl_Live_ok h_ c0_0 r1 h1) (cj1 rfl))))
def slices_IndexFunc_impl_Hold_impl_LiveOnes_1_l0 (s_ : List Hold) (f0_0 : Int) : List Hold → List Hold → Option (Lo Unit Int)
  | [], p1 =>
   some (.out ())
  | x1 :: t1, p1 =>
   (impl_LiveOnes_1 x1 f0_0).bind fun r1 =>
   if r1 = true then
    some (.ret (p1.length : Int))
   else
    slices_IndexFunc_impl_Hold_impl_LiveOnes_1_l0 s_ f0_0 t1 (p1 ++ [x1])
theorem slices_IndexFunc_impl_Hold_impl_LiveOnes_1_l0_ok (s_ : List Hold) (f0_0 : Int) (h2 : capOk s_.length = true) : ∀ (t1 p1 : List Hold) (_ : s_ = p1 ++ t1) , Pn (LpO Tryz.prog (sub (codeOf Tryz.prog 99) [1, 0, 1, 0, 0]) (st 19 [(0, V.sl false 74 (List.map E74 s_)), (1, V.fn 137 [V.cp [V.sc (.int .i64 f0_0)]]), (7, V.sc (.int .i64 (s_.length : Int))), (8, V.sc (.int .i64 (p1.length : Int)))] [] []) (fun (y : Lo Unit Int) => Lo.elim y (fun s => (X.out 0, st 19 [] [] [])) (fun s => (X.ret, st 19 [(4, V.sc (.int .i64 s))] [] [])))) (slices_IndexFunc_impl_Hold_impl_LiveOnes_1_l0 s_ f0_0 t1 p1)
  | [], p1, h1 => by
    unfold slices_IndexFunc_impl_Hold_impl_LiveOnes_1_l0
    exact
     Pn.some (LpO.out [.bit false, .mask [], .ren []] (p := [(decide ((p1.length : Int) < (s_.length : Int))) = false]) (by kernel_rfl) (show X.out 0 ≠ X.go from nofun) (cj1 (rng_end h1)))
  | x1 :: t1, p1, h1 => by
    unfold slices_IndexFunc_impl_Hold_impl_LiveOnes_1_l0
    exact
     Pn.bind (fun r1 h3 =>
      Pn.ite (fun h4 =>
       Pn.some (LpO.out [.bit true, .el (E74 x1), .call [] (E4 r1) [], .bit true, .wait 2, .mask [4], .ren []] (p := [(decide ((p1.length : Int) < (s_.length : Int))) = true,
        (0 : Int) ≤ (p1.length : Int),
        (List.map E74 s_)[(p1.length : Int).toNat]? = some (E74 x1),
        Fn Tryz.prog 137 [(false, E74 x1), (false, V.cp [V.sc (.int .i64 f0_0)])] (E4 r1) [],
        (true || ((E4 r1).nv && nvL [])) = true,
        r1 = true]) (by kernel_rfl) (show X.ret ≠ X.go from nofun) (cj (rng_lt h1) (cj (by omega) (cj (rng_get _ h1) (cj (impl_LiveOnes_1_ok x1 f0_0 r1 h3) (cj rfl (cj1 h4)))))))) (fun h4 =>
       LpO.go [.bit true, .el (E74 x1), .call [] (E4 r1) [], .bit false, .wait 2, .mask [0, 1, 7, 8], .ren [], .nm 8 (V.sc (.int .i64 ((p1 ++ [x1]).length : Int)))] (p := [(decide ((p1.length : Int) < (s_.length : Int))) = true,
        (0 : Int) ≤ (p1.length : Int),
        (List.map E74 s_)[(p1.length : Int).toNat]? = some (E74 x1),
        Fn Tryz.prog 137 [(false, E74 x1), (false, V.cp [V.sc (.int .i64 f0_0)])] (E4 r1) [],
        (true || ((E4 r1).nv && nvL [])) = true,
        r1 = false,
        V.sc (.int .i64 (i64 ((p1.length : Int) + 1))) = V.sc (.int .i64 ((p1 ++ [x1]).length : Int))]) (by kernel_rfl) (cj (rng_lt h1) (cj (by omega) (cj (rng_get _ h1) (cj (impl_LiveOnes_1_ok x1 f0_0 r1 h3) (cj rfl (cj h4 (cj1 (rng_next h1 h2)))))))) (slices_IndexFunc_impl_Hold_impl_LiveOnes_1_l0_ok s_ f0_0 h2 t1 (p1 ++ [x1]) (rng_step h1))))
def slices_IndexFunc_impl_Hold_impl_LiveOnes_1 (s_ : List Hold) (f0_0 : Int) : Option (Int) :=
 if (capOk s_.length) = true then
  (slices_IndexFunc_impl_Hold_impl_LiveOnes_1_l0 s_ f0_0 s_ []).bind fun r2 =>
  Lo.elim r2 (fun s1 =>
   some (-1)) (fun s2 =>
   some s2)
 else none
theorem slices_IndexFunc_impl_Hold_impl_LiveOnes_1_ok (s_ : List Hold) (f0_0 : Int) : Pn (fun y => Fn Tryz.prog 99 [(false, E30 s_), (false, V.fn 137 [V.cp [V.sc (.int .i64 f0_0)]])] (E3 y) []) (slices_IndexFunc_impl_Hold_impl_LiveOnes_1 s_ f0_0) := by
  unfold slices_IndexFunc_impl_Hold_impl_LiveOnes_1
  exact
   Pn.ite (fun h5 =>
    Pn.bind (fun r2 h6 =>
     Pn.lo (fun s1 h7 =>
      Pn.some (Fn.of [.wait 3, .nm 7 (V.sc (.int .i64 (s_.length : Int))), .wait 2, .mask [0, 1, 7, 8], .ren [], .loop (X.out 0) (st 19 [] [] [])] (p := [V.sc (.int .i64 ((List.map E74 s_).length : Int)) = V.sc (.int .i64 (s_.length : Int)),
       Loop Tryz.prog (sub (codeOf Tryz.prog 99) [1, 0, 1, 0, 0]) (st 19 [(0, V.sl false 74 (List.map E74 s_)), (1, V.fn 137 [V.cp [V.sc (.int .i64 f0_0)]]), (7, V.sc (.int .i64 (s_.length : Int))), (8, V.sc (.int .i64 0))] [] []) (X.out 0) (st 19 [] [] [])]) (by kernel_rfl) (cj (len_nm _ _) (cj1 ((slices_IndexFunc_impl_Hold_impl_LiveOnes_1_l0_ok s_ f0_0 h5 s_ [] rfl r2 h6).at h7))))) (fun s2 h8 =>
      Pn.some (Fn.of [.wait 3, .nm 7 (V.sc (.int .i64 (s_.length : Int))), .wait 2, .mask [0, 1, 7, 8], .ren [], .loop (X.ret) (st 19 [(4, V.sc (.int .i64 s2))] [] [])] (p := [V.sc (.int .i64 ((List.map E74 s_).length : Int)) = V.sc (.int .i64 (s_.length : Int)),
       Loop Tryz.prog (sub (codeOf Tryz.prog 99) [1, 0, 1, 0, 0]) (st 19 [(0, V.sl false 74 (List.map E74 s_)), (1, V.fn 137 [V.cp [V.sc (.int .i64 f0_0)]]), (7, V.sc (.int .i64 (s_.length : Int))), (8, V.sc (.int .i64 0))] [] []) (X.ret) (st 19 [(4, V.sc (.int .i64 s2))] [] [])]) (by kernel_rfl) (cj (len_nm _ _) (cj1 ((slices_IndexFunc_impl_Hold_impl_LiveOnes_1_l0_ok s_ f0_0 h5 s_ [] rfl r2 h6).at h8))))))) (fun h5 =>
    Pn.none)
def slices_DeleteFunc_impl_Hold_impl_LiveOnes_1_l0 (del0_0 : Int) : Nat → Int → Int → (List Hold) → Option (Int × (List Hold))
  | 0, _, _, _ => none
  | n + 1, v1, v2, v3 =>
   if (decide (v2 < (v3.length : Int))) = true then
    if (decide (0 ≤ v2)) = true then
     (v3[v2.toNat]?).bind fun x1 =>
     (impl_LiveOnes_1 x1 del0_0).bind fun r2 =>
     if r2 = true then
      slices_DeleteFunc_impl_Hold_impl_LiveOnes_1_l0 del0_0 n v1 (i64 (v2 + 1)) v3
     else
      if (decide (0 ≤ v1)) = true then
       (v3[v1.toNat]?).bind fun x2 =>
       slices_DeleteFunc_impl_Hold_impl_LiveOnes_1_l0 del0_0 n (i64 (v1 + 1)) (i64 (v2 + 1)) (v3.set v1.toNat x1)
      else none
    else none
   else
    some (v1, v3)
theorem slices_DeleteFunc_impl_Hold_impl_LiveOnes_1_l0_ok (del0_0 : Int) : ∀ (n : Nat) (v1 : Int) (v2 : Int) (v3 : List Hold), Pn (LpO Tryz.prog (sub (codeOf Tryz.prog 67) [1, 1, 1, 0, 1, 0, 0]) (st 42 [(0, V.ow 0), (1, V.fn 137 [V.cp [V.sc (.int .i64 del0_0)]]), (5, V.sc (.int .i64 v1)), (6, V.sc (.int .i64 v2))] [Blk.row 74 (List.map E74 v3) []] [some 0]) (fun (y : Int × (List Hold)) => (X.out 0, st 42 [(0, V.ow 0), (5, V.sc (.int .i64 y.1))] [Blk.row 74 (List.map E74 y.2) []] [some 0]))) (slices_DeleteFunc_impl_Hold_impl_LiveOnes_1_l0 del0_0 n v1 v2 v3)
  | 0, _, _, _ => Pn.none
  | n + 1, v1, v2, v3 => by
    unfold slices_DeleteFunc_impl_Hold_impl_LiveOnes_1_l0
    exact
     Pn.ite (fun h3 =>
      Pn.ite (fun h4 =>
       Pn.bind (fun x1 h5 =>
        Pn.bind (fun r2 h6 =>
         Pn.ite (fun h7 =>
          LpO.go [.wait 3, .nm 18 (V.sc (.int .i64 (v3.length : Int))), .bit true, .el (E74 x1), .call [] (E4 r2) [], .bit false, .wait 3, .mask [0, 1, 5, 6], .ren [0]] (p := [V.sc (.int .i64 ((List.map E74 v3).length : Int)) = V.sc (.int .i64 (v3.length : Int)),
           (decide (v2 < (v3.length : Int))) = true,
           (0 : Int) ≤ v2,
           (v2 : Int) < ((List.map E74 v3).length : Int),
           look [] v2.toNat = none,
           (List.map E74 v3)[v2.toNat]? = some (E74 x1),
           Fn Tryz.prog 137 [(false, E74 x1), (false, V.cp [V.sc (.int .i64 del0_0)])] (E4 r2) [],
           (true || ((E4 r2).nv && nvL [])) = true,
           (!r2) = false]) (by kernel_rfl) (cj (len_nm _ _) (cj h3 (cj (od h4) (cj (map_ltN (od h4) h5) (cj rfl (cj (map_get h5) (cj (impl_LiveOnes_1_ok x1 del0_0 r2 h6) (cj rfl (cj1 (nf h7)))))))))) (slices_DeleteFunc_impl_Hold_impl_LiveOnes_1_l0_ok del0_0 n v1 (i64 (v2 + 1)) v3)) (fun h7 =>
          Pn.ite (fun h8 =>
           Pn.bind (fun x2 h9 =>
            LpO.go [.wait 3, .nm 18 (V.sc (.int .i64 (v3.length : Int))), .bit true, .el (E74 x1), .call [] (E4 r2) [], .bit true, .el (E74 x2), .nb 0 (.row 74 (List.map E74 (v3.set v1.toNat x1)) []), .wait 7, .mask [0, 1, 5, 6], .ren [0]] (p := [V.sc (.int .i64 ((List.map E74 v3).length : Int)) = V.sc (.int .i64 (v3.length : Int)),
             (decide (v2 < (v3.length : Int))) = true,
             (0 : Int) ≤ v2,
             (v2 : Int) < ((List.map E74 v3).length : Int),
             look [] v2.toNat = none,
             (List.map E74 v3)[v2.toNat]? = some (E74 x1),
             Fn Tryz.prog 137 [(false, E74 x1), (false, V.cp [V.sc (.int .i64 del0_0)])] (E4 r2) [],
             (true || ((E4 r2).nv && nvL [])) = true,
             (!r2) = true,
             (0 : Int) ≤ v1,
             (v1 : Int) < ((List.map E74 v3).length : Int),
             look [] v1.toNat = none,
             (List.map E74 v3)[v1.toNat]? = some (E74 x2),
             Blk.row 74 ((List.map E74 v3).set v1.toNat (V.agg [V.sc (.string x1.Id), V.sc (.int .i64 x1.Amount), V.sc (.int .i64 x1.Due)])) [] = Blk.row 74 (List.map E74 (v3.set v1.toNat x1)) []]) (by kernel_rfl) (cj (len_nm _ _) (cj h3 (cj (od h4) (cj (map_ltN (od h4) h5) (cj rfl (cj (map_get h5) (cj (impl_LiveOnes_1_ok x1 del0_0 r2 h6) (cj rfl (cj (nt h7) (cj (od h8) (cj (map_ltN (od h8) h9) (cj rfl (cj (map_get h9) (cj1 (nb_set E74 _ _ x1))))))))))))))) (slices_DeleteFunc_impl_Hold_impl_LiveOnes_1_l0_ok del0_0 n (i64 (v1 + 1)) (i64 (v2 + 1)) (v3.set v1.toNat x1)))) (fun h8 =>
           Pn.none))))) (fun h4 =>
       Pn.none)) (fun h3 =>
      Pn.some (LpO.out [.wait 3, .nm 18 (V.sc (.int .i64 (v3.length : Int))), .bit false, .mask [0, 5], .ren [0]] (p := [V.sc (.int .i64 ((List.map E74 v3).length : Int)) = V.sc (.int .i64 (v3.length : Int)),
       (decide (v2 < (v3.length : Int))) = false]) (by kernel_rfl) (show X.out 0 ≠ X.go from nofun) (cj (len_nm _ _) (cj1 h3))))
def slices_DeleteFunc_impl_Hold_impl_LiveOnes_1 (s_ : List Hold) (del0_0 : Int) : Option ((List Hold)) :=
 (slices_IndexFunc_impl_Hold_impl_LiveOnes_1 s_ del0_0).bind fun r1 =>
 if (r1 == (-1)) = true then
  some s_
 else
  (slices_DeleteFunc_impl_Hold_impl_LiveOnes_1_l0 del0_0 FUEL r1 (i64 (r1 + 1)) s_).bind fun r3 =>
  if (decide (0 ≤ r3.1)) = true then
   if (decide (r3.1 ≤ (r3.2.length : Int))) = true then
    if (decide (r3.1 ≤ ((r3.2.take r3.1.toNat ++ (List.replicate (r3.2.length - r3.1.toNat) (Hold.mk ByteArray.empty 0 0) ++ r3.2.drop (r3.1.toNat + (r3.2.length - r3.1.toNat)))).length : Int))) = true then
     some ((r3.2.take r3.1.toNat ++ (List.replicate (r3.2.length - r3.1.toNat) (Hold.mk ByteArray.empty 0 0) ++ r3.2.drop (r3.1.toNat + (r3.2.length - r3.1.toNat)))).take r3.1.toNat)
    else none
   else none
  else none
theorem slices_DeleteFunc_impl_Hold_impl_LiveOnes_1_ok (s_ : List Hold) (del0_0 : Int) : Pn (fun y => Fn Tryz.prog 67 [(true, E30 s_), (false, V.fn 137 [V.cp [V.sc (.int .i64 del0_0)]])] (E30 y) [V.un]) (slices_DeleteFunc_impl_Hold_impl_LiveOnes_1 s_ del0_0) := by
  unfold slices_DeleteFunc_impl_Hold_impl_LiveOnes_1
  exact
   Pn.bind (fun r1 h1 =>
    Pn.ite (fun h2 =>
     Pn.some (Fn.of [.call [] (E3 r1) [], .bit true] (p := [Fn Tryz.prog 99 [(false, E30 s_), (false, V.fn 137 [V.cp [V.sc (.int .i64 del0_0)]])] (E3 r1) [],
      (false || ((E3 r1).nv && nvL [])) = true,
      (r1 == (-1)) = true]) (by kernel_rfl) (cj (slices_IndexFunc_impl_Hold_impl_LiveOnes_1_ok s_ del0_0 r1 h1) (cj (by simp [V.nv, nvL, nvL_all, nv_E3]) (cj1 h2))))) (fun h2 =>
     Pn.bind (fun r3 h10 =>
      Pn.ite (fun h11 =>
       Pn.ite (fun h12 =>
        Pn.ite (fun h13 =>
         Pn.some (Fn.as (res := V.sl true 74 ((List.map E74 (r3.2.take r3.1.toNat ++ (List.replicate (r3.2.length - r3.1.toNat) (Hold.mk ByteArray.empty 0 0) ++ r3.2.drop (r3.1.toNat + (r3.2.length - r3.1.toNat))))).take r3.1.toNat)) (sb_take _ _ _) rfl (Fn.of [.call [] (E3 r1) [], .bit false, .wait 3, .mask [0, 1, 5, 6], .ren [0], .loop (X.out 0) (st 42 [(0, V.ow 0), (5, V.sc (.int .i64 r3.1))] [Blk.row 74 (List.map E74 r3.2) []] [some 0]), .wait 3, .nm 38 (V.sb 0 3 r3.1.toNat (r3.2.length - r3.1.toNat)), .wait 1, .nb 0 (.row 74 (List.map E74 (r3.2.take r3.1.toNat ++ (List.replicate (r3.2.length - r3.1.toNat) (Hold.mk ByteArray.empty 0 0) ++ r3.2.drop (r3.1.toNat + (r3.2.length - r3.1.toNat))))) [])] (p := [Fn Tryz.prog 99 [(false, E30 s_), (false, V.fn 137 [V.cp [V.sc (.int .i64 del0_0)]])] (E3 r1) [],
          (false || ((E3 r1).nv && nvL [])) = true,
          (r1 == (-1)) = false,
          Loop Tryz.prog (sub (codeOf Tryz.prog 67) [1, 1, 1, 0, 1, 0, 0]) (st 42 [(0, V.ow 0), (1, V.fn 137 [V.cp [V.sc (.int .i64 del0_0)]]), (5, V.sc (.int .i64 r1)), (6, V.sc (.int .i64 (i64 (r1 + 1))))] [Blk.row 74 (List.map E74 s_) []] [some 0]) (X.out 0) (st 42 [(0, V.ow 0), (5, V.sc (.int .i64 r3.1))] [Blk.row 74 (List.map E74 r3.2) []] [some 0]),
          (0 : Int) ≤ r3.1,
          (r3.1 : Int) ≤ ((List.map E74 r3.2).length : Int),
          (((List.map E74 r3.2).length : Int) : Int) ≤ ((List.map E74 r3.2).length : Int),
          V.sb 0 3 r3.1.toNat ((((List.map E74 r3.2).length : Int).toNat) - (r3.1.toNat)) = V.sb 0 3 r3.1.toNat (r3.2.length - r3.1.toNat),
          Blk.row 74 ((List.map E74 r3.2).take r3.1.toNat ++ (List.replicate (r3.2.length - r3.1.toNat) (V.agg [V.sc (.string ByteArray.empty), V.sc (.int .i64 0), V.sc (.int .i64 0)]) ++ (List.map E74 r3.2).drop (r3.1.toNat + (r3.2.length - r3.1.toNat)))) [] = Blk.row 74 (List.map E74 (r3.2.take r3.1.toNat ++ (List.replicate (r3.2.length - r3.1.toNat) (Hold.mk ByteArray.empty 0 0) ++ r3.2.drop (r3.1.toNat + (r3.2.length - r3.1.toNat))))) [],
          (0 : Int) ≤ 0,
          (0 : Int) ≤ r3.1,
          (r3.1 : Int) ≤ ((List.map E74 (r3.2.take r3.1.toNat ++ (List.replicate (r3.2.length - r3.1.toNat) (Hold.mk ByteArray.empty 0 0) ++ r3.2.drop (r3.1.toNat + (r3.2.length - r3.1.toNat))))).length : Int)]) (by kernel_rfl) (cj (slices_IndexFunc_impl_Hold_impl_LiveOnes_1_ok s_ del0_0 r1 h1) (cj (by simp [V.nv, nvL, nvL_all, nv_E3]) (cj h2 (cj (slices_DeleteFunc_impl_Hold_impl_LiveOnes_1_l0_ok del0_0 FUEL r1 (i64 (r1 + 1)) s_ r3 h10) (cj (od h11) (cj (by rw [List.length_map]; exact (od h12)) (cj (Int.le_refl _) (cj (by simp) (cj (nb_clr E74 _ _ _ (Hold.mk ByteArray.empty 0 0)) (cj (by decide) (cj (od h11) (cj1 (by rw [List.length_map]; exact (od h13))))))))))))))))) (fun h13 =>
         Pn.none)) (fun h12 =>
        Pn.none)) (fun h11 =>
       Pn.none))))
def impl_LiveOnes (l : List Hold) (now : Int) : Option ((List Hold)) :=
 (slices_Clone_impl_Hold l).bind fun r1 =>
 (slices_DeleteFunc_impl_Hold_impl_LiveOnes_1 r1 now).bind fun r2 =>
 some r2
theorem impl_LiveOnes_ok (l : List Hold) (now : Int) : Pn (fun y => Fn Tryz.prog 122 [(false, E30 l), (false, E3 now)] (E30 y) []) (impl_LiveOnes l now) := by
  unfold impl_LiveOnes
  exact
   Pn.bind (fun r1 h1 =>
    Pn.bind (fun r2 h2 =>
     Pn.some (Fn.of [.call [] (E30 r1) [], .call [true, false] (E30 r2) [V.un]] (p := [Fn Tryz.prog 68 [(false, E30 l)] (E30 r1) [],
      (true || ((E30 r1).nv && nvL [])) = true,
      Fn Tryz.prog 67 [(true, E30 r1), (false, V.fn 137 [V.cp [V.sc (.int .i64 now)]])] (E30 r2) [V.un],
      (false || ((E30 r2).nv && nvL [V.un])) = true]) (by kernel_rfl) (cj (slices_Clone_impl_Hold_ok l r1 h1) (cj rfl (cj (slices_DeleteFunc_impl_Hold_impl_LiveOnes_1_ok r1 now r2 h2) (cj1 (by simp [V.nv, nvL, nvL_all, nv_E3, nv_E9, nv_E30, nv_E74]))))))))
def impl_AcctSwept (a : Acct) (now : Int) : Option (Acct) :=
 (impl_Acct_copied a).bind fun r1 =>
 (impl_AcctOk a).bind fun r2 =>
 if r2 = true then
  (impl_isTime now).bind fun r3 =>
  if r3 = true then
   (impl_LiveOnes a.Holds now).bind fun r4 =>
   some (Acct.mk r1.Id r1.Limit r1.Posted r1.Most r1.MostSum r4 r1.Ring r1.Slots)
  else
   some r1
 else
  some r1
theorem impl_AcctSwept_ok (a : Acct) (now : Int) : Pn (fun y => Fn Tryz.prog 98 [(false, E34 a), (false, E3 now)] (E34 y) []) (impl_AcctSwept a now) := by
  unfold impl_AcctSwept
  exact
   Pn.bind (fun r1 h1 =>
    Pn.bind (fun r2 h2 =>
     Pn.ite (fun h3 =>
      Pn.bind (fun r3 h4 =>
       Pn.ite (fun h5 =>
        Pn.bind (fun r4 h6 =>
         Pn.some (Fn.of [.call [] (E34 r1) [], .call [] (E4 r2) [], .bit true, .bit true, .call [] (E4 r3) [], .bit true, .bit true, .call [] (E30 r4) []] (p := [Fn Tryz.prog 121 [(false, E34 a)] (E34 r1) [],
          (true || ((E34 r1).nv && nvL [])) = true,
          Fn Tryz.prog 80 [(false, E34 a)] (E4 r2) [],
          (true || ((E4 r2).nv && nvL [])) = true,
          r2 = true,
          r2 = true,
          Fn Tryz.prog 49 [(false, E3 now)] (E4 r3) [],
          (true || ((E4 r3).nv && nvL [])) = true,
          r2 = true,
          r3 = true,
          Fn Tryz.prog 122 [(false, E30 a.Holds), (false, E3 now)] (E30 r4) [],
          (true || ((E30 r4).nv && nvL [])) = true]) (by kernel_rfl) (cj (impl_Acct_copied_ok a r1 h1) (cj rfl (cj (impl_AcctOk_ok a r2 h2) (cj rfl (cj h3 (cj h3 (cj (impl_isTime_ok now r3 h4) (cj rfl (cj h3 (cj h5 (cj (impl_LiveOnes_ok a.Holds now r4 h6) (cj1 rfl))))))))))))))) (fun h5 =>
        Pn.some (Fn.of [.call [] (E34 r1) [], .call [] (E4 r2) [], .bit true, .bit true, .call [] (E4 r3) [], .bit true, .bit false] (p := [Fn Tryz.prog 121 [(false, E34 a)] (E34 r1) [],
         (true || ((E34 r1).nv && nvL [])) = true,
         Fn Tryz.prog 80 [(false, E34 a)] (E4 r2) [],
         (true || ((E4 r2).nv && nvL [])) = true,
         r2 = true,
         r2 = true,
         Fn Tryz.prog 49 [(false, E3 now)] (E4 r3) [],
         (true || ((E4 r3).nv && nvL [])) = true,
         r2 = true,
         r3 = false]) (by kernel_rfl) (cj (impl_Acct_copied_ok a r1 h1) (cj rfl (cj (impl_AcctOk_ok a r2 h2) (cj rfl (cj h3 (cj h3 (cj (impl_isTime_ok now r3 h4) (cj rfl (cj h3 (cj1 h5)))))))))))))) (fun h3 =>
      Pn.some (Fn.of [.call [] (E34 r1) [], .call [] (E4 r2) [], .bit false, .bit false, .bit false, .bit false] (p := [Fn Tryz.prog 121 [(false, E34 a)] (E34 r1) [],
       (true || ((E34 r1).nv && nvL [])) = true,
       Fn Tryz.prog 80 [(false, E34 a)] (E4 r2) [],
       (true || ((E4 r2).nv && nvL [])) = true,
       r2 = false,
       r2 = false,
       r2 = false,
       false = false]) (by kernel_rfl) (cj (impl_Acct_copied_ok a r1 h1) (cj rfl (cj (impl_AcctOk_ok a r2 h2) (cj rfl (cj h3 (cj h3 (cj h3 (cj1 rfl))))))))))))
def impl_begin (a : Acct) (now : Int) : Option (Acct × Int) :=
 (impl_AcctOk a).bind fun r1 =>
 if r1 = true then
  (impl_isTime now).bind fun r2 =>
  if r2 = true then
   (impl_AcctSwept a now).bind fun r3 =>
   some (r3, 0)
  else
   some ((Acct.mk ByteArray.empty 0 0 0 0 [] (Ring.mk 0 0 [] []) []), 1)
 else
  some ((Acct.mk ByteArray.empty 0 0 0 0 [] (Ring.mk 0 0 [] []) []), 1)
theorem impl_begin_ok (a : Acct) (now : Int) : Pn (fun y => Fn Tryz.prog 63 [(false, E34 a), (false, E3 now)] (V.tup [E34 y.1, E3 y.2]) []) (impl_begin a now) := by
  unfold impl_begin
  exact
   Pn.bind (fun r1 h1 =>
    Pn.ite (fun h2 =>
     Pn.bind (fun r2 h3 =>
      Pn.ite (fun h4 =>
       Pn.bind (fun r3 h5 =>
        Pn.some (Fn.of [.call [] (E4 r1) [], .bit false, .bit false, .call [] (E4 r2) [], .bit false, .bit false, .bit false, .call [] (E34 r3) []] (p := [Fn Tryz.prog 80 [(false, E34 a)] (E4 r1) [],
         (true || ((E4 r1).nv && nvL [])) = true,
         (!r1) = false,
         (!r1) = false,
         Fn Tryz.prog 49 [(false, E3 now)] (E4 r2) [],
         (true || ((E4 r2).nv && nvL [])) = true,
         (!r1) = false,
         (!r1) = false,
         (!r2) = false,
         Fn Tryz.prog 98 [(false, E34 a), (false, E3 now)] (E34 r3) [],
         (true || ((E34 r3).nv && nvL [])) = true]) (by kernel_rfl) (cj (impl_AcctOk_ok a r1 h1) (cj rfl (cj (nf h2) (cj (nf h2) (cj (impl_isTime_ok now r2 h3) (cj rfl (cj (nf h2) (cj (nf h2) (cj (nf h4) (cj (impl_AcctSwept_ok a now r3 h5) (cj1 rfl)))))))))))))) (fun h4 =>
       Pn.some (Fn.of [.call [] (E4 r1) [], .bit false, .bit false, .call [] (E4 r2) [], .bit false, .bit false, .bit true] (p := [Fn Tryz.prog 80 [(false, E34 a)] (E4 r1) [],
        (true || ((E4 r1).nv && nvL [])) = true,
        (!r1) = false,
        (!r1) = false,
        Fn Tryz.prog 49 [(false, E3 now)] (E4 r2) [],
        (true || ((E4 r2).nv && nvL [])) = true,
        (!r1) = false,
        (!r1) = false,
        (!r2) = true]) (by kernel_rfl) (cj (impl_AcctOk_ok a r1 h1) (cj rfl (cj (nf h2) (cj (nf h2) (cj (impl_isTime_ok now r2 h3) (cj rfl (cj (nf h2) (cj (nf h2) (cj1 (nt h4)))))))))))))) (fun h2 =>
     Pn.some (Fn.of [.call [] (E4 r1) [], .bit true, .bit true, .bit true, .bit true, .bit true] (p := [Fn Tryz.prog 80 [(false, E34 a)] (E4 r1) [],
      (true || ((E4 r1).nv && nvL [])) = true,
      (!r1) = true,
      (!r1) = true,
      (!r1) = true,
      (!r1) = true,
      true = true]) (by kernel_rfl) (cj (impl_AcctOk_ok a r1 h1) (cj rfl (cj (nt h2) (cj (nt h2) (cj (nt h2) (cj (nt h2) (cj1 rfl))))))))))
def impl_HoldAt_1 (h_ : Hold) (c0_0 : ByteArray) : Option (Bool) :=
 some (h_.Id == c0_0)
theorem impl_HoldAt_1_ok (h_ : Hold) (c0_0 : ByteArray) : Pn (fun y => Fn Tryz.prog 100 [(false, E74 h_), (false, V.cp [V.sc (.string c0_0)])] (E4 y) []) (impl_HoldAt_1 h_ c0_0) := by
  unfold impl_HoldAt_1
  exact
   Pn.some (Fn.of [] (p := []) (by kernel_rfl) trivial)
def slices_IndexFunc_impl_Hold_impl_HoldAt_1_l0 (s_ : List Hold) (f0_0 : ByteArray) : List Hold → List Hold → Option (Lo Unit Int)
  | [], p1 =>
   some (.out ())
  | x1 :: t1, p1 =>
   (impl_HoldAt_1 x1 f0_0).bind fun r1 =>
   if r1 = true then
    some (.ret (p1.length : Int))
   else
    slices_IndexFunc_impl_Hold_impl_HoldAt_1_l0 s_ f0_0 t1 (p1 ++ [x1])
theorem slices_IndexFunc_impl_Hold_impl_HoldAt_1_l0_ok (s_ : List Hold) (f0_0 : ByteArray) (h2 : capOk s_.length = true) : ∀ (t1 p1 : List Hold) (_ : s_ = p1 ++ t1) , Pn (LpO Tryz.prog (sub (codeOf Tryz.prog 99) [1, 0, 1, 0, 0]) (st 19 [(0, V.sl false 74 (List.map E74 s_)), (1, V.fn 100 [V.cp [V.sc (.string f0_0)]]), (7, V.sc (.int .i64 (s_.length : Int))), (8, V.sc (.int .i64 (p1.length : Int)))] [] []) (fun (y : Lo Unit Int) => Lo.elim y (fun s => (X.out 0, st 19 [] [] [])) (fun s => (X.ret, st 19 [(4, V.sc (.int .i64 s))] [] [])))) (slices_IndexFunc_impl_Hold_impl_HoldAt_1_l0 s_ f0_0 t1 p1)
  | [], p1, h1 => by
    unfold slices_IndexFunc_impl_Hold_impl_HoldAt_1_l0
    exact
     Pn.some (LpO.out [.bit false, .mask [], .ren []] (p := [(decide ((p1.length : Int) < (s_.length : Int))) = false]) (by kernel_rfl) (show X.out 0 ≠ X.go from nofun) (cj1 (rng_end h1)))
  | x1 :: t1, p1, h1 => by
    unfold slices_IndexFunc_impl_Hold_impl_HoldAt_1_l0
    exact
     Pn.bind (fun r1 h3 =>
      Pn.ite (fun h4 =>
       Pn.some (LpO.out [.bit true, .el (E74 x1), .call [] (E4 r1) [], .bit true, .wait 2, .mask [4], .ren []] (p := [(decide ((p1.length : Int) < (s_.length : Int))) = true,
        (0 : Int) ≤ (p1.length : Int),
        (List.map E74 s_)[(p1.length : Int).toNat]? = some (E74 x1),
        Fn Tryz.prog 100 [(false, E74 x1), (false, V.cp [V.sc (.string f0_0)])] (E4 r1) [],
        (true || ((E4 r1).nv && nvL [])) = true,
        r1 = true]) (by kernel_rfl) (show X.ret ≠ X.go from nofun) (cj (rng_lt h1) (cj (by omega) (cj (rng_get _ h1) (cj (impl_HoldAt_1_ok x1 f0_0 r1 h3) (cj rfl (cj1 h4)))))))) (fun h4 =>
       LpO.go [.bit true, .el (E74 x1), .call [] (E4 r1) [], .bit false, .wait 2, .mask [0, 1, 7, 8], .ren [], .nm 8 (V.sc (.int .i64 ((p1 ++ [x1]).length : Int)))] (p := [(decide ((p1.length : Int) < (s_.length : Int))) = true,
        (0 : Int) ≤ (p1.length : Int),
        (List.map E74 s_)[(p1.length : Int).toNat]? = some (E74 x1),
        Fn Tryz.prog 100 [(false, E74 x1), (false, V.cp [V.sc (.string f0_0)])] (E4 r1) [],
        (true || ((E4 r1).nv && nvL [])) = true,
        r1 = false,
        V.sc (.int .i64 (i64 ((p1.length : Int) + 1))) = V.sc (.int .i64 ((p1 ++ [x1]).length : Int))]) (by kernel_rfl) (cj (rng_lt h1) (cj (by omega) (cj (rng_get _ h1) (cj (impl_HoldAt_1_ok x1 f0_0 r1 h3) (cj rfl (cj h4 (cj1 (rng_next h1 h2)))))))) (slices_IndexFunc_impl_Hold_impl_HoldAt_1_l0_ok s_ f0_0 h2 t1 (p1 ++ [x1]) (rng_step h1))))
def slices_IndexFunc_impl_Hold_impl_HoldAt_1 (s_ : List Hold) (f0_0 : ByteArray) : Option (Int) :=
 if (capOk s_.length) = true then
  (slices_IndexFunc_impl_Hold_impl_HoldAt_1_l0 s_ f0_0 s_ []).bind fun r2 =>
  Lo.elim r2 (fun s1 =>
   some (-1)) (fun s2 =>
   some s2)
 else none
theorem slices_IndexFunc_impl_Hold_impl_HoldAt_1_ok (s_ : List Hold) (f0_0 : ByteArray) : Pn (fun y => Fn Tryz.prog 99 [(false, E30 s_), (false, V.fn 100 [V.cp [V.sc (.string f0_0)]])] (E3 y) []) (slices_IndexFunc_impl_Hold_impl_HoldAt_1 s_ f0_0) := by
  unfold slices_IndexFunc_impl_Hold_impl_HoldAt_1
  exact
   Pn.ite (fun h5 =>
    Pn.bind (fun r2 h6 =>
     Pn.lo (fun s1 h7 =>
      Pn.some (Fn.of [.wait 3, .nm 7 (V.sc (.int .i64 (s_.length : Int))), .wait 2, .mask [0, 1, 7, 8], .ren [], .loop (X.out 0) (st 19 [] [] [])] (p := [V.sc (.int .i64 ((List.map E74 s_).length : Int)) = V.sc (.int .i64 (s_.length : Int)),
       Loop Tryz.prog (sub (codeOf Tryz.prog 99) [1, 0, 1, 0, 0]) (st 19 [(0, V.sl false 74 (List.map E74 s_)), (1, V.fn 100 [V.cp [V.sc (.string f0_0)]]), (7, V.sc (.int .i64 (s_.length : Int))), (8, V.sc (.int .i64 0))] [] []) (X.out 0) (st 19 [] [] [])]) (by kernel_rfl) (cj (len_nm _ _) (cj1 ((slices_IndexFunc_impl_Hold_impl_HoldAt_1_l0_ok s_ f0_0 h5 s_ [] rfl r2 h6).at h7))))) (fun s2 h8 =>
      Pn.some (Fn.of [.wait 3, .nm 7 (V.sc (.int .i64 (s_.length : Int))), .wait 2, .mask [0, 1, 7, 8], .ren [], .loop (X.ret) (st 19 [(4, V.sc (.int .i64 s2))] [] [])] (p := [V.sc (.int .i64 ((List.map E74 s_).length : Int)) = V.sc (.int .i64 (s_.length : Int)),
       Loop Tryz.prog (sub (codeOf Tryz.prog 99) [1, 0, 1, 0, 0]) (st 19 [(0, V.sl false 74 (List.map E74 s_)), (1, V.fn 100 [V.cp [V.sc (.string f0_0)]]), (7, V.sc (.int .i64 (s_.length : Int))), (8, V.sc (.int .i64 0))] [] []) (X.ret) (st 19 [(4, V.sc (.int .i64 s2))] [] [])]) (by kernel_rfl) (cj (len_nm _ _) (cj1 ((slices_IndexFunc_impl_Hold_impl_HoldAt_1_l0_ok s_ f0_0 h5 s_ [] rfl r2 h6).at h8))))))) (fun h5 =>
    Pn.none)
def impl_HoldAt (l : List Hold) (id : ByteArray) : Option (Int) :=
 (slices_IndexFunc_impl_Hold_impl_HoldAt_1 l id).bind fun r1 =>
 some r1
theorem impl_HoldAt_ok (l : List Hold) (id : ByteArray) : Pn (fun y => Fn Tryz.prog 64 [(false, E30 l), (false, E9 id)] (E3 y) []) (impl_HoldAt l id) := by
  unfold impl_HoldAt
  exact
   Pn.bind (fun r1 h1 =>
    Pn.some (Fn.of [.call [] (E3 r1) []] (p := [Fn Tryz.prog 99 [(false, E30 l), (false, V.fn 100 [V.cp [V.sc (.string id)]])] (E3 r1) [],
     (false || ((E3 r1).nv && nvL [])) = true]) (by kernel_rfl) (cj (slices_IndexFunc_impl_Hold_impl_HoldAt_1_ok l id r1 h1) (cj1 (by simp [V.nv, nvL, nvL_all, nv_E3])))))
def impl_holdOf (a : Acct) (id : ByteArray) (amount : Int) (now : Int) : Option (Acct × Int × Int) :=
 (impl_begin a now).bind fun r1 =>
 (impl_HoldAt r1.1.Holds id).bind fun r2 =>
 if (r1.2 != 0) = true then
  some ((Acct.mk ByteArray.empty 0 0 0 0 [] (Ring.mk 0 0 [] []) []), 0, 1)
 else
  (impl_HoldIdOk id).bind fun r3 =>
  if r3 = true then
   (impl_within amount 1 9007199254740992).bind fun r4 =>
   if r4 = true then
    if (decide (r2 < 0)) = true then
     some ((Acct.mk ByteArray.empty 0 0 0 0 [] (Ring.mk 0 0 [] []) []), 0, 5)
    else
     some (r1.1, r2, 0)
   else
    some ((Acct.mk ByteArray.empty 0 0 0 0 [] (Ring.mk 0 0 [] []) []), 0, 4)
  else
   some ((Acct.mk ByteArray.empty 0 0 0 0 [] (Ring.mk 0 0 [] []) []), 0, 1)
theorem impl_holdOf_ok (a : Acct) (id : ByteArray) (amount : Int) (now : Int) : Pn (fun y => Fn Tryz.prog 30 [(false, E34 a), (false, E9 id), (false, E3 amount), (false, E3 now)] (V.tup [E34 y.1, E3 y.2.1, E3 y.2.2]) []) (impl_holdOf a id amount now) := by
  unfold impl_holdOf
  exact
   Pn.bind (fun r1 h1 =>
    Pn.bind (fun r2 h2 =>
     Pn.ite (fun h3 =>
      Pn.some (Fn.of [.call [] (V.tup [E34 r1.1, E3 r1.2]) [], .call [] (E3 r2) [], .bit true, .bit true, .bit true, .bit true, .bit true] (p := [Fn Tryz.prog 63 [(false, E34 a), (false, E3 now)] (V.tup [E34 r1.1, E3 r1.2]) [],
       (true || ((V.tup [E34 r1.1, E3 r1.2]).nv && nvL [])) = true,
       Fn Tryz.prog 64 [(false, E30 r1.1.Holds), (false, E9 id)] (E3 r2) [],
       (false || ((E3 r2).nv && nvL [])) = true,
       (r1.2 != 0) = true,
       (r1.2 != 0) = true,
       (r1.2 != 0) = true,
       (r1.2 != 0) = true,
       true = true]) (by kernel_rfl) (cj (impl_begin_ok a now r1 h1) (cj rfl (cj (impl_HoldAt_ok r1.1.Holds id r2 h2) (cj (by simp [V.nv, nvL, nvL_all, nv_E3]) (cj h3 (cj h3 (cj h3 (cj h3 (cj1 rfl))))))))))) (fun h3 =>
      Pn.bind (fun r3 h4 =>
       Pn.ite (fun h5 =>
        Pn.bind (fun r4 h6 =>
         Pn.ite (fun h7 =>
          Pn.ite (fun h8 =>
           Pn.some (Fn.of [.call [] (V.tup [E34 r1.1, E3 r1.2]) [], .call [] (E3 r2) [], .bit false, .bit false, .call [] (E4 r3) [], .bit false, .bit false, .bit false, .call [] (E4 r4) [], .bit false, .bit true] (p := [Fn Tryz.prog 63 [(false, E34 a), (false, E3 now)] (V.tup [E34 r1.1, E3 r1.2]) [],
            (true || ((V.tup [E34 r1.1, E3 r1.2]).nv && nvL [])) = true,
            Fn Tryz.prog 64 [(false, E30 r1.1.Holds), (false, E9 id)] (E3 r2) [],
            (false || ((E3 r2).nv && nvL [])) = true,
            (r1.2 != 0) = false,
            (r1.2 != 0) = false,
            Fn Tryz.prog 65 [(false, E9 id)] (E4 r3) [],
            (true || ((E4 r3).nv && nvL [])) = true,
            (r1.2 != 0) = false,
            (r1.2 != 0) = false,
            (!r3) = false,
            Fn Tryz.prog 66 [(false, E3 amount), (false, E3 1), (false, E3 9007199254740992)] (E4 r4) [],
            (true || ((E4 r4).nv && nvL [])) = true,
            (!r4) = false,
            (decide (r2 < 0)) = true]) (by kernel_rfl) (cj (impl_begin_ok a now r1 h1) (cj rfl (cj (impl_HoldAt_ok r1.1.Holds id r2 h2) (cj (by simp [V.nv, nvL, nvL_all, nv_E3]) (cj h3 (cj h3 (cj (impl_HoldIdOk_ok id r3 h4) (cj rfl (cj h3 (cj h3 (cj (nf h5) (cj (impl_within_ok amount 1 9007199254740992 r4 h6) (cj rfl (cj (nf h7) (cj1 h8))))))))))))))))) (fun h8 =>
           Pn.some (Fn.of [.call [] (V.tup [E34 r1.1, E3 r1.2]) [], .call [] (E3 r2) [], .bit false, .bit false, .call [] (E4 r3) [], .bit false, .bit false, .bit false, .call [] (E4 r4) [], .bit false, .bit false] (p := [Fn Tryz.prog 63 [(false, E34 a), (false, E3 now)] (V.tup [E34 r1.1, E3 r1.2]) [],
            (true || ((V.tup [E34 r1.1, E3 r1.2]).nv && nvL [])) = true,
            Fn Tryz.prog 64 [(false, E30 r1.1.Holds), (false, E9 id)] (E3 r2) [],
            (false || ((E3 r2).nv && nvL [])) = true,
            (r1.2 != 0) = false,
            (r1.2 != 0) = false,
            Fn Tryz.prog 65 [(false, E9 id)] (E4 r3) [],
            (true || ((E4 r3).nv && nvL [])) = true,
            (r1.2 != 0) = false,
            (r1.2 != 0) = false,
            (!r3) = false,
            Fn Tryz.prog 66 [(false, E3 amount), (false, E3 1), (false, E3 9007199254740992)] (E4 r4) [],
            (true || ((E4 r4).nv && nvL [])) = true,
            (!r4) = false,
            (decide (r2 < 0)) = false]) (by kernel_rfl) (cj (impl_begin_ok a now r1 h1) (cj rfl (cj (impl_HoldAt_ok r1.1.Holds id r2 h2) (cj (by simp [V.nv, nvL, nvL_all, nv_E3]) (cj h3 (cj h3 (cj (impl_HoldIdOk_ok id r3 h4) (cj rfl (cj h3 (cj h3 (cj (nf h5) (cj (impl_within_ok amount 1 9007199254740992 r4 h6) (cj rfl (cj (nf h7) (cj1 h8)))))))))))))))))) (fun h7 =>
          Pn.some (Fn.of [.call [] (V.tup [E34 r1.1, E3 r1.2]) [], .call [] (E3 r2) [], .bit false, .bit false, .call [] (E4 r3) [], .bit false, .bit false, .bit false, .call [] (E4 r4) [], .bit true] (p := [Fn Tryz.prog 63 [(false, E34 a), (false, E3 now)] (V.tup [E34 r1.1, E3 r1.2]) [],
           (true || ((V.tup [E34 r1.1, E3 r1.2]).nv && nvL [])) = true,
           Fn Tryz.prog 64 [(false, E30 r1.1.Holds), (false, E9 id)] (E3 r2) [],
           (false || ((E3 r2).nv && nvL [])) = true,
           (r1.2 != 0) = false,
           (r1.2 != 0) = false,
           Fn Tryz.prog 65 [(false, E9 id)] (E4 r3) [],
           (true || ((E4 r3).nv && nvL [])) = true,
           (r1.2 != 0) = false,
           (r1.2 != 0) = false,
           (!r3) = false,
           Fn Tryz.prog 66 [(false, E3 amount), (false, E3 1), (false, E3 9007199254740992)] (E4 r4) [],
           (true || ((E4 r4).nv && nvL [])) = true,
           (!r4) = true]) (by kernel_rfl) (cj (impl_begin_ok a now r1 h1) (cj rfl (cj (impl_HoldAt_ok r1.1.Holds id r2 h2) (cj (by simp [V.nv, nvL, nvL_all, nv_E3]) (cj h3 (cj h3 (cj (impl_HoldIdOk_ok id r3 h4) (cj rfl (cj h3 (cj h3 (cj (nf h5) (cj (impl_within_ok amount 1 9007199254740992 r4 h6) (cj rfl (cj1 (nt h7))))))))))))))))))) (fun h5 =>
        Pn.some (Fn.of [.call [] (V.tup [E34 r1.1, E3 r1.2]) [], .call [] (E3 r2) [], .bit false, .bit false, .call [] (E4 r3) [], .bit false, .bit false, .bit true] (p := [Fn Tryz.prog 63 [(false, E34 a), (false, E3 now)] (V.tup [E34 r1.1, E3 r1.2]) [],
         (true || ((V.tup [E34 r1.1, E3 r1.2]).nv && nvL [])) = true,
         Fn Tryz.prog 64 [(false, E30 r1.1.Holds), (false, E9 id)] (E3 r2) [],
         (false || ((E3 r2).nv && nvL [])) = true,
         (r1.2 != 0) = false,
         (r1.2 != 0) = false,
         Fn Tryz.prog 65 [(false, E9 id)] (E4 r3) [],
         (true || ((E4 r3).nv && nvL [])) = true,
         (r1.2 != 0) = false,
         (r1.2 != 0) = false,
         (!r3) = true]) (by kernel_rfl) (cj (impl_begin_ok a now r1 h1) (cj rfl (cj (impl_HoldAt_ok r1.1.Holds id r2 h2) (cj (by simp [V.nv, nvL, nvL_all, nv_E3]) (cj h3 (cj h3 (cj (impl_HoldIdOk_ok id r3 h4) (cj rfl (cj h3 (cj h3 (cj1 (nt h5))))))))))))))))))
def impl_HoldDrop_1 (h_ : Hold) (c0_0 : ByteArray) : Option (Bool) :=
 some (h_.Id == c0_0)
theorem impl_HoldDrop_1_ok (h_ : Hold) (c0_0 : ByteArray) : Pn (fun y => Fn Tryz.prog 69 [(false, E74 h_), (false, V.cp [V.sc (.string c0_0)])] (E4 y) []) (impl_HoldDrop_1 h_ c0_0) := by
  unfold impl_HoldDrop_1
  exact
   Pn.some (Fn.of [] (p := []) (by kernel_rfl) trivial)
def slices_IndexFunc_impl_Hold_impl_HoldDrop_1_l0 (s_ : List Hold) (f0_0 : ByteArray) : List Hold → List Hold → Option (Lo Unit Int)
  | [], p1 =>
   some (.out ())
  | x1 :: t1, p1 =>
   (impl_HoldDrop_1 x1 f0_0).bind fun r1 =>
   if r1 = true then
    some (.ret (p1.length : Int))
   else
    slices_IndexFunc_impl_Hold_impl_HoldDrop_1_l0 s_ f0_0 t1 (p1 ++ [x1])
theorem slices_IndexFunc_impl_Hold_impl_HoldDrop_1_l0_ok (s_ : List Hold) (f0_0 : ByteArray) (h2 : capOk s_.length = true) : ∀ (t1 p1 : List Hold) (_ : s_ = p1 ++ t1) , Pn (LpO Tryz.prog (sub (codeOf Tryz.prog 99) [1, 0, 1, 0, 0]) (st 19 [(0, V.sl false 74 (List.map E74 s_)), (1, V.fn 69 [V.cp [V.sc (.string f0_0)]]), (7, V.sc (.int .i64 (s_.length : Int))), (8, V.sc (.int .i64 (p1.length : Int)))] [] []) (fun (y : Lo Unit Int) => Lo.elim y (fun s => (X.out 0, st 19 [] [] [])) (fun s => (X.ret, st 19 [(4, V.sc (.int .i64 s))] [] [])))) (slices_IndexFunc_impl_Hold_impl_HoldDrop_1_l0 s_ f0_0 t1 p1)
  | [], p1, h1 => by
    unfold slices_IndexFunc_impl_Hold_impl_HoldDrop_1_l0
    exact
     Pn.some (LpO.out [.bit false, .mask [], .ren []] (p := [(decide ((p1.length : Int) < (s_.length : Int))) = false]) (by kernel_rfl) (show X.out 0 ≠ X.go from nofun) (cj1 (rng_end h1)))
  | x1 :: t1, p1, h1 => by
    unfold slices_IndexFunc_impl_Hold_impl_HoldDrop_1_l0
    exact
     Pn.bind (fun r1 h3 =>
      Pn.ite (fun h4 =>
       Pn.some (LpO.out [.bit true, .el (E74 x1), .call [] (E4 r1) [], .bit true, .wait 2, .mask [4], .ren []] (p := [(decide ((p1.length : Int) < (s_.length : Int))) = true,
        (0 : Int) ≤ (p1.length : Int),
        (List.map E74 s_)[(p1.length : Int).toNat]? = some (E74 x1),
        Fn Tryz.prog 69 [(false, E74 x1), (false, V.cp [V.sc (.string f0_0)])] (E4 r1) [],
        (true || ((E4 r1).nv && nvL [])) = true,
        r1 = true]) (by kernel_rfl) (show X.ret ≠ X.go from nofun) (cj (rng_lt h1) (cj (by omega) (cj (rng_get _ h1) (cj (impl_HoldDrop_1_ok x1 f0_0 r1 h3) (cj rfl (cj1 h4)))))))) (fun h4 =>
       LpO.go [.bit true, .el (E74 x1), .call [] (E4 r1) [], .bit false, .wait 2, .mask [0, 1, 7, 8], .ren [], .nm 8 (V.sc (.int .i64 ((p1 ++ [x1]).length : Int)))] (p := [(decide ((p1.length : Int) < (s_.length : Int))) = true,
        (0 : Int) ≤ (p1.length : Int),
        (List.map E74 s_)[(p1.length : Int).toNat]? = some (E74 x1),
        Fn Tryz.prog 69 [(false, E74 x1), (false, V.cp [V.sc (.string f0_0)])] (E4 r1) [],
        (true || ((E4 r1).nv && nvL [])) = true,
        r1 = false,
        V.sc (.int .i64 (i64 ((p1.length : Int) + 1))) = V.sc (.int .i64 ((p1 ++ [x1]).length : Int))]) (by kernel_rfl) (cj (rng_lt h1) (cj (by omega) (cj (rng_get _ h1) (cj (impl_HoldDrop_1_ok x1 f0_0 r1 h3) (cj rfl (cj h4 (cj1 (rng_next h1 h2)))))))) (slices_IndexFunc_impl_Hold_impl_HoldDrop_1_l0_ok s_ f0_0 h2 t1 (p1 ++ [x1]) (rng_step h1))))
def slices_IndexFunc_impl_Hold_impl_HoldDrop_1 (s_ : List Hold) (f0_0 : ByteArray) : Option (Int) :=
 if (capOk s_.length) = true then
  (slices_IndexFunc_impl_Hold_impl_HoldDrop_1_l0 s_ f0_0 s_ []).bind fun r2 =>
  Lo.elim r2 (fun s1 =>
   some (-1)) (fun s2 =>
   some s2)
 else none
theorem slices_IndexFunc_impl_Hold_impl_HoldDrop_1_ok (s_ : List Hold) (f0_0 : ByteArray) : Pn (fun y => Fn Tryz.prog 99 [(false, E30 s_), (false, V.fn 69 [V.cp [V.sc (.string f0_0)]])] (E3 y) []) (slices_IndexFunc_impl_Hold_impl_HoldDrop_1 s_ f0_0) := by
  unfold slices_IndexFunc_impl_Hold_impl_HoldDrop_1
  exact
   Pn.ite (fun h5 =>
    Pn.bind (fun r2 h6 =>
     Pn.lo (fun s1 h7 =>
      Pn.some (Fn.of [.wait 3, .nm 7 (V.sc (.int .i64 (s_.length : Int))), .wait 2, .mask [0, 1, 7, 8], .ren [], .loop (X.out 0) (st 19 [] [] [])] (p := [V.sc (.int .i64 ((List.map E74 s_).length : Int)) = V.sc (.int .i64 (s_.length : Int)),
       Loop Tryz.prog (sub (codeOf Tryz.prog 99) [1, 0, 1, 0, 0]) (st 19 [(0, V.sl false 74 (List.map E74 s_)), (1, V.fn 69 [V.cp [V.sc (.string f0_0)]]), (7, V.sc (.int .i64 (s_.length : Int))), (8, V.sc (.int .i64 0))] [] []) (X.out 0) (st 19 [] [] [])]) (by kernel_rfl) (cj (len_nm _ _) (cj1 ((slices_IndexFunc_impl_Hold_impl_HoldDrop_1_l0_ok s_ f0_0 h5 s_ [] rfl r2 h6).at h7))))) (fun s2 h8 =>
      Pn.some (Fn.of [.wait 3, .nm 7 (V.sc (.int .i64 (s_.length : Int))), .wait 2, .mask [0, 1, 7, 8], .ren [], .loop (X.ret) (st 19 [(4, V.sc (.int .i64 s2))] [] [])] (p := [V.sc (.int .i64 ((List.map E74 s_).length : Int)) = V.sc (.int .i64 (s_.length : Int)),
       Loop Tryz.prog (sub (codeOf Tryz.prog 99) [1, 0, 1, 0, 0]) (st 19 [(0, V.sl false 74 (List.map E74 s_)), (1, V.fn 69 [V.cp [V.sc (.string f0_0)]]), (7, V.sc (.int .i64 (s_.length : Int))), (8, V.sc (.int .i64 0))] [] []) (X.ret) (st 19 [(4, V.sc (.int .i64 s2))] [] [])]) (by kernel_rfl) (cj (len_nm _ _) (cj1 ((slices_IndexFunc_impl_Hold_impl_HoldDrop_1_l0_ok s_ f0_0 h5 s_ [] rfl r2 h6).at h8))))))) (fun h5 =>
    Pn.none)
def slices_DeleteFunc_impl_Hold_impl_HoldDrop_1_l0 (del0_0 : ByteArray) : Nat → Int → Int → (List Hold) → Option (Int × (List Hold))
  | 0, _, _, _ => none
  | n + 1, v1, v2, v3 =>
   if (decide (v2 < (v3.length : Int))) = true then
    if (decide (0 ≤ v2)) = true then
     (v3[v2.toNat]?).bind fun x1 =>
     (impl_HoldDrop_1 x1 del0_0).bind fun r2 =>
     if r2 = true then
      slices_DeleteFunc_impl_Hold_impl_HoldDrop_1_l0 del0_0 n v1 (i64 (v2 + 1)) v3
     else
      if (decide (0 ≤ v1)) = true then
       (v3[v1.toNat]?).bind fun x2 =>
       slices_DeleteFunc_impl_Hold_impl_HoldDrop_1_l0 del0_0 n (i64 (v1 + 1)) (i64 (v2 + 1)) (v3.set v1.toNat x1)
      else none
    else none
   else
    some (v1, v3)
theorem slices_DeleteFunc_impl_Hold_impl_HoldDrop_1_l0_ok (del0_0 : ByteArray) : ∀ (n : Nat) (v1 : Int) (v2 : Int) (v3 : List Hold), Pn (LpO Tryz.prog (sub (codeOf Tryz.prog 67) [1, 1, 1, 0, 1, 0, 0]) (st 42 [(0, V.ow 0), (1, V.fn 69 [V.cp [V.sc (.string del0_0)]]), (5, V.sc (.int .i64 v1)), (6, V.sc (.int .i64 v2))] [Blk.row 74 (List.map E74 v3) []] [some 0]) (fun (y : Int × (List Hold)) => (X.out 0, st 42 [(0, V.ow 0), (5, V.sc (.int .i64 y.1))] [Blk.row 74 (List.map E74 y.2) []] [some 0]))) (slices_DeleteFunc_impl_Hold_impl_HoldDrop_1_l0 del0_0 n v1 v2 v3)
  | 0, _, _, _ => Pn.none
  | n + 1, v1, v2, v3 => by
    unfold slices_DeleteFunc_impl_Hold_impl_HoldDrop_1_l0
    exact
     Pn.ite (fun h3 =>
      Pn.ite (fun h4 =>
       Pn.bind (fun x1 h5 =>
        Pn.bind (fun r2 h6 =>
         Pn.ite (fun h7 =>
          LpO.go [.wait 3, .nm 18 (V.sc (.int .i64 (v3.length : Int))), .bit true, .el (E74 x1), .call [] (E4 r2) [], .bit false, .wait 3, .mask [0, 1, 5, 6], .ren [0]] (p := [V.sc (.int .i64 ((List.map E74 v3).length : Int)) = V.sc (.int .i64 (v3.length : Int)),
           (decide (v2 < (v3.length : Int))) = true,
           (0 : Int) ≤ v2,
           (v2 : Int) < ((List.map E74 v3).length : Int),
           look [] v2.toNat = none,
           (List.map E74 v3)[v2.toNat]? = some (E74 x1),
           Fn Tryz.prog 69 [(false, E74 x1), (false, V.cp [V.sc (.string del0_0)])] (E4 r2) [],
           (true || ((E4 r2).nv && nvL [])) = true,
           (!r2) = false]) (by kernel_rfl) (cj (len_nm _ _) (cj h3 (cj (od h4) (cj (map_ltN (od h4) h5) (cj rfl (cj (map_get h5) (cj (impl_HoldDrop_1_ok x1 del0_0 r2 h6) (cj rfl (cj1 (nf h7)))))))))) (slices_DeleteFunc_impl_Hold_impl_HoldDrop_1_l0_ok del0_0 n v1 (i64 (v2 + 1)) v3)) (fun h7 =>
          Pn.ite (fun h8 =>
           Pn.bind (fun x2 h9 =>
            LpO.go [.wait 3, .nm 18 (V.sc (.int .i64 (v3.length : Int))), .bit true, .el (E74 x1), .call [] (E4 r2) [], .bit true, .el (E74 x2), .nb 0 (.row 74 (List.map E74 (v3.set v1.toNat x1)) []), .wait 7, .mask [0, 1, 5, 6], .ren [0]] (p := [V.sc (.int .i64 ((List.map E74 v3).length : Int)) = V.sc (.int .i64 (v3.length : Int)),
             (decide (v2 < (v3.length : Int))) = true,
             (0 : Int) ≤ v2,
             (v2 : Int) < ((List.map E74 v3).length : Int),
             look [] v2.toNat = none,
             (List.map E74 v3)[v2.toNat]? = some (E74 x1),
             Fn Tryz.prog 69 [(false, E74 x1), (false, V.cp [V.sc (.string del0_0)])] (E4 r2) [],
             (true || ((E4 r2).nv && nvL [])) = true,
             (!r2) = true,
             (0 : Int) ≤ v1,
             (v1 : Int) < ((List.map E74 v3).length : Int),
             look [] v1.toNat = none,
             (List.map E74 v3)[v1.toNat]? = some (E74 x2),
             Blk.row 74 ((List.map E74 v3).set v1.toNat (V.agg [V.sc (.string x1.Id), V.sc (.int .i64 x1.Amount), V.sc (.int .i64 x1.Due)])) [] = Blk.row 74 (List.map E74 (v3.set v1.toNat x1)) []]) (by kernel_rfl) (cj (len_nm _ _) (cj h3 (cj (od h4) (cj (map_ltN (od h4) h5) (cj rfl (cj (map_get h5) (cj (impl_HoldDrop_1_ok x1 del0_0 r2 h6) (cj rfl (cj (nt h7) (cj (od h8) (cj (map_ltN (od h8) h9) (cj rfl (cj (map_get h9) (cj1 (nb_set E74 _ _ x1))))))))))))))) (slices_DeleteFunc_impl_Hold_impl_HoldDrop_1_l0_ok del0_0 n (i64 (v1 + 1)) (i64 (v2 + 1)) (v3.set v1.toNat x1)))) (fun h8 =>
           Pn.none))))) (fun h4 =>
       Pn.none)) (fun h3 =>
      Pn.some (LpO.out [.wait 3, .nm 18 (V.sc (.int .i64 (v3.length : Int))), .bit false, .mask [0, 5], .ren [0]] (p := [V.sc (.int .i64 ((List.map E74 v3).length : Int)) = V.sc (.int .i64 (v3.length : Int)),
       (decide (v2 < (v3.length : Int))) = false]) (by kernel_rfl) (show X.out 0 ≠ X.go from nofun) (cj (len_nm _ _) (cj1 h3))))
def slices_DeleteFunc_impl_Hold_impl_HoldDrop_1 (s_ : List Hold) (del0_0 : ByteArray) : Option ((List Hold)) :=
 (slices_IndexFunc_impl_Hold_impl_HoldDrop_1 s_ del0_0).bind fun r1 =>
 if (r1 == (-1)) = true then
  some s_
 else
  (slices_DeleteFunc_impl_Hold_impl_HoldDrop_1_l0 del0_0 FUEL r1 (i64 (r1 + 1)) s_).bind fun r3 =>
  if (decide (0 ≤ r3.1)) = true then
   if (decide (r3.1 ≤ (r3.2.length : Int))) = true then
    if (decide (r3.1 ≤ ((r3.2.take r3.1.toNat ++ (List.replicate (r3.2.length - r3.1.toNat) (Hold.mk ByteArray.empty 0 0) ++ r3.2.drop (r3.1.toNat + (r3.2.length - r3.1.toNat)))).length : Int))) = true then
     some ((r3.2.take r3.1.toNat ++ (List.replicate (r3.2.length - r3.1.toNat) (Hold.mk ByteArray.empty 0 0) ++ r3.2.drop (r3.1.toNat + (r3.2.length - r3.1.toNat)))).take r3.1.toNat)
    else none
   else none
  else none
theorem slices_DeleteFunc_impl_Hold_impl_HoldDrop_1_ok (s_ : List Hold) (del0_0 : ByteArray) : Pn (fun y => Fn Tryz.prog 67 [(true, E30 s_), (false, V.fn 69 [V.cp [V.sc (.string del0_0)]])] (E30 y) [V.un]) (slices_DeleteFunc_impl_Hold_impl_HoldDrop_1 s_ del0_0) := by
  unfold slices_DeleteFunc_impl_Hold_impl_HoldDrop_1
  exact
   Pn.bind (fun r1 h1 =>
    Pn.ite (fun h2 =>
     Pn.some (Fn.of [.call [] (E3 r1) [], .bit true] (p := [Fn Tryz.prog 99 [(false, E30 s_), (false, V.fn 69 [V.cp [V.sc (.string del0_0)]])] (E3 r1) [],
      (false || ((E3 r1).nv && nvL [])) = true,
      (r1 == (-1)) = true]) (by kernel_rfl) (cj (slices_IndexFunc_impl_Hold_impl_HoldDrop_1_ok s_ del0_0 r1 h1) (cj (by simp [V.nv, nvL, nvL_all, nv_E3]) (cj1 h2))))) (fun h2 =>
     Pn.bind (fun r3 h10 =>
      Pn.ite (fun h11 =>
       Pn.ite (fun h12 =>
        Pn.ite (fun h13 =>
         Pn.some (Fn.as (res := V.sl true 74 ((List.map E74 (r3.2.take r3.1.toNat ++ (List.replicate (r3.2.length - r3.1.toNat) (Hold.mk ByteArray.empty 0 0) ++ r3.2.drop (r3.1.toNat + (r3.2.length - r3.1.toNat))))).take r3.1.toNat)) (sb_take _ _ _) rfl (Fn.of [.call [] (E3 r1) [], .bit false, .wait 3, .mask [0, 1, 5, 6], .ren [0], .loop (X.out 0) (st 42 [(0, V.ow 0), (5, V.sc (.int .i64 r3.1))] [Blk.row 74 (List.map E74 r3.2) []] [some 0]), .wait 3, .nm 38 (V.sb 0 3 r3.1.toNat (r3.2.length - r3.1.toNat)), .wait 1, .nb 0 (.row 74 (List.map E74 (r3.2.take r3.1.toNat ++ (List.replicate (r3.2.length - r3.1.toNat) (Hold.mk ByteArray.empty 0 0) ++ r3.2.drop (r3.1.toNat + (r3.2.length - r3.1.toNat))))) [])] (p := [Fn Tryz.prog 99 [(false, E30 s_), (false, V.fn 69 [V.cp [V.sc (.string del0_0)]])] (E3 r1) [],
          (false || ((E3 r1).nv && nvL [])) = true,
          (r1 == (-1)) = false,
          Loop Tryz.prog (sub (codeOf Tryz.prog 67) [1, 1, 1, 0, 1, 0, 0]) (st 42 [(0, V.ow 0), (1, V.fn 69 [V.cp [V.sc (.string del0_0)]]), (5, V.sc (.int .i64 r1)), (6, V.sc (.int .i64 (i64 (r1 + 1))))] [Blk.row 74 (List.map E74 s_) []] [some 0]) (X.out 0) (st 42 [(0, V.ow 0), (5, V.sc (.int .i64 r3.1))] [Blk.row 74 (List.map E74 r3.2) []] [some 0]),
          (0 : Int) ≤ r3.1,
          (r3.1 : Int) ≤ ((List.map E74 r3.2).length : Int),
          (((List.map E74 r3.2).length : Int) : Int) ≤ ((List.map E74 r3.2).length : Int),
          V.sb 0 3 r3.1.toNat ((((List.map E74 r3.2).length : Int).toNat) - (r3.1.toNat)) = V.sb 0 3 r3.1.toNat (r3.2.length - r3.1.toNat),
          Blk.row 74 ((List.map E74 r3.2).take r3.1.toNat ++ (List.replicate (r3.2.length - r3.1.toNat) (V.agg [V.sc (.string ByteArray.empty), V.sc (.int .i64 0), V.sc (.int .i64 0)]) ++ (List.map E74 r3.2).drop (r3.1.toNat + (r3.2.length - r3.1.toNat)))) [] = Blk.row 74 (List.map E74 (r3.2.take r3.1.toNat ++ (List.replicate (r3.2.length - r3.1.toNat) (Hold.mk ByteArray.empty 0 0) ++ r3.2.drop (r3.1.toNat + (r3.2.length - r3.1.toNat))))) [],
          (0 : Int) ≤ 0,
          (0 : Int) ≤ r3.1,
          (r3.1 : Int) ≤ ((List.map E74 (r3.2.take r3.1.toNat ++ (List.replicate (r3.2.length - r3.1.toNat) (Hold.mk ByteArray.empty 0 0) ++ r3.2.drop (r3.1.toNat + (r3.2.length - r3.1.toNat))))).length : Int)]) (by kernel_rfl) (cj (slices_IndexFunc_impl_Hold_impl_HoldDrop_1_ok s_ del0_0 r1 h1) (cj (by simp [V.nv, nvL, nvL_all, nv_E3]) (cj h2 (cj (slices_DeleteFunc_impl_Hold_impl_HoldDrop_1_l0_ok del0_0 FUEL r1 (i64 (r1 + 1)) s_ r3 h10) (cj (od h11) (cj (by rw [List.length_map]; exact (od h12)) (cj (Int.le_refl _) (cj (by simp) (cj (nb_clr E74 _ _ _ (Hold.mk ByteArray.empty 0 0)) (cj (by decide) (cj (od h11) (cj1 (by rw [List.length_map]; exact (od h13))))))))))))))))) (fun h13 =>
         Pn.none)) (fun h12 =>
        Pn.none)) (fun h11 =>
       Pn.none))))
def impl_HoldDrop (l : List Hold) (id : ByteArray) : Option ((List Hold)) :=
 (slices_Clone_impl_Hold l).bind fun r1 =>
 (slices_DeleteFunc_impl_Hold_impl_HoldDrop_1 r1 id).bind fun r2 =>
 some r2
theorem impl_HoldDrop_ok (l : List Hold) (id : ByteArray) : Pn (fun y => Fn Tryz.prog 31 [(false, E30 l), (false, E9 id)] (E30 y) []) (impl_HoldDrop l id) := by
  unfold impl_HoldDrop
  exact
   Pn.bind (fun r1 h1 =>
    Pn.bind (fun r2 h2 =>
     Pn.some (Fn.of [.call [] (E30 r1) [], .call [true, false] (E30 r2) [V.un]] (p := [Fn Tryz.prog 68 [(false, E30 l)] (E30 r1) [],
      (true || ((E30 r1).nv && nvL [])) = true,
      Fn Tryz.prog 67 [(true, E30 r1), (false, V.fn 69 [V.cp [V.sc (.string id)]])] (E30 r2) [V.un],
      (false || ((E30 r2).nv && nvL [V.un])) = true]) (by kernel_rfl) (cj (slices_Clone_impl_Hold_ok l r1 h1) (cj rfl (cj (slices_DeleteFunc_impl_Hold_impl_HoldDrop_1_ok r1 id r2 h2) (cj1 (by simp [V.nv, nvL, nvL_all, nv_E3, nv_E9, nv_E30, nv_E74]))))))))
def impl_Free (a : Acct) (id : ByteArray) (now : Int) : Option (Acct × Int) :=
 (impl_holdOf a id 1 now).bind fun r1 =>
 if (r1.2.2 != 0) = true then
  some ((Acct.mk ByteArray.empty 0 0 0 0 [] (Ring.mk 0 0 [] []) []), r1.2.2)
 else
  (impl_HoldDrop r1.1.Holds id).bind fun r2 =>
  some ((Acct.mk r1.1.Id r1.1.Limit r1.1.Posted r1.1.Most r1.1.MostSum r2 r1.1.Ring r1.1.Slots), 0)
theorem impl_Free_ok (a : Acct) (id : ByteArray) (now : Int) : Pn (fun y => Fn Tryz.prog 9 [(false, E34 a), (false, E9 id), (false, E3 now)] (V.tup [E34 y.1, E3 y.2]) []) (impl_Free a id now) := by
  unfold impl_Free
  exact
   Pn.bind (fun r1 h1 =>
    Pn.ite (fun h2 =>
     Pn.some (Fn.of [.call [] (V.tup [E34 r1.1, E3 r1.2.1, E3 r1.2.2]) [], .bit true] (p := [Fn Tryz.prog 30 [(false, E34 a), (false, E9 id), (false, E3 1), (false, E3 now)] (V.tup [E34 r1.1, E3 r1.2.1, E3 r1.2.2]) [],
      (true || ((V.tup [E34 r1.1, E3 r1.2.1, E3 r1.2.2]).nv && nvL [])) = true,
      (r1.2.2 != 0) = true]) (by kernel_rfl) (cj (impl_holdOf_ok a id 1 now r1 h1) (cj rfl (cj1 h2))))) (fun h2 =>
     Pn.bind (fun r2 h3 =>
      Pn.some (Fn.of [.call [] (V.tup [E34 r1.1, E3 r1.2.1, E3 r1.2.2]) [], .bit false, .call [] (E30 r2) []] (p := [Fn Tryz.prog 30 [(false, E34 a), (false, E9 id), (false, E3 1), (false, E3 now)] (V.tup [E34 r1.1, E3 r1.2.1, E3 r1.2.2]) [],
       (true || ((V.tup [E34 r1.1, E3 r1.2.1, E3 r1.2.2]).nv && nvL [])) = true,
       (r1.2.2 != 0) = false,
       Fn Tryz.prog 31 [(false, E30 r1.1.Holds), (false, E9 id)] (E30 r2) [],
       (false || ((E30 r2).nv && nvL [])) = true]) (by kernel_rfl) (cj (impl_holdOf_ok a id 1 now r1 h1) (cj rfl (cj h2 (cj (impl_HoldDrop_ok r1.1.Holds id r2 h3) (cj1 (by simp [V.nv, nvL, nvL_all, nv_E3, nv_E9, nv_E30, nv_E74]))))))))))
def laws_eqHold (a : Hold) (b : Hold) : Option (Bool) :=
 if (a.Id == b.Id) = true then
  if (a.Amount != b.Amount) = true then
   some false
  else
   if (a.Due != b.Due) = true then
    some false
   else
    some true
 else
  some false
theorem laws_eqHold_ok (a : Hold) (b : Hold) : Pn (fun y => Fn Tryz.prog 70 [(false, E74 a), (false, E74 b)] (E4 y) []) (laws_eqHold a b) := by
  unfold laws_eqHold
  exact
   Pn.ite (fun h1 =>
    Pn.ite (fun h2 =>
     Pn.some (Fn.of [.bit false, .bit true] (p := [(!(a.Id == b.Id)) = false,
      (a.Amount != b.Amount) = true]) (by kernel_rfl) (cj (nf h1) (cj1 h2)))) (fun h2 =>
     Pn.ite (fun h3 =>
      Pn.some (Fn.of [.bit false, .bit false, .bit true] (p := [(!(a.Id == b.Id)) = false,
       (a.Amount != b.Amount) = false,
       (a.Due != b.Due) = true]) (by kernel_rfl) (cj (nf h1) (cj h2 (cj1 h3))))) (fun h3 =>
      Pn.some (Fn.of [.bit false, .bit false, .bit false] (p := [(!(a.Id == b.Id)) = false,
       (a.Amount != b.Amount) = false,
       (a.Due != b.Due) = false]) (by kernel_rfl) (cj (nf h1) (cj h2 (cj1 h3))))))) (fun h1 =>
    Pn.some (Fn.of [.bit true] (p := [(!(a.Id == b.Id)) = true]) (by kernel_rfl) (cj1 (nt h1))))
def laws_eqHoldS_l0 (a : List Hold) (b : List Hold) : List Hold → List Hold → Option (Lo Unit Unit)
  | [], p1 =>
   some (.out ())
  | x1 :: t1, p1 =>
   (b[(p1.length : Int).toNat]?).bind fun x2 =>
   (laws_eqHold x1 x2).bind fun r1 =>
   if r1 = true then
    laws_eqHoldS_l0 a b t1 (p1 ++ [x1])
   else
    some (.ret ())
theorem laws_eqHoldS_l0_ok (a : List Hold) (b : List Hold) (h3 : capOk a.length = true) : ∀ (t1 p1 : List Hold) (_ : a = p1 ++ t1) , Pn (LpO Tryz.prog (sub (codeOf Tryz.prog 32) [1, 1, 0, 1, 0, 0]) (st 27 [(0, V.sl false 74 (List.map E74 a)), (1, V.sl false 74 (List.map E74 b)), (5, V.sc (.int .i64 (p1.length : Int)))] [] []) (fun (y : Lo Unit Unit) => Lo.elim y (fun s => (X.out 0, st 27 [] [] [])) (fun s => (X.ret, st 27 [(4, V.sc (.bool false))] [] [])))) (laws_eqHoldS_l0 a b t1 p1)
  | [], p1, h2 => by
    unfold laws_eqHoldS_l0
    exact
     Pn.some (LpO.out [.wait 3, .nm 13 (V.sc (.int .i64 (a.length : Int))), .bit false, .mask [], .ren []] (p := [V.sc (.int .i64 ((List.map E74 a).length : Int)) = V.sc (.int .i64 (a.length : Int)),
      (decide ((p1.length : Int) < (a.length : Int))) = false]) (by kernel_rfl) (show X.out 0 ≠ X.go from nofun) (cj (len_nm _ _) (cj1 (rng_end h2))))
  | x1 :: t1, p1, h2 => by
    unfold laws_eqHoldS_l0
    exact
     Pn.bind (fun x2 h4 =>
      Pn.bind (fun r1 h5 =>
       Pn.ite (fun h6 =>
        LpO.go [.wait 3, .nm 13 (V.sc (.int .i64 (a.length : Int))), .bit true, .draw [], .el (E74 x1), .el (E74 x2), .call [] (E4 r1) [], .bit false, .wait 3, .mask [0, 1, 5], .ren [], .nm 5 (V.sc (.int .i64 ((p1 ++ [x1]).length : Int)))] (p := [V.sc (.int .i64 ((List.map E74 a).length : Int)) = V.sc (.int .i64 (a.length : Int)),
         (decide ((p1.length : Int) < (a.length : Int))) = true,
         (0 : Int) ≤ (p1.length : Int),
         (List.map E74 a)[(p1.length : Int).toNat]? = some (E74 x1),
         (0 : Int) ≤ (p1.length : Int),
         (List.map E74 b)[(p1.length : Int).toNat]? = some (E74 x2),
         Fn Tryz.prog 70 [(false, E74 x1), (false, E74 x2)] (E4 r1) [],
         (true || ((E4 r1).nv && nvL [])) = true,
         (!r1) = false,
         V.sc (.int .i64 (i64 ((p1.length : Int) + 1))) = V.sc (.int .i64 ((p1 ++ [x1]).length : Int))]) (by kernel_rfl) (cj (len_nm _ _) (cj (rng_lt h2) (cj (by omega) (cj (rng_get _ h2) (cj (by omega) (cj (map_get h4) (cj (laws_eqHold_ok x1 x2 r1 h5) (cj rfl (cj (nf h6) (cj1 (rng_next h2 h3))))))))))) (laws_eqHoldS_l0_ok a b h3 t1 (p1 ++ [x1]) (rng_step h2))) (fun h6 =>
        Pn.some (LpO.out [.wait 3, .nm 13 (V.sc (.int .i64 (a.length : Int))), .bit true, .draw [], .el (E74 x1), .el (E74 x2), .call [] (E4 r1) [], .bit true, .wait 1, .mask [4], .ren []] (p := [V.sc (.int .i64 ((List.map E74 a).length : Int)) = V.sc (.int .i64 (a.length : Int)),
         (decide ((p1.length : Int) < (a.length : Int))) = true,
         (0 : Int) ≤ (p1.length : Int),
         (List.map E74 a)[(p1.length : Int).toNat]? = some (E74 x1),
         (0 : Int) ≤ (p1.length : Int),
         (List.map E74 b)[(p1.length : Int).toNat]? = some (E74 x2),
         Fn Tryz.prog 70 [(false, E74 x1), (false, E74 x2)] (E4 r1) [],
         (true || ((E4 r1).nv && nvL [])) = true,
         (!r1) = true]) (by kernel_rfl) (show X.ret ≠ X.go from nofun) (cj (len_nm _ _) (cj (rng_lt h2) (cj (by omega) (cj (rng_get _ h2) (cj (by omega) (cj (map_get h4) (cj (laws_eqHold_ok x1 x2 r1 h5) (cj rfl (cj1 (nt h6))))))))))))))
def laws_eqHoldS (a : List Hold) (b : List Hold) : Option (Bool) :=
 if ((a.length : Int) != (b.length : Int)) = true then
  some false
 else
  if (capOk a.length) = true then
   (laws_eqHoldS_l0 a b a []).bind fun r2 =>
   Lo.elim r2 (fun s1 =>
    some true) (fun s2 =>
    some false)
  else none
theorem laws_eqHoldS_ok (a : List Hold) (b : List Hold) : Pn (fun y => Fn Tryz.prog 32 [(false, E30 a), (false, E30 b)] (E4 y) []) (laws_eqHoldS a b) := by
  unfold laws_eqHoldS
  exact
   Pn.ite (fun h1 =>
    Pn.some (Fn.of [.wait 3, .nm 7 (V.sc (.int .i64 (a.length : Int))), .wait 2, .nm 9 (V.sc (.int .i64 (b.length : Int))), .bit true] (p := [V.sc (.int .i64 ((List.map E74 a).length : Int)) = V.sc (.int .i64 (a.length : Int)),
     V.sc (.int .i64 ((List.map E74 b).length : Int)) = V.sc (.int .i64 (b.length : Int)),
     ((a.length : Int) != (b.length : Int)) = true]) (by kernel_rfl) (cj (len_nm _ _) (cj (len_nm _ _) (cj1 h1))))) (fun h1 =>
    Pn.ite (fun h7 =>
     Pn.bind (fun r2 h8 =>
      Pn.lo (fun s1 h9 =>
       Pn.some (Fn.of [.wait 3, .nm 7 (V.sc (.int .i64 (a.length : Int))), .wait 2, .nm 9 (V.sc (.int .i64 (b.length : Int))), .bit false, .wait 1, .mask [0, 1, 5], .ren [], .loop (X.out 0) (st 27 [] [] [])] (p := [V.sc (.int .i64 ((List.map E74 a).length : Int)) = V.sc (.int .i64 (a.length : Int)),
        V.sc (.int .i64 ((List.map E74 b).length : Int)) = V.sc (.int .i64 (b.length : Int)),
        ((a.length : Int) != (b.length : Int)) = false,
        Loop Tryz.prog (sub (codeOf Tryz.prog 32) [1, 1, 0, 1, 0, 0]) (st 27 [(0, V.sl false 74 (List.map E74 a)), (1, V.sl false 74 (List.map E74 b)), (5, V.sc (.int .i64 0))] [] []) (X.out 0) (st 27 [] [] [])]) (by kernel_rfl) (cj (len_nm _ _) (cj (len_nm _ _) (cj h1 (cj1 ((laws_eqHoldS_l0_ok a b h7 a [] rfl r2 h8).at h9))))))) (fun s2 h10 =>
       Pn.some (Fn.of [.wait 3, .nm 7 (V.sc (.int .i64 (a.length : Int))), .wait 2, .nm 9 (V.sc (.int .i64 (b.length : Int))), .bit false, .wait 1, .mask [0, 1, 5], .ren [], .loop (X.ret) (st 27 [(4, V.sc (.bool false))] [] [])] (p := [V.sc (.int .i64 ((List.map E74 a).length : Int)) = V.sc (.int .i64 (a.length : Int)),
        V.sc (.int .i64 ((List.map E74 b).length : Int)) = V.sc (.int .i64 (b.length : Int)),
        ((a.length : Int) != (b.length : Int)) = false,
        Loop Tryz.prog (sub (codeOf Tryz.prog 32) [1, 1, 0, 1, 0, 0]) (st 27 [(0, V.sl false 74 (List.map E74 a)), (1, V.sl false 74 (List.map E74 b)), (5, V.sc (.int .i64 0))] [] []) (X.ret) (st 27 [(4, V.sc (.bool false))] [] [])]) (by kernel_rfl) (cj (len_nm _ _) (cj (len_nm _ _) (cj h1 (cj1 ((laws_eqHoldS_l0_ok a b h7 a [] rfl r2 h8).at h10))))))))) (fun h7 =>
     Pn.none))
def laws_eqIntS_l0 (a : List Int) (b : List Int) : List Int → List Int → Option (Lo Unit Unit)
  | [], p1 =>
   some (.out ())
  | x1 :: t1, p1 =>
   (b[(p1.length : Int).toNat]?).bind fun x2 =>
   if (x1 != x2) = true then
    some (.ret ())
   else
    laws_eqIntS_l0 a b t1 (p1 ++ [x1])
theorem laws_eqIntS_l0_ok (a : List Int) (b : List Int) (h3 : capOk a.length = true) : ∀ (t1 p1 : List Int) (_ : a = p1 ++ t1) , Pn (LpO Tryz.prog (sub (codeOf Tryz.prog 71) [1, 1, 0, 1, 0, 0]) (st 26 [(0, V.sl false 3 (List.map E3 a)), (1, V.sl false 3 (List.map E3 b)), (5, V.sc (.int .i64 (p1.length : Int)))] [] []) (fun (y : Lo Unit Unit) => Lo.elim y (fun s => (X.out 0, st 26 [] [] [])) (fun s => (X.ret, st 26 [(4, V.sc (.bool false))] [] [])))) (laws_eqIntS_l0 a b t1 p1)
  | [], p1, h2 => by
    unfold laws_eqIntS_l0
    exact
     Pn.some (LpO.out [.wait 3, .nm 13 (V.sc (.int .i64 (a.length : Int))), .bit false, .mask [], .ren []] (p := [V.sc (.int .i64 ((List.map E3 a).length : Int)) = V.sc (.int .i64 (a.length : Int)),
      (decide ((p1.length : Int) < (a.length : Int))) = false]) (by kernel_rfl) (show X.out 0 ≠ X.go from nofun) (cj (len_nm _ _) (cj1 (rng_end h2))))
  | x1 :: t1, p1, h2 => by
    unfold laws_eqIntS_l0
    exact
     Pn.bind (fun x2 h4 =>
      Pn.ite (fun h5 =>
       Pn.some (LpO.out [.wait 3, .nm 13 (V.sc (.int .i64 (a.length : Int))), .bit true, .draw [], .el (E3 x1), .el (E3 x2), .bit true, .wait 1, .mask [4], .ren []] (p := [V.sc (.int .i64 ((List.map E3 a).length : Int)) = V.sc (.int .i64 (a.length : Int)),
        (decide ((p1.length : Int) < (a.length : Int))) = true,
        (0 : Int) ≤ (p1.length : Int),
        (List.map E3 a)[(p1.length : Int).toNat]? = some (E3 x1),
        (0 : Int) ≤ (p1.length : Int),
        (List.map E3 b)[(p1.length : Int).toNat]? = some (E3 x2),
        (x1 != x2) = true]) (by kernel_rfl) (show X.ret ≠ X.go from nofun) (cj (len_nm _ _) (cj (rng_lt h2) (cj (by omega) (cj (rng_get _ h2) (cj (by omega) (cj (map_get h4) (cj1 h5))))))))) (fun h5 =>
       LpO.go [.wait 3, .nm 13 (V.sc (.int .i64 (a.length : Int))), .bit true, .draw [], .el (E3 x1), .el (E3 x2), .bit false, .wait 3, .mask [0, 1, 5], .ren [], .nm 5 (V.sc (.int .i64 ((p1 ++ [x1]).length : Int)))] (p := [V.sc (.int .i64 ((List.map E3 a).length : Int)) = V.sc (.int .i64 (a.length : Int)),
        (decide ((p1.length : Int) < (a.length : Int))) = true,
        (0 : Int) ≤ (p1.length : Int),
        (List.map E3 a)[(p1.length : Int).toNat]? = some (E3 x1),
        (0 : Int) ≤ (p1.length : Int),
        (List.map E3 b)[(p1.length : Int).toNat]? = some (E3 x2),
        (x1 != x2) = false,
        V.sc (.int .i64 (i64 ((p1.length : Int) + 1))) = V.sc (.int .i64 ((p1 ++ [x1]).length : Int))]) (by kernel_rfl) (cj (len_nm _ _) (cj (rng_lt h2) (cj (by omega) (cj (rng_get _ h2) (cj (by omega) (cj (map_get h4) (cj h5 (cj1 (rng_next h2 h3))))))))) (laws_eqIntS_l0_ok a b h3 t1 (p1 ++ [x1]) (rng_step h2))))
def laws_eqIntS (a : List Int) (b : List Int) : Option (Bool) :=
 if ((a.length : Int) != (b.length : Int)) = true then
  some false
 else
  if (capOk a.length) = true then
   (laws_eqIntS_l0 a b a []).bind fun r1 =>
   Lo.elim r1 (fun s1 =>
    some true) (fun s2 =>
    some false)
  else none
theorem laws_eqIntS_ok (a : List Int) (b : List Int) : Pn (fun y => Fn Tryz.prog 71 [(false, E23 a), (false, E23 b)] (E4 y) []) (laws_eqIntS a b) := by
  unfold laws_eqIntS
  exact
   Pn.ite (fun h1 =>
    Pn.some (Fn.of [.wait 3, .nm 7 (V.sc (.int .i64 (a.length : Int))), .wait 2, .nm 9 (V.sc (.int .i64 (b.length : Int))), .bit true] (p := [V.sc (.int .i64 ((List.map E3 a).length : Int)) = V.sc (.int .i64 (a.length : Int)),
     V.sc (.int .i64 ((List.map E3 b).length : Int)) = V.sc (.int .i64 (b.length : Int)),
     ((a.length : Int) != (b.length : Int)) = true]) (by kernel_rfl) (cj (len_nm _ _) (cj (len_nm _ _) (cj1 h1))))) (fun h1 =>
    Pn.ite (fun h6 =>
     Pn.bind (fun r1 h7 =>
      Pn.lo (fun s1 h8 =>
       Pn.some (Fn.of [.wait 3, .nm 7 (V.sc (.int .i64 (a.length : Int))), .wait 2, .nm 9 (V.sc (.int .i64 (b.length : Int))), .bit false, .wait 1, .mask [0, 1, 5], .ren [], .loop (X.out 0) (st 26 [] [] [])] (p := [V.sc (.int .i64 ((List.map E3 a).length : Int)) = V.sc (.int .i64 (a.length : Int)),
        V.sc (.int .i64 ((List.map E3 b).length : Int)) = V.sc (.int .i64 (b.length : Int)),
        ((a.length : Int) != (b.length : Int)) = false,
        Loop Tryz.prog (sub (codeOf Tryz.prog 71) [1, 1, 0, 1, 0, 0]) (st 26 [(0, V.sl false 3 (List.map E3 a)), (1, V.sl false 3 (List.map E3 b)), (5, V.sc (.int .i64 0))] [] []) (X.out 0) (st 26 [] [] [])]) (by kernel_rfl) (cj (len_nm _ _) (cj (len_nm _ _) (cj h1 (cj1 ((laws_eqIntS_l0_ok a b h6 a [] rfl r1 h7).at h8))))))) (fun s2 h9 =>
       Pn.some (Fn.of [.wait 3, .nm 7 (V.sc (.int .i64 (a.length : Int))), .wait 2, .nm 9 (V.sc (.int .i64 (b.length : Int))), .bit false, .wait 1, .mask [0, 1, 5], .ren [], .loop (X.ret) (st 26 [(4, V.sc (.bool false))] [] [])] (p := [V.sc (.int .i64 ((List.map E3 a).length : Int)) = V.sc (.int .i64 (a.length : Int)),
        V.sc (.int .i64 ((List.map E3 b).length : Int)) = V.sc (.int .i64 (b.length : Int)),
        ((a.length : Int) != (b.length : Int)) = false,
        Loop Tryz.prog (sub (codeOf Tryz.prog 71) [1, 1, 0, 1, 0, 0]) (st 26 [(0, V.sl false 3 (List.map E3 a)), (1, V.sl false 3 (List.map E3 b)), (5, V.sc (.int .i64 0))] [] []) (X.ret) (st 26 [(4, V.sc (.bool false))] [] [])]) (by kernel_rfl) (cj (len_nm _ _) (cj (len_nm _ _) (cj h1 (cj1 ((laws_eqIntS_l0_ok a b h6 a [] rfl r1 h7).at h9))))))))) (fun h6 =>
     Pn.none))
def laws_eqRing (a : Ring) (b : Ring) : Option (Bool) :=
 if (a.Span != b.Span) = true then
  some false
 else
  if (a.Head != b.Head) = true then
   some false
  else
   (laws_eqIntS a.Counts b.Counts).bind fun r1 =>
   if r1 = true then
    (laws_eqIntS a.Sums b.Sums).bind fun r2 =>
    if r2 = true then
     some true
    else
     some false
   else
    some false
theorem laws_eqRing_ok (a : Ring) (b : Ring) : Pn (fun y => Fn Tryz.prog 33 [(false, E31 a), (false, E31 b)] (E4 y) []) (laws_eqRing a b) := by
  unfold laws_eqRing
  exact
   Pn.ite (fun h1 =>
    Pn.some (Fn.of [.bit true] (p := [(a.Span != b.Span) = true]) (by kernel_rfl) (cj1 h1))) (fun h1 =>
    Pn.ite (fun h2 =>
     Pn.some (Fn.of [.bit false, .bit true] (p := [(a.Span != b.Span) = false,
      (a.Head != b.Head) = true]) (by kernel_rfl) (cj h1 (cj1 h2)))) (fun h2 =>
     Pn.bind (fun r1 h3 =>
      Pn.ite (fun h4 =>
       Pn.bind (fun r2 h5 =>
        Pn.ite (fun h6 =>
         Pn.some (Fn.of [.bit false, .bit false, .call [] (E4 r1) [], .bit false, .call [] (E4 r2) [], .bit false] (p := [(a.Span != b.Span) = false,
          (a.Head != b.Head) = false,
          Fn Tryz.prog 71 [(false, E23 a.Counts), (false, E23 b.Counts)] (E4 r1) [],
          (true || ((E4 r1).nv && nvL [])) = true,
          (!r1) = false,
          Fn Tryz.prog 71 [(false, E23 a.Sums), (false, E23 b.Sums)] (E4 r2) [],
          (true || ((E4 r2).nv && nvL [])) = true,
          (!r2) = false]) (by kernel_rfl) (cj h1 (cj h2 (cj (laws_eqIntS_ok a.Counts b.Counts r1 h3) (cj rfl (cj (nf h4) (cj (laws_eqIntS_ok a.Sums b.Sums r2 h5) (cj rfl (cj1 (nf h6))))))))))) (fun h6 =>
         Pn.some (Fn.of [.bit false, .bit false, .call [] (E4 r1) [], .bit false, .call [] (E4 r2) [], .bit true] (p := [(a.Span != b.Span) = false,
          (a.Head != b.Head) = false,
          Fn Tryz.prog 71 [(false, E23 a.Counts), (false, E23 b.Counts)] (E4 r1) [],
          (true || ((E4 r1).nv && nvL [])) = true,
          (!r1) = false,
          Fn Tryz.prog 71 [(false, E23 a.Sums), (false, E23 b.Sums)] (E4 r2) [],
          (true || ((E4 r2).nv && nvL [])) = true,
          (!r2) = true]) (by kernel_rfl) (cj h1 (cj h2 (cj (laws_eqIntS_ok a.Counts b.Counts r1 h3) (cj rfl (cj (nf h4) (cj (laws_eqIntS_ok a.Sums b.Sums r2 h5) (cj rfl (cj1 (nt h6))))))))))))) (fun h4 =>
       Pn.some (Fn.of [.bit false, .bit false, .call [] (E4 r1) [], .bit true] (p := [(a.Span != b.Span) = false,
        (a.Head != b.Head) = false,
        Fn Tryz.prog 71 [(false, E23 a.Counts), (false, E23 b.Counts)] (E4 r1) [],
        (true || ((E4 r1).nv && nvL [])) = true,
        (!r1) = true]) (by kernel_rfl) (cj h1 (cj h2 (cj (laws_eqIntS_ok a.Counts b.Counts r1 h3) (cj rfl (cj1 (nt h4)))))))))))
def laws_eqByteS_l0 (a : List Int) (b : List Int) : List Int → List Int → Option (Lo Unit Unit)
  | [], p1 =>
   some (.out ())
  | x1 :: t1, p1 =>
   (b[(p1.length : Int).toNat]?).bind fun x2 =>
   if (x1 != x2) = true then
    some (.ret ())
   else
    laws_eqByteS_l0 a b t1 (p1 ++ [x1])
theorem laws_eqByteS_l0_ok (a : List Int) (b : List Int) (h3 : capOk a.length = true) : ∀ (t1 p1 : List Int) (_ : a = p1 ++ t1) , Pn (LpO Tryz.prog (sub (codeOf Tryz.prog 101) [1, 1, 0, 1, 0, 0]) (st 26 [(0, V.sl false 5 (List.map E5 a)), (1, V.sl false 5 (List.map E5 b)), (5, V.sc (.int .i64 (p1.length : Int)))] [] []) (fun (y : Lo Unit Unit) => Lo.elim y (fun s => (X.out 0, st 26 [] [] [])) (fun s => (X.ret, st 26 [(4, V.sc (.bool false))] [] [])))) (laws_eqByteS_l0 a b t1 p1)
  | [], p1, h2 => by
    unfold laws_eqByteS_l0
    exact
     Pn.some (LpO.out [.wait 3, .nm 13 (V.sc (.int .i64 (a.length : Int))), .bit false, .mask [], .ren []] (p := [V.sc (.int .i64 ((List.map E5 a).length : Int)) = V.sc (.int .i64 (a.length : Int)),
      (decide ((p1.length : Int) < (a.length : Int))) = false]) (by kernel_rfl) (show X.out 0 ≠ X.go from nofun) (cj (len_nm _ _) (cj1 (rng_end h2))))
  | x1 :: t1, p1, h2 => by
    unfold laws_eqByteS_l0
    exact
     Pn.bind (fun x2 h4 =>
      Pn.ite (fun h5 =>
       Pn.some (LpO.out [.wait 3, .nm 13 (V.sc (.int .i64 (a.length : Int))), .bit true, .draw [], .el (E5 x1), .el (E5 x2), .bit true, .wait 1, .mask [4], .ren []] (p := [V.sc (.int .i64 ((List.map E5 a).length : Int)) = V.sc (.int .i64 (a.length : Int)),
        (decide ((p1.length : Int) < (a.length : Int))) = true,
        (0 : Int) ≤ (p1.length : Int),
        (List.map E5 a)[(p1.length : Int).toNat]? = some (E5 x1),
        (0 : Int) ≤ (p1.length : Int),
        (List.map E5 b)[(p1.length : Int).toNat]? = some (E5 x2),
        (x1 != x2) = true]) (by kernel_rfl) (show X.ret ≠ X.go from nofun) (cj (len_nm _ _) (cj (rng_lt h2) (cj (by omega) (cj (rng_get _ h2) (cj (by omega) (cj (map_get h4) (cj1 h5))))))))) (fun h5 =>
       LpO.go [.wait 3, .nm 13 (V.sc (.int .i64 (a.length : Int))), .bit true, .draw [], .el (E5 x1), .el (E5 x2), .bit false, .wait 3, .mask [0, 1, 5], .ren [], .nm 5 (V.sc (.int .i64 ((p1 ++ [x1]).length : Int)))] (p := [V.sc (.int .i64 ((List.map E5 a).length : Int)) = V.sc (.int .i64 (a.length : Int)),
        (decide ((p1.length : Int) < (a.length : Int))) = true,
        (0 : Int) ≤ (p1.length : Int),
        (List.map E5 a)[(p1.length : Int).toNat]? = some (E5 x1),
        (0 : Int) ≤ (p1.length : Int),
        (List.map E5 b)[(p1.length : Int).toNat]? = some (E5 x2),
        (x1 != x2) = false,
        V.sc (.int .i64 (i64 ((p1.length : Int) + 1))) = V.sc (.int .i64 ((p1 ++ [x1]).length : Int))]) (by kernel_rfl) (cj (len_nm _ _) (cj (rng_lt h2) (cj (by omega) (cj (rng_get _ h2) (cj (by omega) (cj (map_get h4) (cj h5 (cj1 (rng_next h2 h3))))))))) (laws_eqByteS_l0_ok a b h3 t1 (p1 ++ [x1]) (rng_step h2))))
def laws_eqByteS (a : List Int) (b : List Int) : Option (Bool) :=
 if ((a.length : Int) != (b.length : Int)) = true then
  some false
 else
  if (capOk a.length) = true then
   (laws_eqByteS_l0 a b a []).bind fun r1 =>
   Lo.elim r1 (fun s1 =>
    some true) (fun s2 =>
    some false)
  else none
theorem laws_eqByteS_ok (a : List Int) (b : List Int) : Pn (fun y => Fn Tryz.prog 101 [(false, E85 a), (false, E85 b)] (E4 y) []) (laws_eqByteS a b) := by
  unfold laws_eqByteS
  exact
   Pn.ite (fun h1 =>
    Pn.some (Fn.of [.wait 3, .nm 7 (V.sc (.int .i64 (a.length : Int))), .wait 2, .nm 9 (V.sc (.int .i64 (b.length : Int))), .bit true] (p := [V.sc (.int .i64 ((List.map E5 a).length : Int)) = V.sc (.int .i64 (a.length : Int)),
     V.sc (.int .i64 ((List.map E5 b).length : Int)) = V.sc (.int .i64 (b.length : Int)),
     ((a.length : Int) != (b.length : Int)) = true]) (by kernel_rfl) (cj (len_nm _ _) (cj (len_nm _ _) (cj1 h1))))) (fun h1 =>
    Pn.ite (fun h6 =>
     Pn.bind (fun r1 h7 =>
      Pn.lo (fun s1 h8 =>
       Pn.some (Fn.of [.wait 3, .nm 7 (V.sc (.int .i64 (a.length : Int))), .wait 2, .nm 9 (V.sc (.int .i64 (b.length : Int))), .bit false, .wait 1, .mask [0, 1, 5], .ren [], .loop (X.out 0) (st 26 [] [] [])] (p := [V.sc (.int .i64 ((List.map E5 a).length : Int)) = V.sc (.int .i64 (a.length : Int)),
        V.sc (.int .i64 ((List.map E5 b).length : Int)) = V.sc (.int .i64 (b.length : Int)),
        ((a.length : Int) != (b.length : Int)) = false,
        Loop Tryz.prog (sub (codeOf Tryz.prog 101) [1, 1, 0, 1, 0, 0]) (st 26 [(0, V.sl false 5 (List.map E5 a)), (1, V.sl false 5 (List.map E5 b)), (5, V.sc (.int .i64 0))] [] []) (X.out 0) (st 26 [] [] [])]) (by kernel_rfl) (cj (len_nm _ _) (cj (len_nm _ _) (cj h1 (cj1 ((laws_eqByteS_l0_ok a b h6 a [] rfl r1 h7).at h8))))))) (fun s2 h9 =>
       Pn.some (Fn.of [.wait 3, .nm 7 (V.sc (.int .i64 (a.length : Int))), .wait 2, .nm 9 (V.sc (.int .i64 (b.length : Int))), .bit false, .wait 1, .mask [0, 1, 5], .ren [], .loop (X.ret) (st 26 [(4, V.sc (.bool false))] [] [])] (p := [V.sc (.int .i64 ((List.map E5 a).length : Int)) = V.sc (.int .i64 (a.length : Int)),
        V.sc (.int .i64 ((List.map E5 b).length : Int)) = V.sc (.int .i64 (b.length : Int)),
        ((a.length : Int) != (b.length : Int)) = false,
        Loop Tryz.prog (sub (codeOf Tryz.prog 101) [1, 1, 0, 1, 0, 0]) (st 26 [(0, V.sl false 5 (List.map E5 a)), (1, V.sl false 5 (List.map E5 b)), (5, V.sc (.int .i64 0))] [] []) (X.ret) (st 26 [(4, V.sc (.bool false))] [] [])]) (by kernel_rfl) (cj (len_nm _ _) (cj (len_nm _ _) (cj h1 (cj1 ((laws_eqByteS_l0_ok a b h6 a [] rfl r1 h7).at h9))))))))) (fun h6 =>
     Pn.none))
def laws_eqSlot (a : Slot) (b : Slot) : Option (Bool) :=
 if (a.Trace == b.Trace) = true then
  if (a.Mti == b.Mti) = true then
   (laws_eqByteS a.Reply b.Reply).bind fun r1 =>
   if r1 = true then
    some true
   else
    some false
  else
   some false
 else
  some false
theorem laws_eqSlot_ok (a : Slot) (b : Slot) : Pn (fun y => Fn Tryz.prog 72 [(false, E94 a), (false, E94 b)] (E4 y) []) (laws_eqSlot a b) := by
  unfold laws_eqSlot
  exact
   Pn.ite (fun h1 =>
    Pn.ite (fun h2 =>
     Pn.bind (fun r1 h3 =>
      Pn.ite (fun h4 =>
       Pn.some (Fn.of [.bit false, .bit false, .call [] (E4 r1) [], .bit false] (p := [(!(a.Trace == b.Trace)) = false,
        (!(a.Mti == b.Mti)) = false,
        Fn Tryz.prog 101 [(false, E85 a.Reply), (false, E85 b.Reply)] (E4 r1) [],
        (true || ((E4 r1).nv && nvL [])) = true,
        (!r1) = false]) (by kernel_rfl) (cj (nf h1) (cj (nf h2) (cj (laws_eqByteS_ok a.Reply b.Reply r1 h3) (cj rfl (cj1 (nf h4)))))))) (fun h4 =>
       Pn.some (Fn.of [.bit false, .bit false, .call [] (E4 r1) [], .bit true] (p := [(!(a.Trace == b.Trace)) = false,
        (!(a.Mti == b.Mti)) = false,
        Fn Tryz.prog 101 [(false, E85 a.Reply), (false, E85 b.Reply)] (E4 r1) [],
        (true || ((E4 r1).nv && nvL [])) = true,
        (!r1) = true]) (by kernel_rfl) (cj (nf h1) (cj (nf h2) (cj (laws_eqByteS_ok a.Reply b.Reply r1 h3) (cj rfl (cj1 (nt h4)))))))))) (fun h2 =>
     Pn.some (Fn.of [.bit false, .bit true] (p := [(!(a.Trace == b.Trace)) = false,
      (!(a.Mti == b.Mti)) = true]) (by kernel_rfl) (cj (nf h1) (cj1 (nt h2)))))) (fun h1 =>
    Pn.some (Fn.of [.bit true] (p := [(!(a.Trace == b.Trace)) = true]) (by kernel_rfl) (cj1 (nt h1))))
def laws_eqSlotS_l0 (a : List Slot) (b : List Slot) : List Slot → List Slot → Option (Lo Unit Unit)
  | [], p1 =>
   some (.out ())
  | x1 :: t1, p1 =>
   (b[(p1.length : Int).toNat]?).bind fun x2 =>
   (laws_eqSlot x1 x2).bind fun r1 =>
   if r1 = true then
    laws_eqSlotS_l0 a b t1 (p1 ++ [x1])
   else
    some (.ret ())
theorem laws_eqSlotS_l0_ok (a : List Slot) (b : List Slot) (h3 : capOk a.length = true) : ∀ (t1 p1 : List Slot) (_ : a = p1 ++ t1) , Pn (LpO Tryz.prog (sub (codeOf Tryz.prog 34) [1, 1, 0, 1, 0, 0]) (st 27 [(0, V.sl false 94 (List.map E94 a)), (1, V.sl false 94 (List.map E94 b)), (5, V.sc (.int .i64 (p1.length : Int)))] [] []) (fun (y : Lo Unit Unit) => Lo.elim y (fun s => (X.out 0, st 27 [] [] [])) (fun s => (X.ret, st 27 [(4, V.sc (.bool false))] [] [])))) (laws_eqSlotS_l0 a b t1 p1)
  | [], p1, h2 => by
    unfold laws_eqSlotS_l0
    exact
     Pn.some (LpO.out [.wait 3, .nm 13 (V.sc (.int .i64 (a.length : Int))), .bit false, .mask [], .ren []] (p := [V.sc (.int .i64 ((List.map E94 a).length : Int)) = V.sc (.int .i64 (a.length : Int)),
      (decide ((p1.length : Int) < (a.length : Int))) = false]) (by kernel_rfl) (show X.out 0 ≠ X.go from nofun) (cj (len_nm _ _) (cj1 (rng_end h2))))
  | x1 :: t1, p1, h2 => by
    unfold laws_eqSlotS_l0
    exact
     Pn.bind (fun x2 h4 =>
      Pn.bind (fun r1 h5 =>
       Pn.ite (fun h6 =>
        LpO.go [.wait 3, .nm 13 (V.sc (.int .i64 (a.length : Int))), .bit true, .draw [], .el (E94 x1), .el (E94 x2), .call [] (E4 r1) [], .bit false, .wait 3, .mask [0, 1, 5], .ren [], .nm 5 (V.sc (.int .i64 ((p1 ++ [x1]).length : Int)))] (p := [V.sc (.int .i64 ((List.map E94 a).length : Int)) = V.sc (.int .i64 (a.length : Int)),
         (decide ((p1.length : Int) < (a.length : Int))) = true,
         (0 : Int) ≤ (p1.length : Int),
         (List.map E94 a)[(p1.length : Int).toNat]? = some (E94 x1),
         (0 : Int) ≤ (p1.length : Int),
         (List.map E94 b)[(p1.length : Int).toNat]? = some (E94 x2),
         Fn Tryz.prog 72 [(false, E94 x1), (false, E94 x2)] (E4 r1) [],
         (true || ((E4 r1).nv && nvL [])) = true,
         (!r1) = false,
         V.sc (.int .i64 (i64 ((p1.length : Int) + 1))) = V.sc (.int .i64 ((p1 ++ [x1]).length : Int))]) (by kernel_rfl) (cj (len_nm _ _) (cj (rng_lt h2) (cj (by omega) (cj (rng_get _ h2) (cj (by omega) (cj (map_get h4) (cj (laws_eqSlot_ok x1 x2 r1 h5) (cj rfl (cj (nf h6) (cj1 (rng_next h2 h3))))))))))) (laws_eqSlotS_l0_ok a b h3 t1 (p1 ++ [x1]) (rng_step h2))) (fun h6 =>
        Pn.some (LpO.out [.wait 3, .nm 13 (V.sc (.int .i64 (a.length : Int))), .bit true, .draw [], .el (E94 x1), .el (E94 x2), .call [] (E4 r1) [], .bit true, .wait 1, .mask [4], .ren []] (p := [V.sc (.int .i64 ((List.map E94 a).length : Int)) = V.sc (.int .i64 (a.length : Int)),
         (decide ((p1.length : Int) < (a.length : Int))) = true,
         (0 : Int) ≤ (p1.length : Int),
         (List.map E94 a)[(p1.length : Int).toNat]? = some (E94 x1),
         (0 : Int) ≤ (p1.length : Int),
         (List.map E94 b)[(p1.length : Int).toNat]? = some (E94 x2),
         Fn Tryz.prog 72 [(false, E94 x1), (false, E94 x2)] (E4 r1) [],
         (true || ((E4 r1).nv && nvL [])) = true,
         (!r1) = true]) (by kernel_rfl) (show X.ret ≠ X.go from nofun) (cj (len_nm _ _) (cj (rng_lt h2) (cj (by omega) (cj (rng_get _ h2) (cj (by omega) (cj (map_get h4) (cj (laws_eqSlot_ok x1 x2 r1 h5) (cj rfl (cj1 (nt h6))))))))))))))
def laws_eqSlotS (a : List Slot) (b : List Slot) : Option (Bool) :=
 if ((a.length : Int) != (b.length : Int)) = true then
  some false
 else
  if (capOk a.length) = true then
   (laws_eqSlotS_l0 a b a []).bind fun r2 =>
   Lo.elim r2 (fun s1 =>
    some true) (fun s2 =>
    some false)
  else none
theorem laws_eqSlotS_ok (a : List Slot) (b : List Slot) : Pn (fun y => Fn Tryz.prog 34 [(false, E32 a), (false, E32 b)] (E4 y) []) (laws_eqSlotS a b) := by
  unfold laws_eqSlotS
  exact
   Pn.ite (fun h1 =>
    Pn.some (Fn.of [.wait 3, .nm 7 (V.sc (.int .i64 (a.length : Int))), .wait 2, .nm 9 (V.sc (.int .i64 (b.length : Int))), .bit true] (p := [V.sc (.int .i64 ((List.map E94 a).length : Int)) = V.sc (.int .i64 (a.length : Int)),
     V.sc (.int .i64 ((List.map E94 b).length : Int)) = V.sc (.int .i64 (b.length : Int)),
     ((a.length : Int) != (b.length : Int)) = true]) (by kernel_rfl) (cj (len_nm _ _) (cj (len_nm _ _) (cj1 h1))))) (fun h1 =>
    Pn.ite (fun h7 =>
     Pn.bind (fun r2 h8 =>
      Pn.lo (fun s1 h9 =>
       Pn.some (Fn.of [.wait 3, .nm 7 (V.sc (.int .i64 (a.length : Int))), .wait 2, .nm 9 (V.sc (.int .i64 (b.length : Int))), .bit false, .wait 1, .mask [0, 1, 5], .ren [], .loop (X.out 0) (st 27 [] [] [])] (p := [V.sc (.int .i64 ((List.map E94 a).length : Int)) = V.sc (.int .i64 (a.length : Int)),
        V.sc (.int .i64 ((List.map E94 b).length : Int)) = V.sc (.int .i64 (b.length : Int)),
        ((a.length : Int) != (b.length : Int)) = false,
        Loop Tryz.prog (sub (codeOf Tryz.prog 34) [1, 1, 0, 1, 0, 0]) (st 27 [(0, V.sl false 94 (List.map E94 a)), (1, V.sl false 94 (List.map E94 b)), (5, V.sc (.int .i64 0))] [] []) (X.out 0) (st 27 [] [] [])]) (by kernel_rfl) (cj (len_nm _ _) (cj (len_nm _ _) (cj h1 (cj1 ((laws_eqSlotS_l0_ok a b h7 a [] rfl r2 h8).at h9))))))) (fun s2 h10 =>
       Pn.some (Fn.of [.wait 3, .nm 7 (V.sc (.int .i64 (a.length : Int))), .wait 2, .nm 9 (V.sc (.int .i64 (b.length : Int))), .bit false, .wait 1, .mask [0, 1, 5], .ren [], .loop (X.ret) (st 27 [(4, V.sc (.bool false))] [] [])] (p := [V.sc (.int .i64 ((List.map E94 a).length : Int)) = V.sc (.int .i64 (a.length : Int)),
        V.sc (.int .i64 ((List.map E94 b).length : Int)) = V.sc (.int .i64 (b.length : Int)),
        ((a.length : Int) != (b.length : Int)) = false,
        Loop Tryz.prog (sub (codeOf Tryz.prog 34) [1, 1, 0, 1, 0, 0]) (st 27 [(0, V.sl false 94 (List.map E94 a)), (1, V.sl false 94 (List.map E94 b)), (5, V.sc (.int .i64 0))] [] []) (X.ret) (st 27 [(4, V.sc (.bool false))] [] [])]) (by kernel_rfl) (cj (len_nm _ _) (cj (len_nm _ _) (cj h1 (cj1 ((laws_eqSlotS_l0_ok a b h7 a [] rfl r2 h8).at h10))))))))) (fun h7 =>
     Pn.none))
def laws_eqAcct (a : Acct) (b : Acct) : Option (Bool) :=
 if (a.Id == b.Id) = true then
  if (a.Limit != b.Limit) = true then
   some false
  else
   if (a.Posted != b.Posted) = true then
    some false
   else
    if (a.Most != b.Most) = true then
     some false
    else
     if (a.MostSum != b.MostSum) = true then
      some false
     else
      (laws_eqHoldS a.Holds b.Holds).bind fun r1 =>
      if r1 = true then
       (laws_eqRing a.Ring b.Ring).bind fun r2 =>
       if r2 = true then
        (laws_eqSlotS a.Slots b.Slots).bind fun r3 =>
        if r3 = true then
         some true
        else
         some false
       else
        some false
      else
       some false
 else
  some false
theorem laws_eqAcct_ok (a : Acct) (b : Acct) : Pn (fun y => Fn Tryz.prog 10 [(false, E34 a), (false, E34 b)] (E4 y) []) (laws_eqAcct a b) := by
  unfold laws_eqAcct
  exact
   Pn.ite (fun h1 =>
    Pn.ite (fun h2 =>
     Pn.some (Fn.of [.bit false, .bit true] (p := [(!(a.Id == b.Id)) = false,
      (a.Limit != b.Limit) = true]) (by kernel_rfl) (cj (nf h1) (cj1 h2)))) (fun h2 =>
     Pn.ite (fun h3 =>
      Pn.some (Fn.of [.bit false, .bit false, .bit true] (p := [(!(a.Id == b.Id)) = false,
       (a.Limit != b.Limit) = false,
       (a.Posted != b.Posted) = true]) (by kernel_rfl) (cj (nf h1) (cj h2 (cj1 h3))))) (fun h3 =>
      Pn.ite (fun h4 =>
       Pn.some (Fn.of [.bit false, .bit false, .bit false, .bit true] (p := [(!(a.Id == b.Id)) = false,
        (a.Limit != b.Limit) = false,
        (a.Posted != b.Posted) = false,
        (a.Most != b.Most) = true]) (by kernel_rfl) (cj (nf h1) (cj h2 (cj h3 (cj1 h4)))))) (fun h4 =>
       Pn.ite (fun h5 =>
        Pn.some (Fn.of [.bit false, .bit false, .bit false, .bit false, .bit true] (p := [(!(a.Id == b.Id)) = false,
         (a.Limit != b.Limit) = false,
         (a.Posted != b.Posted) = false,
         (a.Most != b.Most) = false,
         (a.MostSum != b.MostSum) = true]) (by kernel_rfl) (cj (nf h1) (cj h2 (cj h3 (cj h4 (cj1 h5))))))) (fun h5 =>
        Pn.bind (fun r1 h6 =>
         Pn.ite (fun h7 =>
          Pn.bind (fun r2 h8 =>
           Pn.ite (fun h9 =>
            Pn.bind (fun r3 h10 =>
             Pn.ite (fun h11 =>
              Pn.some (Fn.of [.bit false, .bit false, .bit false, .bit false, .bit false, .call [] (E4 r1) [], .bit false, .call [] (E4 r2) [], .bit false, .call [] (E4 r3) [], .bit false] (p := [(!(a.Id == b.Id)) = false,
               (a.Limit != b.Limit) = false,
               (a.Posted != b.Posted) = false,
               (a.Most != b.Most) = false,
               (a.MostSum != b.MostSum) = false,
               Fn Tryz.prog 32 [(false, E30 a.Holds), (false, E30 b.Holds)] (E4 r1) [],
               (true || ((E4 r1).nv && nvL [])) = true,
               (!r1) = false,
               Fn Tryz.prog 33 [(false, E31 a.Ring), (false, E31 b.Ring)] (E4 r2) [],
               (true || ((E4 r2).nv && nvL [])) = true,
               (!r2) = false,
               Fn Tryz.prog 34 [(false, E32 a.Slots), (false, E32 b.Slots)] (E4 r3) [],
               (true || ((E4 r3).nv && nvL [])) = true,
               (!r3) = false]) (by kernel_rfl) (cj (nf h1) (cj h2 (cj h3 (cj h4 (cj h5 (cj (laws_eqHoldS_ok a.Holds b.Holds r1 h6) (cj rfl (cj (nf h7) (cj (laws_eqRing_ok a.Ring b.Ring r2 h8) (cj rfl (cj (nf h9) (cj (laws_eqSlotS_ok a.Slots b.Slots r3 h10) (cj rfl (cj1 (nf h11))))))))))))))))) (fun h11 =>
              Pn.some (Fn.of [.bit false, .bit false, .bit false, .bit false, .bit false, .call [] (E4 r1) [], .bit false, .call [] (E4 r2) [], .bit false, .call [] (E4 r3) [], .bit true] (p := [(!(a.Id == b.Id)) = false,
               (a.Limit != b.Limit) = false,
               (a.Posted != b.Posted) = false,
               (a.Most != b.Most) = false,
               (a.MostSum != b.MostSum) = false,
               Fn Tryz.prog 32 [(false, E30 a.Holds), (false, E30 b.Holds)] (E4 r1) [],
               (true || ((E4 r1).nv && nvL [])) = true,
               (!r1) = false,
               Fn Tryz.prog 33 [(false, E31 a.Ring), (false, E31 b.Ring)] (E4 r2) [],
               (true || ((E4 r2).nv && nvL [])) = true,
               (!r2) = false,
               Fn Tryz.prog 34 [(false, E32 a.Slots), (false, E32 b.Slots)] (E4 r3) [],
               (true || ((E4 r3).nv && nvL [])) = true,
               (!r3) = true]) (by kernel_rfl) (cj (nf h1) (cj h2 (cj h3 (cj h4 (cj h5 (cj (laws_eqHoldS_ok a.Holds b.Holds r1 h6) (cj rfl (cj (nf h7) (cj (laws_eqRing_ok a.Ring b.Ring r2 h8) (cj rfl (cj (nf h9) (cj (laws_eqSlotS_ok a.Slots b.Slots r3 h10) (cj rfl (cj1 (nt h11))))))))))))))))))) (fun h9 =>
            Pn.some (Fn.of [.bit false, .bit false, .bit false, .bit false, .bit false, .call [] (E4 r1) [], .bit false, .call [] (E4 r2) [], .bit true] (p := [(!(a.Id == b.Id)) = false,
             (a.Limit != b.Limit) = false,
             (a.Posted != b.Posted) = false,
             (a.Most != b.Most) = false,
             (a.MostSum != b.MostSum) = false,
             Fn Tryz.prog 32 [(false, E30 a.Holds), (false, E30 b.Holds)] (E4 r1) [],
             (true || ((E4 r1).nv && nvL [])) = true,
             (!r1) = false,
             Fn Tryz.prog 33 [(false, E31 a.Ring), (false, E31 b.Ring)] (E4 r2) [],
             (true || ((E4 r2).nv && nvL [])) = true,
             (!r2) = true]) (by kernel_rfl) (cj (nf h1) (cj h2 (cj h3 (cj h4 (cj h5 (cj (laws_eqHoldS_ok a.Holds b.Holds r1 h6) (cj rfl (cj (nf h7) (cj (laws_eqRing_ok a.Ring b.Ring r2 h8) (cj rfl (cj1 (nt h9)))))))))))))))) (fun h7 =>
          Pn.some (Fn.of [.bit false, .bit false, .bit false, .bit false, .bit false, .call [] (E4 r1) [], .bit true] (p := [(!(a.Id == b.Id)) = false,
           (a.Limit != b.Limit) = false,
           (a.Posted != b.Posted) = false,
           (a.Most != b.Most) = false,
           (a.MostSum != b.MostSum) = false,
           Fn Tryz.prog 32 [(false, E30 a.Holds), (false, E30 b.Holds)] (E4 r1) [],
           (true || ((E4 r1).nv && nvL [])) = true,
           (!r1) = true]) (by kernel_rfl) (cj (nf h1) (cj h2 (cj h3 (cj h4 (cj h5 (cj (laws_eqHoldS_ok a.Holds b.Holds r1 h6) (cj rfl (cj1 (nt h7))))))))))))))))) (fun h1 =>
    Pn.some (Fn.of [.bit true] (p := [(!(a.Id == b.Id)) = true]) (by kernel_rfl) (cj1 (nt h1))))
def laws_markText_l0  : Nat → Int → ByteArray → Option (ByteArray)
  | 0, _, _ => none
  | n + 1, v1, v2 =>
   if (decide (0 < v1)) = true then
    if (decide ((bstr [u8 (i64 (48 + (Int.tmod v1 10)))]).size + v2.size ≤ 9223372036854775807)) = true then
     laws_markText_l0 n (i64 (Int.tdiv v1 10)) ((bstr [u8 (i64 (48 + (Int.tmod v1 10)))]) ++ v2)
    else none
   else
    some v2
theorem laws_markText_l0_ok  : ∀ (n : Nat) (v1 : Int) (v2 : ByteArray), Pn (LpO Tryz.prog (sub (codeOf Tryz.prog 73) [1, 1, 1, 0, 0, 0]) (st 20 [(0, V.sc (.int .i64 v1)), (3, V.sc (.string v2))] [] []) (fun (y : ByteArray) => (X.out 0, st 20 [(3, V.sc (.string y))] [] []))) (laws_markText_l0 n v1 v2)
  | 0, _, _ => Pn.none
  | n + 1, v1, v2 => by
    unfold laws_markText_l0
    exact
     Pn.ite (fun h2 =>
      Pn.ite (fun h3 =>
       LpO.go [.bit true, .ints [u8 (i64 (48 + (Int.tmod v1 10)))], .wait 7, .mask [0, 3], .ren []] (p := [(decide (0 < v1)) = true,
        (10 : Int) ≠ 0,
        [V.sc (.int .u8 (u8 (i64 (48 + (Int.tmod v1 10)))))] = [u8 (i64 (48 + (Int.tmod v1 10)))].map fun n => V.sc (.int .u8 n),
        (bstr [u8 (i64 (48 + (Int.tmod v1 10)))]).size + v2.size ≤ 9223372036854775807,
        (10 : Int) ≠ 0]) (by kernel_rfl) (cj h2 (cj (by decide) (cj rfl (cj (od h3) (cj1 (by decide)))))) (laws_markText_l0_ok n (i64 (Int.tdiv v1 10)) ((bstr [u8 (i64 (48 + (Int.tmod v1 10)))]) ++ v2))) (fun h3 =>
       Pn.none)) (fun h2 =>
      Pn.some (LpO.out [.bit false, .mask [3], .ren []] (p := [(decide (0 < v1)) = false]) (by kernel_rfl) (show X.out 0 ≠ X.go from nofun) (cj1 h2)))
def laws_markText (k : Int) : Option (ByteArray) :=
 if (decide (k ≤ 0)) = true then
  some (bs [109, 48])
 else
  (laws_markText_l0 FUEL k (bs [])).bind fun r1 =>
  if (decide ((bs [109]).size + r1.size ≤ 9223372036854775807)) = true then
   some ((bs [109]) ++ r1)
  else none
theorem laws_markText_ok (k : Int) : Pn (fun y => Fn Tryz.prog 73 [(false, E3 k)] (E9 y) []) (laws_markText k) := by
  unfold laws_markText
  exact
   Pn.ite (fun h1 =>
    Pn.some (Fn.of [.bit true] (p := [(decide (k ≤ 0)) = true]) (by kernel_rfl) (cj1 h1))) (fun h1 =>
    Pn.bind (fun r1 h4 =>
     Pn.ite (fun h5 =>
      Pn.some (Fn.of [.bit false, .wait 1, .mask [0, 3], .ren [], .loop (X.out 0) (st 20 [(3, V.sc (.string r1))] [] [])] (p := [(decide (k ≤ 0)) = false,
       Loop Tryz.prog (sub (codeOf Tryz.prog 73) [1, 1, 1, 0, 0, 0]) (st 20 [(0, V.sc (.int .i64 k)), (3, V.sc (.string (bs [])))] [] []) (X.out 0) (st 20 [(3, V.sc (.string r1))] [] []),
       (bs [109]).size + r1.size ≤ 9223372036854775807]) (by kernel_rfl) (cj h1 (cj (laws_markText_l0_ok FUEL k (bs []) r1 h4) (cj1 (od h5)))))) (fun h5 =>
      Pn.none)))
def laws_markHoldS_l0  : Nat → Int → Int → (List Hold) → Option (Int × (List Hold))
  | 0, _, _, _ => none
  | n + 1, v1, v2, v3 =>
   if (decide (v2 < (v3.length : Int))) = true then
    (laws_markText v1).bind fun r1 =>
    if (decide (0 ≤ v2)) = true then
     (v3[v2.toNat]?).bind fun x1 =>
     ((v3.set v2.toNat (Hold.mk r1 x1.Amount x1.Due))[v2.toNat]?).bind fun x2 =>
     (((v3.set v2.toNat (Hold.mk r1 x1.Amount x1.Due)).set v2.toNat (Hold.mk x2.Id (i64 (v1 + 1)) x2.Due))[v2.toNat]?).bind fun x3 =>
     laws_markHoldS_l0 n (i64 ((i64 ((i64 (v1 + 1)) + 1)) + 1)) (i64 (v2 + 1)) (((v3.set v2.toNat (Hold.mk r1 x1.Amount x1.Due)).set v2.toNat (Hold.mk x2.Id (i64 (v1 + 1)) x2.Due)).set v2.toNat (Hold.mk x3.Id x3.Amount (i64 ((i64 (v1 + 1)) + 1))))
    else none
   else
    some (v1, v3)
theorem laws_markHoldS_l0_ok  : ∀ (n : Nat) (v1 : Int) (v2 : Int) (v3 : List Hold), Pn (LpO Tryz.prog (sub (codeOf Tryz.prog 35) [1, 0, 1, 0, 0]) (st 35 [(0, V.ow 0), (1, V.sc (.int .i64 v1)), (5, V.sc (.int .i64 v2))] [Blk.row 74 (List.map E74 v3) []] [some 0]) (fun (y : Int × (List Hold)) => (X.out 0, st 35 [(1, V.sc (.int .i64 y.1))] [Blk.row 74 (List.map E74 y.2) []] [some 0]))) (laws_markHoldS_l0 n v1 v2 v3)
  | 0, _, _, _ => Pn.none
  | n + 1, v1, v2, v3 => by
    unfold laws_markHoldS_l0
    exact
     Pn.ite (fun h1 =>
      Pn.bind (fun r1 h2 =>
       Pn.ite (fun h3 =>
        Pn.bind (fun x1 h4 =>
         Pn.bind (fun x2 h5 =>
          Pn.bind (fun x3 h6 =>
           LpO.go [.wait 3, .nm 8 (V.sc (.int .i64 (v3.length : Int))), .bit true, .call [] (E9 r1) [], .el (E74 x1), .nb 0 (.row 74 (List.map E74 (v3.set v2.toNat (Hold.mk r1 x1.Amount x1.Due))) []), .el (E74 x2), .nb 0 (.row 74 (List.map E74 ((v3.set v2.toNat (Hold.mk r1 x1.Amount x1.Due)).set v2.toNat (Hold.mk x2.Id (i64 (v1 + 1)) x2.Due))) []), .el (E74 x3), .nb 0 (.row 74 (List.map E74 (((v3.set v2.toNat (Hold.mk r1 x1.Amount x1.Due)).set v2.toNat (Hold.mk x2.Id (i64 (v1 + 1)) x2.Due)).set v2.toNat (Hold.mk x3.Id x3.Amount (i64 ((i64 (v1 + 1)) + 1))))) []), .wait 7, .mask [0, 1, 5], .ren [0]] (p := [V.sc (.int .i64 ((List.map E74 v3).length : Int)) = V.sc (.int .i64 (v3.length : Int)),
            (decide (v2 < (v3.length : Int))) = true,
            Fn Tryz.prog 73 [(false, E3 v1)] (E9 r1) [],
            (true || ((E9 r1).nv && nvL [])) = true,
            (0 : Int) ≤ v2,
            (v2 : Int) < ((List.map E74 v3).length : Int),
            look [] v2.toNat = none,
            (List.map E74 v3)[v2.toNat]? = some (E74 x1),
            Blk.row 74 ((List.map E74 v3).set v2.toNat (V.agg [V.sc (.string r1), V.sc (.int .i64 x1.Amount), V.sc (.int .i64 x1.Due)])) [] = Blk.row 74 (List.map E74 (v3.set v2.toNat (Hold.mk r1 x1.Amount x1.Due))) [],
            (0 : Int) ≤ v2,
            (v2 : Int) < ((List.map E74 (v3.set v2.toNat (Hold.mk r1 x1.Amount x1.Due))).length : Int),
            look [] v2.toNat = none,
            (List.map E74 (v3.set v2.toNat (Hold.mk r1 x1.Amount x1.Due)))[v2.toNat]? = some (E74 x2),
            Blk.row 74 ((List.map E74 (v3.set v2.toNat (Hold.mk r1 x1.Amount x1.Due))).set v2.toNat (V.agg [V.sc (.string x2.Id), V.sc (.int .i64 (i64 (v1 + 1))), V.sc (.int .i64 x2.Due)])) [] = Blk.row 74 (List.map E74 ((v3.set v2.toNat (Hold.mk r1 x1.Amount x1.Due)).set v2.toNat (Hold.mk x2.Id (i64 (v1 + 1)) x2.Due))) [],
            (0 : Int) ≤ v2,
            (v2 : Int) < ((List.map E74 ((v3.set v2.toNat (Hold.mk r1 x1.Amount x1.Due)).set v2.toNat (Hold.mk x2.Id (i64 (v1 + 1)) x2.Due))).length : Int),
            look [] v2.toNat = none,
            (List.map E74 ((v3.set v2.toNat (Hold.mk r1 x1.Amount x1.Due)).set v2.toNat (Hold.mk x2.Id (i64 (v1 + 1)) x2.Due)))[v2.toNat]? = some (E74 x3),
            Blk.row 74 ((List.map E74 ((v3.set v2.toNat (Hold.mk r1 x1.Amount x1.Due)).set v2.toNat (Hold.mk x2.Id (i64 (v1 + 1)) x2.Due))).set v2.toNat (V.agg [V.sc (.string x3.Id), V.sc (.int .i64 x3.Amount), V.sc (.int .i64 (i64 ((i64 (v1 + 1)) + 1)))])) [] = Blk.row 74 (List.map E74 (((v3.set v2.toNat (Hold.mk r1 x1.Amount x1.Due)).set v2.toNat (Hold.mk x2.Id (i64 (v1 + 1)) x2.Due)).set v2.toNat (Hold.mk x3.Id x3.Amount (i64 ((i64 (v1 + 1)) + 1))))) []]) (by kernel_rfl) (cj (len_nm _ _) (cj h1 (cj (laws_markText_ok v1 r1 h2) (cj rfl (cj (od h3) (cj (map_ltN (od h3) h4) (cj rfl (cj (map_get h4) (cj (nb_set E74 _ _ (Hold.mk r1 x1.Amount x1.Due)) (cj (od h3) (cj (map_ltN (od h3) h5) (cj rfl (cj (map_get h5) (cj (nb_set E74 _ _ (Hold.mk x2.Id (i64 (v1 + 1)) x2.Due)) (cj (od h3) (cj (map_ltN (od h3) h6) (cj rfl (cj (map_get h6) (cj1 (nb_set E74 _ _ (Hold.mk x3.Id x3.Amount (i64 ((i64 (v1 + 1)) + 1))))))))))))))))))))))) (laws_markHoldS_l0_ok n (i64 ((i64 ((i64 (v1 + 1)) + 1)) + 1)) (i64 (v2 + 1)) (((v3.set v2.toNat (Hold.mk r1 x1.Amount x1.Due)).set v2.toNat (Hold.mk x2.Id (i64 (v1 + 1)) x2.Due)).set v2.toNat (Hold.mk x3.Id x3.Amount (i64 ((i64 (v1 + 1)) + 1))))))))) (fun h3 =>
        Pn.none))) (fun h1 =>
      Pn.some (LpO.out [.wait 3, .nm 8 (V.sc (.int .i64 (v3.length : Int))), .bit false, .mask [1], .ren [0]] (p := [V.sc (.int .i64 ((List.map E74 v3).length : Int)) = V.sc (.int .i64 (v3.length : Int)),
       (decide (v2 < (v3.length : Int))) = false]) (by kernel_rfl) (show X.out 0 ≠ X.go from nofun) (cj (len_nm _ _) (cj1 h1))))
def laws_markHoldS (a : List Hold) (k : Int) : Option (Int × (List Hold)) :=
 (laws_markHoldS_l0 FUEL k 0 a).bind fun r2 =>
 some (r2.1, r2.2)
theorem laws_markHoldS_ok (a : List Hold) (k : Int) : Pn (fun y => Fn Tryz.prog 35 [(true, E30 a), (false, E3 k)] (E3 y.1) [V.sl true 74 (List.map E74 y.2)]) (laws_markHoldS a k) := by
  unfold laws_markHoldS
  exact
   Pn.bind (fun r2 h7 =>
    Pn.some (Fn.of [.wait 3, .mask [0, 1, 5], .ren [0], .loop (X.out 0) (st 35 [(1, V.sc (.int .i64 r2.1))] [Blk.row 74 (List.map E74 r2.2) []] [some 0])] (p := [Loop Tryz.prog (sub (codeOf Tryz.prog 35) [1, 0, 1, 0, 0]) (st 35 [(0, V.ow 0), (1, V.sc (.int .i64 k)), (5, V.sc (.int .i64 0))] [Blk.row 74 (List.map E74 a) []] [some 0]) (X.out 0) (st 35 [(1, V.sc (.int .i64 r2.1))] [Blk.row 74 (List.map E74 r2.2) []] [some 0])]) (by kernel_rfl) (cj1 (laws_markHoldS_l0_ok FUEL k 0 a r2 h7))))
def laws_markIntS_l0  : Nat → Int → Int → (List Int) → Option (Int × (List Int))
  | 0, _, _, _ => none
  | n + 1, v1, v2, v3 =>
   if (decide (v2 < (v3.length : Int))) = true then
    if (decide (0 ≤ v2)) = true then
     (v3[v2.toNat]?).bind fun x1 =>
     laws_markIntS_l0 n (i64 (v1 + 1)) (i64 (v2 + 1)) (v3.set v2.toNat v1)
    else none
   else
    some (v1, v3)
theorem laws_markIntS_l0_ok  : ∀ (n : Nat) (v1 : Int) (v2 : Int) (v3 : List Int), Pn (LpO Tryz.prog (sub (codeOf Tryz.prog 74) [1, 0, 1, 0, 0]) (st 19 [(0, V.ow 0), (1, V.sc (.int .i64 v1)), (5, V.sc (.int .i64 v2))] [Blk.row 3 (List.map E3 v3) []] [some 0]) (fun (y : Int × (List Int)) => (X.out 0, st 19 [(1, V.sc (.int .i64 y.1))] [Blk.row 3 (List.map E3 y.2) []] [some 0]))) (laws_markIntS_l0 n v1 v2 v3)
  | 0, _, _, _ => Pn.none
  | n + 1, v1, v2, v3 => by
    unfold laws_markIntS_l0
    exact
     Pn.ite (fun h1 =>
      Pn.ite (fun h2 =>
       Pn.bind (fun x1 h3 =>
        LpO.go [.wait 3, .nm 8 (V.sc (.int .i64 (v3.length : Int))), .bit true, .el (E3 x1), .nb 0 (.row 3 (List.map E3 (v3.set v2.toNat v1)) []), .wait 7, .mask [0, 1, 5], .ren [0]] (p := [V.sc (.int .i64 ((List.map E3 v3).length : Int)) = V.sc (.int .i64 (v3.length : Int)),
         (decide (v2 < (v3.length : Int))) = true,
         (0 : Int) ≤ v2,
         (v2 : Int) < ((List.map E3 v3).length : Int),
         look [] v2.toNat = none,
         (List.map E3 v3)[v2.toNat]? = some (E3 x1),
         Blk.row 3 ((List.map E3 v3).set v2.toNat (V.sc (.int .i64 v1))) [] = Blk.row 3 (List.map E3 (v3.set v2.toNat v1)) []]) (by kernel_rfl) (cj (len_nm _ _) (cj h1 (cj (od h2) (cj (map_ltN (od h2) h3) (cj rfl (cj (map_get h3) (cj1 (nb_set E3 _ _ v1)))))))) (laws_markIntS_l0_ok n (i64 (v1 + 1)) (i64 (v2 + 1)) (v3.set v2.toNat v1)))) (fun h2 =>
       Pn.none)) (fun h1 =>
      Pn.some (LpO.out [.wait 3, .nm 8 (V.sc (.int .i64 (v3.length : Int))), .bit false, .mask [1], .ren [0]] (p := [V.sc (.int .i64 ((List.map E3 v3).length : Int)) = V.sc (.int .i64 (v3.length : Int)),
       (decide (v2 < (v3.length : Int))) = false]) (by kernel_rfl) (show X.out 0 ≠ X.go from nofun) (cj (len_nm _ _) (cj1 h1))))
def laws_markIntS (a : List Int) (k : Int) : Option (Int × (List Int)) :=
 (laws_markIntS_l0 FUEL k 0 a).bind fun r1 =>
 some (r1.1, r1.2)
theorem laws_markIntS_ok (a : List Int) (k : Int) : Pn (fun y => Fn Tryz.prog 74 [(true, E23 a), (false, E3 k)] (E3 y.1) [V.sl true 3 (List.map E3 y.2)]) (laws_markIntS a k) := by
  unfold laws_markIntS
  exact
   Pn.bind (fun r1 h4 =>
    Pn.some (Fn.of [.wait 3, .mask [0, 1, 5], .ren [0], .loop (X.out 0) (st 19 [(1, V.sc (.int .i64 r1.1))] [Blk.row 3 (List.map E3 r1.2) []] [some 0])] (p := [Loop Tryz.prog (sub (codeOf Tryz.prog 74) [1, 0, 1, 0, 0]) (st 19 [(0, V.ow 0), (1, V.sc (.int .i64 k)), (5, V.sc (.int .i64 0))] [Blk.row 3 (List.map E3 a) []] [some 0]) (X.out 0) (st 19 [(1, V.sc (.int .i64 r1.1))] [Blk.row 3 (List.map E3 r1.2) []] [some 0])]) (by kernel_rfl) (cj1 (laws_markIntS_l0_ok FUEL k 0 a r1 h4))))
def laws_markRing (a : Ring) (k : Int) : Option (Int × (List Int) × (List Int)) :=
 (laws_markIntS a.Counts k).bind fun r1 =>
 (laws_markIntS a.Sums r1.1).bind fun r2 =>
 some (r2.1, r1.2, r2.2)
theorem laws_markRing_ok (a : Ring) (k : Int) : Pn (fun y => Fn Tryz.prog 36 [(true, E31 a), (false, E3 k)] (E3 y.1) [V.sl true 3 (List.map E3 y.2.1), V.sl true 3 (List.map E3 y.2.2)]) (laws_markRing a k) := by
  unfold laws_markRing
  exact
   Pn.bind (fun r1 h1 =>
    Pn.bind (fun r2 h2 =>
     Pn.some (Fn.of [.call [true, false] (E3 r1.1) [V.sl true 3 (List.map E3 r1.2)], .call [true, false] (E3 r2.1) [V.sl true 3 (List.map E3 r2.2)]] (p := [Fn Tryz.prog 74 [(true, E23 a.Counts), (false, E3 k)] (E3 r1.1) [V.sl true 3 (List.map E3 r1.2)],
      (true || ((E3 r1.1).nv && nvL [V.sl true 3 (List.map E3 r1.2)])) = true,
      Fn Tryz.prog 74 [(true, E23 a.Sums), (false, E3 r1.1)] (E3 r2.1) [V.sl true 3 (List.map E3 r2.2)],
      (true || ((E3 r2.1).nv && nvL [V.sl true 3 (List.map E3 r2.2)])) = true]) (by kernel_rfl) (cj (laws_markIntS_ok a.Counts k r1 h1) (cj rfl (cj (laws_markIntS_ok a.Sums r1.1 r2 h2) (cj1 rfl)))))))
def laws_markByteS_l0  : Nat → Int → Int → (List Int) → Option (Int × (List Int))
  | 0, _, _, _ => none
  | n + 1, v1, v2, v3 =>
   if (decide (v2 < (v3.length : Int))) = true then
    if (decide (0 ≤ v2)) = true then
     (v3[v2.toNat]?).bind fun x1 =>
     laws_markByteS_l0 n (i64 (v1 + 1)) (i64 (v2 + 1)) (v3.set v2.toNat (u8 v1))
    else none
   else
    some (v1, v3)
theorem laws_markByteS_l0_ok  : ∀ (n : Nat) (v1 : Int) (v2 : Int) (v3 : List Int), Pn (LpO Tryz.prog (sub (codeOf Tryz.prog 75) [1, 0, 1, 0, 0]) (st 20 [(0, V.ow 0), (1, V.sc (.int .i64 v1)), (5, V.sc (.int .i64 v2))] [Blk.row 5 (List.map E5 v3) []] [some 0]) (fun (y : Int × (List Int)) => (X.out 0, st 20 [(1, V.sc (.int .i64 y.1))] [Blk.row 5 (List.map E5 y.2) []] [some 0]))) (laws_markByteS_l0 n v1 v2 v3)
  | 0, _, _, _ => Pn.none
  | n + 1, v1, v2, v3 => by
    unfold laws_markByteS_l0
    exact
     Pn.ite (fun h1 =>
      Pn.ite (fun h2 =>
       Pn.bind (fun x1 h3 =>
        LpO.go [.wait 3, .nm 8 (V.sc (.int .i64 (v3.length : Int))), .bit true, .el (E5 x1), .nb 0 (.row 5 (List.map E5 (v3.set v2.toNat (u8 v1))) []), .wait 7, .mask [0, 1, 5], .ren [0]] (p := [V.sc (.int .i64 ((List.map E5 v3).length : Int)) = V.sc (.int .i64 (v3.length : Int)),
         (decide (v2 < (v3.length : Int))) = true,
         (0 : Int) ≤ v2,
         (v2 : Int) < ((List.map E5 v3).length : Int),
         look [] v2.toNat = none,
         (List.map E5 v3)[v2.toNat]? = some (E5 x1),
         Blk.row 5 ((List.map E5 v3).set v2.toNat (V.sc (.int .u8 (u8 v1)))) [] = Blk.row 5 (List.map E5 (v3.set v2.toNat (u8 v1))) []]) (by kernel_rfl) (cj (len_nm _ _) (cj h1 (cj (od h2) (cj (map_ltN (od h2) h3) (cj rfl (cj (map_get h3) (cj1 (nb_set E5 _ _ (u8 v1))))))))) (laws_markByteS_l0_ok n (i64 (v1 + 1)) (i64 (v2 + 1)) (v3.set v2.toNat (u8 v1))))) (fun h2 =>
       Pn.none)) (fun h1 =>
      Pn.some (LpO.out [.wait 3, .nm 8 (V.sc (.int .i64 (v3.length : Int))), .bit false, .mask [1], .ren [0]] (p := [V.sc (.int .i64 ((List.map E5 v3).length : Int)) = V.sc (.int .i64 (v3.length : Int)),
       (decide (v2 < (v3.length : Int))) = false]) (by kernel_rfl) (show X.out 0 ≠ X.go from nofun) (cj (len_nm _ _) (cj1 h1))))
def laws_markByteS (a : List Int) (k : Int) : Option (Int × (List Int)) :=
 (laws_markByteS_l0 FUEL k 0 a).bind fun r1 =>
 some (r1.1, r1.2)
theorem laws_markByteS_ok (a : List Int) (k : Int) : Pn (fun y => Fn Tryz.prog 75 [(true, E85 a), (false, E3 k)] (E3 y.1) [V.sl true 5 (List.map E5 y.2)]) (laws_markByteS a k) := by
  unfold laws_markByteS
  exact
   Pn.bind (fun r1 h4 =>
    Pn.some (Fn.of [.wait 3, .mask [0, 1, 5], .ren [0], .loop (X.out 0) (st 20 [(1, V.sc (.int .i64 r1.1))] [Blk.row 5 (List.map E5 r1.2) []] [some 0])] (p := [Loop Tryz.prog (sub (codeOf Tryz.prog 75) [1, 0, 1, 0, 0]) (st 20 [(0, V.ow 0), (1, V.sc (.int .i64 k)), (5, V.sc (.int .i64 0))] [Blk.row 5 (List.map E5 a) []] [some 0]) (X.out 0) (st 20 [(1, V.sc (.int .i64 r1.1))] [Blk.row 5 (List.map E5 r1.2) []] [some 0])]) (by kernel_rfl) (cj1 (laws_markByteS_l0_ok FUEL k 0 a r1 h4))))
def laws_markSlotS_l0  : Nat → Int → Int → (List Slot) → Option (Int × (List Slot))
  | 0, _, _, _ => none
  | n + 1, v1, v2, v3 =>
   if (decide (v2 < (v3.length : Int))) = true then
    (laws_markText v1).bind fun r1 =>
    if (decide (0 ≤ v2)) = true then
     (v3[v2.toNat]?).bind fun x1 =>
     (laws_markText (i64 (v1 + 1))).bind fun r2 =>
     (laws_markByteS x1.Reply (i64 ((i64 (v1 + 1)) + 1))).bind fun r3 =>
     laws_markSlotS_l0 n r3.1 (i64 (v2 + 1)) (v3.set v2.toNat (Slot.mk r1 r2 r3.2))
    else none
   else
    some (v1, v3)
theorem laws_markSlotS_l0_ok  : ∀ (n : Nat) (v1 : Int) (v2 : Int) (v3 : List Slot), Pn (LpO Tryz.prog (sub (codeOf Tryz.prog 37) [1, 0, 1, 0, 0]) (st 36 [(0, V.ow 0), (1, V.sc (.int .i64 v1)), (5, V.sc (.int .i64 v2))] [Blk.row 94 (List.map E94 v3) []] [some 0]) (fun (y : Int × (List Slot)) => (X.out 0, st 36 [(1, V.sc (.int .i64 y.1))] [Blk.row 94 (List.map E94 y.2) []] [some 0]))) (laws_markSlotS_l0 n v1 v2 v3)
  | 0, _, _, _ => Pn.none
  | n + 1, v1, v2, v3 => by
    unfold laws_markSlotS_l0
    exact
     Pn.ite (fun h1 =>
      Pn.bind (fun r1 h2 =>
       Pn.ite (fun h3 =>
        Pn.bind (fun x1 h4 =>
         Pn.bind (fun r2 h5 =>
          Pn.bind (fun r3 h6 =>
           LpO.go [.wait 3, .nm 8 (V.sc (.int .i64 (v3.length : Int))), .bit true, .call [] (E9 r1) [], .wait 1, .foc 0 v2.toNat (E94 x1), .fo 0, .call [] (E9 r2) [], .fo 0, .fo 0, .call [true, false] (E3 r3.1) [V.sl true 5 (List.map E5 r3.2)], .wait 5, .shut 0, .nb 0 (.row 94 (List.map E94 (v3.set v2.toNat (Slot.mk r1 r2 r3.2))) []), .mask [0, 1, 5], .ren [0]] (p := [V.sc (.int .i64 ((List.map E94 v3).length : Int)) = V.sc (.int .i64 (v3.length : Int)),
            (decide (v2 < (v3.length : Int))) = true,
            Fn Tryz.prog 73 [(false, E3 v1)] (E9 r1) [],
            (true || ((E9 r1).nv && nvL [])) = true,
            (0 : Int) ≤ v2,
            (v2 : Int) < ((List.map E94 v3).length : Int),
            look [] v2.toNat = none,
            (List.map E94 v3)[v2.toNat]? = some (E94 x1),
            look [(v2.toNat, V.agg [V.sc (.string x1.Trace), V.sc (.string x1.Mti), V.ow 1])] v2.toNat = some (V.agg [V.sc (.string x1.Trace), V.sc (.string x1.Mti), V.ow 1]),
            v2.toNat < (List.map E94 v3).length,
            v2.toNat = v2.toNat,
            Fn Tryz.prog 73 [(false, E3 (i64 (v1 + 1)))] (E9 r2) [],
            (true || ((E9 r2).nv && nvL [])) = true,
            (0 : Int) ≤ v2,
            (v2 : Int) < ((List.map E94 v3).length : Int),
            look [(v2.toNat, V.agg [V.sc (.string r1), V.sc (.string x1.Mti), V.ow 1])] v2.toNat = some (V.agg [V.sc (.string r1), V.sc (.string x1.Mti), V.ow 1]),
            v2.toNat < (List.map E94 v3).length,
            v2.toNat = v2.toNat,
            (0 : Int) ≤ v2,
            (v2 : Int) < ((List.map E94 v3).length : Int),
            look [(v2.toNat, V.agg [V.sc (.string r1), V.sc (.string r2), V.ow 1])] v2.toNat = some (V.agg [V.sc (.string r1), V.sc (.string r2), V.ow 1]),
            v2.toNat < (List.map E94 v3).length,
            Fn Tryz.prog 75 [(true, E85 x1.Reply), (false, E3 (i64 ((i64 (v1 + 1)) + 1)))] (E3 r3.1) [V.sl true 5 (List.map E5 r3.2)],
            (true || ((E3 r3.1).nv && nvL [V.sl true 5 (List.map E5 r3.2)])) = true,
            Blk.row 94 ((List.map E94 v3).set v2.toNat (V.agg [V.sc (.string r1), V.sc (.string r2), V.sl true 5 (List.map E5 r3.2)])) [] = Blk.row 94 (List.map E94 (v3.set v2.toNat (Slot.mk r1 r2 r3.2))) []]) (by kernel_rfl) (cj (len_nm _ _) (cj h1 (cj (laws_markText_ok v1 r1 h2) (cj rfl (cj (od h3) (cj (map_ltN (od h3) h4) (cj rfl (cj (map_get h4) (cj (look_cons_self _ _ _) (cj (map_lt h4) (cj rfl (cj (laws_markText_ok (i64 (v1 + 1)) r2 h5) (cj rfl (cj (od h3) (cj (map_ltN (od h3) h4) (cj (look_cons_self _ _ _) (cj (map_lt h4) (cj rfl (cj (od h3) (cj (map_ltN (od h3) h4) (cj (look_cons_self _ _ _) (cj (map_lt h4) (cj (laws_markByteS_ok x1.Reply (i64 ((i64 (v1 + 1)) + 1)) r3 h6) (cj rfl (cj1 (nb_set E94 _ _ (Slot.mk r1 r2 r3.2))))))))))))))))))))))))))) (laws_markSlotS_l0_ok n r3.1 (i64 (v2 + 1)) (v3.set v2.toNat (Slot.mk r1 r2 r3.2))))))) (fun h3 =>
        Pn.none))) (fun h1 =>
      Pn.some (LpO.out [.wait 3, .nm 8 (V.sc (.int .i64 (v3.length : Int))), .bit false, .mask [1], .ren [0]] (p := [V.sc (.int .i64 ((List.map E94 v3).length : Int)) = V.sc (.int .i64 (v3.length : Int)),
       (decide (v2 < (v3.length : Int))) = false]) (by kernel_rfl) (show X.out 0 ≠ X.go from nofun) (cj (len_nm _ _) (cj1 h1))))
def laws_markSlotS (a : List Slot) (k : Int) : Option (Int × (List Slot)) :=
 (laws_markSlotS_l0 FUEL k 0 a).bind fun r4 =>
 some (r4.1, r4.2)
theorem laws_markSlotS_ok (a : List Slot) (k : Int) : Pn (fun y => Fn Tryz.prog 37 [(true, E32 a), (false, E3 k)] (E3 y.1) [V.sl true 94 (List.map E94 y.2)]) (laws_markSlotS a k) := by
  unfold laws_markSlotS
  exact
   Pn.bind (fun r4 h7 =>
    Pn.some (Fn.of [.wait 3, .mask [0, 1, 5], .ren [0], .loop (X.out 0) (st 36 [(1, V.sc (.int .i64 r4.1))] [Blk.row 94 (List.map E94 r4.2) []] [some 0])] (p := [Loop Tryz.prog (sub (codeOf Tryz.prog 37) [1, 0, 1, 0, 0]) (st 36 [(0, V.ow 0), (1, V.sc (.int .i64 k)), (5, V.sc (.int .i64 0))] [Blk.row 94 (List.map E94 a) []] [some 0]) (X.out 0) (st 36 [(1, V.sc (.int .i64 r4.1))] [Blk.row 94 (List.map E94 r4.2) []] [some 0])]) (by kernel_rfl) (cj1 (laws_markSlotS_l0_ok FUEL k 0 a r4 h7))))
def laws_markAcct (a : Acct) (k : Int) : Option (Int × (List Hold) × (List Int) × (List Int) × (List Slot)) :=
 (laws_markHoldS a.Holds k).bind fun r1 =>
 (laws_markRing a.Ring r1.1).bind fun r2 =>
 (laws_markSlotS a.Slots r2.1).bind fun r3 =>
 some (r3.1, r1.2, r2.2.1, r2.2.2, r3.2)
theorem laws_markAcct_ok (a : Acct) (k : Int) : Pn (fun y => Fn Tryz.prog 11 [(true, E34 a), (false, E3 k)] (E3 y.1) [V.sl true 74 (List.map E74 y.2.1), V.sl true 3 (List.map E3 y.2.2.1), V.sl true 3 (List.map E3 y.2.2.2.1), V.sl true 94 (List.map E94 y.2.2.2.2)]) (laws_markAcct a k) := by
  unfold laws_markAcct
  exact
   Pn.bind (fun r1 h1 =>
    Pn.bind (fun r2 h2 =>
     Pn.bind (fun r3 h3 =>
      Pn.some (Fn.of [.call [true, false] (E3 r1.1) [V.sl true 74 (List.map E74 r1.2)], .call [true, false] (E3 r2.1) [V.sl true 3 (List.map E3 r2.2.1), V.sl true 3 (List.map E3 r2.2.2)], .call [true, false] (E3 r3.1) [V.sl true 94 (List.map E94 r3.2)]] (p := [Fn Tryz.prog 35 [(true, E30 a.Holds), (false, E3 k)] (E3 r1.1) [V.sl true 74 (List.map E74 r1.2)],
       (true || ((E3 r1.1).nv && nvL [V.sl true 74 (List.map E74 r1.2)])) = true,
       Fn Tryz.prog 36 [(true, E31 a.Ring), (false, E3 r1.1)] (E3 r2.1) [V.sl true 3 (List.map E3 r2.2.1), V.sl true 3 (List.map E3 r2.2.2)],
       (true || ((E3 r2.1).nv && nvL [V.sl true 3 (List.map E3 r2.2.1), V.sl true 3 (List.map E3 r2.2.2)])) = true,
       Fn Tryz.prog 37 [(true, E32 a.Slots), (false, E3 r2.1)] (E3 r3.1) [V.sl true 94 (List.map E94 r3.2)],
       (true || ((E3 r3.1).nv && nvL [V.sl true 94 (List.map E94 r3.2)])) = true]) (by kernel_rfl) (cj (laws_markHoldS_ok a.Holds k r1 h1) (cj rfl (cj (laws_markRing_ok a.Ring r1.1 r2 h2) (cj rfl (cj (laws_markSlotS_ok a.Slots r2.1 r3 h3) (cj1 rfl))))))))))
def laws_heldHoldS_l0 (a : List Hold) : List Hold → Int → Option (Lo Int Unit)
  | [], v1 =>
   some (.out v1)
  | x1 :: t1, v1 =>
   (laws_markText v1).bind fun r1 =>
   if (x1.Id == r1) = true then
    if (x1.Amount != (i64 (v1 + 1))) = true then
     some (.ret ())
    else
     if (x1.Due != (i64 ((i64 (v1 + 1)) + 1))) = true then
      some (.ret ())
     else
      laws_heldHoldS_l0 a t1 (i64 ((i64 ((i64 (v1 + 1)) + 1)) + 1))
   else
    some (.ret ())
theorem laws_heldHoldS_l0_ok (a : List Hold) (h2 : capOk a.length = true) : ∀ (t1 p1 : List Hold) (_ : a = p1 ++ t1) (v1 : Int), Pn (LpO Tryz.prog (sub (codeOf Tryz.prog 38) [1, 0, 1, 0, 0]) (st 41 [(0, V.sl false 74 (List.map E74 a)), (1, V.sc (.int .i64 v1)), (5, V.sc (.int .i64 (p1.length : Int)))] [] []) (fun (y : Lo Int Unit) => Lo.elim y (fun s => (X.out 0, st 41 [(1, V.sc (.int .i64 s))] [] [])) (fun s => (X.ret, st 41 [(4, V.sc (.int .i64 (-1)))] [] [])))) (laws_heldHoldS_l0 a t1 v1)
  | [], p1, h1, v1 => by
    unfold laws_heldHoldS_l0
    exact
     Pn.some (LpO.out [.wait 3, .nm 8 (V.sc (.int .i64 (a.length : Int))), .bit false, .mask [1], .ren []] (p := [V.sc (.int .i64 ((List.map E74 a).length : Int)) = V.sc (.int .i64 (a.length : Int)),
      (decide ((p1.length : Int) < (a.length : Int))) = false]) (by kernel_rfl) (show X.out 0 ≠ X.go from nofun) (cj (len_nm _ _) (cj1 (rng_end h1))))
  | x1 :: t1, p1, h1, v1 => by
    unfold laws_heldHoldS_l0
    exact
     Pn.bind (fun r1 h3 =>
      Pn.ite (fun h4 =>
       Pn.ite (fun h5 =>
        Pn.some (LpO.out [.wait 3, .nm 8 (V.sc (.int .i64 (a.length : Int))), .bit true, .draw [], .el (E74 x1), .call [] (E9 r1) [], .bit false, .el (E74 x1), .bit true, .wait 1, .mask [4], .ren []] (p := [V.sc (.int .i64 ((List.map E74 a).length : Int)) = V.sc (.int .i64 (a.length : Int)),
         (decide ((p1.length : Int) < (a.length : Int))) = true,
         (0 : Int) ≤ (p1.length : Int),
         (List.map E74 a)[(p1.length : Int).toNat]? = some (E74 x1),
         Fn Tryz.prog 73 [(false, E3 v1)] (E9 r1) [],
         (true || ((E9 r1).nv && nvL [])) = true,
         (!(x1.Id == r1)) = false,
         (0 : Int) ≤ (p1.length : Int),
         (List.map E74 a)[(p1.length : Int).toNat]? = some (E74 x1),
         (x1.Amount != (i64 (v1 + 1))) = true]) (by kernel_rfl) (show X.ret ≠ X.go from nofun) (cj (len_nm _ _) (cj (rng_lt h1) (cj (by omega) (cj (rng_get _ h1) (cj (laws_markText_ok v1 r1 h3) (cj rfl (cj (nf h4) (cj (by omega) (cj (rng_get _ h1) (cj1 h5)))))))))))) (fun h5 =>
        Pn.ite (fun h6 =>
         Pn.some (LpO.out [.wait 3, .nm 8 (V.sc (.int .i64 (a.length : Int))), .bit true, .draw [], .el (E74 x1), .call [] (E9 r1) [], .bit false, .el (E74 x1), .bit false, .el (E74 x1), .bit true, .wait 1, .mask [4], .ren []] (p := [V.sc (.int .i64 ((List.map E74 a).length : Int)) = V.sc (.int .i64 (a.length : Int)),
          (decide ((p1.length : Int) < (a.length : Int))) = true,
          (0 : Int) ≤ (p1.length : Int),
          (List.map E74 a)[(p1.length : Int).toNat]? = some (E74 x1),
          Fn Tryz.prog 73 [(false, E3 v1)] (E9 r1) [],
          (true || ((E9 r1).nv && nvL [])) = true,
          (!(x1.Id == r1)) = false,
          (0 : Int) ≤ (p1.length : Int),
          (List.map E74 a)[(p1.length : Int).toNat]? = some (E74 x1),
          (x1.Amount != (i64 (v1 + 1))) = false,
          (0 : Int) ≤ (p1.length : Int),
          (List.map E74 a)[(p1.length : Int).toNat]? = some (E74 x1),
          (x1.Due != (i64 ((i64 (v1 + 1)) + 1))) = true]) (by kernel_rfl) (show X.ret ≠ X.go from nofun) (cj (len_nm _ _) (cj (rng_lt h1) (cj (by omega) (cj (rng_get _ h1) (cj (laws_markText_ok v1 r1 h3) (cj rfl (cj (nf h4) (cj (by omega) (cj (rng_get _ h1) (cj h5 (cj (by omega) (cj (rng_get _ h1) (cj1 h6))))))))))))))) (fun h6 =>
         LpO.go [.wait 3, .nm 8 (V.sc (.int .i64 (a.length : Int))), .bit true, .draw [], .el (E74 x1), .call [] (E9 r1) [], .bit false, .el (E74 x1), .bit false, .el (E74 x1), .bit false, .wait 6, .mask [0, 1, 5], .ren [], .nm 5 (V.sc (.int .i64 ((p1 ++ [x1]).length : Int)))] (p := [V.sc (.int .i64 ((List.map E74 a).length : Int)) = V.sc (.int .i64 (a.length : Int)),
          (decide ((p1.length : Int) < (a.length : Int))) = true,
          (0 : Int) ≤ (p1.length : Int),
          (List.map E74 a)[(p1.length : Int).toNat]? = some (E74 x1),
          Fn Tryz.prog 73 [(false, E3 v1)] (E9 r1) [],
          (true || ((E9 r1).nv && nvL [])) = true,
          (!(x1.Id == r1)) = false,
          (0 : Int) ≤ (p1.length : Int),
          (List.map E74 a)[(p1.length : Int).toNat]? = some (E74 x1),
          (x1.Amount != (i64 (v1 + 1))) = false,
          (0 : Int) ≤ (p1.length : Int),
          (List.map E74 a)[(p1.length : Int).toNat]? = some (E74 x1),
          (x1.Due != (i64 ((i64 (v1 + 1)) + 1))) = false,
          V.sc (.int .i64 (i64 ((p1.length : Int) + 1))) = V.sc (.int .i64 ((p1 ++ [x1]).length : Int))]) (by kernel_rfl) (cj (len_nm _ _) (cj (rng_lt h1) (cj (by omega) (cj (rng_get _ h1) (cj (laws_markText_ok v1 r1 h3) (cj rfl (cj (nf h4) (cj (by omega) (cj (rng_get _ h1) (cj h5 (cj (by omega) (cj (rng_get _ h1) (cj h6 (cj1 (rng_next h1 h2))))))))))))))) (laws_heldHoldS_l0_ok a h2 t1 (p1 ++ [x1]) (rng_step h1) (i64 ((i64 ((i64 (v1 + 1)) + 1)) + 1)))))) (fun h4 =>
       Pn.some (LpO.out [.wait 3, .nm 8 (V.sc (.int .i64 (a.length : Int))), .bit true, .draw [], .el (E74 x1), .call [] (E9 r1) [], .bit true, .wait 1, .mask [4], .ren []] (p := [V.sc (.int .i64 ((List.map E74 a).length : Int)) = V.sc (.int .i64 (a.length : Int)),
        (decide ((p1.length : Int) < (a.length : Int))) = true,
        (0 : Int) ≤ (p1.length : Int),
        (List.map E74 a)[(p1.length : Int).toNat]? = some (E74 x1),
        Fn Tryz.prog 73 [(false, E3 v1)] (E9 r1) [],
        (true || ((E9 r1).nv && nvL [])) = true,
        (!(x1.Id == r1)) = true]) (by kernel_rfl) (show X.ret ≠ X.go from nofun) (cj (len_nm _ _) (cj (rng_lt h1) (cj (by omega) (cj (rng_get _ h1) (cj (laws_markText_ok v1 r1 h3) (cj rfl (cj1 (nt h4)))))))))))
def laws_heldHoldS (a : List Hold) (k : Int) : Option (Int) :=
 if (capOk a.length) = true then
  (laws_heldHoldS_l0 a a k).bind fun r2 =>
  Lo.elim r2 (fun s1 =>
   some s1) (fun s2 =>
   some (-1))
 else none
theorem laws_heldHoldS_ok (a : List Hold) (k : Int) : Pn (fun y => Fn Tryz.prog 38 [(false, E30 a), (false, E3 k)] (E3 y) []) (laws_heldHoldS a k) := by
  unfold laws_heldHoldS
  exact
   Pn.ite (fun h7 =>
    Pn.bind (fun r2 h8 =>
     Pn.lo (fun s1 h9 =>
      Pn.some (Fn.of [.wait 3, .mask [0, 1, 5], .ren [], .loop (X.out 0) (st 41 [(1, V.sc (.int .i64 s1))] [] [])] (p := [Loop Tryz.prog (sub (codeOf Tryz.prog 38) [1, 0, 1, 0, 0]) (st 41 [(0, V.sl false 74 (List.map E74 a)), (1, V.sc (.int .i64 k)), (5, V.sc (.int .i64 0))] [] []) (X.out 0) (st 41 [(1, V.sc (.int .i64 s1))] [] [])]) (by kernel_rfl) (cj1 ((laws_heldHoldS_l0_ok a h7 a [] rfl k r2 h8).at h9)))) (fun s2 h10 =>
      Pn.some (Fn.of [.wait 3, .mask [0, 1, 5], .ren [], .loop (X.ret) (st 41 [(4, V.sc (.int .i64 (-1)))] [] [])] (p := [Loop Tryz.prog (sub (codeOf Tryz.prog 38) [1, 0, 1, 0, 0]) (st 41 [(0, V.sl false 74 (List.map E74 a)), (1, V.sc (.int .i64 k)), (5, V.sc (.int .i64 0))] [] []) (X.ret) (st 41 [(4, V.sc (.int .i64 (-1)))] [] [])]) (by kernel_rfl) (cj1 ((laws_heldHoldS_l0_ok a h7 a [] rfl k r2 h8).at h10)))))) (fun h7 =>
    Pn.none)
def laws_heldIntS_l0 (a : List Int) : List Int → Int → Option (Lo Int Unit)
  | [], v1 =>
   some (.out v1)
  | x1 :: t1, v1 =>
   if (x1 != v1) = true then
    some (.ret ())
   else
    laws_heldIntS_l0 a t1 (i64 (v1 + 1))
theorem laws_heldIntS_l0_ok (a : List Int) (h2 : capOk a.length = true) : ∀ (t1 p1 : List Int) (_ : a = p1 ++ t1) (v1 : Int), Pn (LpO Tryz.prog (sub (codeOf Tryz.prog 76) [1, 0, 1, 0, 0]) (st 21 [(0, V.sl false 3 (List.map E3 a)), (1, V.sc (.int .i64 v1)), (5, V.sc (.int .i64 (p1.length : Int)))] [] []) (fun (y : Lo Int Unit) => Lo.elim y (fun s => (X.out 0, st 21 [(1, V.sc (.int .i64 s))] [] [])) (fun s => (X.ret, st 21 [(4, V.sc (.int .i64 (-1)))] [] [])))) (laws_heldIntS_l0 a t1 v1)
  | [], p1, h1, v1 => by
    unfold laws_heldIntS_l0
    exact
     Pn.some (LpO.out [.wait 3, .nm 8 (V.sc (.int .i64 (a.length : Int))), .bit false, .mask [1], .ren []] (p := [V.sc (.int .i64 ((List.map E3 a).length : Int)) = V.sc (.int .i64 (a.length : Int)),
      (decide ((p1.length : Int) < (a.length : Int))) = false]) (by kernel_rfl) (show X.out 0 ≠ X.go from nofun) (cj (len_nm _ _) (cj1 (rng_end h1))))
  | x1 :: t1, p1, h1, v1 => by
    unfold laws_heldIntS_l0
    exact
     Pn.ite (fun h3 =>
      Pn.some (LpO.out [.wait 3, .nm 8 (V.sc (.int .i64 (a.length : Int))), .bit true, .el (E3 x1), .bit true, .wait 1, .mask [4], .ren []] (p := [V.sc (.int .i64 ((List.map E3 a).length : Int)) = V.sc (.int .i64 (a.length : Int)),
       (decide ((p1.length : Int) < (a.length : Int))) = true,
       (0 : Int) ≤ (p1.length : Int),
       (List.map E3 a)[(p1.length : Int).toNat]? = some (E3 x1),
       (x1 != v1) = true]) (by kernel_rfl) (show X.ret ≠ X.go from nofun) (cj (len_nm _ _) (cj (rng_lt h1) (cj (by omega) (cj (rng_get _ h1) (cj1 h3))))))) (fun h3 =>
      LpO.go [.wait 3, .nm 8 (V.sc (.int .i64 (a.length : Int))), .bit true, .el (E3 x1), .bit false, .wait 6, .mask [0, 1, 5], .ren [], .nm 5 (V.sc (.int .i64 ((p1 ++ [x1]).length : Int)))] (p := [V.sc (.int .i64 ((List.map E3 a).length : Int)) = V.sc (.int .i64 (a.length : Int)),
       (decide ((p1.length : Int) < (a.length : Int))) = true,
       (0 : Int) ≤ (p1.length : Int),
       (List.map E3 a)[(p1.length : Int).toNat]? = some (E3 x1),
       (x1 != v1) = false,
       V.sc (.int .i64 (i64 ((p1.length : Int) + 1))) = V.sc (.int .i64 ((p1 ++ [x1]).length : Int))]) (by kernel_rfl) (cj (len_nm _ _) (cj (rng_lt h1) (cj (by omega) (cj (rng_get _ h1) (cj h3 (cj1 (rng_next h1 h2))))))) (laws_heldIntS_l0_ok a h2 t1 (p1 ++ [x1]) (rng_step h1) (i64 (v1 + 1))))
def laws_heldIntS (a : List Int) (k : Int) : Option (Int) :=
 if (capOk a.length) = true then
  (laws_heldIntS_l0 a a k).bind fun r1 =>
  Lo.elim r1 (fun s1 =>
   some s1) (fun s2 =>
   some (-1))
 else none
theorem laws_heldIntS_ok (a : List Int) (k : Int) : Pn (fun y => Fn Tryz.prog 76 [(false, E23 a), (false, E3 k)] (E3 y) []) (laws_heldIntS a k) := by
  unfold laws_heldIntS
  exact
   Pn.ite (fun h4 =>
    Pn.bind (fun r1 h5 =>
     Pn.lo (fun s1 h6 =>
      Pn.some (Fn.of [.wait 3, .mask [0, 1, 5], .ren [], .loop (X.out 0) (st 21 [(1, V.sc (.int .i64 s1))] [] [])] (p := [Loop Tryz.prog (sub (codeOf Tryz.prog 76) [1, 0, 1, 0, 0]) (st 21 [(0, V.sl false 3 (List.map E3 a)), (1, V.sc (.int .i64 k)), (5, V.sc (.int .i64 0))] [] []) (X.out 0) (st 21 [(1, V.sc (.int .i64 s1))] [] [])]) (by kernel_rfl) (cj1 ((laws_heldIntS_l0_ok a h4 a [] rfl k r1 h5).at h6)))) (fun s2 h7 =>
      Pn.some (Fn.of [.wait 3, .mask [0, 1, 5], .ren [], .loop (X.ret) (st 21 [(4, V.sc (.int .i64 (-1)))] [] [])] (p := [Loop Tryz.prog (sub (codeOf Tryz.prog 76) [1, 0, 1, 0, 0]) (st 21 [(0, V.sl false 3 (List.map E3 a)), (1, V.sc (.int .i64 k)), (5, V.sc (.int .i64 0))] [] []) (X.ret) (st 21 [(4, V.sc (.int .i64 (-1)))] [] [])]) (by kernel_rfl) (cj1 ((laws_heldIntS_l0_ok a h4 a [] rfl k r1 h5).at h7)))))) (fun h4 =>
    Pn.none)
def laws_heldRing (a : Ring) (k : Int) : Option (Int) :=
 (laws_heldIntS a.Counts k).bind fun r1 =>
 if (decide (r1 < 0)) = true then
  some (-1)
 else
  (laws_heldIntS a.Sums r1).bind fun r2 =>
  if (decide (r2 < 0)) = true then
   some (-1)
  else
   some r2
theorem laws_heldRing_ok (a : Ring) (k : Int) : Pn (fun y => Fn Tryz.prog 39 [(false, E31 a), (false, E3 k)] (E3 y) []) (laws_heldRing a k) := by
  unfold laws_heldRing
  exact
   Pn.bind (fun r1 h1 =>
    Pn.ite (fun h2 =>
     Pn.some (Fn.of [.call [] (E3 r1) [], .bit true] (p := [Fn Tryz.prog 76 [(false, E23 a.Counts), (false, E3 k)] (E3 r1) [],
      (true || ((E3 r1).nv && nvL [])) = true,
      (decide (r1 < 0)) = true]) (by kernel_rfl) (cj (laws_heldIntS_ok a.Counts k r1 h1) (cj rfl (cj1 h2))))) (fun h2 =>
     Pn.bind (fun r2 h3 =>
      Pn.ite (fun h4 =>
       Pn.some (Fn.of [.call [] (E3 r1) [], .bit false, .call [] (E3 r2) [], .bit true] (p := [Fn Tryz.prog 76 [(false, E23 a.Counts), (false, E3 k)] (E3 r1) [],
        (true || ((E3 r1).nv && nvL [])) = true,
        (decide (r1 < 0)) = false,
        Fn Tryz.prog 76 [(false, E23 a.Sums), (false, E3 r1)] (E3 r2) [],
        (true || ((E3 r2).nv && nvL [])) = true,
        (decide (r2 < 0)) = true]) (by kernel_rfl) (cj (laws_heldIntS_ok a.Counts k r1 h1) (cj rfl (cj h2 (cj (laws_heldIntS_ok a.Sums r1 r2 h3) (cj rfl (cj1 h4)))))))) (fun h4 =>
       Pn.some (Fn.of [.call [] (E3 r1) [], .bit false, .call [] (E3 r2) [], .bit false] (p := [Fn Tryz.prog 76 [(false, E23 a.Counts), (false, E3 k)] (E3 r1) [],
        (true || ((E3 r1).nv && nvL [])) = true,
        (decide (r1 < 0)) = false,
        Fn Tryz.prog 76 [(false, E23 a.Sums), (false, E3 r1)] (E3 r2) [],
        (true || ((E3 r2).nv && nvL [])) = true,
        (decide (r2 < 0)) = false]) (by kernel_rfl) (cj (laws_heldIntS_ok a.Counts k r1 h1) (cj rfl (cj h2 (cj (laws_heldIntS_ok a.Sums r1 r2 h3) (cj rfl (cj1 h4)))))))))))
def laws_heldByteS_l0 (a : List Int) : List Int → Int → Option (Lo Int Unit)
  | [], v1 =>
   some (.out v1)
  | x1 :: t1, v1 =>
   if (x1 != (u8 v1)) = true then
    some (.ret ())
   else
    laws_heldByteS_l0 a t1 (i64 (v1 + 1))
theorem laws_heldByteS_l0_ok (a : List Int) (h2 : capOk a.length = true) : ∀ (t1 p1 : List Int) (_ : a = p1 ++ t1) (v1 : Int), Pn (LpO Tryz.prog (sub (codeOf Tryz.prog 77) [1, 0, 1, 0, 0]) (st 22 [(0, V.sl false 5 (List.map E5 a)), (1, V.sc (.int .i64 v1)), (5, V.sc (.int .i64 (p1.length : Int)))] [] []) (fun (y : Lo Int Unit) => Lo.elim y (fun s => (X.out 0, st 22 [(1, V.sc (.int .i64 s))] [] [])) (fun s => (X.ret, st 22 [(4, V.sc (.int .i64 (-1)))] [] [])))) (laws_heldByteS_l0 a t1 v1)
  | [], p1, h1, v1 => by
    unfold laws_heldByteS_l0
    exact
     Pn.some (LpO.out [.wait 3, .nm 8 (V.sc (.int .i64 (a.length : Int))), .bit false, .mask [1], .ren []] (p := [V.sc (.int .i64 ((List.map E5 a).length : Int)) = V.sc (.int .i64 (a.length : Int)),
      (decide ((p1.length : Int) < (a.length : Int))) = false]) (by kernel_rfl) (show X.out 0 ≠ X.go from nofun) (cj (len_nm _ _) (cj1 (rng_end h1))))
  | x1 :: t1, p1, h1, v1 => by
    unfold laws_heldByteS_l0
    exact
     Pn.ite (fun h3 =>
      Pn.some (LpO.out [.wait 3, .nm 8 (V.sc (.int .i64 (a.length : Int))), .bit true, .el (E5 x1), .bit true, .wait 1, .mask [4], .ren []] (p := [V.sc (.int .i64 ((List.map E5 a).length : Int)) = V.sc (.int .i64 (a.length : Int)),
       (decide ((p1.length : Int) < (a.length : Int))) = true,
       (0 : Int) ≤ (p1.length : Int),
       (List.map E5 a)[(p1.length : Int).toNat]? = some (E5 x1),
       (x1 != (u8 v1)) = true]) (by kernel_rfl) (show X.ret ≠ X.go from nofun) (cj (len_nm _ _) (cj (rng_lt h1) (cj (by omega) (cj (rng_get _ h1) (cj1 h3))))))) (fun h3 =>
      LpO.go [.wait 3, .nm 8 (V.sc (.int .i64 (a.length : Int))), .bit true, .el (E5 x1), .bit false, .wait 6, .mask [0, 1, 5], .ren [], .nm 5 (V.sc (.int .i64 ((p1 ++ [x1]).length : Int)))] (p := [V.sc (.int .i64 ((List.map E5 a).length : Int)) = V.sc (.int .i64 (a.length : Int)),
       (decide ((p1.length : Int) < (a.length : Int))) = true,
       (0 : Int) ≤ (p1.length : Int),
       (List.map E5 a)[(p1.length : Int).toNat]? = some (E5 x1),
       (x1 != (u8 v1)) = false,
       V.sc (.int .i64 (i64 ((p1.length : Int) + 1))) = V.sc (.int .i64 ((p1 ++ [x1]).length : Int))]) (by kernel_rfl) (cj (len_nm _ _) (cj (rng_lt h1) (cj (by omega) (cj (rng_get _ h1) (cj h3 (cj1 (rng_next h1 h2))))))) (laws_heldByteS_l0_ok a h2 t1 (p1 ++ [x1]) (rng_step h1) (i64 (v1 + 1))))
def laws_heldByteS (a : List Int) (k : Int) : Option (Int) :=
 if (capOk a.length) = true then
  (laws_heldByteS_l0 a a k).bind fun r1 =>
  Lo.elim r1 (fun s1 =>
   some s1) (fun s2 =>
   some (-1))
 else none
theorem laws_heldByteS_ok (a : List Int) (k : Int) : Pn (fun y => Fn Tryz.prog 77 [(false, E85 a), (false, E3 k)] (E3 y) []) (laws_heldByteS a k) := by
  unfold laws_heldByteS
  exact
   Pn.ite (fun h4 =>
    Pn.bind (fun r1 h5 =>
     Pn.lo (fun s1 h6 =>
      Pn.some (Fn.of [.wait 3, .mask [0, 1, 5], .ren [], .loop (X.out 0) (st 22 [(1, V.sc (.int .i64 s1))] [] [])] (p := [Loop Tryz.prog (sub (codeOf Tryz.prog 77) [1, 0, 1, 0, 0]) (st 22 [(0, V.sl false 5 (List.map E5 a)), (1, V.sc (.int .i64 k)), (5, V.sc (.int .i64 0))] [] []) (X.out 0) (st 22 [(1, V.sc (.int .i64 s1))] [] [])]) (by kernel_rfl) (cj1 ((laws_heldByteS_l0_ok a h4 a [] rfl k r1 h5).at h6)))) (fun s2 h7 =>
      Pn.some (Fn.of [.wait 3, .mask [0, 1, 5], .ren [], .loop (X.ret) (st 22 [(4, V.sc (.int .i64 (-1)))] [] [])] (p := [Loop Tryz.prog (sub (codeOf Tryz.prog 77) [1, 0, 1, 0, 0]) (st 22 [(0, V.sl false 5 (List.map E5 a)), (1, V.sc (.int .i64 k)), (5, V.sc (.int .i64 0))] [] []) (X.ret) (st 22 [(4, V.sc (.int .i64 (-1)))] [] [])]) (by kernel_rfl) (cj1 ((laws_heldByteS_l0_ok a h4 a [] rfl k r1 h5).at h7)))))) (fun h4 =>
    Pn.none)
def laws_heldSlotS_l0 (a : List Slot) : List Slot → Int → Option (Lo Int Unit)
  | [], v1 =>
   some (.out v1)
  | x1 :: t1, v1 =>
   (laws_markText v1).bind fun r1 =>
   if (x1.Trace == r1) = true then
    (laws_markText (i64 (v1 + 1))).bind fun r2 =>
    if (x1.Mti == r2) = true then
     (laws_heldByteS x1.Reply (i64 ((i64 (v1 + 1)) + 1))).bind fun r3 =>
     if (decide (r3 < 0)) = true then
      some (.ret ())
     else
      laws_heldSlotS_l0 a t1 r3
    else
     some (.ret ())
   else
    some (.ret ())
theorem laws_heldSlotS_l0_ok (a : List Slot) (h2 : capOk a.length = true) : ∀ (t1 p1 : List Slot) (_ : a = p1 ++ t1) (v1 : Int), Pn (LpO Tryz.prog (sub (codeOf Tryz.prog 40) [1, 0, 1, 0, 0]) (st 42 [(0, V.sl false 94 (List.map E94 a)), (1, V.sc (.int .i64 v1)), (5, V.sc (.int .i64 (p1.length : Int)))] [] []) (fun (y : Lo Int Unit) => Lo.elim y (fun s => (X.out 0, st 42 [(1, V.sc (.int .i64 s))] [] [])) (fun s => (X.ret, st 42 [(4, V.sc (.int .i64 (-1)))] [] [])))) (laws_heldSlotS_l0 a t1 v1)
  | [], p1, h1, v1 => by
    unfold laws_heldSlotS_l0
    exact
     Pn.some (LpO.out [.wait 3, .nm 8 (V.sc (.int .i64 (a.length : Int))), .bit false, .mask [1], .ren []] (p := [V.sc (.int .i64 ((List.map E94 a).length : Int)) = V.sc (.int .i64 (a.length : Int)),
      (decide ((p1.length : Int) < (a.length : Int))) = false]) (by kernel_rfl) (show X.out 0 ≠ X.go from nofun) (cj (len_nm _ _) (cj1 (rng_end h1))))
  | x1 :: t1, p1, h1, v1 => by
    unfold laws_heldSlotS_l0
    exact
     Pn.bind (fun r1 h3 =>
      Pn.ite (fun h4 =>
       Pn.bind (fun r2 h5 =>
        Pn.ite (fun h6 =>
         Pn.bind (fun r3 h7 =>
          Pn.ite (fun h8 =>
           Pn.some (LpO.out [.wait 3, .nm 8 (V.sc (.int .i64 (a.length : Int))), .bit true, .draw [], .el (E94 x1), .call [] (E9 r1) [], .bit false, .draw [], .el (E94 x1), .call [] (E9 r2) [], .bit false, .el (E94 x1), .call [] (E3 r3) [], .bit true, .wait 1, .mask [4], .ren []] (p := [V.sc (.int .i64 ((List.map E94 a).length : Int)) = V.sc (.int .i64 (a.length : Int)),
            (decide ((p1.length : Int) < (a.length : Int))) = true,
            (0 : Int) ≤ (p1.length : Int),
            (List.map E94 a)[(p1.length : Int).toNat]? = some (E94 x1),
            Fn Tryz.prog 73 [(false, E3 v1)] (E9 r1) [],
            (true || ((E9 r1).nv && nvL [])) = true,
            (!(x1.Trace == r1)) = false,
            (0 : Int) ≤ (p1.length : Int),
            (List.map E94 a)[(p1.length : Int).toNat]? = some (E94 x1),
            Fn Tryz.prog 73 [(false, E3 (i64 (v1 + 1)))] (E9 r2) [],
            (true || ((E9 r2).nv && nvL [])) = true,
            (!(x1.Mti == r2)) = false,
            (0 : Int) ≤ (p1.length : Int),
            (List.map E94 a)[(p1.length : Int).toNat]? = some (E94 x1),
            Fn Tryz.prog 77 [(false, E85 x1.Reply), (false, E3 (i64 ((i64 (v1 + 1)) + 1)))] (E3 r3) [],
            (true || ((E3 r3).nv && nvL [])) = true,
            (decide (r3 < 0)) = true]) (by kernel_rfl) (show X.ret ≠ X.go from nofun) (cj (len_nm _ _) (cj (rng_lt h1) (cj (by omega) (cj (rng_get _ h1) (cj (laws_markText_ok v1 r1 h3) (cj rfl (cj (nf h4) (cj (by omega) (cj (rng_get _ h1) (cj (laws_markText_ok (i64 (v1 + 1)) r2 h5) (cj rfl (cj (nf h6) (cj (by omega) (cj (rng_get _ h1) (cj (laws_heldByteS_ok x1.Reply (i64 ((i64 (v1 + 1)) + 1)) r3 h7) (cj rfl (cj1 h8))))))))))))))))))) (fun h8 =>
           LpO.go [.wait 3, .nm 8 (V.sc (.int .i64 (a.length : Int))), .bit true, .draw [], .el (E94 x1), .call [] (E9 r1) [], .bit false, .draw [], .el (E94 x1), .call [] (E9 r2) [], .bit false, .el (E94 x1), .call [] (E3 r3) [], .bit false, .wait 3, .mask [0, 1, 5], .ren [], .nm 5 (V.sc (.int .i64 ((p1 ++ [x1]).length : Int)))] (p := [V.sc (.int .i64 ((List.map E94 a).length : Int)) = V.sc (.int .i64 (a.length : Int)),
            (decide ((p1.length : Int) < (a.length : Int))) = true,
            (0 : Int) ≤ (p1.length : Int),
            (List.map E94 a)[(p1.length : Int).toNat]? = some (E94 x1),
            Fn Tryz.prog 73 [(false, E3 v1)] (E9 r1) [],
            (true || ((E9 r1).nv && nvL [])) = true,
            (!(x1.Trace == r1)) = false,
            (0 : Int) ≤ (p1.length : Int),
            (List.map E94 a)[(p1.length : Int).toNat]? = some (E94 x1),
            Fn Tryz.prog 73 [(false, E3 (i64 (v1 + 1)))] (E9 r2) [],
            (true || ((E9 r2).nv && nvL [])) = true,
            (!(x1.Mti == r2)) = false,
            (0 : Int) ≤ (p1.length : Int),
            (List.map E94 a)[(p1.length : Int).toNat]? = some (E94 x1),
            Fn Tryz.prog 77 [(false, E85 x1.Reply), (false, E3 (i64 ((i64 (v1 + 1)) + 1)))] (E3 r3) [],
            (true || ((E3 r3).nv && nvL [])) = true,
            (decide (r3 < 0)) = false,
            V.sc (.int .i64 (i64 ((p1.length : Int) + 1))) = V.sc (.int .i64 ((p1 ++ [x1]).length : Int))]) (by kernel_rfl) (cj (len_nm _ _) (cj (rng_lt h1) (cj (by omega) (cj (rng_get _ h1) (cj (laws_markText_ok v1 r1 h3) (cj rfl (cj (nf h4) (cj (by omega) (cj (rng_get _ h1) (cj (laws_markText_ok (i64 (v1 + 1)) r2 h5) (cj rfl (cj (nf h6) (cj (by omega) (cj (rng_get _ h1) (cj (laws_heldByteS_ok x1.Reply (i64 ((i64 (v1 + 1)) + 1)) r3 h7) (cj rfl (cj h8 (cj1 (rng_next h1 h2))))))))))))))))))) (laws_heldSlotS_l0_ok a h2 t1 (p1 ++ [x1]) (rng_step h1) r3)))) (fun h6 =>
         Pn.some (LpO.out [.wait 3, .nm 8 (V.sc (.int .i64 (a.length : Int))), .bit true, .draw [], .el (E94 x1), .call [] (E9 r1) [], .bit false, .draw [], .el (E94 x1), .call [] (E9 r2) [], .bit true, .wait 1, .mask [4], .ren []] (p := [V.sc (.int .i64 ((List.map E94 a).length : Int)) = V.sc (.int .i64 (a.length : Int)),
          (decide ((p1.length : Int) < (a.length : Int))) = true,
          (0 : Int) ≤ (p1.length : Int),
          (List.map E94 a)[(p1.length : Int).toNat]? = some (E94 x1),
          Fn Tryz.prog 73 [(false, E3 v1)] (E9 r1) [],
          (true || ((E9 r1).nv && nvL [])) = true,
          (!(x1.Trace == r1)) = false,
          (0 : Int) ≤ (p1.length : Int),
          (List.map E94 a)[(p1.length : Int).toNat]? = some (E94 x1),
          Fn Tryz.prog 73 [(false, E3 (i64 (v1 + 1)))] (E9 r2) [],
          (true || ((E9 r2).nv && nvL [])) = true,
          (!(x1.Mti == r2)) = true]) (by kernel_rfl) (show X.ret ≠ X.go from nofun) (cj (len_nm _ _) (cj (rng_lt h1) (cj (by omega) (cj (rng_get _ h1) (cj (laws_markText_ok v1 r1 h3) (cj rfl (cj (nf h4) (cj (by omega) (cj (rng_get _ h1) (cj (laws_markText_ok (i64 (v1 + 1)) r2 h5) (cj rfl (cj1 (nt h6))))))))))))))))) (fun h4 =>
       Pn.some (LpO.out [.wait 3, .nm 8 (V.sc (.int .i64 (a.length : Int))), .bit true, .draw [], .el (E94 x1), .call [] (E9 r1) [], .bit true, .wait 1, .mask [4], .ren []] (p := [V.sc (.int .i64 ((List.map E94 a).length : Int)) = V.sc (.int .i64 (a.length : Int)),
        (decide ((p1.length : Int) < (a.length : Int))) = true,
        (0 : Int) ≤ (p1.length : Int),
        (List.map E94 a)[(p1.length : Int).toNat]? = some (E94 x1),
        Fn Tryz.prog 73 [(false, E3 v1)] (E9 r1) [],
        (true || ((E9 r1).nv && nvL [])) = true,
        (!(x1.Trace == r1)) = true]) (by kernel_rfl) (show X.ret ≠ X.go from nofun) (cj (len_nm _ _) (cj (rng_lt h1) (cj (by omega) (cj (rng_get _ h1) (cj (laws_markText_ok v1 r1 h3) (cj rfl (cj1 (nt h4)))))))))))
def laws_heldSlotS (a : List Slot) (k : Int) : Option (Int) :=
 if (capOk a.length) = true then
  (laws_heldSlotS_l0 a a k).bind fun r4 =>
  Lo.elim r4 (fun s1 =>
   some s1) (fun s2 =>
   some (-1))
 else none
theorem laws_heldSlotS_ok (a : List Slot) (k : Int) : Pn (fun y => Fn Tryz.prog 40 [(false, E32 a), (false, E3 k)] (E3 y) []) (laws_heldSlotS a k) := by
  unfold laws_heldSlotS
  exact
   Pn.ite (fun h9 =>
    Pn.bind (fun r4 h10 =>
     Pn.lo (fun s1 h11 =>
      Pn.some (Fn.of [.wait 3, .mask [0, 1, 5], .ren [], .loop (X.out 0) (st 42 [(1, V.sc (.int .i64 s1))] [] [])] (p := [Loop Tryz.prog (sub (codeOf Tryz.prog 40) [1, 0, 1, 0, 0]) (st 42 [(0, V.sl false 94 (List.map E94 a)), (1, V.sc (.int .i64 k)), (5, V.sc (.int .i64 0))] [] []) (X.out 0) (st 42 [(1, V.sc (.int .i64 s1))] [] [])]) (by kernel_rfl) (cj1 ((laws_heldSlotS_l0_ok a h9 a [] rfl k r4 h10).at h11)))) (fun s2 h12 =>
      Pn.some (Fn.of [.wait 3, .mask [0, 1, 5], .ren [], .loop (X.ret) (st 42 [(4, V.sc (.int .i64 (-1)))] [] [])] (p := [Loop Tryz.prog (sub (codeOf Tryz.prog 40) [1, 0, 1, 0, 0]) (st 42 [(0, V.sl false 94 (List.map E94 a)), (1, V.sc (.int .i64 k)), (5, V.sc (.int .i64 0))] [] []) (X.ret) (st 42 [(4, V.sc (.int .i64 (-1)))] [] [])]) (by kernel_rfl) (cj1 ((laws_heldSlotS_l0_ok a h9 a [] rfl k r4 h10).at h12)))))) (fun h9 =>
    Pn.none)
def laws_heldAcct (a : Acct) (k : Int) : Option (Int) :=
 (laws_heldHoldS a.Holds k).bind fun r1 =>
 if (decide (r1 < 0)) = true then
  some (-1)
 else
  (laws_heldRing a.Ring r1).bind fun r2 =>
  if (decide (r2 < 0)) = true then
   some (-1)
  else
   (laws_heldSlotS a.Slots r2).bind fun r3 =>
   if (decide (r3 < 0)) = true then
    some (-1)
   else
    some r3
theorem laws_heldAcct_ok (a : Acct) (k : Int) : Pn (fun y => Fn Tryz.prog 12 [(false, E34 a), (false, E3 k)] (E3 y) []) (laws_heldAcct a k) := by
  unfold laws_heldAcct
  exact
   Pn.bind (fun r1 h1 =>
    Pn.ite (fun h2 =>
     Pn.some (Fn.of [.call [] (E3 r1) [], .bit true] (p := [Fn Tryz.prog 38 [(false, E30 a.Holds), (false, E3 k)] (E3 r1) [],
      (true || ((E3 r1).nv && nvL [])) = true,
      (decide (r1 < 0)) = true]) (by kernel_rfl) (cj (laws_heldHoldS_ok a.Holds k r1 h1) (cj rfl (cj1 h2))))) (fun h2 =>
     Pn.bind (fun r2 h3 =>
      Pn.ite (fun h4 =>
       Pn.some (Fn.of [.call [] (E3 r1) [], .bit false, .call [] (E3 r2) [], .bit true] (p := [Fn Tryz.prog 38 [(false, E30 a.Holds), (false, E3 k)] (E3 r1) [],
        (true || ((E3 r1).nv && nvL [])) = true,
        (decide (r1 < 0)) = false,
        Fn Tryz.prog 39 [(false, E31 a.Ring), (false, E3 r1)] (E3 r2) [],
        (true || ((E3 r2).nv && nvL [])) = true,
        (decide (r2 < 0)) = true]) (by kernel_rfl) (cj (laws_heldHoldS_ok a.Holds k r1 h1) (cj rfl (cj h2 (cj (laws_heldRing_ok a.Ring r1 r2 h3) (cj rfl (cj1 h4)))))))) (fun h4 =>
       Pn.bind (fun r3 h5 =>
        Pn.ite (fun h6 =>
         Pn.some (Fn.of [.call [] (E3 r1) [], .bit false, .call [] (E3 r2) [], .bit false, .call [] (E3 r3) [], .bit true] (p := [Fn Tryz.prog 38 [(false, E30 a.Holds), (false, E3 k)] (E3 r1) [],
          (true || ((E3 r1).nv && nvL [])) = true,
          (decide (r1 < 0)) = false,
          Fn Tryz.prog 39 [(false, E31 a.Ring), (false, E3 r1)] (E3 r2) [],
          (true || ((E3 r2).nv && nvL [])) = true,
          (decide (r2 < 0)) = false,
          Fn Tryz.prog 40 [(false, E32 a.Slots), (false, E3 r2)] (E3 r3) [],
          (true || ((E3 r3).nv && nvL [])) = true,
          (decide (r3 < 0)) = true]) (by kernel_rfl) (cj (laws_heldHoldS_ok a.Holds k r1 h1) (cj rfl (cj h2 (cj (laws_heldRing_ok a.Ring r1 r2 h3) (cj rfl (cj h4 (cj (laws_heldSlotS_ok a.Slots r2 r3 h5) (cj rfl (cj1 h6))))))))))) (fun h6 =>
         Pn.some (Fn.of [.call [] (E3 r1) [], .bit false, .call [] (E3 r2) [], .bit false, .call [] (E3 r3) [], .bit false] (p := [Fn Tryz.prog 38 [(false, E30 a.Holds), (false, E3 k)] (E3 r1) [],
          (true || ((E3 r1).nv && nvL [])) = true,
          (decide (r1 < 0)) = false,
          Fn Tryz.prog 39 [(false, E31 a.Ring), (false, E3 r1)] (E3 r2) [],
          (true || ((E3 r2).nv && nvL [])) = true,
          (decide (r2 < 0)) = false,
          Fn Tryz.prog 40 [(false, E32 a.Slots), (false, E3 r2)] (E3 r3) [],
          (true || ((E3 r3).nv && nvL [])) = true,
          (decide (r3 < 0)) = false]) (by kernel_rfl) (cj (laws_heldHoldS_ok a.Holds k r1 h1) (cj rfl (cj h2 (cj (laws_heldRing_ok a.Ring r1 r2 h3) (cj rfl (cj h4 (cj (laws_heldSlotS_ok a.Slots r2 r3 h5) (cj rfl (cj1 h6))))))))))))))))
def laws_FnExactFree (o : Acct) (o_ : ByteArray) (a2 : Int) : Option (Bool) :=
 if (decide (1048576 < (o_.size : Int))) = true then
  some true
 else
  (laws_szAcct o 1048576).bind fun r1 =>
  if (decide (r1 < 0)) = true then
   some true
  else
   (laws_toAcct o).bind fun r2 =>
   (spec_Free r2 o_ a2).bind fun r3 =>
   (laws_toAcct o).bind fun r4 =>
   (impl_Free r4 o_ a2).bind fun r5 =>
   (laws_eqAcct r5.1 r3.1).bind fun r6 =>
   if r6 = true then
    if (r5.2 != r3.2) = true then
     some false
    else
     (laws_toAcct o).bind fun r7 =>
     (laws_eqAcct r4 r7).bind fun r8 =>
     if r8 = true then
      (laws_markAcct r4 1).bind fun r9 =>
      if (decide (r9.1 < 0)) = true then
       some false
      else
       (laws_eqAcct r5.1 r3.1).bind fun r10 =>
       if r10 = true then
        (laws_markAcct r5.1 1).bind fun r11 =>
        (laws_heldAcct (Acct.mk r5.1.Id r5.1.Limit r5.1.Posted r5.1.Most r5.1.MostSum r11.2.1 (Ring.mk r5.1.Ring.Span r5.1.Ring.Head r11.2.2.1 r11.2.2.2.1) r11.2.2.2.2) 1).bind fun r12 =>
        if (decide (r12 < 0)) = true then
         some false
        else
         if (r12 != r11.1) = true then
          some false
         else
          (laws_toAcct o).bind fun r13 =>
          (impl_Free r13 o_ a2).bind fun r14 =>
          (laws_eqAcct r14.1 r3.1).bind fun r15 =>
          if r15 = true then
           if (r14.2 != r3.2) = true then
            some false
           else
            (laws_heldAcct (Acct.mk r5.1.Id r5.1.Limit r5.1.Posted r5.1.Most r5.1.MostSum r11.2.1 (Ring.mk r5.1.Ring.Span r5.1.Ring.Head r11.2.2.1 r11.2.2.2.1) r11.2.2.2.2) 1).bind fun r16 =>
            if (decide (r16 < 0)) = true then
             some false
            else
             if (r16 != r11.1) = true then
              some false
             else
              some true
          else
           some false
       else
        some false
     else
      some false
   else
    some false
theorem laws_FnExactFree_ok (o : Acct) (o_ : ByteArray) (a2 : Int) : Pn (fun y => Fn Tryz.prog 3 [(false, E28 o), (false, E9 o_), (false, E3 a2)] (E4 y) []) (laws_FnExactFree o o_ a2) := by
  unfold laws_FnExactFree
  exact
   Pn.ite (fun h1 =>
    Pn.some (Fn.of [.bit true] (p := [(decide (1048576 < (o_.size : Int))) = true]) (by kernel_rfl) (cj1 h1))) (fun h1 =>
    Pn.bind (fun r1 h2 =>
     Pn.ite (fun h3 =>
      Pn.some (Fn.of [.bit false, .call [] (E3 r1) [], .bit true] (p := [(decide (1048576 < (o_.size : Int))) = false,
       Fn Tryz.prog 6 [(false, E28 o), (false, E3 1048576)] (E3 r1) [],
       (true || ((E3 r1).nv && nvL [])) = true,
       (decide (r1 < 0)) = true]) (by kernel_rfl) (cj h1 (cj (laws_szAcct_ok o 1048576 r1 h2) (cj rfl (cj1 h3)))))) (fun h3 =>
      Pn.bind (fun r2 h4 =>
       Pn.bind (fun r3 h5 =>
        Pn.bind (fun r4 h6 =>
         Pn.bind (fun r5 h7 =>
          Pn.bind (fun r6 h8 =>
           Pn.ite (fun h9 =>
            Pn.ite (fun h10 =>
             Pn.some (Fn.of [.bit false, .call [] (E3 r1) [], .bit false, .call [] (E34 r2) [], .call [] (V.tup [E34 r3.1, E3 r3.2]) [], .call [] (E34 r4) [], .call [] (V.tup [E34 r5.1, E3 r5.2]) [], .call [] (E4 r6) [], .bit false, .bit false, .bit false, .bit false, .bit true] (p := [(decide (1048576 < (o_.size : Int))) = false,
              Fn Tryz.prog 6 [(false, E28 o), (false, E3 1048576)] (E3 r1) [],
              (true || ((E3 r1).nv && nvL [])) = true,
              (decide (r1 < 0)) = false,
              Fn Tryz.prog 8 [(false, E28 o)] (E34 r2) [],
              (true || ((E34 r2).nv && nvL [])) = true,
              Fn Tryz.prog 7 [(false, E34 r2), (false, E9 o_), (false, E3 a2)] (V.tup [E34 r3.1, E3 r3.2]) [],
              (false || ((V.tup [E34 r3.1, E3 r3.2]).nv && nvL [])) = true,
              Fn Tryz.prog 8 [(false, E28 o)] (E34 r4) [],
              (true || ((E34 r4).nv && nvL [])) = true,
              Fn Tryz.prog 9 [(false, E34 r4), (false, E9 o_), (false, E3 a2)] (V.tup [E34 r5.1, E3 r5.2]) [],
              (false || ((V.tup [E34 r5.1, E3 r5.2]).nv && nvL [])) = true,
              Fn Tryz.prog 10 [(false, E34 r5.1), (false, E34 r3.1)] (E4 r6) [],
              (false || ((E4 r6).nv && nvL [])) = true,
              (!r6) = false,
              (!r6) = false,
              (!r6) = false,
              (!r6) = false,
              (r5.2 != r3.2) = true]) (by kernel_rfl) (cj h1 (cj (laws_szAcct_ok o 1048576 r1 h2) (cj rfl (cj h3 (cj (laws_toAcct_ok o r2 h4) (cj rfl (cj (spec_Free_ok r2 o_ a2 r3 h5) (cj (by simp [V.nv, nvL, nvL_all, nv_E3, nv_E5, nv_E9, nv_E23, nv_E30, nv_E31, nv_E32, nv_E34, nv_E74, nv_E85, nv_E94]) (cj (laws_toAcct_ok o r4 h6) (cj rfl (cj (impl_Free_ok r4 o_ a2 r5 h7) (cj (by simp [V.nv, nvL, nvL_all, nv_E3, nv_E5, nv_E9, nv_E23, nv_E30, nv_E31, nv_E32, nv_E34, nv_E74, nv_E85, nv_E94]) (cj (laws_eqAcct_ok r5.1 r3.1 r6 h8) (cj (by simp [V.nv, nvL, nvL_all, nv_E4]) (cj (nf h9) (cj (nf h9) (cj (nf h9) (cj (nf h9) (cj1 h10))))))))))))))))))))) (fun h10 =>
             Pn.bind (fun r7 h11 =>
              Pn.bind (fun r8 h12 =>
               Pn.ite (fun h13 =>
                Pn.bind (fun r9 h14 =>
                 Pn.ite (fun h15 =>
                  Pn.some (Fn.of [.bit false, .call [] (E3 r1) [], .bit false, .call [] (E34 r2) [], .call [] (V.tup [E34 r3.1, E3 r3.2]) [], .call [] (E34 r4) [], .call [] (V.tup [E34 r5.1, E3 r5.2]) [], .call [] (E4 r6) [], .bit false, .bit false, .bit false, .bit false, .bit false, .draw [], .call [] (E34 r7) [], .call [] (E4 r8) [], .bit false, .call [true, false] (E3 r9.1) [V.sl true 74 (List.map E74 r9.2.1), V.sl true 3 (List.map E3 r9.2.2.1), V.sl true 3 (List.map E3 r9.2.2.2.1), V.sl true 94 (List.map E94 r9.2.2.2.2)], .bit true, .bit true, .bit true, .bit true, .bit true, .bit true, .bit true, .bit true, .bit true, .bit true] (p := [(decide (1048576 < (o_.size : Int))) = false,
                   Fn Tryz.prog 6 [(false, E28 o), (false, E3 1048576)] (E3 r1) [],
                   (true || ((E3 r1).nv && nvL [])) = true,
                   (decide (r1 < 0)) = false,
                   Fn Tryz.prog 8 [(false, E28 o)] (E34 r2) [],
                   (true || ((E34 r2).nv && nvL [])) = true,
                   Fn Tryz.prog 7 [(false, E34 r2), (false, E9 o_), (false, E3 a2)] (V.tup [E34 r3.1, E3 r3.2]) [],
                   (false || ((V.tup [E34 r3.1, E3 r3.2]).nv && nvL [])) = true,
                   Fn Tryz.prog 8 [(false, E28 o)] (E34 r4) [],
                   (true || ((E34 r4).nv && nvL [])) = true,
                   Fn Tryz.prog 9 [(false, E34 r4), (false, E9 o_), (false, E3 a2)] (V.tup [E34 r5.1, E3 r5.2]) [],
                   (false || ((V.tup [E34 r5.1, E3 r5.2]).nv && nvL [])) = true,
                   Fn Tryz.prog 10 [(false, E34 r5.1), (false, E34 r3.1)] (E4 r6) [],
                   (false || ((E4 r6).nv && nvL [])) = true,
                   (!r6) = false,
                   (!r6) = false,
                   (!r6) = false,
                   (!r6) = false,
                   (r5.2 != r3.2) = false,
                   Fn Tryz.prog 8 [(false, E28 o)] (E34 r7) [],
                   (true || ((E34 r7).nv && nvL [])) = true,
                   Fn Tryz.prog 10 [(false, E34 r4), (false, E34 r7)] (E4 r8) [],
                   (false || ((E4 r8).nv && nvL [])) = true,
                   (!r8) = false,
                   Fn Tryz.prog 11 [(true, E34 r4), (false, E3 1)] (E3 r9.1) [V.sl true 74 (List.map E74 r9.2.1), V.sl true 3 (List.map E3 r9.2.2.1), V.sl true 3 (List.map E3 r9.2.2.2.1), V.sl true 94 (List.map E94 r9.2.2.2.2)],
                   (true || ((E3 r9.1).nv && nvL [V.sl true 74 (List.map E74 r9.2.1), V.sl true 3 (List.map E3 r9.2.2.1), V.sl true 3 (List.map E3 r9.2.2.2.1), V.sl true 94 (List.map E94 r9.2.2.2.2)])) = true,
                   (decide (r9.1 < 0)) = true,
                   (decide (r9.1 < 0)) = true,
                   (decide (r9.1 < 0)) = true,
                   (decide (r9.1 < 0)) = true,
                   (decide (r9.1 < 0)) = true,
                   true = true,
                   true = true,
                   true = true,
                   true = true,
                   true = true]) (by kernel_rfl) (cj h1 (cj (laws_szAcct_ok o 1048576 r1 h2) (cj rfl (cj h3 (cj (laws_toAcct_ok o r2 h4) (cj rfl (cj (spec_Free_ok r2 o_ a2 r3 h5) (cj (by simp [V.nv, nvL, nvL_all, nv_E3, nv_E5, nv_E9, nv_E23, nv_E30, nv_E31, nv_E32, nv_E34, nv_E74, nv_E85, nv_E94]) (cj (laws_toAcct_ok o r4 h6) (cj rfl (cj (impl_Free_ok r4 o_ a2 r5 h7) (cj (by simp [V.nv, nvL, nvL_all, nv_E3, nv_E5, nv_E9, nv_E23, nv_E30, nv_E31, nv_E32, nv_E34, nv_E74, nv_E85, nv_E94]) (cj (laws_eqAcct_ok r5.1 r3.1 r6 h8) (cj (by simp [V.nv, nvL, nvL_all, nv_E4]) (cj (nf h9) (cj (nf h9) (cj (nf h9) (cj (nf h9) (cj h10 (cj (laws_toAcct_ok o r7 h11) (cj rfl (cj (laws_eqAcct_ok r4 r7 r8 h12) (cj (by simp [V.nv, nvL, nvL_all, nv_E4]) (cj (nf h13) (cj (laws_markAcct_ok r4 1 r9 h14) (cj rfl (cj h15 (cj h15 (cj h15 (cj h15 (cj h15 (cj rfl (cj rfl (cj rfl (cj rfl (cj1 rfl)))))))))))))))))))))))))))))))))))))) (fun h15 =>
                  Pn.bind (fun r10 h16 =>
                   Pn.ite (fun h17 =>
                    Pn.bind (fun r11 h18 =>
                     Pn.bind (fun r12 h19 =>
                      Pn.ite (fun h20 =>
                       Pn.some (Fn.of [.bit false, .call [] (E3 r1) [], .bit false, .call [] (E34 r2) [], .call [] (V.tup [E34 r3.1, E3 r3.2]) [], .call [] (E34 r4) [], .call [] (V.tup [E34 r5.1, E3 r5.2]) [], .call [] (E4 r6) [], .bit false, .bit false, .bit false, .bit false, .bit false, .draw [], .call [] (E34 r7) [], .call [] (E4 r8) [], .bit false, .call [true, false] (E3 r9.1) [V.sl true 74 (List.map E74 r9.2.1), V.sl true 3 (List.map E3 r9.2.2.1), V.sl true 3 (List.map E3 r9.2.2.2.1), V.sl true 94 (List.map E94 r9.2.2.2.2)], .bit false, .bit false, .bit false, .call [] (E4 r10) [], .bit false, .bit false, .bit false, .bit false, .bit false, .bit false, .bit false, .call [true, false] (E3 r11.1) [V.sl true 74 (List.map E74 r11.2.1), V.sl true 3 (List.map E3 r11.2.2.1), V.sl true 3 (List.map E3 r11.2.2.2.1), V.sl true 94 (List.map E94 r11.2.2.2.2)], .call [] (E3 r12) [], .bit true] (p := [(decide (1048576 < (o_.size : Int))) = false,
                        Fn Tryz.prog 6 [(false, E28 o), (false, E3 1048576)] (E3 r1) [],
                        (true || ((E3 r1).nv && nvL [])) = true,
                        (decide (r1 < 0)) = false,
                        Fn Tryz.prog 8 [(false, E28 o)] (E34 r2) [],
                        (true || ((E34 r2).nv && nvL [])) = true,
                        Fn Tryz.prog 7 [(false, E34 r2), (false, E9 o_), (false, E3 a2)] (V.tup [E34 r3.1, E3 r3.2]) [],
                        (false || ((V.tup [E34 r3.1, E3 r3.2]).nv && nvL [])) = true,
                        Fn Tryz.prog 8 [(false, E28 o)] (E34 r4) [],
                        (true || ((E34 r4).nv && nvL [])) = true,
                        Fn Tryz.prog 9 [(false, E34 r4), (false, E9 o_), (false, E3 a2)] (V.tup [E34 r5.1, E3 r5.2]) [],
                        (false || ((V.tup [E34 r5.1, E3 r5.2]).nv && nvL [])) = true,
                        Fn Tryz.prog 10 [(false, E34 r5.1), (false, E34 r3.1)] (E4 r6) [],
                        (false || ((E4 r6).nv && nvL [])) = true,
                        (!r6) = false,
                        (!r6) = false,
                        (!r6) = false,
                        (!r6) = false,
                        (r5.2 != r3.2) = false,
                        Fn Tryz.prog 8 [(false, E28 o)] (E34 r7) [],
                        (true || ((E34 r7).nv && nvL [])) = true,
                        Fn Tryz.prog 10 [(false, E34 r4), (false, E34 r7)] (E4 r8) [],
                        (false || ((E4 r8).nv && nvL [])) = true,
                        (!r8) = false,
                        Fn Tryz.prog 11 [(true, E34 r4), (false, E3 1)] (E3 r9.1) [V.sl true 74 (List.map E74 r9.2.1), V.sl true 3 (List.map E3 r9.2.2.1), V.sl true 3 (List.map E3 r9.2.2.2.1), V.sl true 94 (List.map E94 r9.2.2.2.2)],
                        (true || ((E3 r9.1).nv && nvL [V.sl true 74 (List.map E74 r9.2.1), V.sl true 3 (List.map E3 r9.2.2.1), V.sl true 3 (List.map E3 r9.2.2.2.1), V.sl true 94 (List.map E94 r9.2.2.2.2)])) = true,
                        (decide (r9.1 < 0)) = false,
                        (decide (r9.1 < 0)) = false,
                        (decide (r9.1 < 0)) = false,
                        Fn Tryz.prog 10 [(false, E34 r5.1), (false, E34 r3.1)] (E4 r10) [],
                        (false || ((E4 r10).nv && nvL [])) = true,
                        (decide (r9.1 < 0)) = false,
                        (decide (r9.1 < 0)) = false,
                        (!r10) = false,
                        (!r10) = false,
                        (!r10) = false,
                        (!r10) = false,
                        (r5.2 != r3.2) = false,
                        Fn Tryz.prog 11 [(true, E34 r5.1), (false, E3 1)] (E3 r11.1) [V.sl true 74 (List.map E74 r11.2.1), V.sl true 3 (List.map E3 r11.2.2.1), V.sl true 3 (List.map E3 r11.2.2.2.1), V.sl true 94 (List.map E94 r11.2.2.2.2)],
                        (true || ((E3 r11.1).nv && nvL [V.sl true 74 (List.map E74 r11.2.1), V.sl true 3 (List.map E3 r11.2.2.1), V.sl true 3 (List.map E3 r11.2.2.2.1), V.sl true 94 (List.map E94 r11.2.2.2.2)])) = true,
                        Fn Tryz.prog 12 [(false, E34 (Acct.mk r5.1.Id r5.1.Limit r5.1.Posted r5.1.Most r5.1.MostSum r11.2.1 (Ring.mk r5.1.Ring.Span r5.1.Ring.Head r11.2.2.1 r11.2.2.2.1) r11.2.2.2.2)), (false, E3 1)] (E3 r12) [],
                        (false || ((E3 r12).nv && nvL [])) = true,
                        (decide (r12 < 0)) = true]) (by kernel_rfl) (cj h1 (cj (laws_szAcct_ok o 1048576 r1 h2) (cj rfl (cj h3 (cj (laws_toAcct_ok o r2 h4) (cj rfl (cj (spec_Free_ok r2 o_ a2 r3 h5) (cj (by simp [V.nv, nvL, nvL_all, nv_E3, nv_E5, nv_E9, nv_E23, nv_E30, nv_E31, nv_E32, nv_E34, nv_E74, nv_E85, nv_E94]) (cj (laws_toAcct_ok o r4 h6) (cj rfl (cj (impl_Free_ok r4 o_ a2 r5 h7) (cj (by simp [V.nv, nvL, nvL_all, nv_E3, nv_E5, nv_E9, nv_E23, nv_E30, nv_E31, nv_E32, nv_E34, nv_E74, nv_E85, nv_E94]) (cj (laws_eqAcct_ok r5.1 r3.1 r6 h8) (cj (by simp [V.nv, nvL, nvL_all, nv_E4]) (cj (nf h9) (cj (nf h9) (cj (nf h9) (cj (nf h9) (cj h10 (cj (laws_toAcct_ok o r7 h11) (cj rfl (cj (laws_eqAcct_ok r4 r7 r8 h12) (cj (by simp [V.nv, nvL, nvL_all, nv_E4]) (cj (nf h13) (cj (laws_markAcct_ok r4 1 r9 h14) (cj rfl (cj h15 (cj h15 (cj h15 (cj (laws_eqAcct_ok r5.1 r3.1 r10 h16) (cj (by simp [V.nv, nvL, nvL_all, nv_E4]) (cj h15 (cj h15 (cj (nf h17) (cj (nf h17) (cj (nf h17) (cj (nf h17) (cj h10 (cj (laws_markAcct_ok r5.1 1 r11 h18) (cj rfl (cj (laws_heldAcct_ok (Acct.mk r5.1.Id r5.1.Limit r5.1.Posted r5.1.Most r5.1.MostSum r11.2.1 (Ring.mk r5.1.Ring.Span r5.1.Ring.Head r11.2.2.1 r11.2.2.2.1) r11.2.2.2.2) 1 r12 h19) (cj (by simp [V.nv, nvL, nvL_all, nv_E3]) (cj1 h20))))))))))))))))))))))))))))))))))))))))))))) (fun h20 =>
                       Pn.ite (fun h21 =>
                        Pn.some (Fn.of [.bit false, .call [] (E3 r1) [], .bit false, .call [] (E34 r2) [], .call [] (V.tup [E34 r3.1, E3 r3.2]) [], .call [] (E34 r4) [], .call [] (V.tup [E34 r5.1, E3 r5.2]) [], .call [] (E4 r6) [], .bit false, .bit false, .bit false, .bit false, .bit false, .draw [], .call [] (E34 r7) [], .call [] (E4 r8) [], .bit false, .call [true, false] (E3 r9.1) [V.sl true 74 (List.map E74 r9.2.1), V.sl true 3 (List.map E3 r9.2.2.1), V.sl true 3 (List.map E3 r9.2.2.2.1), V.sl true 94 (List.map E94 r9.2.2.2.2)], .bit false, .bit false, .bit false, .call [] (E4 r10) [], .bit false, .bit false, .bit false, .bit false, .bit false, .bit false, .bit false, .call [true, false] (E3 r11.1) [V.sl true 74 (List.map E74 r11.2.1), V.sl true 3 (List.map E3 r11.2.2.1), V.sl true 3 (List.map E3 r11.2.2.2.1), V.sl true 94 (List.map E94 r11.2.2.2.2)], .call [] (E3 r12) [], .bit false, .bit true] (p := [(decide (1048576 < (o_.size : Int))) = false,
                         Fn Tryz.prog 6 [(false, E28 o), (false, E3 1048576)] (E3 r1) [],
                         (true || ((E3 r1).nv && nvL [])) = true,
                         (decide (r1 < 0)) = false,
                         Fn Tryz.prog 8 [(false, E28 o)] (E34 r2) [],
                         (true || ((E34 r2).nv && nvL [])) = true,
                         Fn Tryz.prog 7 [(false, E34 r2), (false, E9 o_), (false, E3 a2)] (V.tup [E34 r3.1, E3 r3.2]) [],
                         (false || ((V.tup [E34 r3.1, E3 r3.2]).nv && nvL [])) = true,
                         Fn Tryz.prog 8 [(false, E28 o)] (E34 r4) [],
                         (true || ((E34 r4).nv && nvL [])) = true,
                         Fn Tryz.prog 9 [(false, E34 r4), (false, E9 o_), (false, E3 a2)] (V.tup [E34 r5.1, E3 r5.2]) [],
                         (false || ((V.tup [E34 r5.1, E3 r5.2]).nv && nvL [])) = true,
                         Fn Tryz.prog 10 [(false, E34 r5.1), (false, E34 r3.1)] (E4 r6) [],
                         (false || ((E4 r6).nv && nvL [])) = true,
                         (!r6) = false,
                         (!r6) = false,
                         (!r6) = false,
                         (!r6) = false,
                         (r5.2 != r3.2) = false,
                         Fn Tryz.prog 8 [(false, E28 o)] (E34 r7) [],
                         (true || ((E34 r7).nv && nvL [])) = true,
                         Fn Tryz.prog 10 [(false, E34 r4), (false, E34 r7)] (E4 r8) [],
                         (false || ((E4 r8).nv && nvL [])) = true,
                         (!r8) = false,
                         Fn Tryz.prog 11 [(true, E34 r4), (false, E3 1)] (E3 r9.1) [V.sl true 74 (List.map E74 r9.2.1), V.sl true 3 (List.map E3 r9.2.2.1), V.sl true 3 (List.map E3 r9.2.2.2.1), V.sl true 94 (List.map E94 r9.2.2.2.2)],
                         (true || ((E3 r9.1).nv && nvL [V.sl true 74 (List.map E74 r9.2.1), V.sl true 3 (List.map E3 r9.2.2.1), V.sl true 3 (List.map E3 r9.2.2.2.1), V.sl true 94 (List.map E94 r9.2.2.2.2)])) = true,
                         (decide (r9.1 < 0)) = false,
                         (decide (r9.1 < 0)) = false,
                         (decide (r9.1 < 0)) = false,
                         Fn Tryz.prog 10 [(false, E34 r5.1), (false, E34 r3.1)] (E4 r10) [],
                         (false || ((E4 r10).nv && nvL [])) = true,
                         (decide (r9.1 < 0)) = false,
                         (decide (r9.1 < 0)) = false,
                         (!r10) = false,
                         (!r10) = false,
                         (!r10) = false,
                         (!r10) = false,
                         (r5.2 != r3.2) = false,
                         Fn Tryz.prog 11 [(true, E34 r5.1), (false, E3 1)] (E3 r11.1) [V.sl true 74 (List.map E74 r11.2.1), V.sl true 3 (List.map E3 r11.2.2.1), V.sl true 3 (List.map E3 r11.2.2.2.1), V.sl true 94 (List.map E94 r11.2.2.2.2)],
                         (true || ((E3 r11.1).nv && nvL [V.sl true 74 (List.map E74 r11.2.1), V.sl true 3 (List.map E3 r11.2.2.1), V.sl true 3 (List.map E3 r11.2.2.2.1), V.sl true 94 (List.map E94 r11.2.2.2.2)])) = true,
                         Fn Tryz.prog 12 [(false, E34 (Acct.mk r5.1.Id r5.1.Limit r5.1.Posted r5.1.Most r5.1.MostSum r11.2.1 (Ring.mk r5.1.Ring.Span r5.1.Ring.Head r11.2.2.1 r11.2.2.2.1) r11.2.2.2.2)), (false, E3 1)] (E3 r12) [],
                         (false || ((E3 r12).nv && nvL [])) = true,
                         (decide (r12 < 0)) = false,
                         (r12 != r11.1) = true]) (by kernel_rfl) (cj h1 (cj (laws_szAcct_ok o 1048576 r1 h2) (cj rfl (cj h3 (cj (laws_toAcct_ok o r2 h4) (cj rfl (cj (spec_Free_ok r2 o_ a2 r3 h5) (cj (by simp [V.nv, nvL, nvL_all, nv_E3, nv_E5, nv_E9, nv_E23, nv_E30, nv_E31, nv_E32, nv_E34, nv_E74, nv_E85, nv_E94]) (cj (laws_toAcct_ok o r4 h6) (cj rfl (cj (impl_Free_ok r4 o_ a2 r5 h7) (cj (by simp [V.nv, nvL, nvL_all, nv_E3, nv_E5, nv_E9, nv_E23, nv_E30, nv_E31, nv_E32, nv_E34, nv_E74, nv_E85, nv_E94]) (cj (laws_eqAcct_ok r5.1 r3.1 r6 h8) (cj (by simp [V.nv, nvL, nvL_all, nv_E4]) (cj (nf h9) (cj (nf h9) (cj (nf h9) (cj (nf h9) (cj h10 (cj (laws_toAcct_ok o r7 h11) (cj rfl (cj (laws_eqAcct_ok r4 r7 r8 h12) (cj (by simp [V.nv, nvL, nvL_all, nv_E4]) (cj (nf h13) (cj (laws_markAcct_ok r4 1 r9 h14) (cj rfl (cj h15 (cj h15 (cj h15 (cj (laws_eqAcct_ok r5.1 r3.1 r10 h16) (cj (by simp [V.nv, nvL, nvL_all, nv_E4]) (cj h15 (cj h15 (cj (nf h17) (cj (nf h17) (cj (nf h17) (cj (nf h17) (cj h10 (cj (laws_markAcct_ok r5.1 1 r11 h18) (cj rfl (cj (laws_heldAcct_ok (Acct.mk r5.1.Id r5.1.Limit r5.1.Posted r5.1.Most r5.1.MostSum r11.2.1 (Ring.mk r5.1.Ring.Span r5.1.Ring.Head r11.2.2.1 r11.2.2.2.1) r11.2.2.2.2) 1 r12 h19) (cj (by simp [V.nv, nvL, nvL_all, nv_E3]) (cj h20 (cj1 h21)))))))))))))))))))))))))))))))))))))))))))))) (fun h21 =>
                        Pn.bind (fun r13 h22 =>
                         Pn.bind (fun r14 h23 =>
                          Pn.bind (fun r15 h24 =>
                           Pn.ite (fun h25 =>
                            Pn.ite (fun h26 =>
                             Pn.some (Fn.of [.bit false, .call [] (E3 r1) [], .bit false, .call [] (E34 r2) [], .call [] (V.tup [E34 r3.1, E3 r3.2]) [], .call [] (E34 r4) [], .call [] (V.tup [E34 r5.1, E3 r5.2]) [], .call [] (E4 r6) [], .bit false, .bit false, .bit false, .bit false, .bit false, .draw [], .call [] (E34 r7) [], .call [] (E4 r8) [], .bit false, .call [true, false] (E3 r9.1) [V.sl true 74 (List.map E74 r9.2.1), V.sl true 3 (List.map E3 r9.2.2.1), V.sl true 3 (List.map E3 r9.2.2.2.1), V.sl true 94 (List.map E94 r9.2.2.2.2)], .bit false, .bit false, .bit false, .call [] (E4 r10) [], .bit false, .bit false, .bit false, .bit false, .bit false, .bit false, .bit false, .call [true, false] (E3 r11.1) [V.sl true 74 (List.map E74 r11.2.1), V.sl true 3 (List.map E3 r11.2.2.1), V.sl true 3 (List.map E3 r11.2.2.2.1), V.sl true 94 (List.map E94 r11.2.2.2.2)], .call [] (E3 r12) [], .bit false, .bit false, .call [] (E34 r13) [], .call [] (V.tup [E34 r14.1, E3 r14.2]) [], .call [] (E4 r15) [], .bit false, .bit false, .bit false, .bit false, .bit true] (p := [(decide (1048576 < (o_.size : Int))) = false,
                              Fn Tryz.prog 6 [(false, E28 o), (false, E3 1048576)] (E3 r1) [],
                              (true || ((E3 r1).nv && nvL [])) = true,
                              (decide (r1 < 0)) = false,
                              Fn Tryz.prog 8 [(false, E28 o)] (E34 r2) [],
                              (true || ((E34 r2).nv && nvL [])) = true,
                              Fn Tryz.prog 7 [(false, E34 r2), (false, E9 o_), (false, E3 a2)] (V.tup [E34 r3.1, E3 r3.2]) [],
                              (false || ((V.tup [E34 r3.1, E3 r3.2]).nv && nvL [])) = true,
                              Fn Tryz.prog 8 [(false, E28 o)] (E34 r4) [],
                              (true || ((E34 r4).nv && nvL [])) = true,
                              Fn Tryz.prog 9 [(false, E34 r4), (false, E9 o_), (false, E3 a2)] (V.tup [E34 r5.1, E3 r5.2]) [],
                              (false || ((V.tup [E34 r5.1, E3 r5.2]).nv && nvL [])) = true,
                              Fn Tryz.prog 10 [(false, E34 r5.1), (false, E34 r3.1)] (E4 r6) [],
                              (false || ((E4 r6).nv && nvL [])) = true,
                              (!r6) = false,
                              (!r6) = false,
                              (!r6) = false,
                              (!r6) = false,
                              (r5.2 != r3.2) = false,
                              Fn Tryz.prog 8 [(false, E28 o)] (E34 r7) [],
                              (true || ((E34 r7).nv && nvL [])) = true,
                              Fn Tryz.prog 10 [(false, E34 r4), (false, E34 r7)] (E4 r8) [],
                              (false || ((E4 r8).nv && nvL [])) = true,
                              (!r8) = false,
                              Fn Tryz.prog 11 [(true, E34 r4), (false, E3 1)] (E3 r9.1) [V.sl true 74 (List.map E74 r9.2.1), V.sl true 3 (List.map E3 r9.2.2.1), V.sl true 3 (List.map E3 r9.2.2.2.1), V.sl true 94 (List.map E94 r9.2.2.2.2)],
                              (true || ((E3 r9.1).nv && nvL [V.sl true 74 (List.map E74 r9.2.1), V.sl true 3 (List.map E3 r9.2.2.1), V.sl true 3 (List.map E3 r9.2.2.2.1), V.sl true 94 (List.map E94 r9.2.2.2.2)])) = true,
                              (decide (r9.1 < 0)) = false,
                              (decide (r9.1 < 0)) = false,
                              (decide (r9.1 < 0)) = false,
                              Fn Tryz.prog 10 [(false, E34 r5.1), (false, E34 r3.1)] (E4 r10) [],
                              (false || ((E4 r10).nv && nvL [])) = true,
                              (decide (r9.1 < 0)) = false,
                              (decide (r9.1 < 0)) = false,
                              (!r10) = false,
                              (!r10) = false,
                              (!r10) = false,
                              (!r10) = false,
                              (r5.2 != r3.2) = false,
                              Fn Tryz.prog 11 [(true, E34 r5.1), (false, E3 1)] (E3 r11.1) [V.sl true 74 (List.map E74 r11.2.1), V.sl true 3 (List.map E3 r11.2.2.1), V.sl true 3 (List.map E3 r11.2.2.2.1), V.sl true 94 (List.map E94 r11.2.2.2.2)],
                              (true || ((E3 r11.1).nv && nvL [V.sl true 74 (List.map E74 r11.2.1), V.sl true 3 (List.map E3 r11.2.2.1), V.sl true 3 (List.map E3 r11.2.2.2.1), V.sl true 94 (List.map E94 r11.2.2.2.2)])) = true,
                              Fn Tryz.prog 12 [(false, E34 (Acct.mk r5.1.Id r5.1.Limit r5.1.Posted r5.1.Most r5.1.MostSum r11.2.1 (Ring.mk r5.1.Ring.Span r5.1.Ring.Head r11.2.2.1 r11.2.2.2.1) r11.2.2.2.2)), (false, E3 1)] (E3 r12) [],
                              (false || ((E3 r12).nv && nvL [])) = true,
                              (decide (r12 < 0)) = false,
                              (r12 != r11.1) = false,
                              Fn Tryz.prog 8 [(false, E28 o)] (E34 r13) [],
                              (true || ((E34 r13).nv && nvL [])) = true,
                              Fn Tryz.prog 9 [(false, E34 r13), (false, E9 o_), (false, E3 a2)] (V.tup [E34 r14.1, E3 r14.2]) [],
                              (false || ((V.tup [E34 r14.1, E3 r14.2]).nv && nvL [])) = true,
                              Fn Tryz.prog 10 [(false, E34 r14.1), (false, E34 r3.1)] (E4 r15) [],
                              (false || ((E4 r15).nv && nvL [])) = true,
                              (!r15) = false,
                              (!r15) = false,
                              (!r15) = false,
                              (!r15) = false,
                              (r14.2 != r3.2) = true]) (by kernel_rfl) (cj h1 (cj (laws_szAcct_ok o 1048576 r1 h2) (cj rfl (cj h3 (cj (laws_toAcct_ok o r2 h4) (cj rfl (cj (spec_Free_ok r2 o_ a2 r3 h5) (cj (by simp [V.nv, nvL, nvL_all, nv_E3, nv_E5, nv_E9, nv_E23, nv_E30, nv_E31, nv_E32, nv_E34, nv_E74, nv_E85, nv_E94]) (cj (laws_toAcct_ok o r4 h6) (cj rfl (cj (impl_Free_ok r4 o_ a2 r5 h7) (cj (by simp [V.nv, nvL, nvL_all, nv_E3, nv_E5, nv_E9, nv_E23, nv_E30, nv_E31, nv_E32, nv_E34, nv_E74, nv_E85, nv_E94]) (cj (laws_eqAcct_ok r5.1 r3.1 r6 h8) (cj (by simp [V.nv, nvL, nvL_all, nv_E4]) (cj (nf h9) (cj (nf h9) (cj (nf h9) (cj (nf h9) (cj h10 (cj (laws_toAcct_ok o r7 h11) (cj rfl (cj (laws_eqAcct_ok r4 r7 r8 h12) (cj (by simp [V.nv, nvL, nvL_all, nv_E4]) (cj (nf h13) (cj (laws_markAcct_ok r4 1 r9 h14) (cj rfl (cj h15 (cj h15 (cj h15 (cj (laws_eqAcct_ok r5.1 r3.1 r10 h16) (cj (by simp [V.nv, nvL, nvL_all, nv_E4]) (cj h15 (cj h15 (cj (nf h17) (cj (nf h17) (cj (nf h17) (cj (nf h17) (cj h10 (cj (laws_markAcct_ok r5.1 1 r11 h18) (cj rfl (cj (laws_heldAcct_ok (Acct.mk r5.1.Id r5.1.Limit r5.1.Posted r5.1.Most r5.1.MostSum r11.2.1 (Ring.mk r5.1.Ring.Span r5.1.Ring.Head r11.2.2.1 r11.2.2.2.1) r11.2.2.2.2) 1 r12 h19) (cj (by simp [V.nv, nvL, nvL_all, nv_E3]) (cj h20 (cj h21 (cj (laws_toAcct_ok o r13 h22) (cj rfl (cj (impl_Free_ok r13 o_ a2 r14 h23) (cj (by simp [V.nv, nvL, nvL_all, nv_E3, nv_E5, nv_E9, nv_E23, nv_E30, nv_E31, nv_E32, nv_E34, nv_E74, nv_E85, nv_E94]) (cj (laws_eqAcct_ok r14.1 r3.1 r15 h24) (cj (by simp [V.nv, nvL, nvL_all, nv_E4]) (cj (nf h25) (cj (nf h25) (cj (nf h25) (cj (nf h25) (cj1 h26))))))))))))))))))))))))))))))))))))))))))))))))))))))))) (fun h26 =>
                             Pn.bind (fun r16 h27 =>
                              Pn.ite (fun h28 =>
                               Pn.some (Fn.of [.bit false, .call [] (E3 r1) [], .bit false, .call [] (E34 r2) [], .call [] (V.tup [E34 r3.1, E3 r3.2]) [], .call [] (E34 r4) [], .call [] (V.tup [E34 r5.1, E3 r5.2]) [], .call [] (E4 r6) [], .bit false, .bit false, .bit false, .bit false, .bit false, .draw [], .call [] (E34 r7) [], .call [] (E4 r8) [], .bit false, .call [true, false] (E3 r9.1) [V.sl true 74 (List.map E74 r9.2.1), V.sl true 3 (List.map E3 r9.2.2.1), V.sl true 3 (List.map E3 r9.2.2.2.1), V.sl true 94 (List.map E94 r9.2.2.2.2)], .bit false, .bit false, .bit false, .call [] (E4 r10) [], .bit false, .bit false, .bit false, .bit false, .bit false, .bit false, .bit false, .call [true, false] (E3 r11.1) [V.sl true 74 (List.map E74 r11.2.1), V.sl true 3 (List.map E3 r11.2.2.1), V.sl true 3 (List.map E3 r11.2.2.2.1), V.sl true 94 (List.map E94 r11.2.2.2.2)], .call [] (E3 r12) [], .bit false, .bit false, .call [] (E34 r13) [], .call [] (V.tup [E34 r14.1, E3 r14.2]) [], .call [] (E4 r15) [], .bit false, .bit false, .bit false, .bit false, .bit false, .call [] (E3 r16) [], .bit true] (p := [(decide (1048576 < (o_.size : Int))) = false,
                                Fn Tryz.prog 6 [(false, E28 o), (false, E3 1048576)] (E3 r1) [],
                                (true || ((E3 r1).nv && nvL [])) = true,
                                (decide (r1 < 0)) = false,
                                Fn Tryz.prog 8 [(false, E28 o)] (E34 r2) [],
                                (true || ((E34 r2).nv && nvL [])) = true,
                                Fn Tryz.prog 7 [(false, E34 r2), (false, E9 o_), (false, E3 a2)] (V.tup [E34 r3.1, E3 r3.2]) [],
                                (false || ((V.tup [E34 r3.1, E3 r3.2]).nv && nvL [])) = true,
                                Fn Tryz.prog 8 [(false, E28 o)] (E34 r4) [],
                                (true || ((E34 r4).nv && nvL [])) = true,
                                Fn Tryz.prog 9 [(false, E34 r4), (false, E9 o_), (false, E3 a2)] (V.tup [E34 r5.1, E3 r5.2]) [],
                                (false || ((V.tup [E34 r5.1, E3 r5.2]).nv && nvL [])) = true,
                                Fn Tryz.prog 10 [(false, E34 r5.1), (false, E34 r3.1)] (E4 r6) [],
                                (false || ((E4 r6).nv && nvL [])) = true,
                                (!r6) = false,
                                (!r6) = false,
                                (!r6) = false,
                                (!r6) = false,
                                (r5.2 != r3.2) = false,
                                Fn Tryz.prog 8 [(false, E28 o)] (E34 r7) [],
                                (true || ((E34 r7).nv && nvL [])) = true,
                                Fn Tryz.prog 10 [(false, E34 r4), (false, E34 r7)] (E4 r8) [],
                                (false || ((E4 r8).nv && nvL [])) = true,
                                (!r8) = false,
                                Fn Tryz.prog 11 [(true, E34 r4), (false, E3 1)] (E3 r9.1) [V.sl true 74 (List.map E74 r9.2.1), V.sl true 3 (List.map E3 r9.2.2.1), V.sl true 3 (List.map E3 r9.2.2.2.1), V.sl true 94 (List.map E94 r9.2.2.2.2)],
                                (true || ((E3 r9.1).nv && nvL [V.sl true 74 (List.map E74 r9.2.1), V.sl true 3 (List.map E3 r9.2.2.1), V.sl true 3 (List.map E3 r9.2.2.2.1), V.sl true 94 (List.map E94 r9.2.2.2.2)])) = true,
                                (decide (r9.1 < 0)) = false,
                                (decide (r9.1 < 0)) = false,
                                (decide (r9.1 < 0)) = false,
                                Fn Tryz.prog 10 [(false, E34 r5.1), (false, E34 r3.1)] (E4 r10) [],
                                (false || ((E4 r10).nv && nvL [])) = true,
                                (decide (r9.1 < 0)) = false,
                                (decide (r9.1 < 0)) = false,
                                (!r10) = false,
                                (!r10) = false,
                                (!r10) = false,
                                (!r10) = false,
                                (r5.2 != r3.2) = false,
                                Fn Tryz.prog 11 [(true, E34 r5.1), (false, E3 1)] (E3 r11.1) [V.sl true 74 (List.map E74 r11.2.1), V.sl true 3 (List.map E3 r11.2.2.1), V.sl true 3 (List.map E3 r11.2.2.2.1), V.sl true 94 (List.map E94 r11.2.2.2.2)],
                                (true || ((E3 r11.1).nv && nvL [V.sl true 74 (List.map E74 r11.2.1), V.sl true 3 (List.map E3 r11.2.2.1), V.sl true 3 (List.map E3 r11.2.2.2.1), V.sl true 94 (List.map E94 r11.2.2.2.2)])) = true,
                                Fn Tryz.prog 12 [(false, E34 (Acct.mk r5.1.Id r5.1.Limit r5.1.Posted r5.1.Most r5.1.MostSum r11.2.1 (Ring.mk r5.1.Ring.Span r5.1.Ring.Head r11.2.2.1 r11.2.2.2.1) r11.2.2.2.2)), (false, E3 1)] (E3 r12) [],
                                (false || ((E3 r12).nv && nvL [])) = true,
                                (decide (r12 < 0)) = false,
                                (r12 != r11.1) = false,
                                Fn Tryz.prog 8 [(false, E28 o)] (E34 r13) [],
                                (true || ((E34 r13).nv && nvL [])) = true,
                                Fn Tryz.prog 9 [(false, E34 r13), (false, E9 o_), (false, E3 a2)] (V.tup [E34 r14.1, E3 r14.2]) [],
                                (false || ((V.tup [E34 r14.1, E3 r14.2]).nv && nvL [])) = true,
                                Fn Tryz.prog 10 [(false, E34 r14.1), (false, E34 r3.1)] (E4 r15) [],
                                (false || ((E4 r15).nv && nvL [])) = true,
                                (!r15) = false,
                                (!r15) = false,
                                (!r15) = false,
                                (!r15) = false,
                                (r14.2 != r3.2) = false,
                                Fn Tryz.prog 12 [(false, E34 (Acct.mk r5.1.Id r5.1.Limit r5.1.Posted r5.1.Most r5.1.MostSum r11.2.1 (Ring.mk r5.1.Ring.Span r5.1.Ring.Head r11.2.2.1 r11.2.2.2.1) r11.2.2.2.2)), (false, E3 1)] (E3 r16) [],
                                (false || ((E3 r16).nv && nvL [])) = true,
                                (decide (r16 < 0)) = true]) (by kernel_rfl) (cj h1 (cj (laws_szAcct_ok o 1048576 r1 h2) (cj rfl (cj h3 (cj (laws_toAcct_ok o r2 h4) (cj rfl (cj (spec_Free_ok r2 o_ a2 r3 h5) (cj (by simp [V.nv, nvL, nvL_all, nv_E3, nv_E5, nv_E9, nv_E23, nv_E30, nv_E31, nv_E32, nv_E34, nv_E74, nv_E85, nv_E94]) (cj (laws_toAcct_ok o r4 h6) (cj rfl (cj (impl_Free_ok r4 o_ a2 r5 h7) (cj (by simp [V.nv, nvL, nvL_all, nv_E3, nv_E5, nv_E9, nv_E23, nv_E30, nv_E31, nv_E32, nv_E34, nv_E74, nv_E85, nv_E94]) (cj (laws_eqAcct_ok r5.1 r3.1 r6 h8) (cj (by simp [V.nv, nvL, nvL_all, nv_E4]) (cj (nf h9) (cj (nf h9) (cj (nf h9) (cj (nf h9) (cj h10 (cj (laws_toAcct_ok o r7 h11) (cj rfl (cj (laws_eqAcct_ok r4 r7 r8 h12) (cj (by simp [V.nv, nvL, nvL_all, nv_E4]) (cj (nf h13) (cj (laws_markAcct_ok r4 1 r9 h14) (cj rfl (cj h15 (cj h15 (cj h15 (cj (laws_eqAcct_ok r5.1 r3.1 r10 h16) (cj (by simp [V.nv, nvL, nvL_all, nv_E4]) (cj h15 (cj h15 (cj (nf h17) (cj (nf h17) (cj (nf h17) (cj (nf h17) (cj h10 (cj (laws_markAcct_ok r5.1 1 r11 h18) (cj rfl (cj (laws_heldAcct_ok (Acct.mk r5.1.Id r5.1.Limit r5.1.Posted r5.1.Most r5.1.MostSum r11.2.1 (Ring.mk r5.1.Ring.Span r5.1.Ring.Head r11.2.2.1 r11.2.2.2.1) r11.2.2.2.2) 1 r12 h19) (cj (by simp [V.nv, nvL, nvL_all, nv_E3]) (cj h20 (cj h21 (cj (laws_toAcct_ok o r13 h22) (cj rfl (cj (impl_Free_ok r13 o_ a2 r14 h23) (cj (by simp [V.nv, nvL, nvL_all, nv_E3, nv_E5, nv_E9, nv_E23, nv_E30, nv_E31, nv_E32, nv_E34, nv_E74, nv_E85, nv_E94]) (cj (laws_eqAcct_ok r14.1 r3.1 r15 h24) (cj (by simp [V.nv, nvL, nvL_all, nv_E4]) (cj (nf h25) (cj (nf h25) (cj (nf h25) (cj (nf h25) (cj h26 (cj (laws_heldAcct_ok (Acct.mk r5.1.Id r5.1.Limit r5.1.Posted r5.1.Most r5.1.MostSum r11.2.1 (Ring.mk r5.1.Ring.Span r5.1.Ring.Head r11.2.2.1 r11.2.2.2.1) r11.2.2.2.2) 1 r16 h27) (cj (by simp [V.nv, nvL, nvL_all, nv_E3]) (cj1 h28)))))))))))))))))))))))))))))))))))))))))))))))))))))))))))) (fun h28 =>
                               Pn.ite (fun h29 =>
                                Pn.some (Fn.of [.bit false, .call [] (E3 r1) [], .bit false, .call [] (E34 r2) [], .call [] (V.tup [E34 r3.1, E3 r3.2]) [], .call [] (E34 r4) [], .call [] (V.tup [E34 r5.1, E3 r5.2]) [], .call [] (E4 r6) [], .bit false, .bit false, .bit false, .bit false, .bit false, .draw [], .call [] (E34 r7) [], .call [] (E4 r8) [], .bit false, .call [true, false] (E3 r9.1) [V.sl true 74 (List.map E74 r9.2.1), V.sl true 3 (List.map E3 r9.2.2.1), V.sl true 3 (List.map E3 r9.2.2.2.1), V.sl true 94 (List.map E94 r9.2.2.2.2)], .bit false, .bit false, .bit false, .call [] (E4 r10) [], .bit false, .bit false, .bit false, .bit false, .bit false, .bit false, .bit false, .call [true, false] (E3 r11.1) [V.sl true 74 (List.map E74 r11.2.1), V.sl true 3 (List.map E3 r11.2.2.1), V.sl true 3 (List.map E3 r11.2.2.2.1), V.sl true 94 (List.map E94 r11.2.2.2.2)], .call [] (E3 r12) [], .bit false, .bit false, .call [] (E34 r13) [], .call [] (V.tup [E34 r14.1, E3 r14.2]) [], .call [] (E4 r15) [], .bit false, .bit false, .bit false, .bit false, .bit false, .call [] (E3 r16) [], .bit false, .bit true] (p := [(decide (1048576 < (o_.size : Int))) = false,
                                 Fn Tryz.prog 6 [(false, E28 o), (false, E3 1048576)] (E3 r1) [],
                                 (true || ((E3 r1).nv && nvL [])) = true,
                                 (decide (r1 < 0)) = false,
                                 Fn Tryz.prog 8 [(false, E28 o)] (E34 r2) [],
                                 (true || ((E34 r2).nv && nvL [])) = true,
                                 Fn Tryz.prog 7 [(false, E34 r2), (false, E9 o_), (false, E3 a2)] (V.tup [E34 r3.1, E3 r3.2]) [],
                                 (false || ((V.tup [E34 r3.1, E3 r3.2]).nv && nvL [])) = true,
                                 Fn Tryz.prog 8 [(false, E28 o)] (E34 r4) [],
                                 (true || ((E34 r4).nv && nvL [])) = true,
                                 Fn Tryz.prog 9 [(false, E34 r4), (false, E9 o_), (false, E3 a2)] (V.tup [E34 r5.1, E3 r5.2]) [],
                                 (false || ((V.tup [E34 r5.1, E3 r5.2]).nv && nvL [])) = true,
                                 Fn Tryz.prog 10 [(false, E34 r5.1), (false, E34 r3.1)] (E4 r6) [],
                                 (false || ((E4 r6).nv && nvL [])) = true,
                                 (!r6) = false,
                                 (!r6) = false,
                                 (!r6) = false,
                                 (!r6) = false,
                                 (r5.2 != r3.2) = false,
                                 Fn Tryz.prog 8 [(false, E28 o)] (E34 r7) [],
                                 (true || ((E34 r7).nv && nvL [])) = true,
                                 Fn Tryz.prog 10 [(false, E34 r4), (false, E34 r7)] (E4 r8) [],
                                 (false || ((E4 r8).nv && nvL [])) = true,
                                 (!r8) = false,
                                 Fn Tryz.prog 11 [(true, E34 r4), (false, E3 1)] (E3 r9.1) [V.sl true 74 (List.map E74 r9.2.1), V.sl true 3 (List.map E3 r9.2.2.1), V.sl true 3 (List.map E3 r9.2.2.2.1), V.sl true 94 (List.map E94 r9.2.2.2.2)],
                                 (true || ((E3 r9.1).nv && nvL [V.sl true 74 (List.map E74 r9.2.1), V.sl true 3 (List.map E3 r9.2.2.1), V.sl true 3 (List.map E3 r9.2.2.2.1), V.sl true 94 (List.map E94 r9.2.2.2.2)])) = true,
                                 (decide (r9.1 < 0)) = false,
                                 (decide (r9.1 < 0)) = false,
                                 (decide (r9.1 < 0)) = false,
                                 Fn Tryz.prog 10 [(false, E34 r5.1), (false, E34 r3.1)] (E4 r10) [],
                                 (false || ((E4 r10).nv && nvL [])) = true,
                                 (decide (r9.1 < 0)) = false,
                                 (decide (r9.1 < 0)) = false,
                                 (!r10) = false,
                                 (!r10) = false,
                                 (!r10) = false,
                                 (!r10) = false,
                                 (r5.2 != r3.2) = false,
                                 Fn Tryz.prog 11 [(true, E34 r5.1), (false, E3 1)] (E3 r11.1) [V.sl true 74 (List.map E74 r11.2.1), V.sl true 3 (List.map E3 r11.2.2.1), V.sl true 3 (List.map E3 r11.2.2.2.1), V.sl true 94 (List.map E94 r11.2.2.2.2)],
                                 (true || ((E3 r11.1).nv && nvL [V.sl true 74 (List.map E74 r11.2.1), V.sl true 3 (List.map E3 r11.2.2.1), V.sl true 3 (List.map E3 r11.2.2.2.1), V.sl true 94 (List.map E94 r11.2.2.2.2)])) = true,
                                 Fn Tryz.prog 12 [(false, E34 (Acct.mk r5.1.Id r5.1.Limit r5.1.Posted r5.1.Most r5.1.MostSum r11.2.1 (Ring.mk r5.1.Ring.Span r5.1.Ring.Head r11.2.2.1 r11.2.2.2.1) r11.2.2.2.2)), (false, E3 1)] (E3 r12) [],
                                 (false || ((E3 r12).nv && nvL [])) = true,
                                 (decide (r12 < 0)) = false,
                                 (r12 != r11.1) = false,
                                 Fn Tryz.prog 8 [(false, E28 o)] (E34 r13) [],
                                 (true || ((E34 r13).nv && nvL [])) = true,
                                 Fn Tryz.prog 9 [(false, E34 r13), (false, E9 o_), (false, E3 a2)] (V.tup [E34 r14.1, E3 r14.2]) [],
                                 (false || ((V.tup [E34 r14.1, E3 r14.2]).nv && nvL [])) = true,
                                 Fn Tryz.prog 10 [(false, E34 r14.1), (false, E34 r3.1)] (E4 r15) [],
                                 (false || ((E4 r15).nv && nvL [])) = true,
                                 (!r15) = false,
                                 (!r15) = false,
                                 (!r15) = false,
                                 (!r15) = false,
                                 (r14.2 != r3.2) = false,
                                 Fn Tryz.prog 12 [(false, E34 (Acct.mk r5.1.Id r5.1.Limit r5.1.Posted r5.1.Most r5.1.MostSum r11.2.1 (Ring.mk r5.1.Ring.Span r5.1.Ring.Head r11.2.2.1 r11.2.2.2.1) r11.2.2.2.2)), (false, E3 1)] (E3 r16) [],
                                 (false || ((E3 r16).nv && nvL [])) = true,
                                 (decide (r16 < 0)) = false,
                                 (r16 != r11.1) = true]) (by kernel_rfl) (cj h1 (cj (laws_szAcct_ok o 1048576 r1 h2) (cj rfl (cj h3 (cj (laws_toAcct_ok o r2 h4) (cj rfl (cj (spec_Free_ok r2 o_ a2 r3 h5) (cj (by simp [V.nv, nvL, nvL_all, nv_E3, nv_E5, nv_E9, nv_E23, nv_E30, nv_E31, nv_E32, nv_E34, nv_E74, nv_E85, nv_E94]) (cj (laws_toAcct_ok o r4 h6) (cj rfl (cj (impl_Free_ok r4 o_ a2 r5 h7) (cj (by simp [V.nv, nvL, nvL_all, nv_E3, nv_E5, nv_E9, nv_E23, nv_E30, nv_E31, nv_E32, nv_E34, nv_E74, nv_E85, nv_E94]) (cj (laws_eqAcct_ok r5.1 r3.1 r6 h8) (cj (by simp [V.nv, nvL, nvL_all, nv_E4]) (cj (nf h9) (cj (nf h9) (cj (nf h9) (cj (nf h9) (cj h10 (cj (laws_toAcct_ok o r7 h11) (cj rfl (cj (laws_eqAcct_ok r4 r7 r8 h12) (cj (by simp [V.nv, nvL, nvL_all, nv_E4]) (cj (nf h13) (cj (laws_markAcct_ok r4 1 r9 h14) (cj rfl (cj h15 (cj h15 (cj h15 (cj (laws_eqAcct_ok r5.1 r3.1 r10 h16) (cj (by simp [V.nv, nvL, nvL_all, nv_E4]) (cj h15 (cj h15 (cj (nf h17) (cj (nf h17) (cj (nf h17) (cj (nf h17) (cj h10 (cj (laws_markAcct_ok r5.1 1 r11 h18) (cj rfl (cj (laws_heldAcct_ok (Acct.mk r5.1.Id r5.1.Limit r5.1.Posted r5.1.Most r5.1.MostSum r11.2.1 (Ring.mk r5.1.Ring.Span r5.1.Ring.Head r11.2.2.1 r11.2.2.2.1) r11.2.2.2.2) 1 r12 h19) (cj (by simp [V.nv, nvL, nvL_all, nv_E3]) (cj h20 (cj h21 (cj (laws_toAcct_ok o r13 h22) (cj rfl (cj (impl_Free_ok r13 o_ a2 r14 h23) (cj (by simp [V.nv, nvL, nvL_all, nv_E3, nv_E5, nv_E9, nv_E23, nv_E30, nv_E31, nv_E32, nv_E34, nv_E74, nv_E85, nv_E94]) (cj (laws_eqAcct_ok r14.1 r3.1 r15 h24) (cj (by simp [V.nv, nvL, nvL_all, nv_E4]) (cj (nf h25) (cj (nf h25) (cj (nf h25) (cj (nf h25) (cj h26 (cj (laws_heldAcct_ok (Acct.mk r5.1.Id r5.1.Limit r5.1.Posted r5.1.Most r5.1.MostSum r11.2.1 (Ring.mk r5.1.Ring.Span r5.1.Ring.Head r11.2.2.1 r11.2.2.2.1) r11.2.2.2.2) 1 r16 h27) (cj (by simp [V.nv, nvL, nvL_all, nv_E3]) (cj h28 (cj1 h29))))))))))))))))))))))))))))))))))))))))))))))))))))))))))))) (fun h29 =>
                                Pn.some (Fn.of [.bit false, .call [] (E3 r1) [], .bit false, .call [] (E34 r2) [], .call [] (V.tup [E34 r3.1, E3 r3.2]) [], .call [] (E34 r4) [], .call [] (V.tup [E34 r5.1, E3 r5.2]) [], .call [] (E4 r6) [], .bit false, .bit false, .bit false, .bit false, .bit false, .draw [], .call [] (E34 r7) [], .call [] (E4 r8) [], .bit false, .call [true, false] (E3 r9.1) [V.sl true 74 (List.map E74 r9.2.1), V.sl true 3 (List.map E3 r9.2.2.1), V.sl true 3 (List.map E3 r9.2.2.2.1), V.sl true 94 (List.map E94 r9.2.2.2.2)], .bit false, .bit false, .bit false, .call [] (E4 r10) [], .bit false, .bit false, .bit false, .bit false, .bit false, .bit false, .bit false, .call [true, false] (E3 r11.1) [V.sl true 74 (List.map E74 r11.2.1), V.sl true 3 (List.map E3 r11.2.2.1), V.sl true 3 (List.map E3 r11.2.2.2.1), V.sl true 94 (List.map E94 r11.2.2.2.2)], .call [] (E3 r12) [], .bit false, .bit false, .call [] (E34 r13) [], .call [] (V.tup [E34 r14.1, E3 r14.2]) [], .call [] (E4 r15) [], .bit false, .bit false, .bit false, .bit false, .bit false, .call [] (E3 r16) [], .bit false, .bit false] (p := [(decide (1048576 < (o_.size : Int))) = false,
                                 Fn Tryz.prog 6 [(false, E28 o), (false, E3 1048576)] (E3 r1) [],
                                 (true || ((E3 r1).nv && nvL [])) = true,
                                 (decide (r1 < 0)) = false,
                                 Fn Tryz.prog 8 [(false, E28 o)] (E34 r2) [],
                                 (true || ((E34 r2).nv && nvL [])) = true,
                                 Fn Tryz.prog 7 [(false, E34 r2), (false, E9 o_), (false, E3 a2)] (V.tup [E34 r3.1, E3 r3.2]) [],
                                 (false || ((V.tup [E34 r3.1, E3 r3.2]).nv && nvL [])) = true,
                                 Fn Tryz.prog 8 [(false, E28 o)] (E34 r4) [],
                                 (true || ((E34 r4).nv && nvL [])) = true,
                                 Fn Tryz.prog 9 [(false, E34 r4), (false, E9 o_), (false, E3 a2)] (V.tup [E34 r5.1, E3 r5.2]) [],
                                 (false || ((V.tup [E34 r5.1, E3 r5.2]).nv && nvL [])) = true,
                                 Fn Tryz.prog 10 [(false, E34 r5.1), (false, E34 r3.1)] (E4 r6) [],
                                 (false || ((E4 r6).nv && nvL [])) = true,
                                 (!r6) = false,
                                 (!r6) = false,
                                 (!r6) = false,
                                 (!r6) = false,
                                 (r5.2 != r3.2) = false,
                                 Fn Tryz.prog 8 [(false, E28 o)] (E34 r7) [],
                                 (true || ((E34 r7).nv && nvL [])) = true,
                                 Fn Tryz.prog 10 [(false, E34 r4), (false, E34 r7)] (E4 r8) [],
                                 (false || ((E4 r8).nv && nvL [])) = true,
                                 (!r8) = false,
                                 Fn Tryz.prog 11 [(true, E34 r4), (false, E3 1)] (E3 r9.1) [V.sl true 74 (List.map E74 r9.2.1), V.sl true 3 (List.map E3 r9.2.2.1), V.sl true 3 (List.map E3 r9.2.2.2.1), V.sl true 94 (List.map E94 r9.2.2.2.2)],
                                 (true || ((E3 r9.1).nv && nvL [V.sl true 74 (List.map E74 r9.2.1), V.sl true 3 (List.map E3 r9.2.2.1), V.sl true 3 (List.map E3 r9.2.2.2.1), V.sl true 94 (List.map E94 r9.2.2.2.2)])) = true,
                                 (decide (r9.1 < 0)) = false,
                                 (decide (r9.1 < 0)) = false,
                                 (decide (r9.1 < 0)) = false,
                                 Fn Tryz.prog 10 [(false, E34 r5.1), (false, E34 r3.1)] (E4 r10) [],
                                 (false || ((E4 r10).nv && nvL [])) = true,
                                 (decide (r9.1 < 0)) = false,
                                 (decide (r9.1 < 0)) = false,
                                 (!r10) = false,
                                 (!r10) = false,
                                 (!r10) = false,
                                 (!r10) = false,
                                 (r5.2 != r3.2) = false,
                                 Fn Tryz.prog 11 [(true, E34 r5.1), (false, E3 1)] (E3 r11.1) [V.sl true 74 (List.map E74 r11.2.1), V.sl true 3 (List.map E3 r11.2.2.1), V.sl true 3 (List.map E3 r11.2.2.2.1), V.sl true 94 (List.map E94 r11.2.2.2.2)],
                                 (true || ((E3 r11.1).nv && nvL [V.sl true 74 (List.map E74 r11.2.1), V.sl true 3 (List.map E3 r11.2.2.1), V.sl true 3 (List.map E3 r11.2.2.2.1), V.sl true 94 (List.map E94 r11.2.2.2.2)])) = true,
                                 Fn Tryz.prog 12 [(false, E34 (Acct.mk r5.1.Id r5.1.Limit r5.1.Posted r5.1.Most r5.1.MostSum r11.2.1 (Ring.mk r5.1.Ring.Span r5.1.Ring.Head r11.2.2.1 r11.2.2.2.1) r11.2.2.2.2)), (false, E3 1)] (E3 r12) [],
                                 (false || ((E3 r12).nv && nvL [])) = true,
                                 (decide (r12 < 0)) = false,
                                 (r12 != r11.1) = false,
                                 Fn Tryz.prog 8 [(false, E28 o)] (E34 r13) [],
                                 (true || ((E34 r13).nv && nvL [])) = true,
                                 Fn Tryz.prog 9 [(false, E34 r13), (false, E9 o_), (false, E3 a2)] (V.tup [E34 r14.1, E3 r14.2]) [],
                                 (false || ((V.tup [E34 r14.1, E3 r14.2]).nv && nvL [])) = true,
                                 Fn Tryz.prog 10 [(false, E34 r14.1), (false, E34 r3.1)] (E4 r15) [],
                                 (false || ((E4 r15).nv && nvL [])) = true,
                                 (!r15) = false,
                                 (!r15) = false,
                                 (!r15) = false,
                                 (!r15) = false,
                                 (r14.2 != r3.2) = false,
                                 Fn Tryz.prog 12 [(false, E34 (Acct.mk r5.1.Id r5.1.Limit r5.1.Posted r5.1.Most r5.1.MostSum r11.2.1 (Ring.mk r5.1.Ring.Span r5.1.Ring.Head r11.2.2.1 r11.2.2.2.1) r11.2.2.2.2)), (false, E3 1)] (E3 r16) [],
                                 (false || ((E3 r16).nv && nvL [])) = true,
                                 (decide (r16 < 0)) = false,
                                 (r16 != r11.1) = false]) (by kernel_rfl) (cj h1 (cj (laws_szAcct_ok o 1048576 r1 h2) (cj rfl (cj h3 (cj (laws_toAcct_ok o r2 h4) (cj rfl (cj (spec_Free_ok r2 o_ a2 r3 h5) (cj (by simp [V.nv, nvL, nvL_all, nv_E3, nv_E5, nv_E9, nv_E23, nv_E30, nv_E31, nv_E32, nv_E34, nv_E74, nv_E85, nv_E94]) (cj (laws_toAcct_ok o r4 h6) (cj rfl (cj (impl_Free_ok r4 o_ a2 r5 h7) (cj (by simp [V.nv, nvL, nvL_all, nv_E3, nv_E5, nv_E9, nv_E23, nv_E30, nv_E31, nv_E32, nv_E34, nv_E74, nv_E85, nv_E94]) (cj (laws_eqAcct_ok r5.1 r3.1 r6 h8) (cj (by simp [V.nv, nvL, nvL_all, nv_E4]) (cj (nf h9) (cj (nf h9) (cj (nf h9) (cj (nf h9) (cj h10 (cj (laws_toAcct_ok o r7 h11) (cj rfl (cj (laws_eqAcct_ok r4 r7 r8 h12) (cj (by simp [V.nv, nvL, nvL_all, nv_E4]) (cj (nf h13) (cj (laws_markAcct_ok r4 1 r9 h14) (cj rfl (cj h15 (cj h15 (cj h15 (cj (laws_eqAcct_ok r5.1 r3.1 r10 h16) (cj (by simp [V.nv, nvL, nvL_all, nv_E4]) (cj h15 (cj h15 (cj (nf h17) (cj (nf h17) (cj (nf h17) (cj (nf h17) (cj h10 (cj (laws_markAcct_ok r5.1 1 r11 h18) (cj rfl (cj (laws_heldAcct_ok (Acct.mk r5.1.Id r5.1.Limit r5.1.Posted r5.1.Most r5.1.MostSum r11.2.1 (Ring.mk r5.1.Ring.Span r5.1.Ring.Head r11.2.2.1 r11.2.2.2.1) r11.2.2.2.2) 1 r12 h19) (cj (by simp [V.nv, nvL, nvL_all, nv_E3]) (cj h20 (cj h21 (cj (laws_toAcct_ok o r13 h22) (cj rfl (cj (impl_Free_ok r13 o_ a2 r14 h23) (cj (by simp [V.nv, nvL, nvL_all, nv_E3, nv_E5, nv_E9, nv_E23, nv_E30, nv_E31, nv_E32, nv_E34, nv_E74, nv_E85, nv_E94]) (cj (laws_eqAcct_ok r14.1 r3.1 r15 h24) (cj (by simp [V.nv, nvL, nvL_all, nv_E4]) (cj (nf h25) (cj (nf h25) (cj (nf h25) (cj (nf h25) (cj h26 (cj (laws_heldAcct_ok (Acct.mk r5.1.Id r5.1.Limit r5.1.Posted r5.1.Most r5.1.MostSum r11.2.1 (Ring.mk r5.1.Ring.Span r5.1.Ring.Head r11.2.2.1 r11.2.2.2.1) r11.2.2.2.2) 1 r16 h27) (cj (by simp [V.nv, nvL, nvL_all, nv_E3]) (cj h28 (cj1 h29))))))))))))))))))))))))))))))))))))))))))))))))))))))))))))))))) (fun h25 =>
                            Pn.some (Fn.of [.bit false, .call [] (E3 r1) [], .bit false, .call [] (E34 r2) [], .call [] (V.tup [E34 r3.1, E3 r3.2]) [], .call [] (E34 r4) [], .call [] (V.tup [E34 r5.1, E3 r5.2]) [], .call [] (E4 r6) [], .bit false, .bit false, .bit false, .bit false, .bit false, .draw [], .call [] (E34 r7) [], .call [] (E4 r8) [], .bit false, .call [true, false] (E3 r9.1) [V.sl true 74 (List.map E74 r9.2.1), V.sl true 3 (List.map E3 r9.2.2.1), V.sl true 3 (List.map E3 r9.2.2.2.1), V.sl true 94 (List.map E94 r9.2.2.2.2)], .bit false, .bit false, .bit false, .call [] (E4 r10) [], .bit false, .bit false, .bit false, .bit false, .bit false, .bit false, .bit false, .call [true, false] (E3 r11.1) [V.sl true 74 (List.map E74 r11.2.1), V.sl true 3 (List.map E3 r11.2.2.1), V.sl true 3 (List.map E3 r11.2.2.2.1), V.sl true 94 (List.map E94 r11.2.2.2.2)], .call [] (E3 r12) [], .bit false, .bit false, .call [] (E34 r13) [], .call [] (V.tup [E34 r14.1, E3 r14.2]) [], .call [] (E4 r15) [], .bit true, .bit true, .bit true, .bit true, .bit true] (p := [(decide (1048576 < (o_.size : Int))) = false,
                             Fn Tryz.prog 6 [(false, E28 o), (false, E3 1048576)] (E3 r1) [],
                             (true || ((E3 r1).nv && nvL [])) = true,
                             (decide (r1 < 0)) = false,
                             Fn Tryz.prog 8 [(false, E28 o)] (E34 r2) [],
                             (true || ((E34 r2).nv && nvL [])) = true,
                             Fn Tryz.prog 7 [(false, E34 r2), (false, E9 o_), (false, E3 a2)] (V.tup [E34 r3.1, E3 r3.2]) [],
                             (false || ((V.tup [E34 r3.1, E3 r3.2]).nv && nvL [])) = true,
                             Fn Tryz.prog 8 [(false, E28 o)] (E34 r4) [],
                             (true || ((E34 r4).nv && nvL [])) = true,
                             Fn Tryz.prog 9 [(false, E34 r4), (false, E9 o_), (false, E3 a2)] (V.tup [E34 r5.1, E3 r5.2]) [],
                             (false || ((V.tup [E34 r5.1, E3 r5.2]).nv && nvL [])) = true,
                             Fn Tryz.prog 10 [(false, E34 r5.1), (false, E34 r3.1)] (E4 r6) [],
                             (false || ((E4 r6).nv && nvL [])) = true,
                             (!r6) = false,
                             (!r6) = false,
                             (!r6) = false,
                             (!r6) = false,
                             (r5.2 != r3.2) = false,
                             Fn Tryz.prog 8 [(false, E28 o)] (E34 r7) [],
                             (true || ((E34 r7).nv && nvL [])) = true,
                             Fn Tryz.prog 10 [(false, E34 r4), (false, E34 r7)] (E4 r8) [],
                             (false || ((E4 r8).nv && nvL [])) = true,
                             (!r8) = false,
                             Fn Tryz.prog 11 [(true, E34 r4), (false, E3 1)] (E3 r9.1) [V.sl true 74 (List.map E74 r9.2.1), V.sl true 3 (List.map E3 r9.2.2.1), V.sl true 3 (List.map E3 r9.2.2.2.1), V.sl true 94 (List.map E94 r9.2.2.2.2)],
                             (true || ((E3 r9.1).nv && nvL [V.sl true 74 (List.map E74 r9.2.1), V.sl true 3 (List.map E3 r9.2.2.1), V.sl true 3 (List.map E3 r9.2.2.2.1), V.sl true 94 (List.map E94 r9.2.2.2.2)])) = true,
                             (decide (r9.1 < 0)) = false,
                             (decide (r9.1 < 0)) = false,
                             (decide (r9.1 < 0)) = false,
                             Fn Tryz.prog 10 [(false, E34 r5.1), (false, E34 r3.1)] (E4 r10) [],
                             (false || ((E4 r10).nv && nvL [])) = true,
                             (decide (r9.1 < 0)) = false,
                             (decide (r9.1 < 0)) = false,
                             (!r10) = false,
                             (!r10) = false,
                             (!r10) = false,
                             (!r10) = false,
                             (r5.2 != r3.2) = false,
                             Fn Tryz.prog 11 [(true, E34 r5.1), (false, E3 1)] (E3 r11.1) [V.sl true 74 (List.map E74 r11.2.1), V.sl true 3 (List.map E3 r11.2.2.1), V.sl true 3 (List.map E3 r11.2.2.2.1), V.sl true 94 (List.map E94 r11.2.2.2.2)],
                             (true || ((E3 r11.1).nv && nvL [V.sl true 74 (List.map E74 r11.2.1), V.sl true 3 (List.map E3 r11.2.2.1), V.sl true 3 (List.map E3 r11.2.2.2.1), V.sl true 94 (List.map E94 r11.2.2.2.2)])) = true,
                             Fn Tryz.prog 12 [(false, E34 (Acct.mk r5.1.Id r5.1.Limit r5.1.Posted r5.1.Most r5.1.MostSum r11.2.1 (Ring.mk r5.1.Ring.Span r5.1.Ring.Head r11.2.2.1 r11.2.2.2.1) r11.2.2.2.2)), (false, E3 1)] (E3 r12) [],
                             (false || ((E3 r12).nv && nvL [])) = true,
                             (decide (r12 < 0)) = false,
                             (r12 != r11.1) = false,
                             Fn Tryz.prog 8 [(false, E28 o)] (E34 r13) [],
                             (true || ((E34 r13).nv && nvL [])) = true,
                             Fn Tryz.prog 9 [(false, E34 r13), (false, E9 o_), (false, E3 a2)] (V.tup [E34 r14.1, E3 r14.2]) [],
                             (false || ((V.tup [E34 r14.1, E3 r14.2]).nv && nvL [])) = true,
                             Fn Tryz.prog 10 [(false, E34 r14.1), (false, E34 r3.1)] (E4 r15) [],
                             (false || ((E4 r15).nv && nvL [])) = true,
                             (!r15) = true,
                             (!r15) = true,
                             (!r15) = true,
                             (!r15) = true,
                             true = true]) (by kernel_rfl) (cj h1 (cj (laws_szAcct_ok o 1048576 r1 h2) (cj rfl (cj h3 (cj (laws_toAcct_ok o r2 h4) (cj rfl (cj (spec_Free_ok r2 o_ a2 r3 h5) (cj (by simp [V.nv, nvL, nvL_all, nv_E3, nv_E5, nv_E9, nv_E23, nv_E30, nv_E31, nv_E32, nv_E34, nv_E74, nv_E85, nv_E94]) (cj (laws_toAcct_ok o r4 h6) (cj rfl (cj (impl_Free_ok r4 o_ a2 r5 h7) (cj (by simp [V.nv, nvL, nvL_all, nv_E3, nv_E5, nv_E9, nv_E23, nv_E30, nv_E31, nv_E32, nv_E34, nv_E74, nv_E85, nv_E94]) (cj (laws_eqAcct_ok r5.1 r3.1 r6 h8) (cj (by simp [V.nv, nvL, nvL_all, nv_E4]) (cj (nf h9) (cj (nf h9) (cj (nf h9) (cj (nf h9) (cj h10 (cj (laws_toAcct_ok o r7 h11) (cj rfl (cj (laws_eqAcct_ok r4 r7 r8 h12) (cj (by simp [V.nv, nvL, nvL_all, nv_E4]) (cj (nf h13) (cj (laws_markAcct_ok r4 1 r9 h14) (cj rfl (cj h15 (cj h15 (cj h15 (cj (laws_eqAcct_ok r5.1 r3.1 r10 h16) (cj (by simp [V.nv, nvL, nvL_all, nv_E4]) (cj h15 (cj h15 (cj (nf h17) (cj (nf h17) (cj (nf h17) (cj (nf h17) (cj h10 (cj (laws_markAcct_ok r5.1 1 r11 h18) (cj rfl (cj (laws_heldAcct_ok (Acct.mk r5.1.Id r5.1.Limit r5.1.Posted r5.1.Most r5.1.MostSum r11.2.1 (Ring.mk r5.1.Ring.Span r5.1.Ring.Head r11.2.2.1 r11.2.2.2.1) r11.2.2.2.2) 1 r12 h19) (cj (by simp [V.nv, nvL, nvL_all, nv_E3]) (cj h20 (cj h21 (cj (laws_toAcct_ok o r13 h22) (cj rfl (cj (impl_Free_ok r13 o_ a2 r14 h23) (cj (by simp [V.nv, nvL, nvL_all, nv_E3, nv_E5, nv_E9, nv_E23, nv_E30, nv_E31, nv_E32, nv_E34, nv_E74, nv_E85, nv_E94]) (cj (laws_eqAcct_ok r14.1 r3.1 r15 h24) (cj (by simp [V.nv, nvL, nvL_all, nv_E4]) (cj (nt h25) (cj (nt h25) (cj (nt h25) (cj (nt h25) (cj1 rfl))))))))))))))))))))))))))))))))))))))))))))))))))))))))))))))))) (fun h17 =>
                    Pn.some (Fn.of [.bit false, .call [] (E3 r1) [], .bit false, .call [] (E34 r2) [], .call [] (V.tup [E34 r3.1, E3 r3.2]) [], .call [] (E34 r4) [], .call [] (V.tup [E34 r5.1, E3 r5.2]) [], .call [] (E4 r6) [], .bit false, .bit false, .bit false, .bit false, .bit false, .draw [], .call [] (E34 r7) [], .call [] (E4 r8) [], .bit false, .call [true, false] (E3 r9.1) [V.sl true 74 (List.map E74 r9.2.1), V.sl true 3 (List.map E3 r9.2.2.1), V.sl true 3 (List.map E3 r9.2.2.2.1), V.sl true 94 (List.map E94 r9.2.2.2.2)], .bit false, .bit false, .bit false, .call [] (E4 r10) [], .bit false, .bit false, .bit true, .bit true, .bit true, .bit true, .bit true] (p := [(decide (1048576 < (o_.size : Int))) = false,
                     Fn Tryz.prog 6 [(false, E28 o), (false, E3 1048576)] (E3 r1) [],
                     (true || ((E3 r1).nv && nvL [])) = true,
                     (decide (r1 < 0)) = false,
                     Fn Tryz.prog 8 [(false, E28 o)] (E34 r2) [],
                     (true || ((E34 r2).nv && nvL [])) = true,
                     Fn Tryz.prog 7 [(false, E34 r2), (false, E9 o_), (false, E3 a2)] (V.tup [E34 r3.1, E3 r3.2]) [],
                     (false || ((V.tup [E34 r3.1, E3 r3.2]).nv && nvL [])) = true,
                     Fn Tryz.prog 8 [(false, E28 o)] (E34 r4) [],
                     (true || ((E34 r4).nv && nvL [])) = true,
                     Fn Tryz.prog 9 [(false, E34 r4), (false, E9 o_), (false, E3 a2)] (V.tup [E34 r5.1, E3 r5.2]) [],
                     (false || ((V.tup [E34 r5.1, E3 r5.2]).nv && nvL [])) = true,
                     Fn Tryz.prog 10 [(false, E34 r5.1), (false, E34 r3.1)] (E4 r6) [],
                     (false || ((E4 r6).nv && nvL [])) = true,
                     (!r6) = false,
                     (!r6) = false,
                     (!r6) = false,
                     (!r6) = false,
                     (r5.2 != r3.2) = false,
                     Fn Tryz.prog 8 [(false, E28 o)] (E34 r7) [],
                     (true || ((E34 r7).nv && nvL [])) = true,
                     Fn Tryz.prog 10 [(false, E34 r4), (false, E34 r7)] (E4 r8) [],
                     (false || ((E4 r8).nv && nvL [])) = true,
                     (!r8) = false,
                     Fn Tryz.prog 11 [(true, E34 r4), (false, E3 1)] (E3 r9.1) [V.sl true 74 (List.map E74 r9.2.1), V.sl true 3 (List.map E3 r9.2.2.1), V.sl true 3 (List.map E3 r9.2.2.2.1), V.sl true 94 (List.map E94 r9.2.2.2.2)],
                     (true || ((E3 r9.1).nv && nvL [V.sl true 74 (List.map E74 r9.2.1), V.sl true 3 (List.map E3 r9.2.2.1), V.sl true 3 (List.map E3 r9.2.2.2.1), V.sl true 94 (List.map E94 r9.2.2.2.2)])) = true,
                     (decide (r9.1 < 0)) = false,
                     (decide (r9.1 < 0)) = false,
                     (decide (r9.1 < 0)) = false,
                     Fn Tryz.prog 10 [(false, E34 r5.1), (false, E34 r3.1)] (E4 r10) [],
                     (false || ((E4 r10).nv && nvL [])) = true,
                     (decide (r9.1 < 0)) = false,
                     (decide (r9.1 < 0)) = false,
                     (!r10) = true,
                     (!r10) = true,
                     (!r10) = true,
                     (!r10) = true,
                     true = true]) (by kernel_rfl) (cj h1 (cj (laws_szAcct_ok o 1048576 r1 h2) (cj rfl (cj h3 (cj (laws_toAcct_ok o r2 h4) (cj rfl (cj (spec_Free_ok r2 o_ a2 r3 h5) (cj (by simp [V.nv, nvL, nvL_all, nv_E3, nv_E5, nv_E9, nv_E23, nv_E30, nv_E31, nv_E32, nv_E34, nv_E74, nv_E85, nv_E94]) (cj (laws_toAcct_ok o r4 h6) (cj rfl (cj (impl_Free_ok r4 o_ a2 r5 h7) (cj (by simp [V.nv, nvL, nvL_all, nv_E3, nv_E5, nv_E9, nv_E23, nv_E30, nv_E31, nv_E32, nv_E34, nv_E74, nv_E85, nv_E94]) (cj (laws_eqAcct_ok r5.1 r3.1 r6 h8) (cj (by simp [V.nv, nvL, nvL_all, nv_E4]) (cj (nf h9) (cj (nf h9) (cj (nf h9) (cj (nf h9) (cj h10 (cj (laws_toAcct_ok o r7 h11) (cj rfl (cj (laws_eqAcct_ok r4 r7 r8 h12) (cj (by simp [V.nv, nvL, nvL_all, nv_E4]) (cj (nf h13) (cj (laws_markAcct_ok r4 1 r9 h14) (cj rfl (cj h15 (cj h15 (cj h15 (cj (laws_eqAcct_ok r5.1 r3.1 r10 h16) (cj (by simp [V.nv, nvL, nvL_all, nv_E4]) (cj h15 (cj h15 (cj (nt h17) (cj (nt h17) (cj (nt h17) (cj (nt h17) (cj1 rfl)))))))))))))))))))))))))))))))))))))))))))) (fun h13 =>
                Pn.some (Fn.of [.bit false, .call [] (E3 r1) [], .bit false, .call [] (E34 r2) [], .call [] (V.tup [E34 r3.1, E3 r3.2]) [], .call [] (E34 r4) [], .call [] (V.tup [E34 r5.1, E3 r5.2]) [], .call [] (E4 r6) [], .bit false, .bit false, .bit false, .bit false, .bit false, .draw [], .call [] (E34 r7) [], .call [] (E4 r8) [], .bit true] (p := [(decide (1048576 < (o_.size : Int))) = false,
                 Fn Tryz.prog 6 [(false, E28 o), (false, E3 1048576)] (E3 r1) [],
                 (true || ((E3 r1).nv && nvL [])) = true,
                 (decide (r1 < 0)) = false,
                 Fn Tryz.prog 8 [(false, E28 o)] (E34 r2) [],
                 (true || ((E34 r2).nv && nvL [])) = true,
                 Fn Tryz.prog 7 [(false, E34 r2), (false, E9 o_), (false, E3 a2)] (V.tup [E34 r3.1, E3 r3.2]) [],
                 (false || ((V.tup [E34 r3.1, E3 r3.2]).nv && nvL [])) = true,
                 Fn Tryz.prog 8 [(false, E28 o)] (E34 r4) [],
                 (true || ((E34 r4).nv && nvL [])) = true,
                 Fn Tryz.prog 9 [(false, E34 r4), (false, E9 o_), (false, E3 a2)] (V.tup [E34 r5.1, E3 r5.2]) [],
                 (false || ((V.tup [E34 r5.1, E3 r5.2]).nv && nvL [])) = true,
                 Fn Tryz.prog 10 [(false, E34 r5.1), (false, E34 r3.1)] (E4 r6) [],
                 (false || ((E4 r6).nv && nvL [])) = true,
                 (!r6) = false,
                 (!r6) = false,
                 (!r6) = false,
                 (!r6) = false,
                 (r5.2 != r3.2) = false,
                 Fn Tryz.prog 8 [(false, E28 o)] (E34 r7) [],
                 (true || ((E34 r7).nv && nvL [])) = true,
                 Fn Tryz.prog 10 [(false, E34 r4), (false, E34 r7)] (E4 r8) [],
                 (false || ((E4 r8).nv && nvL [])) = true,
                 (!r8) = true]) (by kernel_rfl) (cj h1 (cj (laws_szAcct_ok o 1048576 r1 h2) (cj rfl (cj h3 (cj (laws_toAcct_ok o r2 h4) (cj rfl (cj (spec_Free_ok r2 o_ a2 r3 h5) (cj (by simp [V.nv, nvL, nvL_all, nv_E3, nv_E5, nv_E9, nv_E23, nv_E30, nv_E31, nv_E32, nv_E34, nv_E74, nv_E85, nv_E94]) (cj (laws_toAcct_ok o r4 h6) (cj rfl (cj (impl_Free_ok r4 o_ a2 r5 h7) (cj (by simp [V.nv, nvL, nvL_all, nv_E3, nv_E5, nv_E9, nv_E23, nv_E30, nv_E31, nv_E32, nv_E34, nv_E74, nv_E85, nv_E94]) (cj (laws_eqAcct_ok r5.1 r3.1 r6 h8) (cj (by simp [V.nv, nvL, nvL_all, nv_E4]) (cj (nf h9) (cj (nf h9) (cj (nf h9) (cj (nf h9) (cj h10 (cj (laws_toAcct_ok o r7 h11) (cj rfl (cj (laws_eqAcct_ok r4 r7 r8 h12) (cj (by simp [V.nv, nvL, nvL_all, nv_E4]) (cj1 (nt h13))))))))))))))))))))))))))))))) (fun h9 =>
            Pn.some (Fn.of [.bit false, .call [] (E3 r1) [], .bit false, .call [] (E34 r2) [], .call [] (V.tup [E34 r3.1, E3 r3.2]) [], .call [] (E34 r4) [], .call [] (V.tup [E34 r5.1, E3 r5.2]) [], .call [] (E4 r6) [], .bit true, .bit true, .bit true, .bit true, .bit true] (p := [(decide (1048576 < (o_.size : Int))) = false,
             Fn Tryz.prog 6 [(false, E28 o), (false, E3 1048576)] (E3 r1) [],
             (true || ((E3 r1).nv && nvL [])) = true,
             (decide (r1 < 0)) = false,
             Fn Tryz.prog 8 [(false, E28 o)] (E34 r2) [],
             (true || ((E34 r2).nv && nvL [])) = true,
             Fn Tryz.prog 7 [(false, E34 r2), (false, E9 o_), (false, E3 a2)] (V.tup [E34 r3.1, E3 r3.2]) [],
             (false || ((V.tup [E34 r3.1, E3 r3.2]).nv && nvL [])) = true,
             Fn Tryz.prog 8 [(false, E28 o)] (E34 r4) [],
             (true || ((E34 r4).nv && nvL [])) = true,
             Fn Tryz.prog 9 [(false, E34 r4), (false, E9 o_), (false, E3 a2)] (V.tup [E34 r5.1, E3 r5.2]) [],
             (false || ((V.tup [E34 r5.1, E3 r5.2]).nv && nvL [])) = true,
             Fn Tryz.prog 10 [(false, E34 r5.1), (false, E34 r3.1)] (E4 r6) [],
             (false || ((E4 r6).nv && nvL [])) = true,
             (!r6) = true,
             (!r6) = true,
             (!r6) = true,
             (!r6) = true,
             true = true]) (by kernel_rfl) (cj h1 (cj (laws_szAcct_ok o 1048576 r1 h2) (cj rfl (cj h3 (cj (laws_toAcct_ok o r2 h4) (cj rfl (cj (spec_Free_ok r2 o_ a2 r3 h5) (cj (by simp [V.nv, nvL, nvL_all, nv_E3, nv_E5, nv_E9, nv_E23, nv_E30, nv_E31, nv_E32, nv_E34, nv_E74, nv_E85, nv_E94]) (cj (laws_toAcct_ok o r4 h6) (cj rfl (cj (impl_Free_ok r4 o_ a2 r5 h7) (cj (by simp [V.nv, nvL, nvL_all, nv_E3, nv_E5, nv_E9, nv_E23, nv_E30, nv_E31, nv_E32, nv_E34, nv_E74, nv_E85, nv_E94]) (cj (laws_eqAcct_ok r5.1 r3.1 r6 h8) (cj (by simp [V.nv, nvL, nvL_all, nv_E4]) (cj (nt h9) (cj (nt h9) (cj (nt h9) (cj (nt h9) (cj1 rfl)))))))))))))))))))))))))))))
end Go.Proofs.YtaaiikopnadkeaaGreatM
