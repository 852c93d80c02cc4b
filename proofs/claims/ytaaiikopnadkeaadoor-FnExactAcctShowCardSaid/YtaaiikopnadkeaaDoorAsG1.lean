/- Printed by gen.py: functions on plain data, and that the program computes them. No condition. -/
import Derived.Test.YtaaiikopnadkeaaDoorAsG0
namespace Go.Proofs.YtaaiikopnadkeaaDoorM
set_option linter.unusedVariables false
set_option linter.unusedSimpArgs false
open Go.RowKit
set_option maxRecDepth 100000

def impl_Stored_l0 (l : List Hold) : List Hold → Int → Option (Int)
  | [], v1 =>
   some v1
  | x1 :: t1, v1 =>
   (impl_AddSat v1 x1.Amount).bind fun r1 =>
   impl_Stored_l0 l t1 r1
theorem impl_Stored_l0_ok (l : List Hold) (h2 : capOk l.length = true) : ∀ (t1 p1 : List Hold) (_ : l = p1 ++ t1) (v1 : Int), Pn (LpO Tryd.prog (sub (codeOf Tryd.prog 93) [1, 1, 0, 1, 0, 0]) (st 18 [(3, V.sc (.int .i64 v1)), (6, V.sl false 80 (List.map E80 l)), (7, V.sc (.int .i64 (l.length : Int))), (8, V.sc (.int .i64 (p1.length : Int)))] [] []) (fun (y : Int) => (X.out 0, st 18 [(3, V.sc (.int .i64 y))] [] []))) (impl_Stored_l0 l t1 v1)
  | [], p1, h1, v1 => by
    unfold impl_Stored_l0
    exact
     Pn.some (LpO.out [.bit false, .mask [3], .ren []] (p := [(decide ((p1.length : Int) < (l.length : Int))) = false]) (by kernel_rfl) (show X.out 0 ≠ X.go from nofun) (cj1 (rng_end h1)))
  | x1 :: t1, p1, h1, v1 => by
    unfold impl_Stored_l0
    exact
     Pn.bind (fun r1 h3 =>
      LpO.go [.bit true, .el (E80 x1), .call [] (E3 r1) [], .wait 4, .mask [3, 6, 7, 8], .ren [], .nm 8 (V.sc (.int .i64 ((p1 ++ [x1]).length : Int)))] (p := [(decide ((p1.length : Int) < (l.length : Int))) = true,
       (0 : Int) ≤ (p1.length : Int),
       (List.map E80 l)[(p1.length : Int).toNat]? = some (E80 x1),
       Fn Tryd.prog 92 [(false, E3 v1), (false, E3 x1.Amount)] (E3 r1) [],
       (true || ((E3 r1).nv && nvL [])) = true,
       V.sc (.int .i64 (i64 ((p1.length : Int) + 1))) = V.sc (.int .i64 ((p1 ++ [x1]).length : Int))]) (by kernel_rfl) (cj (rng_lt h1) (cj (by omega) (cj (rng_get _ h1) (cj (impl_AddSat_ok v1 x1.Amount r1 h3) (cj rfl (cj1 (rng_next h1 h2))))))) (impl_Stored_l0_ok l h2 t1 (p1 ++ [x1]) (rng_step h1) r1))
def impl_Stored (l : List Hold) : Option (Int) :=
 if (capOk l.length) = true then
  (impl_Stored_l0 l l 0).bind fun r2 =>
  some r2
 else none
theorem impl_Stored_ok (l : List Hold) : Pn (fun y => Fn Tryd.prog 93 [(false, E44 l)] (E3 y) []) (impl_Stored l) := by
  unfold impl_Stored
  exact
   Pn.ite (fun h4 =>
    Pn.bind (fun r2 h5 =>
     Pn.some (Fn.of [.wait 4, .nm 7 (V.sc (.int .i64 (l.length : Int))), .wait 2, .mask [3, 6, 7, 8], .ren [], .loop (X.out 0) (st 18 [(3, V.sc (.int .i64 r2))] [] [])] (p := [V.sc (.int .i64 ((List.map E80 l).length : Int)) = V.sc (.int .i64 (l.length : Int)),
      Loop Tryd.prog (sub (codeOf Tryd.prog 93) [1, 1, 0, 1, 0, 0]) (st 18 [(3, V.sc (.int .i64 0)), (6, V.sl false 80 (List.map E80 l)), (7, V.sc (.int .i64 (l.length : Int))), (8, V.sc (.int .i64 0))] [] []) (X.out 0) (st 18 [(3, V.sc (.int .i64 r2))] [] [])]) (by kernel_rfl) (cj (len_nm _ _) (cj1 (impl_Stored_l0_ok l h4 l [] rfl 0 r2 h5)))))) (fun h4 =>
    Pn.none)
def impl_AcctOk (a : Acct) : Option (Bool) :=
 (impl_AcctIdOk a.Id).bind fun r1 =>
 if r1 = true then
  (impl_within a.Limit 0 9007199254740992).bind fun r2 =>
  if r2 = true then
   (impl_within a.Most 0 1000).bind fun r3 =>
   if r3 = true then
    (impl_within a.MostSum 0 9007199254740992).bind fun r4 =>
    if r4 = true then
     (impl_isMoney a.Posted).bind fun r5 =>
     if r5 = true then
      (impl_HoldsOk a.Holds).bind fun r6 =>
      if r6 = true then
       (impl_RingOk a.Ring).bind fun r7 =>
       if r7 = true then
        (impl_SlotsOk a.Slots).bind fun r8 =>
        if r8 = true then
         (impl_Stored a.Holds).bind fun r9 =>
         (impl_AddSat a.Posted r9).bind fun r10 =>
         some (decide (r10 ≤ a.Limit))
        else
         some false
       else
        some false
      else
       some false
     else
      some false
    else
     some false
   else
    some false
  else
   some false
 else
  some false
theorem impl_AcctOk_ok (a : Acct) : Pn (fun y => Fn Tryd.prog 41 [(false, E48 a)] (E4 y) []) (impl_AcctOk a) := by
  unfold impl_AcctOk
  exact
   Pn.bind (fun r1 h1 =>
    Pn.ite (fun h2 =>
     Pn.bind (fun r2 h3 =>
      Pn.ite (fun h4 =>
       Pn.bind (fun r3 h5 =>
        Pn.ite (fun h6 =>
         Pn.bind (fun r4 h7 =>
          Pn.ite (fun h8 =>
           Pn.bind (fun r5 h9 =>
            Pn.ite (fun h10 =>
             Pn.bind (fun r6 h11 =>
              Pn.ite (fun h12 =>
               Pn.bind (fun r7 h13 =>
                Pn.ite (fun h14 =>
                 Pn.bind (fun r8 h15 =>
                  Pn.ite (fun h16 =>
                   Pn.bind (fun r9 h17 =>
                    Pn.bind (fun r10 h18 =>
                     Pn.some (Fn.of [.draw [], .call [] (E4 r1) [], .bit true, .bit true, .bit true, .call [] (E4 r2) [], .bit true, .bit true, .bit true, .bit true, .call [] (E4 r3) [], .bit true, .bit true, .bit true, .bit true, .call [] (E4 r4) [], .bit true, .bit true, .bit true, .bit true, .call [] (E4 r5) [], .bit true, .bit true, .bit true, .bit true, .call [] (E4 r6) [], .bit true, .bit true, .bit true, .bit true, .call [] (E4 r7) [], .bit true, .bit true, .bit true, .bit true, .call [] (E4 r8) [], .bit true, .bit true, .bit true, .bit true, .bit true, .bit true, .bit true, .bit true, .call [] (E3 r9) [], .bit true, .call [] (E3 r10) [], .bit true, .bit true] (p := [Fn Tryd.prog 87 [(false, E9 a.Id)] (E4 r1) [],
                      (true || ((E4 r1).nv && nvL [])) = true,
                      r1 = true,
                      r1 = true,
                      r1 = true,
                      Fn Tryd.prog 88 [(false, E3 a.Limit), (false, E3 0), (false, E3 9007199254740992)] (E4 r2) [],
                      (true || ((E4 r2).nv && nvL [])) = true,
                      r1 = true,
                      r2 = true,
                      r2 = true,
                      r2 = true,
                      Fn Tryd.prog 88 [(false, E3 a.Most), (false, E3 0), (false, E3 1000)] (E4 r3) [],
                      (true || ((E4 r3).nv && nvL [])) = true,
                      r2 = true,
                      r3 = true,
                      r3 = true,
                      r3 = true,
                      Fn Tryd.prog 88 [(false, E3 a.MostSum), (false, E3 0), (false, E3 9007199254740992)] (E4 r4) [],
                      (true || ((E4 r4).nv && nvL [])) = true,
                      r3 = true,
                      r4 = true,
                      r4 = true,
                      r4 = true,
                      Fn Tryd.prog 65 [(false, E3 a.Posted)] (E4 r5) [],
                      (true || ((E4 r5).nv && nvL [])) = true,
                      r4 = true,
                      r5 = true,
                      r5 = true,
                      r5 = true,
                      Fn Tryd.prog 89 [(false, E44 a.Holds)] (E4 r6) [],
                      (true || ((E4 r6).nv && nvL [])) = true,
                      r5 = true,
                      r6 = true,
                      r6 = true,
                      r6 = true,
                      Fn Tryd.prog 90 [(false, E45 a.Ring)] (E4 r7) [],
                      (true || ((E4 r7).nv && nvL [])) = true,
                      r6 = true,
                      r7 = true,
                      r7 = true,
                      r7 = true,
                      Fn Tryd.prog 91 [(false, E46 a.Slots)] (E4 r8) [],
                      (true || ((E4 r8).nv && nvL [])) = true,
                      r7 = true,
                      r8 = true,
                      r8 = true,
                      r8 = true,
                      r8 = true,
                      r8 = true,
                      r8 = true,
                      r8 = true,
                      Fn Tryd.prog 93 [(false, E44 a.Holds)] (E3 r9) [],
                      (true || ((E3 r9).nv && nvL [])) = true,
                      r8 = true,
                      Fn Tryd.prog 92 [(false, E3 a.Posted), (false, E3 r9)] (E3 r10) [],
                      (true || ((E3 r10).nv && nvL [])) = true,
                      r8 = true,
                      r8 = true]) (by kernel_rfl) (cj (impl_AcctIdOk_ok a.Id r1 h1) (cj rfl (cj h2 (cj h2 (cj h2 (cj (impl_within_ok a.Limit 0 9007199254740992 r2 h3) (cj rfl (cj h2 (cj h4 (cj h4 (cj h4 (cj (impl_within_ok a.Most 0 1000 r3 h5) (cj rfl (cj h4 (cj h6 (cj h6 (cj h6 (cj (impl_within_ok a.MostSum 0 9007199254740992 r4 h7) (cj rfl (cj h6 (cj h8 (cj h8 (cj h8 (cj (impl_isMoney_ok a.Posted r5 h9) (cj rfl (cj h8 (cj h10 (cj h10 (cj h10 (cj (impl_HoldsOk_ok a.Holds r6 h11) (cj rfl (cj h10 (cj h12 (cj h12 (cj h12 (cj (impl_RingOk_ok a.Ring r7 h13) (cj rfl (cj h12 (cj h14 (cj h14 (cj h14 (cj (impl_SlotsOk_ok a.Slots r8 h15) (cj rfl (cj h14 (cj h16 (cj h16 (cj h16 (cj h16 (cj h16 (cj h16 (cj h16 (cj (impl_Stored_ok a.Holds r9 h17) (cj rfl (cj h16 (cj (impl_AddSat_ok a.Posted r9 r10 h18) (cj rfl (cj h16 (cj1 h16)))))))))))))))))))))))))))))))))))))))))))))))))))))))))))))) (fun h16 =>
                   Pn.some (Fn.of [.draw [], .call [] (E4 r1) [], .bit true, .bit true, .bit true, .call [] (E4 r2) [], .bit true, .bit true, .bit true, .bit true, .call [] (E4 r3) [], .bit true, .bit true, .bit true, .bit true, .call [] (E4 r4) [], .bit true, .bit true, .bit true, .bit true, .call [] (E4 r5) [], .bit true, .bit true, .bit true, .bit true, .call [] (E4 r6) [], .bit true, .bit true, .bit true, .bit true, .call [] (E4 r7) [], .bit true, .bit true, .bit true, .bit true, .call [] (E4 r8) [], .bit true, .bit false, .bit false, .bit false, .bit false, .bit false, .bit false, .bit false, .bit false, .bit false, .bit false] (p := [Fn Tryd.prog 87 [(false, E9 a.Id)] (E4 r1) [],
                    (true || ((E4 r1).nv && nvL [])) = true,
                    r1 = true,
                    r1 = true,
                    r1 = true,
                    Fn Tryd.prog 88 [(false, E3 a.Limit), (false, E3 0), (false, E3 9007199254740992)] (E4 r2) [],
                    (true || ((E4 r2).nv && nvL [])) = true,
                    r1 = true,
                    r2 = true,
                    r2 = true,
                    r2 = true,
                    Fn Tryd.prog 88 [(false, E3 a.Most), (false, E3 0), (false, E3 1000)] (E4 r3) [],
                    (true || ((E4 r3).nv && nvL [])) = true,
                    r2 = true,
                    r3 = true,
                    r3 = true,
                    r3 = true,
                    Fn Tryd.prog 88 [(false, E3 a.MostSum), (false, E3 0), (false, E3 9007199254740992)] (E4 r4) [],
                    (true || ((E4 r4).nv && nvL [])) = true,
                    r3 = true,
                    r4 = true,
                    r4 = true,
                    r4 = true,
                    Fn Tryd.prog 65 [(false, E3 a.Posted)] (E4 r5) [],
                    (true || ((E4 r5).nv && nvL [])) = true,
                    r4 = true,
                    r5 = true,
                    r5 = true,
                    r5 = true,
                    Fn Tryd.prog 89 [(false, E44 a.Holds)] (E4 r6) [],
                    (true || ((E4 r6).nv && nvL [])) = true,
                    r5 = true,
                    r6 = true,
                    r6 = true,
                    r6 = true,
                    Fn Tryd.prog 90 [(false, E45 a.Ring)] (E4 r7) [],
                    (true || ((E4 r7).nv && nvL [])) = true,
                    r6 = true,
                    r7 = true,
                    r7 = true,
                    r7 = true,
                    Fn Tryd.prog 91 [(false, E46 a.Slots)] (E4 r8) [],
                    (true || ((E4 r8).nv && nvL [])) = true,
                    r7 = true,
                    r8 = false,
                    r8 = false,
                    r8 = false,
                    r8 = false,
                    r8 = false,
                    r8 = false,
                    r8 = false,
                    r8 = false,
                    r8 = false,
                    r8 = false]) (by kernel_rfl) (cj (impl_AcctIdOk_ok a.Id r1 h1) (cj rfl (cj h2 (cj h2 (cj h2 (cj (impl_within_ok a.Limit 0 9007199254740992 r2 h3) (cj rfl (cj h2 (cj h4 (cj h4 (cj h4 (cj (impl_within_ok a.Most 0 1000 r3 h5) (cj rfl (cj h4 (cj h6 (cj h6 (cj h6 (cj (impl_within_ok a.MostSum 0 9007199254740992 r4 h7) (cj rfl (cj h6 (cj h8 (cj h8 (cj h8 (cj (impl_isMoney_ok a.Posted r5 h9) (cj rfl (cj h8 (cj h10 (cj h10 (cj h10 (cj (impl_HoldsOk_ok a.Holds r6 h11) (cj rfl (cj h10 (cj h12 (cj h12 (cj h12 (cj (impl_RingOk_ok a.Ring r7 h13) (cj rfl (cj h12 (cj h14 (cj h14 (cj h14 (cj (impl_SlotsOk_ok a.Slots r8 h15) (cj rfl (cj h14 (cj h16 (cj h16 (cj h16 (cj h16 (cj h16 (cj h16 (cj h16 (cj h16 (cj h16 (cj1 h16)))))))))))))))))))))))))))))))))))))))))))))))))))))))))) (fun h14 =>
                 Pn.some (Fn.of [.draw [], .call [] (E4 r1) [], .bit true, .bit true, .bit true, .call [] (E4 r2) [], .bit true, .bit true, .bit true, .bit true, .call [] (E4 r3) [], .bit true, .bit true, .bit true, .bit true, .call [] (E4 r4) [], .bit true, .bit true, .bit true, .bit true, .call [] (E4 r5) [], .bit true, .bit true, .bit true, .bit true, .call [] (E4 r6) [], .bit true, .bit true, .bit true, .bit true, .call [] (E4 r7) [], .bit true, .bit false, .bit false, .bit false, .bit false, .bit false, .bit false, .bit false, .bit false, .bit false, .bit false, .bit false, .bit false, .bit false, .bit false] (p := [Fn Tryd.prog 87 [(false, E9 a.Id)] (E4 r1) [],
                  (true || ((E4 r1).nv && nvL [])) = true,
                  r1 = true,
                  r1 = true,
                  r1 = true,
                  Fn Tryd.prog 88 [(false, E3 a.Limit), (false, E3 0), (false, E3 9007199254740992)] (E4 r2) [],
                  (true || ((E4 r2).nv && nvL [])) = true,
                  r1 = true,
                  r2 = true,
                  r2 = true,
                  r2 = true,
                  Fn Tryd.prog 88 [(false, E3 a.Most), (false, E3 0), (false, E3 1000)] (E4 r3) [],
                  (true || ((E4 r3).nv && nvL [])) = true,
                  r2 = true,
                  r3 = true,
                  r3 = true,
                  r3 = true,
                  Fn Tryd.prog 88 [(false, E3 a.MostSum), (false, E3 0), (false, E3 9007199254740992)] (E4 r4) [],
                  (true || ((E4 r4).nv && nvL [])) = true,
                  r3 = true,
                  r4 = true,
                  r4 = true,
                  r4 = true,
                  Fn Tryd.prog 65 [(false, E3 a.Posted)] (E4 r5) [],
                  (true || ((E4 r5).nv && nvL [])) = true,
                  r4 = true,
                  r5 = true,
                  r5 = true,
                  r5 = true,
                  Fn Tryd.prog 89 [(false, E44 a.Holds)] (E4 r6) [],
                  (true || ((E4 r6).nv && nvL [])) = true,
                  r5 = true,
                  r6 = true,
                  r6 = true,
                  r6 = true,
                  Fn Tryd.prog 90 [(false, E45 a.Ring)] (E4 r7) [],
                  (true || ((E4 r7).nv && nvL [])) = true,
                  r6 = true,
                  r7 = false,
                  r7 = false,
                  r7 = false,
                  r7 = false,
                  false = false,
                  false = false,
                  false = false,
                  false = false,
                  false = false,
                  false = false,
                  false = false,
                  false = false,
                  false = false,
                  false = false]) (by kernel_rfl) (cj (impl_AcctIdOk_ok a.Id r1 h1) (cj rfl (cj h2 (cj h2 (cj h2 (cj (impl_within_ok a.Limit 0 9007199254740992 r2 h3) (cj rfl (cj h2 (cj h4 (cj h4 (cj h4 (cj (impl_within_ok a.Most 0 1000 r3 h5) (cj rfl (cj h4 (cj h6 (cj h6 (cj h6 (cj (impl_within_ok a.MostSum 0 9007199254740992 r4 h7) (cj rfl (cj h6 (cj h8 (cj h8 (cj h8 (cj (impl_isMoney_ok a.Posted r5 h9) (cj rfl (cj h8 (cj h10 (cj h10 (cj h10 (cj (impl_HoldsOk_ok a.Holds r6 h11) (cj rfl (cj h10 (cj h12 (cj h12 (cj h12 (cj (impl_RingOk_ok a.Ring r7 h13) (cj rfl (cj h12 (cj h14 (cj h14 (cj h14 (cj h14 (cj rfl (cj rfl (cj rfl (cj rfl (cj rfl (cj rfl (cj rfl (cj rfl (cj rfl (cj1 rfl)))))))))))))))))))))))))))))))))))))))))))))))))))))))) (fun h12 =>
               Pn.some (Fn.of [.draw [], .call [] (E4 r1) [], .bit true, .bit true, .bit true, .call [] (E4 r2) [], .bit true, .bit true, .bit true, .bit true, .call [] (E4 r3) [], .bit true, .bit true, .bit true, .bit true, .call [] (E4 r4) [], .bit true, .bit true, .bit true, .bit true, .call [] (E4 r5) [], .bit true, .bit true, .bit true, .bit true, .call [] (E4 r6) [], .bit true, .bit false, .bit false, .bit false, .bit false, .bit false, .bit false, .bit false, .bit false, .bit false, .bit false, .bit false, .bit false, .bit false, .bit false, .bit false, .bit false, .bit false, .bit false] (p := [Fn Tryd.prog 87 [(false, E9 a.Id)] (E4 r1) [],
                (true || ((E4 r1).nv && nvL [])) = true,
                r1 = true,
                r1 = true,
                r1 = true,
                Fn Tryd.prog 88 [(false, E3 a.Limit), (false, E3 0), (false, E3 9007199254740992)] (E4 r2) [],
                (true || ((E4 r2).nv && nvL [])) = true,
                r1 = true,
                r2 = true,
                r2 = true,
                r2 = true,
                Fn Tryd.prog 88 [(false, E3 a.Most), (false, E3 0), (false, E3 1000)] (E4 r3) [],
                (true || ((E4 r3).nv && nvL [])) = true,
                r2 = true,
                r3 = true,
                r3 = true,
                r3 = true,
                Fn Tryd.prog 88 [(false, E3 a.MostSum), (false, E3 0), (false, E3 9007199254740992)] (E4 r4) [],
                (true || ((E4 r4).nv && nvL [])) = true,
                r3 = true,
                r4 = true,
                r4 = true,
                r4 = true,
                Fn Tryd.prog 65 [(false, E3 a.Posted)] (E4 r5) [],
                (true || ((E4 r5).nv && nvL [])) = true,
                r4 = true,
                r5 = true,
                r5 = true,
                r5 = true,
                Fn Tryd.prog 89 [(false, E44 a.Holds)] (E4 r6) [],
                (true || ((E4 r6).nv && nvL [])) = true,
                r5 = true,
                r6 = false,
                r6 = false,
                r6 = false,
                r6 = false,
                false = false,
                false = false,
                false = false,
                false = false,
                false = false,
                false = false,
                false = false,
                false = false,
                false = false,
                false = false,
                false = false,
                false = false,
                false = false,
                false = false]) (by kernel_rfl) (cj (impl_AcctIdOk_ok a.Id r1 h1) (cj rfl (cj h2 (cj h2 (cj h2 (cj (impl_within_ok a.Limit 0 9007199254740992 r2 h3) (cj rfl (cj h2 (cj h4 (cj h4 (cj h4 (cj (impl_within_ok a.Most 0 1000 r3 h5) (cj rfl (cj h4 (cj h6 (cj h6 (cj h6 (cj (impl_within_ok a.MostSum 0 9007199254740992 r4 h7) (cj rfl (cj h6 (cj h8 (cj h8 (cj h8 (cj (impl_isMoney_ok a.Posted r5 h9) (cj rfl (cj h8 (cj h10 (cj h10 (cj h10 (cj (impl_HoldsOk_ok a.Holds r6 h11) (cj rfl (cj h10 (cj h12 (cj h12 (cj h12 (cj h12 (cj rfl (cj rfl (cj rfl (cj rfl (cj rfl (cj rfl (cj rfl (cj rfl (cj rfl (cj rfl (cj rfl (cj rfl (cj rfl (cj1 rfl)))))))))))))))))))))))))))))))))))))))))))))))))))))) (fun h10 =>
             Pn.some (Fn.of [.draw [], .call [] (E4 r1) [], .bit true, .bit true, .bit true, .call [] (E4 r2) [], .bit true, .bit true, .bit true, .bit true, .call [] (E4 r3) [], .bit true, .bit true, .bit true, .bit true, .call [] (E4 r4) [], .bit true, .bit true, .bit true, .bit true, .call [] (E4 r5) [], .bit true, .bit false, .bit false, .bit false, .bit false, .bit false, .bit false, .bit false, .bit false, .bit false, .bit false, .bit false, .bit false, .bit false, .bit false, .bit false, .bit false, .bit false, .bit false, .bit false, .bit false, .bit false, .bit false] (p := [Fn Tryd.prog 87 [(false, E9 a.Id)] (E4 r1) [],
              (true || ((E4 r1).nv && nvL [])) = true,
              r1 = true,
              r1 = true,
              r1 = true,
              Fn Tryd.prog 88 [(false, E3 a.Limit), (false, E3 0), (false, E3 9007199254740992)] (E4 r2) [],
              (true || ((E4 r2).nv && nvL [])) = true,
              r1 = true,
              r2 = true,
              r2 = true,
              r2 = true,
              Fn Tryd.prog 88 [(false, E3 a.Most), (false, E3 0), (false, E3 1000)] (E4 r3) [],
              (true || ((E4 r3).nv && nvL [])) = true,
              r2 = true,
              r3 = true,
              r3 = true,
              r3 = true,
              Fn Tryd.prog 88 [(false, E3 a.MostSum), (false, E3 0), (false, E3 9007199254740992)] (E4 r4) [],
              (true || ((E4 r4).nv && nvL [])) = true,
              r3 = true,
              r4 = true,
              r4 = true,
              r4 = true,
              Fn Tryd.prog 65 [(false, E3 a.Posted)] (E4 r5) [],
              (true || ((E4 r5).nv && nvL [])) = true,
              r4 = true,
              r5 = false,
              r5 = false,
              r5 = false,
              r5 = false,
              false = false,
              false = false,
              false = false,
              false = false,
              false = false,
              false = false,
              false = false,
              false = false,
              false = false,
              false = false,
              false = false,
              false = false,
              false = false,
              false = false,
              false = false,
              false = false,
              false = false,
              false = false]) (by kernel_rfl) (cj (impl_AcctIdOk_ok a.Id r1 h1) (cj rfl (cj h2 (cj h2 (cj h2 (cj (impl_within_ok a.Limit 0 9007199254740992 r2 h3) (cj rfl (cj h2 (cj h4 (cj h4 (cj h4 (cj (impl_within_ok a.Most 0 1000 r3 h5) (cj rfl (cj h4 (cj h6 (cj h6 (cj h6 (cj (impl_within_ok a.MostSum 0 9007199254740992 r4 h7) (cj rfl (cj h6 (cj h8 (cj h8 (cj h8 (cj (impl_isMoney_ok a.Posted r5 h9) (cj rfl (cj h8 (cj h10 (cj h10 (cj h10 (cj h10 (cj rfl (cj rfl (cj rfl (cj rfl (cj rfl (cj rfl (cj rfl (cj rfl (cj rfl (cj rfl (cj rfl (cj rfl (cj rfl (cj rfl (cj rfl (cj rfl (cj rfl (cj1 rfl)))))))))))))))))))))))))))))))))))))))))))))))))))) (fun h8 =>
           Pn.some (Fn.of [.draw [], .call [] (E4 r1) [], .bit true, .bit true, .bit true, .call [] (E4 r2) [], .bit true, .bit true, .bit true, .bit true, .call [] (E4 r3) [], .bit true, .bit true, .bit true, .bit true, .call [] (E4 r4) [], .bit true, .bit false, .bit false, .bit false, .bit false, .bit false, .bit false, .bit false, .bit false, .bit false, .bit false, .bit false, .bit false, .bit false, .bit false, .bit false, .bit false, .bit false, .bit false, .bit false, .bit false, .bit false, .bit false, .bit false, .bit false, .bit false, .bit false] (p := [Fn Tryd.prog 87 [(false, E9 a.Id)] (E4 r1) [],
            (true || ((E4 r1).nv && nvL [])) = true,
            r1 = true,
            r1 = true,
            r1 = true,
            Fn Tryd.prog 88 [(false, E3 a.Limit), (false, E3 0), (false, E3 9007199254740992)] (E4 r2) [],
            (true || ((E4 r2).nv && nvL [])) = true,
            r1 = true,
            r2 = true,
            r2 = true,
            r2 = true,
            Fn Tryd.prog 88 [(false, E3 a.Most), (false, E3 0), (false, E3 1000)] (E4 r3) [],
            (true || ((E4 r3).nv && nvL [])) = true,
            r2 = true,
            r3 = true,
            r3 = true,
            r3 = true,
            Fn Tryd.prog 88 [(false, E3 a.MostSum), (false, E3 0), (false, E3 9007199254740992)] (E4 r4) [],
            (true || ((E4 r4).nv && nvL [])) = true,
            r3 = true,
            r4 = false,
            r4 = false,
            r4 = false,
            r4 = false,
            false = false,
            false = false,
            false = false,
            false = false,
            false = false,
            false = false,
            false = false,
            false = false,
            false = false,
            false = false,
            false = false,
            false = false,
            false = false,
            false = false,
            false = false,
            false = false,
            false = false,
            false = false,
            false = false,
            false = false,
            false = false,
            false = false]) (by kernel_rfl) (cj (impl_AcctIdOk_ok a.Id r1 h1) (cj rfl (cj h2 (cj h2 (cj h2 (cj (impl_within_ok a.Limit 0 9007199254740992 r2 h3) (cj rfl (cj h2 (cj h4 (cj h4 (cj h4 (cj (impl_within_ok a.Most 0 1000 r3 h5) (cj rfl (cj h4 (cj h6 (cj h6 (cj h6 (cj (impl_within_ok a.MostSum 0 9007199254740992 r4 h7) (cj rfl (cj h6 (cj h8 (cj h8 (cj h8 (cj h8 (cj rfl (cj rfl (cj rfl (cj rfl (cj rfl (cj rfl (cj rfl (cj rfl (cj rfl (cj rfl (cj rfl (cj rfl (cj rfl (cj rfl (cj rfl (cj rfl (cj rfl (cj rfl (cj rfl (cj rfl (cj rfl (cj1 rfl)))))))))))))))))))))))))))))))))))))))))))))))))) (fun h6 =>
         Pn.some (Fn.of [.draw [], .call [] (E4 r1) [], .bit true, .bit true, .bit true, .call [] (E4 r2) [], .bit true, .bit true, .bit true, .bit true, .call [] (E4 r3) [], .bit true, .bit false, .bit false, .bit false, .bit false, .bit false, .bit false, .bit false, .bit false, .bit false, .bit false, .bit false, .bit false, .bit false, .bit false, .bit false, .bit false, .bit false, .bit false, .bit false, .bit false, .bit false, .bit false, .bit false, .bit false, .bit false, .bit false, .bit false, .bit false, .bit false, .bit false] (p := [Fn Tryd.prog 87 [(false, E9 a.Id)] (E4 r1) [],
          (true || ((E4 r1).nv && nvL [])) = true,
          r1 = true,
          r1 = true,
          r1 = true,
          Fn Tryd.prog 88 [(false, E3 a.Limit), (false, E3 0), (false, E3 9007199254740992)] (E4 r2) [],
          (true || ((E4 r2).nv && nvL [])) = true,
          r1 = true,
          r2 = true,
          r2 = true,
          r2 = true,
          Fn Tryd.prog 88 [(false, E3 a.Most), (false, E3 0), (false, E3 1000)] (E4 r3) [],
          (true || ((E4 r3).nv && nvL [])) = true,
          r2 = true,
          r3 = false,
          r3 = false,
          r3 = false,
          r3 = false,
          false = false,
          false = false,
          false = false,
          false = false,
          false = false,
          false = false,
          false = false,
          false = false,
          false = false,
          false = false,
          false = false,
          false = false,
          false = false,
          false = false,
          false = false,
          false = false,
          false = false,
          false = false,
          false = false,
          false = false,
          false = false,
          false = false,
          false = false,
          false = false,
          false = false,
          false = false]) (by kernel_rfl) (cj (impl_AcctIdOk_ok a.Id r1 h1) (cj rfl (cj h2 (cj h2 (cj h2 (cj (impl_within_ok a.Limit 0 9007199254740992 r2 h3) (cj rfl (cj h2 (cj h4 (cj h4 (cj h4 (cj (impl_within_ok a.Most 0 1000 r3 h5) (cj rfl (cj h4 (cj h6 (cj h6 (cj h6 (cj h6 (cj rfl (cj rfl (cj rfl (cj rfl (cj rfl (cj rfl (cj rfl (cj rfl (cj rfl (cj rfl (cj rfl (cj rfl (cj rfl (cj rfl (cj rfl (cj rfl (cj rfl (cj rfl (cj rfl (cj rfl (cj rfl (cj rfl (cj rfl (cj rfl (cj rfl (cj1 rfl)))))))))))))))))))))))))))))))))))))))))))))))) (fun h4 =>
       Pn.some (Fn.of [.draw [], .call [] (E4 r1) [], .bit true, .bit true, .bit true, .call [] (E4 r2) [], .bit true, .bit false, .bit false, .bit false, .bit false, .bit false, .bit false, .bit false, .bit false, .bit false, .bit false, .bit false, .bit false, .bit false, .bit false, .bit false, .bit false, .bit false, .bit false, .bit false, .bit false, .bit false, .bit false, .bit false, .bit false, .bit false, .bit false, .bit false, .bit false, .bit false, .bit false, .bit false, .bit false, .bit false, .bit false] (p := [Fn Tryd.prog 87 [(false, E9 a.Id)] (E4 r1) [],
        (true || ((E4 r1).nv && nvL [])) = true,
        r1 = true,
        r1 = true,
        r1 = true,
        Fn Tryd.prog 88 [(false, E3 a.Limit), (false, E3 0), (false, E3 9007199254740992)] (E4 r2) [],
        (true || ((E4 r2).nv && nvL [])) = true,
        r1 = true,
        r2 = false,
        r2 = false,
        r2 = false,
        r2 = false,
        false = false,
        false = false,
        false = false,
        false = false,
        false = false,
        false = false,
        false = false,
        false = false,
        false = false,
        false = false,
        false = false,
        false = false,
        false = false,
        false = false,
        false = false,
        false = false,
        false = false,
        false = false,
        false = false,
        false = false,
        false = false,
        false = false,
        false = false,
        false = false,
        false = false,
        false = false,
        false = false,
        false = false,
        false = false,
        false = false]) (by kernel_rfl) (cj (impl_AcctIdOk_ok a.Id r1 h1) (cj rfl (cj h2 (cj h2 (cj h2 (cj (impl_within_ok a.Limit 0 9007199254740992 r2 h3) (cj rfl (cj h2 (cj h4 (cj h4 (cj h4 (cj h4 (cj rfl (cj rfl (cj rfl (cj rfl (cj rfl (cj rfl (cj rfl (cj rfl (cj rfl (cj rfl (cj rfl (cj rfl (cj rfl (cj rfl (cj rfl (cj rfl (cj rfl (cj rfl (cj rfl (cj rfl (cj rfl (cj rfl (cj rfl (cj rfl (cj rfl (cj rfl (cj rfl (cj rfl (cj rfl (cj1 rfl)))))))))))))))))))))))))))))))))))))))))))))) (fun h2 =>
     Pn.some (Fn.of [.draw [], .call [] (E4 r1) [], .bit false, .bit false, .bit false, .bit false, .bit false, .bit false, .bit false, .bit false, .bit false, .bit false, .bit false, .bit false, .bit false, .bit false, .bit false, .bit false, .bit false, .bit false, .bit false, .bit false, .bit false, .bit false, .bit false, .bit false, .bit false, .bit false, .bit false, .bit false, .bit false, .bit false, .bit false, .bit false, .bit false, .bit false, .bit false, .bit false, .bit false, .bit false] (p := [Fn Tryd.prog 87 [(false, E9 a.Id)] (E4 r1) [],
      (true || ((E4 r1).nv && nvL [])) = true,
      r1 = false,
      r1 = false,
      r1 = false,
      r1 = false,
      false = false,
      false = false,
      false = false,
      false = false,
      false = false,
      false = false,
      false = false,
      false = false,
      false = false,
      false = false,
      false = false,
      false = false,
      false = false,
      false = false,
      false = false,
      false = false,
      false = false,
      false = false,
      false = false,
      false = false,
      false = false,
      false = false,
      false = false,
      false = false,
      false = false,
      false = false,
      false = false,
      false = false,
      false = false,
      false = false,
      false = false,
      false = false,
      false = false,
      false = false]) (by kernel_rfl) (cj (impl_AcctIdOk_ok a.Id r1 h1) (cj rfl (cj h2 (cj h2 (cj h2 (cj h2 (cj rfl (cj rfl (cj rfl (cj rfl (cj rfl (cj rfl (cj rfl (cj rfl (cj rfl (cj rfl (cj rfl (cj rfl (cj rfl (cj rfl (cj rfl (cj rfl (cj rfl (cj rfl (cj rfl (cj rfl (cj rfl (cj rfl (cj rfl (cj rfl (cj rfl (cj rfl (cj rfl (cj rfl (cj rfl (cj rfl (cj rfl (cj rfl (cj rfl (cj1 rfl)))))))))))))))))))))))))))))))))))))))))))
def slices_Clone_impl_Hold (s_ : List Hold) : Option (List Hold) := if capOk s_.length = true then some s_ else none
theorem slices_Clone_impl_Hold_ok : ∀ (s_ : List Hold), Pn (fun y => Fn Tryd.prog 96 [(false, E44 s_)] (E44 y) []) (slices_Clone_impl_Hold s_)
  | [] => by
    unfold slices_Clone_impl_Hold
    exact Pn.ite (fun h => Pn.some (Fn.two [] [.bit true] [.bit false, .cp (List.map E80 []), .nb 1 (.row 80 (List.map E80 []) [])] (p := []) (pT := [true = true]) (pF := [false = false, (List.map E80 []).map V.vw = (List.map E80 []), ([] : List V).length + (List.map E80 []).length ≤ 9223372036854775807, (([] : List V).length + (List.map E80 []).length) * 32 ≤ 140737488355328, Blk.row 80 (([] : List V) ++ (List.map E80 [])) [] = Blk.row 80 (List.map E80 []) []]) (by kernel_rfl) trivial (cj1 rfl) (cj rfl (cj (vw_id (fun _ => rfl) _) (cj (cap1 (capN (by simp) h)) (cj (cap2 (capN (by simp) h) (by decide)) (cj1 rfl))))))) (fun _ => Pn.none)
  | x :: t => by
    unfold slices_Clone_impl_Hold
    exact Pn.ite (fun h => Pn.some (Fn.two [] [.bit true] [.bit false, .cp (List.map E80 (x :: t)), .nb 1 (.row 80 (List.map E80 (x :: t)) [])] (p := []) (pT := [false = false, (List.map E80 (x :: t)).map V.vw = (List.map E80 (x :: t)), ([] : List V).length + (List.map E80 (x :: t)).length ≤ 9223372036854775807, (([] : List V).length + (List.map E80 (x :: t)).length) * 32 ≤ 140737488355328, Blk.row 80 (([] : List V) ++ (List.map E80 (x :: t))) [] = Blk.row 80 (List.map E80 (x :: t)) []]) (pF := [false = false, (List.map E80 (x :: t)).map V.vw = (List.map E80 (x :: t)), ([] : List V).length + (List.map E80 (x :: t)).length ≤ 9223372036854775807, (([] : List V).length + (List.map E80 (x :: t)).length) * 32 ≤ 140737488355328, Blk.row 80 (([] : List V) ++ (List.map E80 (x :: t))) [] = Blk.row 80 (List.map E80 (x :: t)) []]) (by kernel_rfl) trivial (cj rfl (cj (vw_id (fun _ => rfl) _) (cj (cap1 (capN (by simp) h)) (cj (cap2 (capN (by simp) h) (by decide)) (cj1 rfl))))) (cj rfl (cj (vw_id (fun _ => rfl) _) (cj (cap1 (capN (by simp) h)) (cj (cap2 (capN (by simp) h) (by decide)) (cj1 rfl))))))) (fun _ => Pn.none)
def impl_Live (h_ : Hold) (now : Int) : Option (Bool) :=
 some (decide (now < h_.Due))
theorem impl_Live_ok (h_ : Hold) (now : Int) : Pn (fun y => Fn Tryd.prog 98 [(false, E80 h_), (false, E3 now)] (E4 y) []) (impl_Live h_ now) := by
  unfold impl_Live
  exact
   Pn.some (Fn.of [] (p := []) (by kernel_rfl) trivial)
def impl_LiveOnes_1 (h_ : Hold) (c0_0 : Int) : Option (Bool) :=
 (impl_Live h_ c0_0).bind fun r1 =>
 some (!r1)
theorem impl_LiveOnes_1_ok (h_ : Hold) (c0_0 : Int) : Pn (fun y => Fn Tryd.prog 97 [(false, E80 h_), (false, V.cp [V.sc (.int .i64 c0_0)])] (E4 y) []) (impl_LiveOnes_1 h_ c0_0) := by
  unfold impl_LiveOnes_1
  exact
   Pn.bind (fun r1 h1 =>
    Pn.some (Fn.of [.call [] (E4 r1) []] (p := [Fn Tryd.prog 98 [(false, E80 h_), (false, E3 c0_0)] (E4 r1) [],
     (true || ((E4 r1).nv && nvL [])) = true]) (by kernel_rfl) (cj (impl_Live_ok h_ c0_0 r1 h1) (cj1 rfl))))
def slices_IndexFunc_impl_Hold_impl_LiveOnes_1_l0 (s_ : List Hold) (f0_0 : Int) : List Hold → List Hold → Option (Lo Unit Int)
  | [], p1 =>
   some (.out ())
  | x1 :: t1, p1 =>
   (impl_LiveOnes_1 x1 f0_0).bind fun r1 =>
   if r1 = true then
    some (.ret (p1.length : Int))
   else
    slices_IndexFunc_impl_Hold_impl_LiveOnes_1_l0 s_ f0_0 t1 (p1 ++ [x1])
theorem slices_IndexFunc_impl_Hold_impl_LiveOnes_1_l0_ok (s_ : List Hold) (f0_0 : Int) (h2 : capOk s_.length = true) : ∀ (t1 p1 : List Hold) (_ : s_ = p1 ++ t1) , Pn (LpO Tryd.prog (sub (codeOf Tryd.prog 130) [1, 0, 1, 0, 0]) (st 19 [(0, V.sl false 80 (List.map E80 s_)), (1, V.fn 97 [V.cp [V.sc (.int .i64 f0_0)]]), (7, V.sc (.int .i64 (s_.length : Int))), (8, V.sc (.int .i64 (p1.length : Int)))] [] []) (fun (y : Lo Unit Int) => Lo.elim y (fun s => (X.out 0, st 19 [] [] [])) (fun s => (X.ret, st 19 [(4, V.sc (.int .i64 s))] [] [])))) (slices_IndexFunc_impl_Hold_impl_LiveOnes_1_l0 s_ f0_0 t1 p1)
  | [], p1, h1 => by
    unfold slices_IndexFunc_impl_Hold_impl_LiveOnes_1_l0
    exact
     Pn.some (LpO.out [.bit false, .mask [], .ren []] (p := [(decide ((p1.length : Int) < (s_.length : Int))) = false]) (by kernel_rfl) (show X.out 0 ≠ X.go from nofun) (cj1 (rng_end h1)))
  | x1 :: t1, p1, h1 => by
    unfold slices_IndexFunc_impl_Hold_impl_LiveOnes_1_l0
    exact
     Pn.bind (fun r1 h3 =>
      Pn.ite (fun h4 =>
       Pn.some (LpO.out [.bit true, .el (E80 x1), .call [] (E4 r1) [], .bit true, .wait 2, .mask [4], .ren []] (p := [(decide ((p1.length : Int) < (s_.length : Int))) = true,
        (0 : Int) ≤ (p1.length : Int),
        (List.map E80 s_)[(p1.length : Int).toNat]? = some (E80 x1),
        Fn Tryd.prog 97 [(false, E80 x1), (false, V.cp [V.sc (.int .i64 f0_0)])] (E4 r1) [],
        (true || ((E4 r1).nv && nvL [])) = true,
        r1 = true]) (by kernel_rfl) (show X.ret ≠ X.go from nofun) (cj (rng_lt h1) (cj (by omega) (cj (rng_get _ h1) (cj (impl_LiveOnes_1_ok x1 f0_0 r1 h3) (cj rfl (cj1 h4)))))))) (fun h4 =>
       LpO.go [.bit true, .el (E80 x1), .call [] (E4 r1) [], .bit false, .wait 2, .mask [0, 1, 7, 8], .ren [], .nm 8 (V.sc (.int .i64 ((p1 ++ [x1]).length : Int)))] (p := [(decide ((p1.length : Int) < (s_.length : Int))) = true,
        (0 : Int) ≤ (p1.length : Int),
        (List.map E80 s_)[(p1.length : Int).toNat]? = some (E80 x1),
        Fn Tryd.prog 97 [(false, E80 x1), (false, V.cp [V.sc (.int .i64 f0_0)])] (E4 r1) [],
        (true || ((E4 r1).nv && nvL [])) = true,
        r1 = false,
        V.sc (.int .i64 (i64 ((p1.length : Int) + 1))) = V.sc (.int .i64 ((p1 ++ [x1]).length : Int))]) (by kernel_rfl) (cj (rng_lt h1) (cj (by omega) (cj (rng_get _ h1) (cj (impl_LiveOnes_1_ok x1 f0_0 r1 h3) (cj rfl (cj h4 (cj1 (rng_next h1 h2)))))))) (slices_IndexFunc_impl_Hold_impl_LiveOnes_1_l0_ok s_ f0_0 h2 t1 (p1 ++ [x1]) (rng_step h1))))
def slices_IndexFunc_impl_Hold_impl_LiveOnes_1 (s_ : List Hold) (f0_0 : Int) : Option (Int) :=
 if (capOk s_.length) = true then
  (slices_IndexFunc_impl_Hold_impl_LiveOnes_1_l0 s_ f0_0 s_ []).bind fun r2 =>
  Lo.elim r2 (fun s1 =>
   some (-1)) (fun s2 =>
   some s2)
 else none
theorem slices_IndexFunc_impl_Hold_impl_LiveOnes_1_ok (s_ : List Hold) (f0_0 : Int) : Pn (fun y => Fn Tryd.prog 130 [(false, E44 s_), (false, V.fn 97 [V.cp [V.sc (.int .i64 f0_0)]])] (E3 y) []) (slices_IndexFunc_impl_Hold_impl_LiveOnes_1 s_ f0_0) := by
  unfold slices_IndexFunc_impl_Hold_impl_LiveOnes_1
  exact
   Pn.ite (fun h5 =>
    Pn.bind (fun r2 h6 =>
     Pn.lo (fun s1 h7 =>
      Pn.some (Fn.of [.wait 3, .nm 7 (V.sc (.int .i64 (s_.length : Int))), .wait 2, .mask [0, 1, 7, 8], .ren [], .loop (X.out 0) (st 19 [] [] [])] (p := [V.sc (.int .i64 ((List.map E80 s_).length : Int)) = V.sc (.int .i64 (s_.length : Int)),
       Loop Tryd.prog (sub (codeOf Tryd.prog 130) [1, 0, 1, 0, 0]) (st 19 [(0, V.sl false 80 (List.map E80 s_)), (1, V.fn 97 [V.cp [V.sc (.int .i64 f0_0)]]), (7, V.sc (.int .i64 (s_.length : Int))), (8, V.sc (.int .i64 0))] [] []) (X.out 0) (st 19 [] [] [])]) (by kernel_rfl) (cj (len_nm _ _) (cj1 ((slices_IndexFunc_impl_Hold_impl_LiveOnes_1_l0_ok s_ f0_0 h5 s_ [] rfl r2 h6).at h7))))) (fun s2 h8 =>
      Pn.some (Fn.of [.wait 3, .nm 7 (V.sc (.int .i64 (s_.length : Int))), .wait 2, .mask [0, 1, 7, 8], .ren [], .loop (X.ret) (st 19 [(4, V.sc (.int .i64 s2))] [] [])] (p := [V.sc (.int .i64 ((List.map E80 s_).length : Int)) = V.sc (.int .i64 (s_.length : Int)),
       Loop Tryd.prog (sub (codeOf Tryd.prog 130) [1, 0, 1, 0, 0]) (st 19 [(0, V.sl false 80 (List.map E80 s_)), (1, V.fn 97 [V.cp [V.sc (.int .i64 f0_0)]]), (7, V.sc (.int .i64 (s_.length : Int))), (8, V.sc (.int .i64 0))] [] []) (X.ret) (st 19 [(4, V.sc (.int .i64 s2))] [] [])]) (by kernel_rfl) (cj (len_nm _ _) (cj1 ((slices_IndexFunc_impl_Hold_impl_LiveOnes_1_l0_ok s_ f0_0 h5 s_ [] rfl r2 h6).at h8))))))) (fun h5 =>
    Pn.none)
def slices_DeleteFunc_impl_Hold_impl_LiveOnes_1_l0 (del0_0 : Int) : Nat → Int → Int → (List Hold) → Option (Int × (List Hold))
  | 0, _, _, _ => none
  | fuel + 1, v1, v2, v3 =>
   if (decide (v2 < (v3.length : Int))) = true then
    if (decide (0 ≤ v2)) = true then
     (v3[v2.toNat]?).bind fun x1 =>
     (impl_LiveOnes_1 x1 del0_0).bind fun r2 =>
     if r2 = true then
      slices_DeleteFunc_impl_Hold_impl_LiveOnes_1_l0 del0_0 fuel v1 (i64 (v2 + 1)) v3
     else
      if (decide (0 ≤ v1)) = true then
       (v3[v1.toNat]?).bind fun x2 =>
       slices_DeleteFunc_impl_Hold_impl_LiveOnes_1_l0 del0_0 fuel (i64 (v1 + 1)) (i64 (v2 + 1)) (v3.set v1.toNat x1)
      else none
    else none
   else
    some (v1, v3)
theorem slices_DeleteFunc_impl_Hold_impl_LiveOnes_1_l0_ok (del0_0 : Int) : ∀ (fuel : Nat) (v1 : Int) (v2 : Int) (v3 : List Hold), Pn (LpO Tryd.prog (sub (codeOf Tryd.prog 95) [1, 1, 1, 0, 1, 0, 0]) (st 42 [(0, V.ow 0), (1, V.fn 97 [V.cp [V.sc (.int .i64 del0_0)]]), (5, V.sc (.int .i64 v1)), (6, V.sc (.int .i64 v2))] [Blk.row 80 (List.map E80 v3) []] [some 0]) (fun (y : Int × (List Hold)) => (X.out 0, st 42 [(0, V.ow 0), (5, V.sc (.int .i64 y.1))] [Blk.row 80 (List.map E80 y.2) []] [some 0]))) (slices_DeleteFunc_impl_Hold_impl_LiveOnes_1_l0 del0_0 fuel v1 v2 v3)
  | 0, _, _, _ => Pn.none
  | fuel + 1, v1, v2, v3 => by
    unfold slices_DeleteFunc_impl_Hold_impl_LiveOnes_1_l0
    exact
     Pn.ite (fun h3 =>
      Pn.ite (fun h4 =>
       Pn.bind (fun x1 h5 =>
        Pn.bind (fun r2 h6 =>
         Pn.ite (fun h7 =>
          LpO.go [.wait 3, .nm 18 (V.sc (.int .i64 (v3.length : Int))), .bit true, .el (E80 x1), .call [] (E4 r2) [], .bit false, .wait 3, .mask [0, 1, 5, 6], .ren [0]] (p := [V.sc (.int .i64 ((List.map E80 v3).length : Int)) = V.sc (.int .i64 (v3.length : Int)),
           (decide (v2 < (v3.length : Int))) = true,
           (0 : Int) ≤ v2,
           (v2 : Int) < ((List.map E80 v3).length : Int),
           look [] v2.toNat = none,
           (List.map E80 v3)[v2.toNat]? = some (E80 x1),
           Fn Tryd.prog 97 [(false, E80 x1), (false, V.cp [V.sc (.int .i64 del0_0)])] (E4 r2) [],
           (true || ((E4 r2).nv && nvL [])) = true,
           (!r2) = false]) (by kernel_rfl) (cj (len_nm _ _) (cj h3 (cj (od h4) (cj (map_ltN (od h4) h5) (cj rfl (cj (map_get h5) (cj (impl_LiveOnes_1_ok x1 del0_0 r2 h6) (cj rfl (cj1 (nf h7)))))))))) (slices_DeleteFunc_impl_Hold_impl_LiveOnes_1_l0_ok del0_0 fuel v1 (i64 (v2 + 1)) v3)) (fun h7 =>
          Pn.ite (fun h8 =>
           Pn.bind (fun x2 h9 =>
            LpO.go [.wait 3, .nm 18 (V.sc (.int .i64 (v3.length : Int))), .bit true, .el (E80 x1), .call [] (E4 r2) [], .bit true, .el (E80 x2), .nb 0 (.row 80 (List.map E80 (v3.set v1.toNat x1)) []), .wait 7, .mask [0, 1, 5, 6], .ren [0]] (p := [V.sc (.int .i64 ((List.map E80 v3).length : Int)) = V.sc (.int .i64 (v3.length : Int)),
             (decide (v2 < (v3.length : Int))) = true,
             (0 : Int) ≤ v2,
             (v2 : Int) < ((List.map E80 v3).length : Int),
             look [] v2.toNat = none,
             (List.map E80 v3)[v2.toNat]? = some (E80 x1),
             Fn Tryd.prog 97 [(false, E80 x1), (false, V.cp [V.sc (.int .i64 del0_0)])] (E4 r2) [],
             (true || ((E4 r2).nv && nvL [])) = true,
             (!r2) = true,
             (0 : Int) ≤ v1,
             (v1 : Int) < ((List.map E80 v3).length : Int),
             look [] v1.toNat = none,
             (List.map E80 v3)[v1.toNat]? = some (E80 x2),
             Blk.row 80 ((List.map E80 v3).set v1.toNat (V.agg [V.sc (.string x1.Id), V.sc (.int .i64 x1.Amount), V.sc (.int .i64 x1.Due)])) [] = Blk.row 80 (List.map E80 (v3.set v1.toNat x1)) []]) (by kernel_rfl) (cj (len_nm _ _) (cj h3 (cj (od h4) (cj (map_ltN (od h4) h5) (cj rfl (cj (map_get h5) (cj (impl_LiveOnes_1_ok x1 del0_0 r2 h6) (cj rfl (cj (nt h7) (cj (od h8) (cj (map_ltN (od h8) h9) (cj rfl (cj (map_get h9) (cj1 (nb_set E80 _ _ x1))))))))))))))) (slices_DeleteFunc_impl_Hold_impl_LiveOnes_1_l0_ok del0_0 fuel (i64 (v1 + 1)) (i64 (v2 + 1)) (v3.set v1.toNat x1)))) (fun h8 =>
           Pn.none))))) (fun h4 =>
       Pn.none)) (fun h3 =>
      Pn.some (LpO.out [.wait 3, .nm 18 (V.sc (.int .i64 (v3.length : Int))), .bit false, .mask [0, 5], .ren [0]] (p := [V.sc (.int .i64 ((List.map E80 v3).length : Int)) = V.sc (.int .i64 (v3.length : Int)),
       (decide (v2 < (v3.length : Int))) = false]) (by kernel_rfl) (show X.out 0 ≠ X.go from nofun) (cj (len_nm _ _) (cj1 h3))))
def slices_DeleteFunc_impl_Hold_impl_LiveOnes_1 (s_ : List Hold) (del0_0 : Int) : Option ((List Hold)) :=
 (slices_IndexFunc_impl_Hold_impl_LiveOnes_1 s_ del0_0).bind fun r1 =>
 if (r1 == (-1)) = true then
  some s_
 else
  (slices_DeleteFunc_impl_Hold_impl_LiveOnes_1_l0 del0_0 FUEL r1 (i64 (r1 + 1)) s_).bind fun r3 =>
  if (decide (0 ≤ r3.1)) = true then
   if (decide (r3.1 ≤ (r3.2.length : Int))) = true then
    if (decide (r3.1 ≤ ((r3.2.take r3.1.toNat ++ (List.replicate (r3.2.length - r3.1.toNat) (Hold.mk ByteArray.empty 0 0) ++ r3.2.drop (r3.1.toNat + (r3.2.length - r3.1.toNat)))).length : Int))) = true then
     some ((r3.2.take r3.1.toNat ++ (List.replicate (r3.2.length - r3.1.toNat) (Hold.mk ByteArray.empty 0 0) ++ r3.2.drop (r3.1.toNat + (r3.2.length - r3.1.toNat)))).take r3.1.toNat)
    else none
   else none
  else none
theorem slices_DeleteFunc_impl_Hold_impl_LiveOnes_1_ok (s_ : List Hold) (del0_0 : Int) : Pn (fun y => Fn Tryd.prog 95 [(true, E44 s_), (false, V.fn 97 [V.cp [V.sc (.int .i64 del0_0)]])] (E44 y) [V.un]) (slices_DeleteFunc_impl_Hold_impl_LiveOnes_1 s_ del0_0) := by
  unfold slices_DeleteFunc_impl_Hold_impl_LiveOnes_1
  exact
   Pn.bind (fun r1 h1 =>
    Pn.ite (fun h2 =>
     Pn.some (Fn.of [.call [] (E3 r1) [], .bit true] (p := [Fn Tryd.prog 130 [(false, E44 s_), (false, V.fn 97 [V.cp [V.sc (.int .i64 del0_0)]])] (E3 r1) [],
      (false || ((E3 r1).nv && nvL [])) = true,
      (r1 == (-1)) = true]) (by kernel_rfl) (cj (slices_IndexFunc_impl_Hold_impl_LiveOnes_1_ok s_ del0_0 r1 h1) (cj (by simp [V.nv, nvL, nvL_all, nv_E3]) (cj1 h2))))) (fun h2 =>
     Pn.bind (fun r3 h10 =>
      Pn.ite (fun h11 =>
       Pn.ite (fun h12 =>
        Pn.ite (fun h13 =>
         Pn.some (Fn.as (res := V.sl true 80 ((List.map E80 (r3.2.take r3.1.toNat ++ (List.replicate (r3.2.length - r3.1.toNat) (Hold.mk ByteArray.empty 0 0) ++ r3.2.drop (r3.1.toNat + (r3.2.length - r3.1.toNat))))).take r3.1.toNat)) (sb_take _ _ _) rfl (Fn.of [.call [] (E3 r1) [], .bit false, .wait 3, .mask [0, 1, 5, 6], .ren [0], .loop (X.out 0) (st 42 [(0, V.ow 0), (5, V.sc (.int .i64 r3.1))] [Blk.row 80 (List.map E80 r3.2) []] [some 0]), .wait 3, .nm 38 (V.sb 0 3 r3.1.toNat (r3.2.length - r3.1.toNat)), .wait 1, .nb 0 (.row 80 (List.map E80 (r3.2.take r3.1.toNat ++ (List.replicate (r3.2.length - r3.1.toNat) (Hold.mk ByteArray.empty 0 0) ++ r3.2.drop (r3.1.toNat + (r3.2.length - r3.1.toNat))))) [])] (p := [Fn Tryd.prog 130 [(false, E44 s_), (false, V.fn 97 [V.cp [V.sc (.int .i64 del0_0)]])] (E3 r1) [],
          (false || ((E3 r1).nv && nvL [])) = true,
          (r1 == (-1)) = false,
          Loop Tryd.prog (sub (codeOf Tryd.prog 95) [1, 1, 1, 0, 1, 0, 0]) (st 42 [(0, V.ow 0), (1, V.fn 97 [V.cp [V.sc (.int .i64 del0_0)]]), (5, V.sc (.int .i64 r1)), (6, V.sc (.int .i64 (i64 (r1 + 1))))] [Blk.row 80 (List.map E80 s_) []] [some 0]) (X.out 0) (st 42 [(0, V.ow 0), (5, V.sc (.int .i64 r3.1))] [Blk.row 80 (List.map E80 r3.2) []] [some 0]),
          (0 : Int) ≤ r3.1,
          (r3.1 : Int) ≤ ((List.map E80 r3.2).length : Int),
          (((List.map E80 r3.2).length : Int) : Int) ≤ ((List.map E80 r3.2).length : Int),
          V.sb 0 3 r3.1.toNat ((((List.map E80 r3.2).length : Int).toNat) - (r3.1.toNat)) = V.sb 0 3 r3.1.toNat (r3.2.length - r3.1.toNat),
          Blk.row 80 ((List.map E80 r3.2).take r3.1.toNat ++ (List.replicate (r3.2.length - r3.1.toNat) (V.agg [V.sc (.string ByteArray.empty), V.sc (.int .i64 0), V.sc (.int .i64 0)]) ++ (List.map E80 r3.2).drop (r3.1.toNat + (r3.2.length - r3.1.toNat)))) [] = Blk.row 80 (List.map E80 (r3.2.take r3.1.toNat ++ (List.replicate (r3.2.length - r3.1.toNat) (Hold.mk ByteArray.empty 0 0) ++ r3.2.drop (r3.1.toNat + (r3.2.length - r3.1.toNat))))) [],
          (0 : Int) ≤ 0,
          (0 : Int) ≤ r3.1,
          (r3.1 : Int) ≤ ((List.map E80 (r3.2.take r3.1.toNat ++ (List.replicate (r3.2.length - r3.1.toNat) (Hold.mk ByteArray.empty 0 0) ++ r3.2.drop (r3.1.toNat + (r3.2.length - r3.1.toNat))))).length : Int)]) (by kernel_rfl) (cj (slices_IndexFunc_impl_Hold_impl_LiveOnes_1_ok s_ del0_0 r1 h1) (cj (by simp [V.nv, nvL, nvL_all, nv_E3]) (cj h2 (cj (slices_DeleteFunc_impl_Hold_impl_LiveOnes_1_l0_ok del0_0 FUEL r1 (i64 (r1 + 1)) s_ r3 h10) (cj (od h11) (cj (by rw [List.length_map]; exact (od h12)) (cj (Int.le_refl _) (cj (by simp) (cj (nb_clr E80 _ _ _ (Hold.mk ByteArray.empty 0 0)) (cj (by decide) (cj (od h11) (cj1 (by rw [List.length_map]; exact (od h13))))))))))))))))) (fun h13 =>
         Pn.none)) (fun h12 =>
        Pn.none)) (fun h11 =>
       Pn.none))))
def impl_LiveOnes (l : List Hold) (now : Int) : Option ((List Hold)) :=
 (slices_Clone_impl_Hold l).bind fun r1 =>
 (slices_DeleteFunc_impl_Hold_impl_LiveOnes_1 r1 now).bind fun r2 =>
 some r2
theorem impl_LiveOnes_ok (l : List Hold) (now : Int) : Pn (fun y => Fn Tryd.prog 44 [(false, E44 l), (false, E3 now)] (E44 y) []) (impl_LiveOnes l now) := by
  unfold impl_LiveOnes
  exact
   Pn.bind (fun r1 h1 =>
    Pn.bind (fun r2 h2 =>
     Pn.some (Fn.of [.call [] (E44 r1) [], .call [true, false] (E44 r2) [V.un]] (p := [Fn Tryd.prog 96 [(false, E44 l)] (E44 r1) [],
      (true || ((E44 r1).nv && nvL [])) = true,
      Fn Tryd.prog 95 [(true, E44 r1), (false, V.fn 97 [V.cp [V.sc (.int .i64 now)]])] (E44 r2) [V.un],
      (false || ((E44 r2).nv && nvL [V.un])) = true]) (by kernel_rfl) (cj (slices_Clone_impl_Hold_ok l r1 h1) (cj rfl (cj (slices_DeleteFunc_impl_Hold_impl_LiveOnes_1_ok r1 now r2 h2) (cj1 (by simp [V.nv, nvL, nvL_all, nv_E3, nv_E9, nv_E44, nv_E80]))))))))
def impl_LiveSum (l : List Hold) (now : Int) : Option (Int) :=
 (impl_LiveOnes l now).bind fun r1 =>
 (impl_Stored r1).bind fun r2 =>
 some r2
theorem impl_LiveSum_ok (l : List Hold) (now : Int) : Pn (fun y => Fn Tryd.prog 94 [(false, E44 l), (false, E3 now)] (E3 y) []) (impl_LiveSum l now) := by
  unfold impl_LiveSum
  exact
   Pn.bind (fun r1 h1 =>
    Pn.bind (fun r2 h2 =>
     Pn.some (Fn.of [.call [] (E44 r1) [], .call [] (E3 r2) []] (p := [Fn Tryd.prog 44 [(false, E44 l), (false, E3 now)] (E44 r1) [],
      (true || ((E44 r1).nv && nvL [])) = true,
      Fn Tryd.prog 93 [(false, E44 r1)] (E3 r2) [],
      (false || ((E3 r2).nv && nvL [])) = true]) (by kernel_rfl) (cj (impl_LiveOnes_ok l now r1 h1) (cj rfl (cj (impl_Stored_ok r1 r2 h2) (cj1 (by simp [V.nv, nvL, nvL_all, nv_E3]))))))))
def impl_Room (a : Acct) (now : Int) : Option (Int) :=
 (impl_AcctOk a).bind fun r1 =>
 if r1 = true then
  (impl_isTime now).bind fun r2 =>
  if r2 = true then
   (impl_LiveSum a.Holds now).bind fun r3 =>
   some (i64 ((i64 (a.Limit - a.Posted)) - r3))
  else
   some 0
 else
  some 0
theorem impl_Room_ok (a : Acct) (now : Int) : Pn (fun y => Fn Tryd.prog 43 [(false, E48 a), (false, E3 now)] (E3 y) []) (impl_Room a now) := by
  unfold impl_Room
  exact
   Pn.bind (fun r1 h1 =>
    Pn.ite (fun h2 =>
     Pn.bind (fun r2 h3 =>
      Pn.ite (fun h4 =>
       Pn.bind (fun r3 h5 =>
        Pn.some (Fn.of [.call [] (E4 r1) [], .bit false, .bit false, .call [] (E4 r2) [], .bit false, .bit false, .bit false, .draw [], .call [] (E3 r3) []] (p := [Fn Tryd.prog 41 [(false, E48 a)] (E4 r1) [],
         (true || ((E4 r1).nv && nvL [])) = true,
         (!r1) = false,
         (!r1) = false,
         Fn Tryd.prog 42 [(false, E3 now)] (E4 r2) [],
         (true || ((E4 r2).nv && nvL [])) = true,
         (!r1) = false,
         (!r1) = false,
         (!r2) = false,
         Fn Tryd.prog 94 [(false, E44 a.Holds), (false, E3 now)] (E3 r3) [],
         (true || ((E3 r3).nv && nvL [])) = true]) (by kernel_rfl) (cj (impl_AcctOk_ok a r1 h1) (cj rfl (cj (nf h2) (cj (nf h2) (cj (impl_isTime_ok now r2 h3) (cj rfl (cj (nf h2) (cj (nf h2) (cj (nf h4) (cj (impl_LiveSum_ok a.Holds now r3 h5) (cj1 rfl)))))))))))))) (fun h4 =>
       Pn.some (Fn.of [.call [] (E4 r1) [], .bit false, .bit false, .call [] (E4 r2) [], .bit false, .bit false, .bit true] (p := [Fn Tryd.prog 41 [(false, E48 a)] (E4 r1) [],
        (true || ((E4 r1).nv && nvL [])) = true,
        (!r1) = false,
        (!r1) = false,
        Fn Tryd.prog 42 [(false, E3 now)] (E4 r2) [],
        (true || ((E4 r2).nv && nvL [])) = true,
        (!r1) = false,
        (!r1) = false,
        (!r2) = true]) (by kernel_rfl) (cj (impl_AcctOk_ok a r1 h1) (cj rfl (cj (nf h2) (cj (nf h2) (cj (impl_isTime_ok now r2 h3) (cj rfl (cj (nf h2) (cj (nf h2) (cj1 (nt h4)))))))))))))) (fun h2 =>
     Pn.some (Fn.of [.call [] (E4 r1) [], .bit true, .bit true, .bit true, .bit true, .bit true] (p := [Fn Tryd.prog 41 [(false, E48 a)] (E4 r1) [],
      (true || ((E4 r1).nv && nvL [])) = true,
      (!r1) = true,
      (!r1) = true,
      (!r1) = true,
      (!r1) = true,
      true = true]) (by kernel_rfl) (cj (impl_AcctOk_ok a r1 h1) (cj rfl (cj (nt h2) (cj (nt h2) (cj (nt h2) (cj (nt h2) (cj1 rfl))))))))))
def strconv_Itoa (i : Int) : Option ByteArray := if (decide (-9223372036854775808 ≤ i) && decide (i ≤ 9223372036854775807)) = true then some ⟨(Lib.itoa i).toArray⟩ else none
theorem strconv_Itoa_ok (i : Int) : Pn (fun y => Fn Tryd.prog 66 [(false, E3 i)] (E9 y) []) (strconv_Itoa i) := by
  unfold strconv_Itoa
  exact Pn.ite (fun h => Pn.some (Fn.flat [.int .i64 i] (by kernel_rfl) rfl fun w hw => by
    simp only [Bool.and_eq_true, decide_eq_true_eq] at h
    obtain ⟨cs, t, z, e1, e2⟩ := hw _ (List.Mem.head _)
    exact (Go.Proofs.Any.strconv_Itoa Tryd.laysM171 i h.1 h.2 w (tab_of (by kernel_rfl) e1 e2)).mono fun e w2 ⟨h1, k, os, h2⟩ => ⟨h1, h2 ▸ Lib.below_grow _ w (Nat.le_refl _) k os⟩)) (fun _ => Pn.none)
def impl_NumText (n : Int) : Option (ByteArray) :=
 (impl_isMoney n).bind fun r1 =>
 if r1 = true then
  (strconv_Itoa n).bind fun r2 =>
  some r2
 else
  some (bs [])
theorem impl_NumText_ok (n : Int) : Pn (fun y => Fn Tryd.prog 26 [(false, E3 n)] (E9 y) []) (impl_NumText n) := by
  unfold impl_NumText
  exact
   Pn.bind (fun r1 h1 =>
    Pn.ite (fun h2 =>
     Pn.bind (fun r2 h3 =>
      Pn.some (Fn.of [.call [] (E4 r1) [], .bit false, .call [] (E9 r2) []] (p := [Fn Tryd.prog 65 [(false, E3 n)] (E4 r1) [],
       (true || ((E4 r1).nv && nvL [])) = true,
       (!r1) = false,
       Fn Tryd.prog 66 [(false, E3 n)] (E9 r2) [],
       (true || ((E9 r2).nv && nvL [])) = true]) (by kernel_rfl) (cj (impl_isMoney_ok n r1 h1) (cj rfl (cj (nf h2) (cj (strconv_Itoa_ok n r2 h3) (cj1 rfl)))))))) (fun h2 =>
     Pn.some (Fn.of [.call [] (E4 r1) [], .bit true] (p := [Fn Tryd.prog 65 [(false, E3 n)] (E4 r1) [],
      (true || ((E4 r1).nv && nvL [])) = true,
      (!r1) = true]) (by kernel_rfl) (cj (impl_isMoney_ok n r1 h1) (cj rfl (cj1 (nt h2)))))))
def impl_HoldShow (h_ : Hold) : Option (ByteArray) :=
 if (decide (h_.Id.size + (bs [58]).size ≤ 9223372036854775807)) = true then
  (impl_NumText h_.Amount).bind fun r1 =>
  if (decide ((h_.Id ++ (bs [58])).size + r1.size ≤ 9223372036854775807)) = true then
   if (decide (((h_.Id ++ (bs [58])) ++ r1).size + (bs [64]).size ≤ 9223372036854775807)) = true then
    (impl_NumText h_.Due).bind fun r2 =>
    if (decide ((((h_.Id ++ (bs [58])) ++ r1) ++ (bs [64])).size + r2.size ≤ 9223372036854775807)) = true then
     some ((((h_.Id ++ (bs [58])) ++ r1) ++ (bs [64])) ++ r2)
    else none
   else none
  else none
 else none
theorem impl_HoldShow_ok (h_ : Hold) : Pn (fun y => Fn Tryd.prog 45 [(false, E80 h_)] (E9 y) []) (impl_HoldShow h_) := by
  unfold impl_HoldShow
  exact
   Pn.ite (fun h1 =>
    Pn.bind (fun r1 h2 =>
     Pn.ite (fun h3 =>
      Pn.ite (fun h4 =>
       Pn.bind (fun r2 h5 =>
        Pn.ite (fun h6 =>
         Pn.some (Fn.of [.draw [], .call [] (E9 r1) [], .call [] (E9 r2) []] (p := [h_.Id.size + (bs [58]).size ≤ 9223372036854775807,
          Fn Tryd.prog 26 [(false, E3 h_.Amount)] (E9 r1) [],
          (true || ((E9 r1).nv && nvL [])) = true,
          (h_.Id ++ (bs [58])).size + r1.size ≤ 9223372036854775807,
          ((h_.Id ++ (bs [58])) ++ r1).size + (bs [64]).size ≤ 9223372036854775807,
          Fn Tryd.prog 26 [(false, E3 h_.Due)] (E9 r2) [],
          (true || ((E9 r2).nv && nvL [])) = true,
          (((h_.Id ++ (bs [58])) ++ r1) ++ (bs [64])).size + r2.size ≤ 9223372036854775807]) (by kernel_rfl) (cj (od h1) (cj (impl_NumText_ok h_.Amount r1 h2) (cj rfl (cj (od h3) (cj (od h4) (cj (impl_NumText_ok h_.Due r2 h5) (cj rfl (cj1 (od h6))))))))))) (fun h6 =>
         Pn.none))) (fun h4 =>
       Pn.none)) (fun h3 =>
      Pn.none))) (fun h1 =>
    Pn.none)
def impl_AcctShow_l0 (r7 : (List Hold)) : List Hold → ByteArray → Option (ByteArray)
  | [], v1 =>
   some v1
  | x1 :: t1, v1 =>
   (impl_HoldShow x1).bind fun r8 =>
   if (decide ((bs [32]).size + r8.size ≤ 9223372036854775807)) = true then
    if (decide (v1.size + ((bs [32]) ++ r8).size ≤ 9223372036854775807)) = true then
     impl_AcctShow_l0 r7 t1 (v1 ++ ((bs [32]) ++ r8))
    else none
   else none
theorem impl_AcctShow_l0_ok (r7 : (List Hold)) (h17 : capOk r7.length = true) : ∀ (t1 p1 : List Hold) (_ : r7 = p1 ++ t1) (v1 : ByteArray), Pn (LpO Tryd.prog (sub (codeOf Tryd.prog 14) [1, 1, 1, 0, 1, 0, 0]) (st 50 [(5, V.sc (.string v1)), (37, V.ow 0), (38, V.sc (.int .i64 (r7.length : Int))), (39, V.sc (.int .i64 (p1.length : Int)))] [Blk.row 80 (List.map E80 r7) []] []) (fun (y : ByteArray) => (X.out 0, st 50 [(5, V.sc (.string y))] [] []))) (impl_AcctShow_l0 r7 t1 v1)
  | [], p1, h16, v1 => by
    unfold impl_AcctShow_l0
    exact
     Pn.some (LpO.out [.bit false, .mask [5], .ren []] (p := [(decide ((p1.length : Int) < (r7.length : Int))) = false]) (by kernel_rfl) (show X.out 0 ≠ X.go from nofun) (cj1 (rng_end h16)))
  | x1 :: t1, p1, h16, v1 => by
    unfold impl_AcctShow_l0
    exact
     Pn.bind (fun r8 h18 =>
      Pn.ite (fun h19 =>
       Pn.ite (fun h20 =>
        LpO.go [.bit true, .el (E80 x1), .call [] (E9 r8) [], .wait 6, .mask [5, 37, 38, 39], .ren [0], .nm 39 (V.sc (.int .i64 ((p1 ++ [x1]).length : Int)))] (p := [(decide ((p1.length : Int) < (r7.length : Int))) = true,
         (0 : Int) ≤ (p1.length : Int),
         ((p1.length : Int) : Int) < ((List.map E80 r7).length : Int),
         look [] ((p1.length : Int).toNat) = none,
         (List.map E80 r7)[(p1.length : Int).toNat]? = some (E80 x1),
         Fn Tryd.prog 45 [(false, E80 x1)] (E9 r8) [],
         (true || ((E9 r8).nv && nvL [])) = true,
         (bs [32]).size + r8.size ≤ 9223372036854775807,
         v1.size + ((bs [32]) ++ r8).size ≤ 9223372036854775807,
         V.sc (.int .i64 (i64 ((p1.length : Int) + 1))) = V.sc (.int .i64 ((p1 ++ [x1]).length : Int))]) (by kernel_rfl) (cj (rng_lt h16) (cj (by omega) (cj (rng_ltI _ h16) (cj rfl (cj (rng_get _ h16) (cj (impl_HoldShow_ok x1 r8 h18) (cj rfl (cj (od h19) (cj (od h20) (cj1 (rng_next h16 h17))))))))))) (impl_AcctShow_l0_ok r7 h17 t1 (p1 ++ [x1]) (rng_step h16) (v1 ++ ((bs [32]) ++ r8)))) (fun h20 =>
        Pn.none)) (fun h19 =>
       Pn.none))
def impl_AcctShow (a : Acct) (now : Int) : Option (ByteArray) :=
 (impl_AcctOk a).bind fun r1 =>
 if r1 = true then
  (impl_isTime now).bind fun r2 =>
  if r2 = true then
   if (decide (a.Id.size + (bs [32]).size ≤ 9223372036854775807)) = true then
    (impl_Room a now).bind fun r3 =>
    (impl_NumText r3).bind fun r4 =>
    if (decide ((a.Id ++ (bs [32])).size + r4.size ≤ 9223372036854775807)) = true then
     if (decide (((a.Id ++ (bs [32])) ++ r4).size + (bs [47]).size ≤ 9223372036854775807)) = true then
      (impl_NumText a.Limit).bind fun r5 =>
      if (decide ((((a.Id ++ (bs [32])) ++ r4) ++ (bs [47])).size + r5.size ≤ 9223372036854775807)) = true then
       if (decide (((((a.Id ++ (bs [32])) ++ r4) ++ (bs [47])) ++ r5).size + (bs [32]).size ≤ 9223372036854775807)) = true then
        (impl_NumText a.Posted).bind fun r6 =>
        if (decide ((((((a.Id ++ (bs [32])) ++ r4) ++ (bs [47])) ++ r5) ++ (bs [32])).size + r6.size ≤ 9223372036854775807)) = true then
         (impl_LiveOnes a.Holds now).bind fun r7 =>
         if (capOk r7.length) = true then
          (impl_AcctShow_l0 r7 r7 ((((((a.Id ++ (bs [32])) ++ r4) ++ (bs [47])) ++ r5) ++ (bs [32])) ++ r6)).bind fun r9 =>
          some r9
         else none
        else none
       else none
      else none
     else none
    else none
   else none
  else
   some (bs [])
 else
  some (bs [])
theorem impl_AcctShow_ok (a : Acct) (now : Int) : Pn (fun y => Fn Tryd.prog 14 [(false, E48 a), (false, E3 now)] (E9 y) []) (impl_AcctShow a now) := by
  unfold impl_AcctShow
  exact
   Pn.bind (fun r1 h1 =>
    Pn.ite (fun h2 =>
     Pn.bind (fun r2 h3 =>
      Pn.ite (fun h4 =>
       Pn.ite (fun h5 =>
        Pn.bind (fun r3 h6 =>
         Pn.bind (fun r4 h7 =>
          Pn.ite (fun h8 =>
           Pn.ite (fun h9 =>
            Pn.bind (fun r5 h10 =>
             Pn.ite (fun h11 =>
              Pn.ite (fun h12 =>
               Pn.bind (fun r6 h13 =>
                Pn.ite (fun h14 =>
                 Pn.bind (fun r7 h15 =>
                  Pn.ite (fun h21 =>
                   Pn.bind (fun r9 h22 =>
                    Pn.some (Fn.of [.call [] (E4 r1) [], .bit false, .bit false, .call [] (E4 r2) [], .bit false, .bit false, .bit false, .draw [], .call [] (E3 r3) [], .call [] (E9 r4) [], .call [] (E9 r5) [], .call [] (E9 r6) [], .call [] (E44 r7) [], .wait 1, .nm 38 (V.sc (.int .i64 (r7.length : Int))), .wait 2, .mask [5, 37, 38, 39], .ren [1], .loop (X.out 0) (st 50 [(5, V.sc (.string r9))] [] [])] (p := [Fn Tryd.prog 41 [(false, E48 a)] (E4 r1) [],
                     (true || ((E4 r1).nv && nvL [])) = true,
                     (!r1) = false,
                     (!r1) = false,
                     Fn Tryd.prog 42 [(false, E3 now)] (E4 r2) [],
                     (true || ((E4 r2).nv && nvL [])) = true,
                     (!r1) = false,
                     (!r1) = false,
                     (!r2) = false,
                     a.Id.size + (bs [32]).size ≤ 9223372036854775807,
                     Fn Tryd.prog 43 [(false, E48 a), (false, E3 now)] (E3 r3) [],
                     (true || ((E3 r3).nv && nvL [])) = true,
                     Fn Tryd.prog 26 [(false, E3 r3)] (E9 r4) [],
                     (true || ((E9 r4).nv && nvL [])) = true,
                     (a.Id ++ (bs [32])).size + r4.size ≤ 9223372036854775807,
                     ((a.Id ++ (bs [32])) ++ r4).size + (bs [47]).size ≤ 9223372036854775807,
                     Fn Tryd.prog 26 [(false, E3 a.Limit)] (E9 r5) [],
                     (true || ((E9 r5).nv && nvL [])) = true,
                     (((a.Id ++ (bs [32])) ++ r4) ++ (bs [47])).size + r5.size ≤ 9223372036854775807,
                     ((((a.Id ++ (bs [32])) ++ r4) ++ (bs [47])) ++ r5).size + (bs [32]).size ≤ 9223372036854775807,
                     Fn Tryd.prog 26 [(false, E3 a.Posted)] (E9 r6) [],
                     (true || ((E9 r6).nv && nvL [])) = true,
                     (((((a.Id ++ (bs [32])) ++ r4) ++ (bs [47])) ++ r5) ++ (bs [32])).size + r6.size ≤ 9223372036854775807,
                     Fn Tryd.prog 44 [(false, E44 a.Holds), (false, E3 now)] (E44 r7) [],
                     (true || ((E44 r7).nv && nvL [])) = true,
                     V.sc (.int .i64 ((List.map E80 r7).length : Int)) = V.sc (.int .i64 (r7.length : Int)),
                     Loop Tryd.prog (sub (codeOf Tryd.prog 14) [1, 1, 1, 0, 1, 0, 0]) (st 50 [(5, V.sc (.string ((((((a.Id ++ (bs [32])) ++ r4) ++ (bs [47])) ++ r5) ++ (bs [32])) ++ r6))), (37, V.ow 0), (38, V.sc (.int .i64 (r7.length : Int))), (39, V.sc (.int .i64 0))] [Blk.row 80 (List.map E80 r7) []] []) (X.out 0) (st 50 [(5, V.sc (.string r9))] [] [])]) (by kernel_rfl) (cj (impl_AcctOk_ok a r1 h1) (cj rfl (cj (nf h2) (cj (nf h2) (cj (impl_isTime_ok now r2 h3) (cj rfl (cj (nf h2) (cj (nf h2) (cj (nf h4) (cj (od h5) (cj (impl_Room_ok a now r3 h6) (cj rfl (cj (impl_NumText_ok r3 r4 h7) (cj rfl (cj (od h8) (cj (od h9) (cj (impl_NumText_ok a.Limit r5 h10) (cj rfl (cj (od h11) (cj (od h12) (cj (impl_NumText_ok a.Posted r6 h13) (cj rfl (cj (od h14) (cj (impl_LiveOnes_ok a.Holds now r7 h15) (cj rfl (cj (len_nm _ _) (cj1 (impl_AcctShow_l0_ok r7 h21 r7 [] rfl ((((((a.Id ++ (bs [32])) ++ r4) ++ (bs [47])) ++ r5) ++ (bs [32])) ++ r6) r9 h22))))))))))))))))))))))))))))))) (fun h21 =>
                   Pn.none))) (fun h14 =>
                 Pn.none))) (fun h12 =>
               Pn.none)) (fun h11 =>
              Pn.none))) (fun h9 =>
            Pn.none)) (fun h8 =>
           Pn.none)))) (fun h5 =>
        Pn.none)) (fun h4 =>
       Pn.some (Fn.of [.call [] (E4 r1) [], .bit false, .bit false, .call [] (E4 r2) [], .bit false, .bit false, .bit true] (p := [Fn Tryd.prog 41 [(false, E48 a)] (E4 r1) [],
        (true || ((E4 r1).nv && nvL [])) = true,
        (!r1) = false,
        (!r1) = false,
        Fn Tryd.prog 42 [(false, E3 now)] (E4 r2) [],
        (true || ((E4 r2).nv && nvL [])) = true,
        (!r1) = false,
        (!r1) = false,
        (!r2) = true]) (by kernel_rfl) (cj (impl_AcctOk_ok a r1 h1) (cj rfl (cj (nf h2) (cj (nf h2) (cj (impl_isTime_ok now r2 h3) (cj rfl (cj (nf h2) (cj (nf h2) (cj1 (nt h4)))))))))))))) (fun h2 =>
     Pn.some (Fn.of [.call [] (E4 r1) [], .bit true, .bit true, .bit true, .bit true, .bit true] (p := [Fn Tryd.prog 41 [(false, E48 a)] (E4 r1) [],
      (true || ((E4 r1).nv && nvL [])) = true,
      (!r1) = true,
      (!r1) = true,
      (!r1) = true,
      (!r1) = true,
      true = true]) (by kernel_rfl) (cj (impl_AcctOk_ok a r1 h1) (cj rfl (cj (nt h2) (cj (nt h2) (cj (nt h2) (cj (nt h2) (cj1 rfl))))))))))
def laws_eqHold (a : Hold) (b : Hold) : Option (Bool) :=
 if (a.Id == b.Id) = true then
  if (a.Amount != b.Amount) = true then
   some false
  else
   if (a.Due != b.Due) = true then
    some false
   else
    some true
 else
  some false
theorem laws_eqHold_ok (a : Hold) (b : Hold) : Pn (fun y => Fn Tryd.prog 99 [(false, E80 a), (false, E80 b)] (E4 y) []) (laws_eqHold a b) := by
  unfold laws_eqHold
  exact
   Pn.ite (fun h1 =>
    Pn.ite (fun h2 =>
     Pn.some (Fn.of [.bit false, .bit true] (p := [(!(a.Id == b.Id)) = false,
      (a.Amount != b.Amount) = true]) (by kernel_rfl) (cj (nf h1) (cj1 h2)))) (fun h2 =>
     Pn.ite (fun h3 =>
      Pn.some (Fn.of [.bit false, .bit false, .bit true] (p := [(!(a.Id == b.Id)) = false,
       (a.Amount != b.Amount) = false,
       (a.Due != b.Due) = true]) (by kernel_rfl) (cj (nf h1) (cj h2 (cj1 h3))))) (fun h3 =>
      Pn.some (Fn.of [.bit false, .bit false, .bit false] (p := [(!(a.Id == b.Id)) = false,
       (a.Amount != b.Amount) = false,
       (a.Due != b.Due) = false]) (by kernel_rfl) (cj (nf h1) (cj h2 (cj1 h3))))))) (fun h1 =>
    Pn.some (Fn.of [.bit true] (p := [(!(a.Id == b.Id)) = true]) (by kernel_rfl) (cj1 (nt h1))))
def laws_eqHoldS_l0 (a : List Hold) (b : List Hold) : List Hold → List Hold → Option (Lo Unit Unit)
  | [], p1 =>
   some (.out ())
  | x1 :: t1, p1 =>
   (b[(p1.length : Int).toNat]?).bind fun x2 =>
   (laws_eqHold x1 x2).bind fun r1 =>
   if r1 = true then
    laws_eqHoldS_l0 a b t1 (p1 ++ [x1])
   else
    some (.ret ())
theorem laws_eqHoldS_l0_ok (a : List Hold) (b : List Hold) (h3 : capOk a.length = true) : ∀ (t1 p1 : List Hold) (_ : a = p1 ++ t1) , Pn (LpO Tryd.prog (sub (codeOf Tryd.prog 46) [1, 1, 0, 1, 0, 0]) (st 27 [(0, V.sl false 80 (List.map E80 a)), (1, V.sl false 80 (List.map E80 b)), (5, V.sc (.int .i64 (p1.length : Int)))] [] []) (fun (y : Lo Unit Unit) => Lo.elim y (fun s => (X.out 0, st 27 [] [] [])) (fun s => (X.ret, st 27 [(4, V.sc (.bool false))] [] [])))) (laws_eqHoldS_l0 a b t1 p1)
  | [], p1, h2 => by
    unfold laws_eqHoldS_l0
    exact
     Pn.some (LpO.out [.wait 3, .nm 13 (V.sc (.int .i64 (a.length : Int))), .bit false, .mask [], .ren []] (p := [V.sc (.int .i64 ((List.map E80 a).length : Int)) = V.sc (.int .i64 (a.length : Int)),
      (decide ((p1.length : Int) < (a.length : Int))) = false]) (by kernel_rfl) (show X.out 0 ≠ X.go from nofun) (cj (len_nm _ _) (cj1 (rng_end h2))))
  | x1 :: t1, p1, h2 => by
    unfold laws_eqHoldS_l0
    exact
     Pn.bind (fun x2 h4 =>
      Pn.bind (fun r1 h5 =>
       Pn.ite (fun h6 =>
        LpO.go [.wait 3, .nm 13 (V.sc (.int .i64 (a.length : Int))), .bit true, .draw [], .el (E80 x1), .el (E80 x2), .call [] (E4 r1) [], .bit false, .wait 3, .mask [0, 1, 5], .ren [], .nm 5 (V.sc (.int .i64 ((p1 ++ [x1]).length : Int)))] (p := [V.sc (.int .i64 ((List.map E80 a).length : Int)) = V.sc (.int .i64 (a.length : Int)),
         (decide ((p1.length : Int) < (a.length : Int))) = true,
         (0 : Int) ≤ (p1.length : Int),
         (List.map E80 a)[(p1.length : Int).toNat]? = some (E80 x1),
         (0 : Int) ≤ (p1.length : Int),
         (List.map E80 b)[(p1.length : Int).toNat]? = some (E80 x2),
         Fn Tryd.prog 99 [(false, E80 x1), (false, E80 x2)] (E4 r1) [],
         (true || ((E4 r1).nv && nvL [])) = true,
         (!r1) = false,
         V.sc (.int .i64 (i64 ((p1.length : Int) + 1))) = V.sc (.int .i64 ((p1 ++ [x1]).length : Int))]) (by kernel_rfl) (cj (len_nm _ _) (cj (rng_lt h2) (cj (by omega) (cj (rng_get _ h2) (cj (by omega) (cj (map_get h4) (cj (laws_eqHold_ok x1 x2 r1 h5) (cj rfl (cj (nf h6) (cj1 (rng_next h2 h3))))))))))) (laws_eqHoldS_l0_ok a b h3 t1 (p1 ++ [x1]) (rng_step h2))) (fun h6 =>
        Pn.some (LpO.out [.wait 3, .nm 13 (V.sc (.int .i64 (a.length : Int))), .bit true, .draw [], .el (E80 x1), .el (E80 x2), .call [] (E4 r1) [], .bit true, .wait 1, .mask [4], .ren []] (p := [V.sc (.int .i64 ((List.map E80 a).length : Int)) = V.sc (.int .i64 (a.length : Int)),
         (decide ((p1.length : Int) < (a.length : Int))) = true,
         (0 : Int) ≤ (p1.length : Int),
         (List.map E80 a)[(p1.length : Int).toNat]? = some (E80 x1),
         (0 : Int) ≤ (p1.length : Int),
         (List.map E80 b)[(p1.length : Int).toNat]? = some (E80 x2),
         Fn Tryd.prog 99 [(false, E80 x1), (false, E80 x2)] (E4 r1) [],
         (true || ((E4 r1).nv && nvL [])) = true,
         (!r1) = true]) (by kernel_rfl) (show X.ret ≠ X.go from nofun) (cj (len_nm _ _) (cj (rng_lt h2) (cj (by omega) (cj (rng_get _ h2) (cj (by omega) (cj (map_get h4) (cj (laws_eqHold_ok x1 x2 r1 h5) (cj rfl (cj1 (nt h6))))))))))))))
def laws_eqHoldS (a : List Hold) (b : List Hold) : Option (Bool) :=
 if ((a.length : Int) != (b.length : Int)) = true then
  some false
 else
  if (capOk a.length) = true then
   (laws_eqHoldS_l0 a b a []).bind fun r2 =>
   Lo.elim r2 (fun s1 =>
    some true) (fun s2 =>
    some false)
  else none
theorem laws_eqHoldS_ok (a : List Hold) (b : List Hold) : Pn (fun y => Fn Tryd.prog 46 [(false, E44 a), (false, E44 b)] (E4 y) []) (laws_eqHoldS a b) := by
  unfold laws_eqHoldS
  exact
   Pn.ite (fun h1 =>
    Pn.some (Fn.of [.wait 3, .nm 7 (V.sc (.int .i64 (a.length : Int))), .wait 2, .nm 9 (V.sc (.int .i64 (b.length : Int))), .bit true] (p := [V.sc (.int .i64 ((List.map E80 a).length : Int)) = V.sc (.int .i64 (a.length : Int)),
     V.sc (.int .i64 ((List.map E80 b).length : Int)) = V.sc (.int .i64 (b.length : Int)),
     ((a.length : Int) != (b.length : Int)) = true]) (by kernel_rfl) (cj (len_nm _ _) (cj (len_nm _ _) (cj1 h1))))) (fun h1 =>
    Pn.ite (fun h7 =>
     Pn.bind (fun r2 h8 =>
      Pn.lo (fun s1 h9 =>
       Pn.some (Fn.of [.wait 3, .nm 7 (V.sc (.int .i64 (a.length : Int))), .wait 2, .nm 9 (V.sc (.int .i64 (b.length : Int))), .bit false, .wait 1, .mask [0, 1, 5], .ren [], .loop (X.out 0) (st 27 [] [] [])] (p := [V.sc (.int .i64 ((List.map E80 a).length : Int)) = V.sc (.int .i64 (a.length : Int)),
        V.sc (.int .i64 ((List.map E80 b).length : Int)) = V.sc (.int .i64 (b.length : Int)),
        ((a.length : Int) != (b.length : Int)) = false,
        Loop Tryd.prog (sub (codeOf Tryd.prog 46) [1, 1, 0, 1, 0, 0]) (st 27 [(0, V.sl false 80 (List.map E80 a)), (1, V.sl false 80 (List.map E80 b)), (5, V.sc (.int .i64 0))] [] []) (X.out 0) (st 27 [] [] [])]) (by kernel_rfl) (cj (len_nm _ _) (cj (len_nm _ _) (cj h1 (cj1 ((laws_eqHoldS_l0_ok a b h7 a [] rfl r2 h8).at h9))))))) (fun s2 h10 =>
       Pn.some (Fn.of [.wait 3, .nm 7 (V.sc (.int .i64 (a.length : Int))), .wait 2, .nm 9 (V.sc (.int .i64 (b.length : Int))), .bit false, .wait 1, .mask [0, 1, 5], .ren [], .loop (X.ret) (st 27 [(4, V.sc (.bool false))] [] [])] (p := [V.sc (.int .i64 ((List.map E80 a).length : Int)) = V.sc (.int .i64 (a.length : Int)),
        V.sc (.int .i64 ((List.map E80 b).length : Int)) = V.sc (.int .i64 (b.length : Int)),
        ((a.length : Int) != (b.length : Int)) = false,
        Loop Tryd.prog (sub (codeOf Tryd.prog 46) [1, 1, 0, 1, 0, 0]) (st 27 [(0, V.sl false 80 (List.map E80 a)), (1, V.sl false 80 (List.map E80 b)), (5, V.sc (.int .i64 0))] [] []) (X.ret) (st 27 [(4, V.sc (.bool false))] [] [])]) (by kernel_rfl) (cj (len_nm _ _) (cj (len_nm _ _) (cj h1 (cj1 ((laws_eqHoldS_l0_ok a b h7 a [] rfl r2 h8).at h10))))))))) (fun h7 =>
     Pn.none))
def laws_eqIntS_l0 (a : List Int) (b : List Int) : List Int → List Int → Option (Lo Unit Unit)
  | [], p1 =>
   some (.out ())
  | x1 :: t1, p1 =>
   (b[(p1.length : Int).toNat]?).bind fun x2 =>
   if (x1 != x2) = true then
    some (.ret ())
   else
    laws_eqIntS_l0 a b t1 (p1 ++ [x1])
theorem laws_eqIntS_l0_ok (a : List Int) (b : List Int) (h3 : capOk a.length = true) : ∀ (t1 p1 : List Int) (_ : a = p1 ++ t1) , Pn (LpO Tryd.prog (sub (codeOf Tryd.prog 100) [1, 1, 0, 1, 0, 0]) (st 26 [(0, V.sl false 3 (List.map E3 a)), (1, V.sl false 3 (List.map E3 b)), (5, V.sc (.int .i64 (p1.length : Int)))] [] []) (fun (y : Lo Unit Unit) => Lo.elim y (fun s => (X.out 0, st 26 [] [] [])) (fun s => (X.ret, st 26 [(4, V.sc (.bool false))] [] [])))) (laws_eqIntS_l0 a b t1 p1)
  | [], p1, h2 => by
    unfold laws_eqIntS_l0
    exact
     Pn.some (LpO.out [.wait 3, .nm 13 (V.sc (.int .i64 (a.length : Int))), .bit false, .mask [], .ren []] (p := [V.sc (.int .i64 ((List.map E3 a).length : Int)) = V.sc (.int .i64 (a.length : Int)),
      (decide ((p1.length : Int) < (a.length : Int))) = false]) (by kernel_rfl) (show X.out 0 ≠ X.go from nofun) (cj (len_nm _ _) (cj1 (rng_end h2))))
  | x1 :: t1, p1, h2 => by
    unfold laws_eqIntS_l0
    exact
     Pn.bind (fun x2 h4 =>
      Pn.ite (fun h5 =>
       Pn.some (LpO.out [.wait 3, .nm 13 (V.sc (.int .i64 (a.length : Int))), .bit true, .draw [], .el (E3 x1), .el (E3 x2), .bit true, .wait 1, .mask [4], .ren []] (p := [V.sc (.int .i64 ((List.map E3 a).length : Int)) = V.sc (.int .i64 (a.length : Int)),
        (decide ((p1.length : Int) < (a.length : Int))) = true,
        (0 : Int) ≤ (p1.length : Int),
        (List.map E3 a)[(p1.length : Int).toNat]? = some (E3 x1),
        (0 : Int) ≤ (p1.length : Int),
        (List.map E3 b)[(p1.length : Int).toNat]? = some (E3 x2),
        (x1 != x2) = true]) (by kernel_rfl) (show X.ret ≠ X.go from nofun) (cj (len_nm _ _) (cj (rng_lt h2) (cj (by omega) (cj (rng_get _ h2) (cj (by omega) (cj (map_get h4) (cj1 h5))))))))) (fun h5 =>
       LpO.go [.wait 3, .nm 13 (V.sc (.int .i64 (a.length : Int))), .bit true, .draw [], .el (E3 x1), .el (E3 x2), .bit false, .wait 3, .mask [0, 1, 5], .ren [], .nm 5 (V.sc (.int .i64 ((p1 ++ [x1]).length : Int)))] (p := [V.sc (.int .i64 ((List.map E3 a).length : Int)) = V.sc (.int .i64 (a.length : Int)),
        (decide ((p1.length : Int) < (a.length : Int))) = true,
        (0 : Int) ≤ (p1.length : Int),
        (List.map E3 a)[(p1.length : Int).toNat]? = some (E3 x1),
        (0 : Int) ≤ (p1.length : Int),
        (List.map E3 b)[(p1.length : Int).toNat]? = some (E3 x2),
        (x1 != x2) = false,
        V.sc (.int .i64 (i64 ((p1.length : Int) + 1))) = V.sc (.int .i64 ((p1 ++ [x1]).length : Int))]) (by kernel_rfl) (cj (len_nm _ _) (cj (rng_lt h2) (cj (by omega) (cj (rng_get _ h2) (cj (by omega) (cj (map_get h4) (cj h5 (cj1 (rng_next h2 h3))))))))) (laws_eqIntS_l0_ok a b h3 t1 (p1 ++ [x1]) (rng_step h2))))
def laws_eqIntS (a : List Int) (b : List Int) : Option (Bool) :=
 if ((a.length : Int) != (b.length : Int)) = true then
  some false
 else
  if (capOk a.length) = true then
   (laws_eqIntS_l0 a b a []).bind fun r1 =>
   Lo.elim r1 (fun s1 =>
    some true) (fun s2 =>
    some false)
  else none
theorem laws_eqIntS_ok (a : List Int) (b : List Int) : Pn (fun y => Fn Tryd.prog 100 [(false, E36 a), (false, E36 b)] (E4 y) []) (laws_eqIntS a b) := by
  unfold laws_eqIntS
  exact
   Pn.ite (fun h1 =>
    Pn.some (Fn.of [.wait 3, .nm 7 (V.sc (.int .i64 (a.length : Int))), .wait 2, .nm 9 (V.sc (.int .i64 (b.length : Int))), .bit true] (p := [V.sc (.int .i64 ((List.map E3 a).length : Int)) = V.sc (.int .i64 (a.length : Int)),
     V.sc (.int .i64 ((List.map E3 b).length : Int)) = V.sc (.int .i64 (b.length : Int)),
     ((a.length : Int) != (b.length : Int)) = true]) (by kernel_rfl) (cj (len_nm _ _) (cj (len_nm _ _) (cj1 h1))))) (fun h1 =>
    Pn.ite (fun h6 =>
     Pn.bind (fun r1 h7 =>
      Pn.lo (fun s1 h8 =>
       Pn.some (Fn.of [.wait 3, .nm 7 (V.sc (.int .i64 (a.length : Int))), .wait 2, .nm 9 (V.sc (.int .i64 (b.length : Int))), .bit false, .wait 1, .mask [0, 1, 5], .ren [], .loop (X.out 0) (st 26 [] [] [])] (p := [V.sc (.int .i64 ((List.map E3 a).length : Int)) = V.sc (.int .i64 (a.length : Int)),
        V.sc (.int .i64 ((List.map E3 b).length : Int)) = V.sc (.int .i64 (b.length : Int)),
        ((a.length : Int) != (b.length : Int)) = false,
        Loop Tryd.prog (sub (codeOf Tryd.prog 100) [1, 1, 0, 1, 0, 0]) (st 26 [(0, V.sl false 3 (List.map E3 a)), (1, V.sl false 3 (List.map E3 b)), (5, V.sc (.int .i64 0))] [] []) (X.out 0) (st 26 [] [] [])]) (by kernel_rfl) (cj (len_nm _ _) (cj (len_nm _ _) (cj h1 (cj1 ((laws_eqIntS_l0_ok a b h6 a [] rfl r1 h7).at h8))))))) (fun s2 h9 =>
       Pn.some (Fn.of [.wait 3, .nm 7 (V.sc (.int .i64 (a.length : Int))), .wait 2, .nm 9 (V.sc (.int .i64 (b.length : Int))), .bit false, .wait 1, .mask [0, 1, 5], .ren [], .loop (X.ret) (st 26 [(4, V.sc (.bool false))] [] [])] (p := [V.sc (.int .i64 ((List.map E3 a).length : Int)) = V.sc (.int .i64 (a.length : Int)),
        V.sc (.int .i64 ((List.map E3 b).length : Int)) = V.sc (.int .i64 (b.length : Int)),
        ((a.length : Int) != (b.length : Int)) = false,
        Loop Tryd.prog (sub (codeOf Tryd.prog 100) [1, 1, 0, 1, 0, 0]) (st 26 [(0, V.sl false 3 (List.map E3 a)), (1, V.sl false 3 (List.map E3 b)), (5, V.sc (.int .i64 0))] [] []) (X.ret) (st 26 [(4, V.sc (.bool false))] [] [])]) (by kernel_rfl) (cj (len_nm _ _) (cj (len_nm _ _) (cj h1 (cj1 ((laws_eqIntS_l0_ok a b h6 a [] rfl r1 h7).at h9))))))))) (fun h6 =>
     Pn.none))
def laws_eqRing (a : Ring) (b : Ring) : Option (Bool) :=
 if (a.Span != b.Span) = true then
  some false
 else
  if (a.Head != b.Head) = true then
   some false
  else
   (laws_eqIntS a.Counts b.Counts).bind fun r1 =>
   if r1 = true then
    (laws_eqIntS a.Sums b.Sums).bind fun r2 =>
    if r2 = true then
     some true
    else
     some false
   else
    some false
theorem laws_eqRing_ok (a : Ring) (b : Ring) : Pn (fun y => Fn Tryd.prog 47 [(false, E45 a), (false, E45 b)] (E4 y) []) (laws_eqRing a b) := by
  unfold laws_eqRing
  exact
   Pn.ite (fun h1 =>
    Pn.some (Fn.of [.bit true] (p := [(a.Span != b.Span) = true]) (by kernel_rfl) (cj1 h1))) (fun h1 =>
    Pn.ite (fun h2 =>
     Pn.some (Fn.of [.bit false, .bit true] (p := [(a.Span != b.Span) = false,
      (a.Head != b.Head) = true]) (by kernel_rfl) (cj h1 (cj1 h2)))) (fun h2 =>
     Pn.bind (fun r1 h3 =>
      Pn.ite (fun h4 =>
       Pn.bind (fun r2 h5 =>
        Pn.ite (fun h6 =>
         Pn.some (Fn.of [.bit false, .bit false, .call [] (E4 r1) [], .bit false, .call [] (E4 r2) [], .bit false] (p := [(a.Span != b.Span) = false,
          (a.Head != b.Head) = false,
          Fn Tryd.prog 100 [(false, E36 a.Counts), (false, E36 b.Counts)] (E4 r1) [],
          (true || ((E4 r1).nv && nvL [])) = true,
          (!r1) = false,
          Fn Tryd.prog 100 [(false, E36 a.Sums), (false, E36 b.Sums)] (E4 r2) [],
          (true || ((E4 r2).nv && nvL [])) = true,
          (!r2) = false]) (by kernel_rfl) (cj h1 (cj h2 (cj (laws_eqIntS_ok a.Counts b.Counts r1 h3) (cj rfl (cj (nf h4) (cj (laws_eqIntS_ok a.Sums b.Sums r2 h5) (cj rfl (cj1 (nf h6))))))))))) (fun h6 =>
         Pn.some (Fn.of [.bit false, .bit false, .call [] (E4 r1) [], .bit false, .call [] (E4 r2) [], .bit true] (p := [(a.Span != b.Span) = false,
          (a.Head != b.Head) = false,
          Fn Tryd.prog 100 [(false, E36 a.Counts), (false, E36 b.Counts)] (E4 r1) [],
          (true || ((E4 r1).nv && nvL [])) = true,
          (!r1) = false,
          Fn Tryd.prog 100 [(false, E36 a.Sums), (false, E36 b.Sums)] (E4 r2) [],
          (true || ((E4 r2).nv && nvL [])) = true,
          (!r2) = true]) (by kernel_rfl) (cj h1 (cj h2 (cj (laws_eqIntS_ok a.Counts b.Counts r1 h3) (cj rfl (cj (nf h4) (cj (laws_eqIntS_ok a.Sums b.Sums r2 h5) (cj rfl (cj1 (nt h6))))))))))))) (fun h4 =>
       Pn.some (Fn.of [.bit false, .bit false, .call [] (E4 r1) [], .bit true] (p := [(a.Span != b.Span) = false,
        (a.Head != b.Head) = false,
        Fn Tryd.prog 100 [(false, E36 a.Counts), (false, E36 b.Counts)] (E4 r1) [],
        (true || ((E4 r1).nv && nvL [])) = true,
        (!r1) = true]) (by kernel_rfl) (cj h1 (cj h2 (cj (laws_eqIntS_ok a.Counts b.Counts r1 h3) (cj rfl (cj1 (nt h4)))))))))))
def laws_eqByteS_l0 (a : List Int) (b : List Int) : List Int → List Int → Option (Lo Unit Unit)
  | [], p1 =>
   some (.out ())
  | x1 :: t1, p1 =>
   (b[(p1.length : Int).toNat]?).bind fun x2 =>
   if (x1 != x2) = true then
    some (.ret ())
   else
    laws_eqByteS_l0 a b t1 (p1 ++ [x1])
theorem laws_eqByteS_l0_ok (a : List Int) (b : List Int) (h3 : capOk a.length = true) : ∀ (t1 p1 : List Int) (_ : a = p1 ++ t1) , Pn (LpO Tryd.prog (sub (codeOf Tryd.prog 57) [1, 1, 0, 1, 0, 0]) (st 26 [(0, V.sl false 5 (List.map E5 a)), (1, V.sl false 5 (List.map E5 b)), (5, V.sc (.int .i64 (p1.length : Int)))] [] []) (fun (y : Lo Unit Unit) => Lo.elim y (fun s => (X.out 0, st 26 [] [] [])) (fun s => (X.ret, st 26 [(4, V.sc (.bool false))] [] [])))) (laws_eqByteS_l0 a b t1 p1)
  | [], p1, h2 => by
    unfold laws_eqByteS_l0
    exact
     Pn.some (LpO.out [.wait 3, .nm 13 (V.sc (.int .i64 (a.length : Int))), .bit false, .mask [], .ren []] (p := [V.sc (.int .i64 ((List.map E5 a).length : Int)) = V.sc (.int .i64 (a.length : Int)),
      (decide ((p1.length : Int) < (a.length : Int))) = false]) (by kernel_rfl) (show X.out 0 ≠ X.go from nofun) (cj (len_nm _ _) (cj1 (rng_end h2))))
  | x1 :: t1, p1, h2 => by
    unfold laws_eqByteS_l0
    exact
     Pn.bind (fun x2 h4 =>
      Pn.ite (fun h5 =>
       Pn.some (LpO.out [.wait 3, .nm 13 (V.sc (.int .i64 (a.length : Int))), .bit true, .draw [], .el (E5 x1), .el (E5 x2), .bit true, .wait 1, .mask [4], .ren []] (p := [V.sc (.int .i64 ((List.map E5 a).length : Int)) = V.sc (.int .i64 (a.length : Int)),
        (decide ((p1.length : Int) < (a.length : Int))) = true,
        (0 : Int) ≤ (p1.length : Int),
        (List.map E5 a)[(p1.length : Int).toNat]? = some (E5 x1),
        (0 : Int) ≤ (p1.length : Int),
        (List.map E5 b)[(p1.length : Int).toNat]? = some (E5 x2),
        (x1 != x2) = true]) (by kernel_rfl) (show X.ret ≠ X.go from nofun) (cj (len_nm _ _) (cj (rng_lt h2) (cj (by omega) (cj (rng_get _ h2) (cj (by omega) (cj (map_get h4) (cj1 h5))))))))) (fun h5 =>
       LpO.go [.wait 3, .nm 13 (V.sc (.int .i64 (a.length : Int))), .bit true, .draw [], .el (E5 x1), .el (E5 x2), .bit false, .wait 3, .mask [0, 1, 5], .ren [], .nm 5 (V.sc (.int .i64 ((p1 ++ [x1]).length : Int)))] (p := [V.sc (.int .i64 ((List.map E5 a).length : Int)) = V.sc (.int .i64 (a.length : Int)),
        (decide ((p1.length : Int) < (a.length : Int))) = true,
        (0 : Int) ≤ (p1.length : Int),
        (List.map E5 a)[(p1.length : Int).toNat]? = some (E5 x1),
        (0 : Int) ≤ (p1.length : Int),
        (List.map E5 b)[(p1.length : Int).toNat]? = some (E5 x2),
        (x1 != x2) = false,
        V.sc (.int .i64 (i64 ((p1.length : Int) + 1))) = V.sc (.int .i64 ((p1 ++ [x1]).length : Int))]) (by kernel_rfl) (cj (len_nm _ _) (cj (rng_lt h2) (cj (by omega) (cj (rng_get _ h2) (cj (by omega) (cj (map_get h4) (cj h5 (cj1 (rng_next h2 h3))))))))) (laws_eqByteS_l0_ok a b h3 t1 (p1 ++ [x1]) (rng_step h2))))
def laws_eqByteS (a : List Int) (b : List Int) : Option (Bool) :=
 if ((a.length : Int) != (b.length : Int)) = true then
  some false
 else
  if (capOk a.length) = true then
   (laws_eqByteS_l0 a b a []).bind fun r1 =>
   Lo.elim r1 (fun s1 =>
    some true) (fun s2 =>
    some false)
  else none
theorem laws_eqByteS_ok (a : List Int) (b : List Int) : Pn (fun y => Fn Tryd.prog 57 [(false, E52 a), (false, E52 b)] (E4 y) []) (laws_eqByteS a b) := by
  unfold laws_eqByteS
  exact
   Pn.ite (fun h1 =>
    Pn.some (Fn.of [.wait 3, .nm 7 (V.sc (.int .i64 (a.length : Int))), .wait 2, .nm 9 (V.sc (.int .i64 (b.length : Int))), .bit true] (p := [V.sc (.int .i64 ((List.map E5 a).length : Int)) = V.sc (.int .i64 (a.length : Int)),
     V.sc (.int .i64 ((List.map E5 b).length : Int)) = V.sc (.int .i64 (b.length : Int)),
     ((a.length : Int) != (b.length : Int)) = true]) (by kernel_rfl) (cj (len_nm _ _) (cj (len_nm _ _) (cj1 h1))))) (fun h1 =>
    Pn.ite (fun h6 =>
     Pn.bind (fun r1 h7 =>
      Pn.lo (fun s1 h8 =>
       Pn.some (Fn.of [.wait 3, .nm 7 (V.sc (.int .i64 (a.length : Int))), .wait 2, .nm 9 (V.sc (.int .i64 (b.length : Int))), .bit false, .wait 1, .mask [0, 1, 5], .ren [], .loop (X.out 0) (st 26 [] [] [])] (p := [V.sc (.int .i64 ((List.map E5 a).length : Int)) = V.sc (.int .i64 (a.length : Int)),
        V.sc (.int .i64 ((List.map E5 b).length : Int)) = V.sc (.int .i64 (b.length : Int)),
        ((a.length : Int) != (b.length : Int)) = false,
        Loop Tryd.prog (sub (codeOf Tryd.prog 57) [1, 1, 0, 1, 0, 0]) (st 26 [(0, V.sl false 5 (List.map E5 a)), (1, V.sl false 5 (List.map E5 b)), (5, V.sc (.int .i64 0))] [] []) (X.out 0) (st 26 [] [] [])]) (by kernel_rfl) (cj (len_nm _ _) (cj (len_nm _ _) (cj h1 (cj1 ((laws_eqByteS_l0_ok a b h6 a [] rfl r1 h7).at h8))))))) (fun s2 h9 =>
       Pn.some (Fn.of [.wait 3, .nm 7 (V.sc (.int .i64 (a.length : Int))), .wait 2, .nm 9 (V.sc (.int .i64 (b.length : Int))), .bit false, .wait 1, .mask [0, 1, 5], .ren [], .loop (X.ret) (st 26 [(4, V.sc (.bool false))] [] [])] (p := [V.sc (.int .i64 ((List.map E5 a).length : Int)) = V.sc (.int .i64 (a.length : Int)),
        V.sc (.int .i64 ((List.map E5 b).length : Int)) = V.sc (.int .i64 (b.length : Int)),
        ((a.length : Int) != (b.length : Int)) = false,
        Loop Tryd.prog (sub (codeOf Tryd.prog 57) [1, 1, 0, 1, 0, 0]) (st 26 [(0, V.sl false 5 (List.map E5 a)), (1, V.sl false 5 (List.map E5 b)), (5, V.sc (.int .i64 0))] [] []) (X.ret) (st 26 [(4, V.sc (.bool false))] [] [])]) (by kernel_rfl) (cj (len_nm _ _) (cj (len_nm _ _) (cj h1 (cj1 ((laws_eqByteS_l0_ok a b h6 a [] rfl r1 h7).at h9))))))))) (fun h6 =>
     Pn.none))
def laws_eqSlot (a : Slot) (b : Slot) : Option (Bool) :=
 if (a.Trace == b.Trace) = true then
  if (a.Mti == b.Mti) = true then
   (laws_eqByteS a.Reply b.Reply).bind fun r1 =>
   if r1 = true then
    some true
   else
    some false
  else
   some false
 else
  some false
theorem laws_eqSlot_ok (a : Slot) (b : Slot) : Pn (fun y => Fn Tryd.prog 101 [(false, E135 a), (false, E135 b)] (E4 y) []) (laws_eqSlot a b) := by
  unfold laws_eqSlot
  exact
   Pn.ite (fun h1 =>
    Pn.ite (fun h2 =>
     Pn.bind (fun r1 h3 =>
      Pn.ite (fun h4 =>
       Pn.some (Fn.of [.bit false, .bit false, .call [] (E4 r1) [], .bit false] (p := [(!(a.Trace == b.Trace)) = false,
        (!(a.Mti == b.Mti)) = false,
        Fn Tryd.prog 57 [(false, E52 a.Reply), (false, E52 b.Reply)] (E4 r1) [],
        (true || ((E4 r1).nv && nvL [])) = true,
        (!r1) = false]) (by kernel_rfl) (cj (nf h1) (cj (nf h2) (cj (laws_eqByteS_ok a.Reply b.Reply r1 h3) (cj rfl (cj1 (nf h4)))))))) (fun h4 =>
       Pn.some (Fn.of [.bit false, .bit false, .call [] (E4 r1) [], .bit true] (p := [(!(a.Trace == b.Trace)) = false,
        (!(a.Mti == b.Mti)) = false,
        Fn Tryd.prog 57 [(false, E52 a.Reply), (false, E52 b.Reply)] (E4 r1) [],
        (true || ((E4 r1).nv && nvL [])) = true,
        (!r1) = true]) (by kernel_rfl) (cj (nf h1) (cj (nf h2) (cj (laws_eqByteS_ok a.Reply b.Reply r1 h3) (cj rfl (cj1 (nt h4)))))))))) (fun h2 =>
     Pn.some (Fn.of [.bit false, .bit true] (p := [(!(a.Trace == b.Trace)) = false,
      (!(a.Mti == b.Mti)) = true]) (by kernel_rfl) (cj (nf h1) (cj1 (nt h2)))))) (fun h1 =>
    Pn.some (Fn.of [.bit true] (p := [(!(a.Trace == b.Trace)) = true]) (by kernel_rfl) (cj1 (nt h1))))
def laws_eqSlotS_l0 (a : List Slot) (b : List Slot) : List Slot → List Slot → Option (Lo Unit Unit)
  | [], p1 =>
   some (.out ())
  | x1 :: t1, p1 =>
   (b[(p1.length : Int).toNat]?).bind fun x2 =>
   (laws_eqSlot x1 x2).bind fun r1 =>
   if r1 = true then
    laws_eqSlotS_l0 a b t1 (p1 ++ [x1])
   else
    some (.ret ())
theorem laws_eqSlotS_l0_ok (a : List Slot) (b : List Slot) (h3 : capOk a.length = true) : ∀ (t1 p1 : List Slot) (_ : a = p1 ++ t1) , Pn (LpO Tryd.prog (sub (codeOf Tryd.prog 48) [1, 1, 0, 1, 0, 0]) (st 27 [(0, V.sl false 135 (List.map E135 a)), (1, V.sl false 135 (List.map E135 b)), (5, V.sc (.int .i64 (p1.length : Int)))] [] []) (fun (y : Lo Unit Unit) => Lo.elim y (fun s => (X.out 0, st 27 [] [] [])) (fun s => (X.ret, st 27 [(4, V.sc (.bool false))] [] [])))) (laws_eqSlotS_l0 a b t1 p1)
  | [], p1, h2 => by
    unfold laws_eqSlotS_l0
    exact
     Pn.some (LpO.out [.wait 3, .nm 13 (V.sc (.int .i64 (a.length : Int))), .bit false, .mask [], .ren []] (p := [V.sc (.int .i64 ((List.map E135 a).length : Int)) = V.sc (.int .i64 (a.length : Int)),
      (decide ((p1.length : Int) < (a.length : Int))) = false]) (by kernel_rfl) (show X.out 0 ≠ X.go from nofun) (cj (len_nm _ _) (cj1 (rng_end h2))))
  | x1 :: t1, p1, h2 => by
    unfold laws_eqSlotS_l0
    exact
     Pn.bind (fun x2 h4 =>
      Pn.bind (fun r1 h5 =>
       Pn.ite (fun h6 =>
        LpO.go [.wait 3, .nm 13 (V.sc (.int .i64 (a.length : Int))), .bit true, .draw [], .el (E135 x1), .el (E135 x2), .call [] (E4 r1) [], .bit false, .wait 3, .mask [0, 1, 5], .ren [], .nm 5 (V.sc (.int .i64 ((p1 ++ [x1]).length : Int)))] (p := [V.sc (.int .i64 ((List.map E135 a).length : Int)) = V.sc (.int .i64 (a.length : Int)),
         (decide ((p1.length : Int) < (a.length : Int))) = true,
         (0 : Int) ≤ (p1.length : Int),
         (List.map E135 a)[(p1.length : Int).toNat]? = some (E135 x1),
         (0 : Int) ≤ (p1.length : Int),
         (List.map E135 b)[(p1.length : Int).toNat]? = some (E135 x2),
         Fn Tryd.prog 101 [(false, E135 x1), (false, E135 x2)] (E4 r1) [],
         (true || ((E4 r1).nv && nvL [])) = true,
         (!r1) = false,
         V.sc (.int .i64 (i64 ((p1.length : Int) + 1))) = V.sc (.int .i64 ((p1 ++ [x1]).length : Int))]) (by kernel_rfl) (cj (len_nm _ _) (cj (rng_lt h2) (cj (by omega) (cj (rng_get _ h2) (cj (by omega) (cj (map_get h4) (cj (laws_eqSlot_ok x1 x2 r1 h5) (cj rfl (cj (nf h6) (cj1 (rng_next h2 h3))))))))))) (laws_eqSlotS_l0_ok a b h3 t1 (p1 ++ [x1]) (rng_step h2))) (fun h6 =>
        Pn.some (LpO.out [.wait 3, .nm 13 (V.sc (.int .i64 (a.length : Int))), .bit true, .draw [], .el (E135 x1), .el (E135 x2), .call [] (E4 r1) [], .bit true, .wait 1, .mask [4], .ren []] (p := [V.sc (.int .i64 ((List.map E135 a).length : Int)) = V.sc (.int .i64 (a.length : Int)),
         (decide ((p1.length : Int) < (a.length : Int))) = true,
         (0 : Int) ≤ (p1.length : Int),
         (List.map E135 a)[(p1.length : Int).toNat]? = some (E135 x1),
         (0 : Int) ≤ (p1.length : Int),
         (List.map E135 b)[(p1.length : Int).toNat]? = some (E135 x2),
         Fn Tryd.prog 101 [(false, E135 x1), (false, E135 x2)] (E4 r1) [],
         (true || ((E4 r1).nv && nvL [])) = true,
         (!r1) = true]) (by kernel_rfl) (show X.ret ≠ X.go from nofun) (cj (len_nm _ _) (cj (rng_lt h2) (cj (by omega) (cj (rng_get _ h2) (cj (by omega) (cj (map_get h4) (cj (laws_eqSlot_ok x1 x2 r1 h5) (cj rfl (cj1 (nt h6))))))))))))))
def laws_eqSlotS (a : List Slot) (b : List Slot) : Option (Bool) :=
 if ((a.length : Int) != (b.length : Int)) = true then
  some false
 else
  if (capOk a.length) = true then
   (laws_eqSlotS_l0 a b a []).bind fun r2 =>
   Lo.elim r2 (fun s1 =>
    some true) (fun s2 =>
    some false)
  else none
theorem laws_eqSlotS_ok (a : List Slot) (b : List Slot) : Pn (fun y => Fn Tryd.prog 48 [(false, E46 a), (false, E46 b)] (E4 y) []) (laws_eqSlotS a b) := by
  unfold laws_eqSlotS
  exact
   Pn.ite (fun h1 =>
    Pn.some (Fn.of [.wait 3, .nm 7 (V.sc (.int .i64 (a.length : Int))), .wait 2, .nm 9 (V.sc (.int .i64 (b.length : Int))), .bit true] (p := [V.sc (.int .i64 ((List.map E135 a).length : Int)) = V.sc (.int .i64 (a.length : Int)),
     V.sc (.int .i64 ((List.map E135 b).length : Int)) = V.sc (.int .i64 (b.length : Int)),
     ((a.length : Int) != (b.length : Int)) = true]) (by kernel_rfl) (cj (len_nm _ _) (cj (len_nm _ _) (cj1 h1))))) (fun h1 =>
    Pn.ite (fun h7 =>
     Pn.bind (fun r2 h8 =>
      Pn.lo (fun s1 h9 =>
       Pn.some (Fn.of [.wait 3, .nm 7 (V.sc (.int .i64 (a.length : Int))), .wait 2, .nm 9 (V.sc (.int .i64 (b.length : Int))), .bit false, .wait 1, .mask [0, 1, 5], .ren [], .loop (X.out 0) (st 27 [] [] [])] (p := [V.sc (.int .i64 ((List.map E135 a).length : Int)) = V.sc (.int .i64 (a.length : Int)),
        V.sc (.int .i64 ((List.map E135 b).length : Int)) = V.sc (.int .i64 (b.length : Int)),
        ((a.length : Int) != (b.length : Int)) = false,
        Loop Tryd.prog (sub (codeOf Tryd.prog 48) [1, 1, 0, 1, 0, 0]) (st 27 [(0, V.sl false 135 (List.map E135 a)), (1, V.sl false 135 (List.map E135 b)), (5, V.sc (.int .i64 0))] [] []) (X.out 0) (st 27 [] [] [])]) (by kernel_rfl) (cj (len_nm _ _) (cj (len_nm _ _) (cj h1 (cj1 ((laws_eqSlotS_l0_ok a b h7 a [] rfl r2 h8).at h9))))))) (fun s2 h10 =>
       Pn.some (Fn.of [.wait 3, .nm 7 (V.sc (.int .i64 (a.length : Int))), .wait 2, .nm 9 (V.sc (.int .i64 (b.length : Int))), .bit false, .wait 1, .mask [0, 1, 5], .ren [], .loop (X.ret) (st 27 [(4, V.sc (.bool false))] [] [])] (p := [V.sc (.int .i64 ((List.map E135 a).length : Int)) = V.sc (.int .i64 (a.length : Int)),
        V.sc (.int .i64 ((List.map E135 b).length : Int)) = V.sc (.int .i64 (b.length : Int)),
        ((a.length : Int) != (b.length : Int)) = false,
        Loop Tryd.prog (sub (codeOf Tryd.prog 48) [1, 1, 0, 1, 0, 0]) (st 27 [(0, V.sl false 135 (List.map E135 a)), (1, V.sl false 135 (List.map E135 b)), (5, V.sc (.int .i64 0))] [] []) (X.ret) (st 27 [(4, V.sc (.bool false))] [] [])]) (by kernel_rfl) (cj (len_nm _ _) (cj (len_nm _ _) (cj h1 (cj1 ((laws_eqSlotS_l0_ok a b h7 a [] rfl r2 h8).at h10))))))))) (fun h7 =>
     Pn.none))
def laws_eqAcct (a : Acct) (b : Acct) : Option (Bool) :=
 if (a.Id == b.Id) = true then
  if (a.Limit != b.Limit) = true then
   some false
  else
   if (a.Posted != b.Posted) = true then
    some false
   else
    if (a.Most != b.Most) = true then
     some false
    else
     if (a.MostSum != b.MostSum) = true then
      some false
     else
      (laws_eqHoldS a.Holds b.Holds).bind fun r1 =>
      if r1 = true then
       (laws_eqRing a.Ring b.Ring).bind fun r2 =>
       if r2 = true then
        (laws_eqSlotS a.Slots b.Slots).bind fun r3 =>
        if r3 = true then
         some true
        else
         some false
       else
        some false
      else
       some false
 else
  some false
theorem laws_eqAcct_ok (a : Acct) (b : Acct) : Pn (fun y => Fn Tryd.prog 15 [(false, E48 a), (false, E48 b)] (E4 y) []) (laws_eqAcct a b) := by
  unfold laws_eqAcct
  exact
   Pn.ite (fun h1 =>
    Pn.ite (fun h2 =>
     Pn.some (Fn.of [.bit false, .bit true] (p := [(!(a.Id == b.Id)) = false,
      (a.Limit != b.Limit) = true]) (by kernel_rfl) (cj (nf h1) (cj1 h2)))) (fun h2 =>
     Pn.ite (fun h3 =>
      Pn.some (Fn.of [.bit false, .bit false, .bit true] (p := [(!(a.Id == b.Id)) = false,
       (a.Limit != b.Limit) = false,
       (a.Posted != b.Posted) = true]) (by kernel_rfl) (cj (nf h1) (cj h2 (cj1 h3))))) (fun h3 =>
      Pn.ite (fun h4 =>
       Pn.some (Fn.of [.bit false, .bit false, .bit false, .bit true] (p := [(!(a.Id == b.Id)) = false,
        (a.Limit != b.Limit) = false,
        (a.Posted != b.Posted) = false,
        (a.Most != b.Most) = true]) (by kernel_rfl) (cj (nf h1) (cj h2 (cj h3 (cj1 h4)))))) (fun h4 =>
       Pn.ite (fun h5 =>
        Pn.some (Fn.of [.bit false, .bit false, .bit false, .bit false, .bit true] (p := [(!(a.Id == b.Id)) = false,
         (a.Limit != b.Limit) = false,
         (a.Posted != b.Posted) = false,
         (a.Most != b.Most) = false,
         (a.MostSum != b.MostSum) = true]) (by kernel_rfl) (cj (nf h1) (cj h2 (cj h3 (cj h4 (cj1 h5))))))) (fun h5 =>
        Pn.bind (fun r1 h6 =>
         Pn.ite (fun h7 =>
          Pn.bind (fun r2 h8 =>
           Pn.ite (fun h9 =>
            Pn.bind (fun r3 h10 =>
             Pn.ite (fun h11 =>
              Pn.some (Fn.of [.bit false, .bit false, .bit false, .bit false, .bit false, .call [] (E4 r1) [], .bit false, .call [] (E4 r2) [], .bit false, .call [] (E4 r3) [], .bit false] (p := [(!(a.Id == b.Id)) = false,
               (a.Limit != b.Limit) = false,
               (a.Posted != b.Posted) = false,
               (a.Most != b.Most) = false,
               (a.MostSum != b.MostSum) = false,
               Fn Tryd.prog 46 [(false, E44 a.Holds), (false, E44 b.Holds)] (E4 r1) [],
               (true || ((E4 r1).nv && nvL [])) = true,
               (!r1) = false,
               Fn Tryd.prog 47 [(false, E45 a.Ring), (false, E45 b.Ring)] (E4 r2) [],
               (true || ((E4 r2).nv && nvL [])) = true,
               (!r2) = false,
               Fn Tryd.prog 48 [(false, E46 a.Slots), (false, E46 b.Slots)] (E4 r3) [],
               (true || ((E4 r3).nv && nvL [])) = true,
               (!r3) = false]) (by kernel_rfl) (cj (nf h1) (cj h2 (cj h3 (cj h4 (cj h5 (cj (laws_eqHoldS_ok a.Holds b.Holds r1 h6) (cj rfl (cj (nf h7) (cj (laws_eqRing_ok a.Ring b.Ring r2 h8) (cj rfl (cj (nf h9) (cj (laws_eqSlotS_ok a.Slots b.Slots r3 h10) (cj rfl (cj1 (nf h11))))))))))))))))) (fun h11 =>
              Pn.some (Fn.of [.bit false, .bit false, .bit false, .bit false, .bit false, .call [] (E4 r1) [], .bit false, .call [] (E4 r2) [], .bit false, .call [] (E4 r3) [], .bit true] (p := [(!(a.Id == b.Id)) = false,
               (a.Limit != b.Limit) = false,
               (a.Posted != b.Posted) = false,
               (a.Most != b.Most) = false,
               (a.MostSum != b.MostSum) = false,
               Fn Tryd.prog 46 [(false, E44 a.Holds), (false, E44 b.Holds)] (E4 r1) [],
               (true || ((E4 r1).nv && nvL [])) = true,
               (!r1) = false,
               Fn Tryd.prog 47 [(false, E45 a.Ring), (false, E45 b.Ring)] (E4 r2) [],
               (true || ((E4 r2).nv && nvL [])) = true,
               (!r2) = false,
               Fn Tryd.prog 48 [(false, E46 a.Slots), (false, E46 b.Slots)] (E4 r3) [],
               (true || ((E4 r3).nv && nvL [])) = true,
               (!r3) = true]) (by kernel_rfl) (cj (nf h1) (cj h2 (cj h3 (cj h4 (cj h5 (cj (laws_eqHoldS_ok a.Holds b.Holds r1 h6) (cj rfl (cj (nf h7) (cj (laws_eqRing_ok a.Ring b.Ring r2 h8) (cj rfl (cj (nf h9) (cj (laws_eqSlotS_ok a.Slots b.Slots r3 h10) (cj rfl (cj1 (nt h11))))))))))))))))))) (fun h9 =>
            Pn.some (Fn.of [.bit false, .bit false, .bit false, .bit false, .bit false, .call [] (E4 r1) [], .bit false, .call [] (E4 r2) [], .bit true] (p := [(!(a.Id == b.Id)) = false,
             (a.Limit != b.Limit) = false,
             (a.Posted != b.Posted) = false,
             (a.Most != b.Most) = false,
             (a.MostSum != b.MostSum) = false,
             Fn Tryd.prog 46 [(false, E44 a.Holds), (false, E44 b.Holds)] (E4 r1) [],
             (true || ((E4 r1).nv && nvL [])) = true,
             (!r1) = false,
             Fn Tryd.prog 47 [(false, E45 a.Ring), (false, E45 b.Ring)] (E4 r2) [],
             (true || ((E4 r2).nv && nvL [])) = true,
             (!r2) = true]) (by kernel_rfl) (cj (nf h1) (cj h2 (cj h3 (cj h4 (cj h5 (cj (laws_eqHoldS_ok a.Holds b.Holds r1 h6) (cj rfl (cj (nf h7) (cj (laws_eqRing_ok a.Ring b.Ring r2 h8) (cj rfl (cj1 (nt h9)))))))))))))))) (fun h7 =>
          Pn.some (Fn.of [.bit false, .bit false, .bit false, .bit false, .bit false, .call [] (E4 r1) [], .bit true] (p := [(!(a.Id == b.Id)) = false,
           (a.Limit != b.Limit) = false,
           (a.Posted != b.Posted) = false,
           (a.Most != b.Most) = false,
           (a.MostSum != b.MostSum) = false,
           Fn Tryd.prog 46 [(false, E44 a.Holds), (false, E44 b.Holds)] (E4 r1) [],
           (true || ((E4 r1).nv && nvL [])) = true,
           (!r1) = true]) (by kernel_rfl) (cj (nf h1) (cj h2 (cj h3 (cj h4 (cj h5 (cj (laws_eqHoldS_ok a.Holds b.Holds r1 h6) (cj rfl (cj1 (nt h7))))))))))))))))) (fun h1 =>
    Pn.some (Fn.of [.bit true] (p := [(!(a.Id == b.Id)) = true]) (by kernel_rfl) (cj1 (nt h1))))
def laws_FnExactAcctShow (aA : Acct) (aNow : Int) : Option (Bool) :=
 (laws_szAcct aA 1048576).bind fun r1 =>
 if (decide (r1 < 0)) = true then
  some true
 else
  (laws_toAcct aA).bind fun r2 =>
  (spec_AcctShow r2 aNow).bind fun r3 =>
  (laws_toAcct aA).bind fun r4 =>
  (impl_AcctShow r4 aNow).bind fun r5 =>
  if (r5 == r3) = true then
   (laws_toAcct aA).bind fun r6 =>
   (laws_eqAcct r4 r6).bind fun r7 =>
   if r7 = true then
    some true
   else
    some false
  else
   some false
theorem laws_FnExactAcctShow_ok (aA : Acct) (aNow : Int) : Pn (fun y => Fn Tryd.prog 4 [(false, E41 aA), (false, E3 aNow)] (E4 y) []) (laws_FnExactAcctShow aA aNow) := by
  unfold laws_FnExactAcctShow
  exact
   Pn.bind (fun r1 h1 =>
    Pn.ite (fun h2 =>
     Pn.some (Fn.of [.call [] (E3 r1) [], .bit true] (p := [Fn Tryd.prog 11 [(false, E41 aA), (false, E3 1048576)] (E3 r1) [],
      (true || ((E3 r1).nv && nvL [])) = true,
      (decide (r1 < 0)) = true]) (by kernel_rfl) (cj (laws_szAcct_ok aA 1048576 r1 h1) (cj rfl (cj1 h2))))) (fun h2 =>
     Pn.bind (fun r2 h3 =>
      Pn.bind (fun r3 h4 =>
       Pn.bind (fun r4 h5 =>
        Pn.bind (fun r5 h6 =>
         Pn.ite (fun h7 =>
          Pn.bind (fun r6 h8 =>
           Pn.bind (fun r7 h9 =>
            Pn.ite (fun h10 =>
             Pn.some (Fn.of [.call [] (E3 r1) [], .bit false, .call [] (E48 r2) [], .call [] (E9 r3) [], .call [] (E48 r4) [], .call [] (E9 r5) [], .bit false, .draw [], .call [] (E48 r6) [], .call [] (E4 r7) [], .bit false] (p := [Fn Tryd.prog 11 [(false, E41 aA), (false, E3 1048576)] (E3 r1) [],
              (true || ((E3 r1).nv && nvL [])) = true,
              (decide (r1 < 0)) = false,
              Fn Tryd.prog 13 [(false, E41 aA)] (E48 r2) [],
              (true || ((E48 r2).nv && nvL [])) = true,
              Fn Tryd.prog 12 [(false, E48 r2), (false, E3 aNow)] (E9 r3) [],
              (false || ((E9 r3).nv && nvL [])) = true,
              Fn Tryd.prog 13 [(false, E41 aA)] (E48 r4) [],
              (true || ((E48 r4).nv && nvL [])) = true,
              Fn Tryd.prog 14 [(false, E48 r4), (false, E3 aNow)] (E9 r5) [],
              (false || ((E9 r5).nv && nvL [])) = true,
              (!(r5 == r3)) = false,
              Fn Tryd.prog 13 [(false, E41 aA)] (E48 r6) [],
              (true || ((E48 r6).nv && nvL [])) = true,
              Fn Tryd.prog 15 [(false, E48 r4), (false, E48 r6)] (E4 r7) [],
              (false || ((E4 r7).nv && nvL [])) = true,
              (!r7) = false]) (by kernel_rfl) (cj (laws_szAcct_ok aA 1048576 r1 h1) (cj rfl (cj h2 (cj (laws_toAcct_ok aA r2 h3) (cj rfl (cj (spec_AcctShow_ok r2 aNow r3 h4) (cj (by simp [V.nv, nvL, nvL_all, nv_E9]) (cj (laws_toAcct_ok aA r4 h5) (cj rfl (cj (impl_AcctShow_ok r4 aNow r5 h6) (cj (by simp [V.nv, nvL, nvL_all, nv_E9]) (cj (nf h7) (cj (laws_toAcct_ok aA r6 h8) (cj rfl (cj (laws_eqAcct_ok r4 r6 r7 h9) (cj (by simp [V.nv, nvL, nvL_all, nv_E4]) (cj1 (nf h10)))))))))))))))))))) (fun h10 =>
             Pn.some (Fn.of [.call [] (E3 r1) [], .bit false, .call [] (E48 r2) [], .call [] (E9 r3) [], .call [] (E48 r4) [], .call [] (E9 r5) [], .bit false, .draw [], .call [] (E48 r6) [], .call [] (E4 r7) [], .bit true] (p := [Fn Tryd.prog 11 [(false, E41 aA), (false, E3 1048576)] (E3 r1) [],
              (true || ((E3 r1).nv && nvL [])) = true,
              (decide (r1 < 0)) = false,
              Fn Tryd.prog 13 [(false, E41 aA)] (E48 r2) [],
              (true || ((E48 r2).nv && nvL [])) = true,
              Fn Tryd.prog 12 [(false, E48 r2), (false, E3 aNow)] (E9 r3) [],
              (false || ((E9 r3).nv && nvL [])) = true,
              Fn Tryd.prog 13 [(false, E41 aA)] (E48 r4) [],
              (true || ((E48 r4).nv && nvL [])) = true,
              Fn Tryd.prog 14 [(false, E48 r4), (false, E3 aNow)] (E9 r5) [],
              (false || ((E9 r5).nv && nvL [])) = true,
              (!(r5 == r3)) = false,
              Fn Tryd.prog 13 [(false, E41 aA)] (E48 r6) [],
              (true || ((E48 r6).nv && nvL [])) = true,
              Fn Tryd.prog 15 [(false, E48 r4), (false, E48 r6)] (E4 r7) [],
              (false || ((E4 r7).nv && nvL [])) = true,
              (!r7) = true]) (by kernel_rfl) (cj (laws_szAcct_ok aA 1048576 r1 h1) (cj rfl (cj h2 (cj (laws_toAcct_ok aA r2 h3) (cj rfl (cj (spec_AcctShow_ok r2 aNow r3 h4) (cj (by simp [V.nv, nvL, nvL_all, nv_E9]) (cj (laws_toAcct_ok aA r4 h5) (cj rfl (cj (impl_AcctShow_ok r4 aNow r5 h6) (cj (by simp [V.nv, nvL, nvL_all, nv_E9]) (cj (nf h7) (cj (laws_toAcct_ok aA r6 h8) (cj rfl (cj (laws_eqAcct_ok r4 r6 r7 h9) (cj (by simp [V.nv, nvL, nvL_all, nv_E4]) (cj1 (nt h10))))))))))))))))))))))) (fun h7 =>
          Pn.some (Fn.of [.call [] (E3 r1) [], .bit false, .call [] (E48 r2) [], .call [] (E9 r3) [], .call [] (E48 r4) [], .call [] (E9 r5) [], .bit true] (p := [Fn Tryd.prog 11 [(false, E41 aA), (false, E3 1048576)] (E3 r1) [],
           (true || ((E3 r1).nv && nvL [])) = true,
           (decide (r1 < 0)) = false,
           Fn Tryd.prog 13 [(false, E41 aA)] (E48 r2) [],
           (true || ((E48 r2).nv && nvL [])) = true,
           Fn Tryd.prog 12 [(false, E48 r2), (false, E3 aNow)] (E9 r3) [],
           (false || ((E9 r3).nv && nvL [])) = true,
           Fn Tryd.prog 13 [(false, E41 aA)] (E48 r4) [],
           (true || ((E48 r4).nv && nvL [])) = true,
           Fn Tryd.prog 14 [(false, E48 r4), (false, E3 aNow)] (E9 r5) [],
           (false || ((E9 r5).nv && nvL [])) = true,
           (!(r5 == r3)) = true]) (by kernel_rfl) (cj (laws_szAcct_ok aA 1048576 r1 h1) (cj rfl (cj h2 (cj (laws_toAcct_ok aA r2 h3) (cj rfl (cj (spec_AcctShow_ok r2 aNow r3 h4) (cj (by simp [V.nv, nvL, nvL_all, nv_E9]) (cj (laws_toAcct_ok aA r4 h5) (cj rfl (cj (impl_AcctShow_ok r4 aNow r5 h6) (cj (by simp [V.nv, nvL, nvL_all, nv_E9]) (cj1 (nt h7)))))))))))))))))))))
end Go.Proofs.YtaaiikopnadkeaaDoorM
