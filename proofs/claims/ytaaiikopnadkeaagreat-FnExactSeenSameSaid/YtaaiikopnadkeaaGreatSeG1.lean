/- Printed by gen.py: functions on plain data, and that the program computes them. No condition. -/
import Derived.Test.YtaaiikopnadkeaaGreatSeG0
namespace Go.Proofs.YtaaiikopnadkeaaGreatM
set_option linter.unusedVariables false
set_option linter.unusedSimpArgs false
open Go.RowKit
set_option maxRecDepth 100000

def spec_AcctSame_l0 (o : Acct) (o_ : Acct) : List Hold → List Hold → Option (Lo Unit Unit)
  | [], p1 =>
   some (.out ())
  | x1 :: t1, p1 =>
   (o_.Holds[(p1.length : Int).toNat]?).bind fun x2 =>
   if ((x1.Id == x2.Id) && ((x1.Amount == x2.Amount) && ((x1.Due == x2.Due) && true))) = true then
    spec_AcctSame_l0 o o_ t1 (p1 ++ [x1])
   else
    some (.ret ())
theorem spec_AcctSame_l0_ok (o : Acct) (o_ : Acct) (h8 : capOk o.Holds.length = true) : ∀ (t1 p1 : List Hold) (_ : o.Holds = p1 ++ t1) , Pn (LpO Tryz.prog (sub (codeOf Tryz.prog 78) [1, 1, 0, 1, 0, 0]) (st 77 [(2, V.ptr 0 0), (3, V.ptr 1 0), (50, V.sl false 74 (List.map E74 o.Holds)), (51, V.sc (.int .i64 (o.Holds.length : Int))), (52, V.sc (.int .i64 (p1.length : Int)))] [Blk.box 34 [V.sc (.string o.Id), V.sc (.int .i64 o.Limit), V.sc (.int .i64 o.Posted), V.sc (.int .i64 o.Most), V.sc (.int .i64 o.MostSum), V.sl false 74 (List.map E74 o.Holds), V.sc (.int .i64 o.Ring.Span), V.sc (.int .i64 o.Ring.Head), V.sl false 3 (List.map E3 o.Ring.Counts), V.sl false 3 (List.map E3 o.Ring.Sums), V.sl false 94 (List.map E94 o.Slots)], Blk.box 34 [V.sc (.string o_.Id), V.sc (.int .i64 o_.Limit), V.sc (.int .i64 o_.Posted), V.sc (.int .i64 o_.Most), V.sc (.int .i64 o_.MostSum), V.sl false 74 (List.map E74 o_.Holds), V.sc (.int .i64 o_.Ring.Span), V.sc (.int .i64 o_.Ring.Head), V.sl false 3 (List.map E3 o_.Ring.Counts), V.sl false 3 (List.map E3 o_.Ring.Sums), V.sl false 94 (List.map E94 o_.Slots)]] []) (fun (y : Lo Unit Unit) => Lo.elim y (fun s => (X.out 0, st 77 [(2, V.ptr 0 0), (3, V.ptr 1 0)] [Blk.box 34 [V.sc (.string o.Id), V.sc (.int .i64 o.Limit), V.sc (.int .i64 o.Posted), V.sc (.int .i64 o.Most), V.sc (.int .i64 o.MostSum), V.sl false 74 (List.map E74 o.Holds), V.sc (.int .i64 o.Ring.Span), V.sc (.int .i64 o.Ring.Head), V.sl false 3 (List.map E3 o.Ring.Counts), V.sl false 3 (List.map E3 o.Ring.Sums), V.sl false 94 (List.map E94 o.Slots)], Blk.box 34 [V.sc (.string o_.Id), V.sc (.int .i64 o_.Limit), V.sc (.int .i64 o_.Posted), V.sc (.int .i64 o_.Most), V.sc (.int .i64 o_.MostSum), V.sl false 74 (List.map E74 o_.Holds), V.sc (.int .i64 o_.Ring.Span), V.sc (.int .i64 o_.Ring.Head), V.sl false 3 (List.map E3 o_.Ring.Counts), V.sl false 3 (List.map E3 o_.Ring.Sums), V.sl false 94 (List.map E94 o_.Slots)]] [])) (fun s => (X.ret, st 77 [(4, V.sc (.bool false))] [] [])))) (spec_AcctSame_l0 o o_ t1 p1)
  | [], p1, h7 => by
    unfold spec_AcctSame_l0
    exact
     Pn.some (LpO.out [.bit false, .mask [2, 3], .ren [0, 1]] (p := [(decide ((p1.length : Int) < (o.Holds.length : Int))) = false]) (by kernel_rfl) (show X.out 0 ≠ X.go from nofun) (cj1 (rng_end h7)))
  | x1 :: t1, p1, h7 => by
    unfold spec_AcctSame_l0
    exact
     Pn.bind (fun x2 h9 =>
      Pn.ite (fun h10 =>
       LpO.go [.bit true, .el (E74 x1), .draw [], .el (E74 x2), .bit false, .wait 2, .mask [2, 3, 50, 51, 52], .ren [0, 1], .nm 52 (V.sc (.int .i64 ((p1 ++ [x1]).length : Int)))] (p := [(decide ((p1.length : Int) < (o.Holds.length : Int))) = true,
        (0 : Int) ≤ (p1.length : Int),
        (List.map E74 o.Holds)[(p1.length : Int).toNat]? = some (E74 x1),
        (0 : Int) ≤ (p1.length : Int),
        (List.map E74 o_.Holds)[(p1.length : Int).toNat]? = some (E74 x2),
        (!((x1.Id == x2.Id) && ((x1.Amount == x2.Amount) && ((x1.Due == x2.Due) && true)))) = false,
        V.sc (.int .i64 (i64 ((p1.length : Int) + 1))) = V.sc (.int .i64 ((p1 ++ [x1]).length : Int))]) (by kernel_rfl) (cj (rng_lt h7) (cj (by omega) (cj (rng_get _ h7) (cj (by omega) (cj (map_get h9) (cj (nf h10) (cj1 (rng_next h7 h8)))))))) (spec_AcctSame_l0_ok o o_ h8 t1 (p1 ++ [x1]) (rng_step h7))) (fun h10 =>
       Pn.some (LpO.out [.bit true, .el (E74 x1), .draw [], .el (E74 x2), .bit true, .wait 1, .mask [4], .ren []] (p := [(decide ((p1.length : Int) < (o.Holds.length : Int))) = true,
        (0 : Int) ≤ (p1.length : Int),
        (List.map E74 o.Holds)[(p1.length : Int).toNat]? = some (E74 x1),
        (0 : Int) ≤ (p1.length : Int),
        (List.map E74 o_.Holds)[(p1.length : Int).toNat]? = some (E74 x2),
        (!((x1.Id == x2.Id) && ((x1.Amount == x2.Amount) && ((x1.Due == x2.Due) && true)))) = true]) (by kernel_rfl) (show X.ret ≠ X.go from nofun) (cj (rng_lt h7) (cj (by omega) (cj (rng_get _ h7) (cj (by omega) (cj (map_get h9) (cj1 (nt h10))))))))))
def spec_AcctSame (o : Acct) (o_ : Acct) : Option (Bool) :=
 if (o.Id == o_.Id) = true then
  if (o.Limit != o_.Limit) = true then
   some false
  else
   if (o.Posted != o_.Posted) = true then
    some false
   else
    if (o.Most != o_.Most) = true then
     some false
    else
     if (o.MostSum != o_.MostSum) = true then
      some false
     else
      if ((o.Holds.length : Int) != (o_.Holds.length : Int)) = true then
       some false
      else
       if (capOk o.Holds.length) = true then
        (spec_AcctSame_l0 o o_ o.Holds []).bind fun r1 =>
        Lo.elim r1 (fun s1 =>
         (spec_l06Same o.Ring o_.Ring).bind fun r2 =>
         if r2 = true then
          (spec_SlotsSame o.Slots o_.Slots).bind fun r3 =>
          some r3
         else
          some false) (fun s2 =>
         some false)
       else none
 else
  some false
theorem spec_AcctSame_ok (o : Acct) (o_ : Acct) : Pn (fun y => Fn Tryz.prog 78 [(false, E34 o), (false, E34 o_)] (E4 y) []) (spec_AcctSame o o_) := by
  unfold spec_AcctSame
  exact
   Pn.ite (fun h1 =>
    Pn.ite (fun h2 =>
     Pn.some (Fn.of [.bit false, .bit false, .bit false, .bit false, .bit false, .bit false, .bit true, .bit true, .bit true, .bit true, .bit true, .bit true, .bit true, .bit true, .bit true, .bit true, .bit true, .bit true, .bit true, .bit true, .bit true, .bit true, .bit true, .bit true, .bit true, .bit true, .bit true, .bit true, .bit true, .bit true, .bit true, .bit true, .bit true] (p := [(!(o.Id == o_.Id)) = false,
      (!(o.Id == o_.Id)) = false,
      (!(o.Id == o_.Id)) = false,
      (!(o.Id == o_.Id)) = false,
      (!(o.Id == o_.Id)) = false,
      (!(o.Id == o_.Id)) = false,
      (o.Limit != o_.Limit) = true,
      (o.Limit != o_.Limit) = true,
      (o.Limit != o_.Limit) = true,
      (o.Limit != o_.Limit) = true,
      (o.Limit != o_.Limit) = true,
      (o.Limit != o_.Limit) = true,
      true = true,
      true = true,
      true = true,
      true = true,
      true = true,
      true = true,
      true = true,
      true = true,
      true = true,
      true = true,
      true = true,
      true = true,
      true = true,
      true = true,
      true = true,
      true = true,
      true = true,
      true = true,
      true = true,
      true = true,
      true = true]) (by kernel_rfl) (cj (nf h1) (cj (nf h1) (cj (nf h1) (cj (nf h1) (cj (nf h1) (cj (nf h1) (cj h2 (cj h2 (cj h2 (cj h2 (cj h2 (cj h2 (cj rfl (cj rfl (cj rfl (cj rfl (cj rfl (cj rfl (cj rfl (cj rfl (cj rfl (cj rfl (cj rfl (cj rfl (cj rfl (cj rfl (cj rfl (cj rfl (cj rfl (cj rfl (cj rfl (cj rfl (cj1 rfl))))))))))))))))))))))))))))))))))) (fun h2 =>
     Pn.ite (fun h3 =>
      Pn.some (Fn.of [.bit false, .bit false, .bit false, .bit false, .bit false, .bit false, .bit false, .bit false, .bit false, .bit false, .bit false, .bit false, .bit true, .bit true, .bit true, .bit true, .bit true, .bit true, .bit true, .bit true, .bit true, .bit true, .bit true, .bit true, .bit true, .bit true, .bit true, .bit true, .bit true, .bit true, .bit true, .bit true, .bit true] (p := [(!(o.Id == o_.Id)) = false,
       (!(o.Id == o_.Id)) = false,
       (!(o.Id == o_.Id)) = false,
       (!(o.Id == o_.Id)) = false,
       (!(o.Id == o_.Id)) = false,
       (!(o.Id == o_.Id)) = false,
       (o.Limit != o_.Limit) = false,
       (o.Limit != o_.Limit) = false,
       (o.Limit != o_.Limit) = false,
       (o.Limit != o_.Limit) = false,
       (o.Limit != o_.Limit) = false,
       (o.Limit != o_.Limit) = false,
       (o.Posted != o_.Posted) = true,
       (o.Posted != o_.Posted) = true,
       (o.Posted != o_.Posted) = true,
       (o.Posted != o_.Posted) = true,
       (o.Posted != o_.Posted) = true,
       (o.Posted != o_.Posted) = true,
       true = true,
       true = true,
       true = true,
       true = true,
       true = true,
       true = true,
       true = true,
       true = true,
       true = true,
       true = true,
       true = true,
       true = true,
       true = true,
       true = true,
       true = true]) (by kernel_rfl) (cj (nf h1) (cj (nf h1) (cj (nf h1) (cj (nf h1) (cj (nf h1) (cj (nf h1) (cj h2 (cj h2 (cj h2 (cj h2 (cj h2 (cj h2 (cj h3 (cj h3 (cj h3 (cj h3 (cj h3 (cj h3 (cj rfl (cj rfl (cj rfl (cj rfl (cj rfl (cj rfl (cj rfl (cj rfl (cj rfl (cj rfl (cj rfl (cj rfl (cj rfl (cj rfl (cj1 rfl))))))))))))))))))))))))))))))))))) (fun h3 =>
      Pn.ite (fun h4 =>
       Pn.some (Fn.of [.bit false, .bit false, .bit false, .bit false, .bit false, .bit false, .bit false, .bit false, .bit false, .bit false, .bit false, .bit false, .bit false, .bit false, .bit false, .bit false, .bit false, .bit false, .bit true, .bit true, .bit true, .bit true, .bit true, .bit true, .bit true, .bit true, .bit true, .bit true, .bit true, .bit true, .bit true, .bit true, .bit true] (p := [(!(o.Id == o_.Id)) = false,
        (!(o.Id == o_.Id)) = false,
        (!(o.Id == o_.Id)) = false,
        (!(o.Id == o_.Id)) = false,
        (!(o.Id == o_.Id)) = false,
        (!(o.Id == o_.Id)) = false,
        (o.Limit != o_.Limit) = false,
        (o.Limit != o_.Limit) = false,
        (o.Limit != o_.Limit) = false,
        (o.Limit != o_.Limit) = false,
        (o.Limit != o_.Limit) = false,
        (o.Limit != o_.Limit) = false,
        (o.Posted != o_.Posted) = false,
        (o.Posted != o_.Posted) = false,
        (o.Posted != o_.Posted) = false,
        (o.Posted != o_.Posted) = false,
        (o.Posted != o_.Posted) = false,
        (o.Posted != o_.Posted) = false,
        (o.Most != o_.Most) = true,
        (o.Most != o_.Most) = true,
        (o.Most != o_.Most) = true,
        (o.Most != o_.Most) = true,
        (o.Most != o_.Most) = true,
        (o.Most != o_.Most) = true,
        true = true,
        true = true,
        true = true,
        true = true,
        true = true,
        true = true,
        true = true,
        true = true,
        true = true]) (by kernel_rfl) (cj (nf h1) (cj (nf h1) (cj (nf h1) (cj (nf h1) (cj (nf h1) (cj (nf h1) (cj h2 (cj h2 (cj h2 (cj h2 (cj h2 (cj h2 (cj h3 (cj h3 (cj h3 (cj h3 (cj h3 (cj h3 (cj h4 (cj h4 (cj h4 (cj h4 (cj h4 (cj h4 (cj rfl (cj rfl (cj rfl (cj rfl (cj rfl (cj rfl (cj rfl (cj rfl (cj1 rfl))))))))))))))))))))))))))))))))))) (fun h4 =>
       Pn.ite (fun h5 =>
        Pn.some (Fn.of [.bit false, .bit false, .bit false, .bit false, .bit false, .bit false, .bit false, .bit false, .bit false, .bit false, .bit false, .bit false, .bit false, .bit false, .bit false, .bit false, .bit false, .bit false, .bit false, .bit false, .bit false, .bit false, .bit false, .bit false, .bit true, .bit true, .bit true, .bit true, .bit true, .bit true, .bit true, .bit true, .bit true] (p := [(!(o.Id == o_.Id)) = false,
         (!(o.Id == o_.Id)) = false,
         (!(o.Id == o_.Id)) = false,
         (!(o.Id == o_.Id)) = false,
         (!(o.Id == o_.Id)) = false,
         (!(o.Id == o_.Id)) = false,
         (o.Limit != o_.Limit) = false,
         (o.Limit != o_.Limit) = false,
         (o.Limit != o_.Limit) = false,
         (o.Limit != o_.Limit) = false,
         (o.Limit != o_.Limit) = false,
         (o.Limit != o_.Limit) = false,
         (o.Posted != o_.Posted) = false,
         (o.Posted != o_.Posted) = false,
         (o.Posted != o_.Posted) = false,
         (o.Posted != o_.Posted) = false,
         (o.Posted != o_.Posted) = false,
         (o.Posted != o_.Posted) = false,
         (o.Most != o_.Most) = false,
         (o.Most != o_.Most) = false,
         (o.Most != o_.Most) = false,
         (o.Most != o_.Most) = false,
         (o.Most != o_.Most) = false,
         (o.Most != o_.Most) = false,
         (o.MostSum != o_.MostSum) = true,
         (o.MostSum != o_.MostSum) = true,
         (o.MostSum != o_.MostSum) = true,
         (o.MostSum != o_.MostSum) = true,
         (o.MostSum != o_.MostSum) = true,
         (o.MostSum != o_.MostSum) = true,
         (o.MostSum != o_.MostSum) = true,
         (o.MostSum != o_.MostSum) = true,
         true = true]) (by kernel_rfl) (cj (nf h1) (cj (nf h1) (cj (nf h1) (cj (nf h1) (cj (nf h1) (cj (nf h1) (cj h2 (cj h2 (cj h2 (cj h2 (cj h2 (cj h2 (cj h3 (cj h3 (cj h3 (cj h3 (cj h3 (cj h3 (cj h4 (cj h4 (cj h4 (cj h4 (cj h4 (cj h4 (cj h5 (cj h5 (cj h5 (cj h5 (cj h5 (cj h5 (cj h5 (cj h5 (cj1 rfl))))))))))))))))))))))))))))))))))) (fun h5 =>
        Pn.ite (fun h6 =>
         Pn.some (Fn.of [.bit false, .bit false, .bit false, .bit false, .bit false, .bit false, .bit false, .bit false, .bit false, .bit false, .bit false, .bit false, .bit false, .bit false, .bit false, .bit false, .bit false, .bit false, .bit false, .bit false, .bit false, .bit false, .bit false, .bit false, .bit false, .bit false, .bit false, .nm 43 (V.sc (.int .i64 (o.Holds.length : Int))), .bit false, .bit false, .bit false, .nm 46 (V.sc (.int .i64 (o_.Holds.length : Int))), .bit false, .bit false, .bit true] (p := [(!(o.Id == o_.Id)) = false,
          (!(o.Id == o_.Id)) = false,
          (!(o.Id == o_.Id)) = false,
          (!(o.Id == o_.Id)) = false,
          (!(o.Id == o_.Id)) = false,
          (!(o.Id == o_.Id)) = false,
          (o.Limit != o_.Limit) = false,
          (o.Limit != o_.Limit) = false,
          (o.Limit != o_.Limit) = false,
          (o.Limit != o_.Limit) = false,
          (o.Limit != o_.Limit) = false,
          (o.Limit != o_.Limit) = false,
          (o.Posted != o_.Posted) = false,
          (o.Posted != o_.Posted) = false,
          (o.Posted != o_.Posted) = false,
          (o.Posted != o_.Posted) = false,
          (o.Posted != o_.Posted) = false,
          (o.Posted != o_.Posted) = false,
          (o.Most != o_.Most) = false,
          (o.Most != o_.Most) = false,
          (o.Most != o_.Most) = false,
          (o.Most != o_.Most) = false,
          (o.Most != o_.Most) = false,
          (o.Most != o_.Most) = false,
          (o.MostSum != o_.MostSum) = false,
          (o.MostSum != o_.MostSum) = false,
          (o.MostSum != o_.MostSum) = false,
          V.sc (.int .i64 ((List.map E74 o.Holds).length : Int)) = V.sc (.int .i64 (o.Holds.length : Int)),
          (o.MostSum != o_.MostSum) = false,
          (o.MostSum != o_.MostSum) = false,
          (o.MostSum != o_.MostSum) = false,
          V.sc (.int .i64 ((List.map E74 o_.Holds).length : Int)) = V.sc (.int .i64 (o_.Holds.length : Int)),
          (o.MostSum != o_.MostSum) = false,
          (o.MostSum != o_.MostSum) = false,
          ((o.Holds.length : Int) != (o_.Holds.length : Int)) = true]) (by kernel_rfl) (cj (nf h1) (cj (nf h1) (cj (nf h1) (cj (nf h1) (cj (nf h1) (cj (nf h1) (cj h2 (cj h2 (cj h2 (cj h2 (cj h2 (cj h2 (cj h3 (cj h3 (cj h3 (cj h3 (cj h3 (cj h3 (cj h4 (cj h4 (cj h4 (cj h4 (cj h4 (cj h4 (cj h5 (cj h5 (cj h5 (cj (len_nm _ _) (cj h5 (cj h5 (cj h5 (cj (len_nm _ _) (cj h5 (cj h5 (cj1 h6))))))))))))))))))))))))))))))))))))) (fun h6 =>
         Pn.ite (fun h11 =>
          Pn.bind (fun r1 h12 =>
           Pn.lo (fun s1 h13 =>
            Pn.bind (fun r2 h15 =>
             Pn.ite (fun h16 =>
              Pn.bind (fun r3 h17 =>
               Pn.some (Fn.of [.bit false, .bit false, .bit false, .bit false, .bit false, .bit false, .bit false, .bit false, .bit false, .bit false, .bit false, .bit false, .bit false, .bit false, .bit false, .bit false, .bit false, .bit false, .bit false, .bit false, .bit false, .bit false, .bit false, .bit false, .bit false, .bit false, .bit false, .nm 43 (V.sc (.int .i64 (o.Holds.length : Int))), .bit false, .bit false, .bit false, .nm 46 (V.sc (.int .i64 (o_.Holds.length : Int))), .bit false, .bit false, .bit false, .wait 2, .nm 51 (V.sc (.int .i64 (o.Holds.length : Int))), .wait 2, .mask [2, 3, 50, 51, 52], .ren [0, 1], .loop (X.out 0) (st 77 [(2, V.ptr 0 0), (3, V.ptr 1 0)] [Blk.box 34 [V.sc (.string o.Id), V.sc (.int .i64 o.Limit), V.sc (.int .i64 o.Posted), V.sc (.int .i64 o.Most), V.sc (.int .i64 o.MostSum), V.sl false 74 (List.map E74 o.Holds), V.sc (.int .i64 o.Ring.Span), V.sc (.int .i64 o.Ring.Head), V.sl false 3 (List.map E3 o.Ring.Counts), V.sl false 3 (List.map E3 o.Ring.Sums), V.sl false 94 (List.map E94 o.Slots)], Blk.box 34 [V.sc (.string o_.Id), V.sc (.int .i64 o_.Limit), V.sc (.int .i64 o_.Posted), V.sc (.int .i64 o_.Most), V.sc (.int .i64 o_.MostSum), V.sl false 74 (List.map E74 o_.Holds), V.sc (.int .i64 o_.Ring.Span), V.sc (.int .i64 o_.Ring.Head), V.sl false 3 (List.map E3 o_.Ring.Counts), V.sl false 3 (List.map E3 o_.Ring.Sums), V.sl false 94 (List.map E94 o_.Slots)]] []), .call [] (E4 r2) [], .bit true, .bit true, .bit true, .bit true, .bit true, .call [] (E4 r3) [], .bit true] (p := [(!(o.Id == o_.Id)) = false,
                (!(o.Id == o_.Id)) = false,
                (!(o.Id == o_.Id)) = false,
                (!(o.Id == o_.Id)) = false,
                (!(o.Id == o_.Id)) = false,
                (!(o.Id == o_.Id)) = false,
                (o.Limit != o_.Limit) = false,
                (o.Limit != o_.Limit) = false,
                (o.Limit != o_.Limit) = false,
                (o.Limit != o_.Limit) = false,
                (o.Limit != o_.Limit) = false,
                (o.Limit != o_.Limit) = false,
                (o.Posted != o_.Posted) = false,
                (o.Posted != o_.Posted) = false,
                (o.Posted != o_.Posted) = false,
                (o.Posted != o_.Posted) = false,
                (o.Posted != o_.Posted) = false,
                (o.Posted != o_.Posted) = false,
                (o.Most != o_.Most) = false,
                (o.Most != o_.Most) = false,
                (o.Most != o_.Most) = false,
                (o.Most != o_.Most) = false,
                (o.Most != o_.Most) = false,
                (o.Most != o_.Most) = false,
                (o.MostSum != o_.MostSum) = false,
                (o.MostSum != o_.MostSum) = false,
                (o.MostSum != o_.MostSum) = false,
                V.sc (.int .i64 ((List.map E74 o.Holds).length : Int)) = V.sc (.int .i64 (o.Holds.length : Int)),
                (o.MostSum != o_.MostSum) = false,
                (o.MostSum != o_.MostSum) = false,
                (o.MostSum != o_.MostSum) = false,
                V.sc (.int .i64 ((List.map E74 o_.Holds).length : Int)) = V.sc (.int .i64 (o_.Holds.length : Int)),
                (o.MostSum != o_.MostSum) = false,
                (o.MostSum != o_.MostSum) = false,
                ((o.Holds.length : Int) != (o_.Holds.length : Int)) = false,
                V.sc (.int .i64 ((List.map E74 o.Holds).length : Int)) = V.sc (.int .i64 (o.Holds.length : Int)),
                Loop Tryz.prog (sub (codeOf Tryz.prog 78) [1, 1, 0, 1, 0, 0]) (st 77 [(2, V.ptr 0 0), (3, V.ptr 1 0), (50, V.sl false 74 (List.map E74 o.Holds)), (51, V.sc (.int .i64 (o.Holds.length : Int))), (52, V.sc (.int .i64 0))] [Blk.box 34 [V.sc (.string o.Id), V.sc (.int .i64 o.Limit), V.sc (.int .i64 o.Posted), V.sc (.int .i64 o.Most), V.sc (.int .i64 o.MostSum), V.sl false 74 (List.map E74 o.Holds), V.sc (.int .i64 o.Ring.Span), V.sc (.int .i64 o.Ring.Head), V.sl false 3 (List.map E3 o.Ring.Counts), V.sl false 3 (List.map E3 o.Ring.Sums), V.sl false 94 (List.map E94 o.Slots)], Blk.box 34 [V.sc (.string o_.Id), V.sc (.int .i64 o_.Limit), V.sc (.int .i64 o_.Posted), V.sc (.int .i64 o_.Most), V.sc (.int .i64 o_.MostSum), V.sl false 74 (List.map E74 o_.Holds), V.sc (.int .i64 o_.Ring.Span), V.sc (.int .i64 o_.Ring.Head), V.sl false 3 (List.map E3 o_.Ring.Counts), V.sl false 3 (List.map E3 o_.Ring.Sums), V.sl false 94 (List.map E94 o_.Slots)]] []) (X.out 0) (st 77 [(2, V.ptr 0 0), (3, V.ptr 1 0)] [Blk.box 34 [V.sc (.string o.Id), V.sc (.int .i64 o.Limit), V.sc (.int .i64 o.Posted), V.sc (.int .i64 o.Most), V.sc (.int .i64 o.MostSum), V.sl false 74 (List.map E74 o.Holds), V.sc (.int .i64 o.Ring.Span), V.sc (.int .i64 o.Ring.Head), V.sl false 3 (List.map E3 o.Ring.Counts), V.sl false 3 (List.map E3 o.Ring.Sums), V.sl false 94 (List.map E94 o.Slots)], Blk.box 34 [V.sc (.string o_.Id), V.sc (.int .i64 o_.Limit), V.sc (.int .i64 o_.Posted), V.sc (.int .i64 o_.Most), V.sc (.int .i64 o_.MostSum), V.sl false 74 (List.map E74 o_.Holds), V.sc (.int .i64 o_.Ring.Span), V.sc (.int .i64 o_.Ring.Head), V.sl false 3 (List.map E3 o_.Ring.Counts), V.sl false 3 (List.map E3 o_.Ring.Sums), V.sl false 94 (List.map E94 o_.Slots)]] []),
                Fn Tryz.prog 102 [(false, E31 o.Ring), (false, E31 o_.Ring)] (E4 r2) [],
                (true || ((E4 r2).nv && nvL [])) = true,
                r2 = true,
                r2 = true,
                r2 = true,
                r2 = true,
                r2 = true,
                Fn Tryz.prog 103 [(false, E32 o.Slots), (false, E32 o_.Slots)] (E4 r3) [],
                (true || ((E4 r3).nv && nvL [])) = true,
                r2 = true]) (by kernel_rfl) (cj (nf h1) (cj (nf h1) (cj (nf h1) (cj (nf h1) (cj (nf h1) (cj (nf h1) (cj h2 (cj h2 (cj h2 (cj h2 (cj h2 (cj h2 (cj h3 (cj h3 (cj h3 (cj h3 (cj h3 (cj h3 (cj h4 (cj h4 (cj h4 (cj h4 (cj h4 (cj h4 (cj h5 (cj h5 (cj h5 (cj (len_nm _ _) (cj h5 (cj h5 (cj h5 (cj (len_nm _ _) (cj h5 (cj h5 (cj h6 (cj (len_nm _ _) (cj ((spec_AcctSame_l0_ok o o_ h11 o.Holds [] rfl r1 h12).at h13) (cj (spec_l06Same_ok o.Ring o_.Ring r2 h15) (cj rfl (cj h16 (cj h16 (cj h16 (cj h16 (cj h16 (cj (spec_SlotsSame_ok o.Slots o_.Slots r3 h17) (cj rfl (cj1 h16)))))))))))))))))))))))))))))))))))))))))))))))))) (fun h16 =>
              Pn.some (Fn.of [.bit false, .bit false, .bit false, .bit false, .bit false, .bit false, .bit false, .bit false, .bit false, .bit false, .bit false, .bit false, .bit false, .bit false, .bit false, .bit false, .bit false, .bit false, .bit false, .bit false, .bit false, .bit false, .bit false, .bit false, .bit false, .bit false, .bit false, .nm 43 (V.sc (.int .i64 (o.Holds.length : Int))), .bit false, .bit false, .bit false, .nm 46 (V.sc (.int .i64 (o_.Holds.length : Int))), .bit false, .bit false, .bit false, .wait 2, .nm 51 (V.sc (.int .i64 (o.Holds.length : Int))), .wait 2, .mask [2, 3, 50, 51, 52], .ren [0, 1], .loop (X.out 0) (st 77 [(2, V.ptr 0 0), (3, V.ptr 1 0)] [Blk.box 34 [V.sc (.string o.Id), V.sc (.int .i64 o.Limit), V.sc (.int .i64 o.Posted), V.sc (.int .i64 o.Most), V.sc (.int .i64 o.MostSum), V.sl false 74 (List.map E74 o.Holds), V.sc (.int .i64 o.Ring.Span), V.sc (.int .i64 o.Ring.Head), V.sl false 3 (List.map E3 o.Ring.Counts), V.sl false 3 (List.map E3 o.Ring.Sums), V.sl false 94 (List.map E94 o.Slots)], Blk.box 34 [V.sc (.string o_.Id), V.sc (.int .i64 o_.Limit), V.sc (.int .i64 o_.Posted), V.sc (.int .i64 o_.Most), V.sc (.int .i64 o_.MostSum), V.sl false 74 (List.map E74 o_.Holds), V.sc (.int .i64 o_.Ring.Span), V.sc (.int .i64 o_.Ring.Head), V.sl false 3 (List.map E3 o_.Ring.Counts), V.sl false 3 (List.map E3 o_.Ring.Sums), V.sl false 94 (List.map E94 o_.Slots)]] []), .call [] (E4 r2) [], .bit false, .bit false, .bit false, .bit false, .bit false, .bit false] (p := [(!(o.Id == o_.Id)) = false,
               (!(o.Id == o_.Id)) = false,
               (!(o.Id == o_.Id)) = false,
               (!(o.Id == o_.Id)) = false,
               (!(o.Id == o_.Id)) = false,
               (!(o.Id == o_.Id)) = false,
               (o.Limit != o_.Limit) = false,
               (o.Limit != o_.Limit) = false,
               (o.Limit != o_.Limit) = false,
               (o.Limit != o_.Limit) = false,
               (o.Limit != o_.Limit) = false,
               (o.Limit != o_.Limit) = false,
               (o.Posted != o_.Posted) = false,
               (o.Posted != o_.Posted) = false,
               (o.Posted != o_.Posted) = false,
               (o.Posted != o_.Posted) = false,
               (o.Posted != o_.Posted) = false,
               (o.Posted != o_.Posted) = false,
               (o.Most != o_.Most) = false,
               (o.Most != o_.Most) = false,
               (o.Most != o_.Most) = false,
               (o.Most != o_.Most) = false,
               (o.Most != o_.Most) = false,
               (o.Most != o_.Most) = false,
               (o.MostSum != o_.MostSum) = false,
               (o.MostSum != o_.MostSum) = false,
               (o.MostSum != o_.MostSum) = false,
               V.sc (.int .i64 ((List.map E74 o.Holds).length : Int)) = V.sc (.int .i64 (o.Holds.length : Int)),
               (o.MostSum != o_.MostSum) = false,
               (o.MostSum != o_.MostSum) = false,
               (o.MostSum != o_.MostSum) = false,
               V.sc (.int .i64 ((List.map E74 o_.Holds).length : Int)) = V.sc (.int .i64 (o_.Holds.length : Int)),
               (o.MostSum != o_.MostSum) = false,
               (o.MostSum != o_.MostSum) = false,
               ((o.Holds.length : Int) != (o_.Holds.length : Int)) = false,
               V.sc (.int .i64 ((List.map E74 o.Holds).length : Int)) = V.sc (.int .i64 (o.Holds.length : Int)),
               Loop Tryz.prog (sub (codeOf Tryz.prog 78) [1, 1, 0, 1, 0, 0]) (st 77 [(2, V.ptr 0 0), (3, V.ptr 1 0), (50, V.sl false 74 (List.map E74 o.Holds)), (51, V.sc (.int .i64 (o.Holds.length : Int))), (52, V.sc (.int .i64 0))] [Blk.box 34 [V.sc (.string o.Id), V.sc (.int .i64 o.Limit), V.sc (.int .i64 o.Posted), V.sc (.int .i64 o.Most), V.sc (.int .i64 o.MostSum), V.sl false 74 (List.map E74 o.Holds), V.sc (.int .i64 o.Ring.Span), V.sc (.int .i64 o.Ring.Head), V.sl false 3 (List.map E3 o.Ring.Counts), V.sl false 3 (List.map E3 o.Ring.Sums), V.sl false 94 (List.map E94 o.Slots)], Blk.box 34 [V.sc (.string o_.Id), V.sc (.int .i64 o_.Limit), V.sc (.int .i64 o_.Posted), V.sc (.int .i64 o_.Most), V.sc (.int .i64 o_.MostSum), V.sl false 74 (List.map E74 o_.Holds), V.sc (.int .i64 o_.Ring.Span), V.sc (.int .i64 o_.Ring.Head), V.sl false 3 (List.map E3 o_.Ring.Counts), V.sl false 3 (List.map E3 o_.Ring.Sums), V.sl false 94 (List.map E94 o_.Slots)]] []) (X.out 0) (st 77 [(2, V.ptr 0 0), (3, V.ptr 1 0)] [Blk.box 34 [V.sc (.string o.Id), V.sc (.int .i64 o.Limit), V.sc (.int .i64 o.Posted), V.sc (.int .i64 o.Most), V.sc (.int .i64 o.MostSum), V.sl false 74 (List.map E74 o.Holds), V.sc (.int .i64 o.Ring.Span), V.sc (.int .i64 o.Ring.Head), V.sl false 3 (List.map E3 o.Ring.Counts), V.sl false 3 (List.map E3 o.Ring.Sums), V.sl false 94 (List.map E94 o.Slots)], Blk.box 34 [V.sc (.string o_.Id), V.sc (.int .i64 o_.Limit), V.sc (.int .i64 o_.Posted), V.sc (.int .i64 o_.Most), V.sc (.int .i64 o_.MostSum), V.sl false 74 (List.map E74 o_.Holds), V.sc (.int .i64 o_.Ring.Span), V.sc (.int .i64 o_.Ring.Head), V.sl false 3 (List.map E3 o_.Ring.Counts), V.sl false 3 (List.map E3 o_.Ring.Sums), V.sl false 94 (List.map E94 o_.Slots)]] []),
               Fn Tryz.prog 102 [(false, E31 o.Ring), (false, E31 o_.Ring)] (E4 r2) [],
               (true || ((E4 r2).nv && nvL [])) = true,
               r2 = false,
               r2 = false,
               r2 = false,
               r2 = false,
               r2 = false,
               r2 = false]) (by kernel_rfl) (cj (nf h1) (cj (nf h1) (cj (nf h1) (cj (nf h1) (cj (nf h1) (cj (nf h1) (cj h2 (cj h2 (cj h2 (cj h2 (cj h2 (cj h2 (cj h3 (cj h3 (cj h3 (cj h3 (cj h3 (cj h3 (cj h4 (cj h4 (cj h4 (cj h4 (cj h4 (cj h4 (cj h5 (cj h5 (cj h5 (cj (len_nm _ _) (cj h5 (cj h5 (cj h5 (cj (len_nm _ _) (cj h5 (cj h5 (cj h6 (cj (len_nm _ _) (cj ((spec_AcctSame_l0_ok o o_ h11 o.Holds [] rfl r1 h12).at h13) (cj (spec_l06Same_ok o.Ring o_.Ring r2 h15) (cj rfl (cj h16 (cj h16 (cj h16 (cj h16 (cj h16 (cj1 h16))))))))))))))))))))))))))))))))))))))))))))))))) (fun s2 h14 =>
            Pn.some (Fn.of [.bit false, .bit false, .bit false, .bit false, .bit false, .bit false, .bit false, .bit false, .bit false, .bit false, .bit false, .bit false, .bit false, .bit false, .bit false, .bit false, .bit false, .bit false, .bit false, .bit false, .bit false, .bit false, .bit false, .bit false, .bit false, .bit false, .bit false, .nm 43 (V.sc (.int .i64 (o.Holds.length : Int))), .bit false, .bit false, .bit false, .nm 46 (V.sc (.int .i64 (o_.Holds.length : Int))), .bit false, .bit false, .bit false, .wait 2, .nm 51 (V.sc (.int .i64 (o.Holds.length : Int))), .wait 2, .mask [2, 3, 50, 51, 52], .ren [0, 1], .loop (X.ret) (st 77 [(4, V.sc (.bool false))] [] [])] (p := [(!(o.Id == o_.Id)) = false,
             (!(o.Id == o_.Id)) = false,
             (!(o.Id == o_.Id)) = false,
             (!(o.Id == o_.Id)) = false,
             (!(o.Id == o_.Id)) = false,
             (!(o.Id == o_.Id)) = false,
             (o.Limit != o_.Limit) = false,
             (o.Limit != o_.Limit) = false,
             (o.Limit != o_.Limit) = false,
             (o.Limit != o_.Limit) = false,
             (o.Limit != o_.Limit) = false,
             (o.Limit != o_.Limit) = false,
             (o.Posted != o_.Posted) = false,
             (o.Posted != o_.Posted) = false,
             (o.Posted != o_.Posted) = false,
             (o.Posted != o_.Posted) = false,
             (o.Posted != o_.Posted) = false,
             (o.Posted != o_.Posted) = false,
             (o.Most != o_.Most) = false,
             (o.Most != o_.Most) = false,
             (o.Most != o_.Most) = false,
             (o.Most != o_.Most) = false,
             (o.Most != o_.Most) = false,
             (o.Most != o_.Most) = false,
             (o.MostSum != o_.MostSum) = false,
             (o.MostSum != o_.MostSum) = false,
             (o.MostSum != o_.MostSum) = false,
             V.sc (.int .i64 ((List.map E74 o.Holds).length : Int)) = V.sc (.int .i64 (o.Holds.length : Int)),
             (o.MostSum != o_.MostSum) = false,
             (o.MostSum != o_.MostSum) = false,
             (o.MostSum != o_.MostSum) = false,
             V.sc (.int .i64 ((List.map E74 o_.Holds).length : Int)) = V.sc (.int .i64 (o_.Holds.length : Int)),
             (o.MostSum != o_.MostSum) = false,
             (o.MostSum != o_.MostSum) = false,
             ((o.Holds.length : Int) != (o_.Holds.length : Int)) = false,
             V.sc (.int .i64 ((List.map E74 o.Holds).length : Int)) = V.sc (.int .i64 (o.Holds.length : Int)),
             Loop Tryz.prog (sub (codeOf Tryz.prog 78) [1, 1, 0, 1, 0, 0]) (st 77 [(2, V.ptr 0 0), (3, V.ptr 1 0), (50, V.sl false 74 (List.map E74 o.Holds)), (51, V.sc (.int .i64 (o.Holds.length : Int))), (52, V.sc (.int .i64 0))] [Blk.box 34 [V.sc (.string o.Id), V.sc (.int .i64 o.Limit), V.sc (.int .i64 o.Posted), V.sc (.int .i64 o.Most), V.sc (.int .i64 o.MostSum), V.sl false 74 (List.map E74 o.Holds), V.sc (.int .i64 o.Ring.Span), V.sc (.int .i64 o.Ring.Head), V.sl false 3 (List.map E3 o.Ring.Counts), V.sl false 3 (List.map E3 o.Ring.Sums), V.sl false 94 (List.map E94 o.Slots)], Blk.box 34 [V.sc (.string o_.Id), V.sc (.int .i64 o_.Limit), V.sc (.int .i64 o_.Posted), V.sc (.int .i64 o_.Most), V.sc (.int .i64 o_.MostSum), V.sl false 74 (List.map E74 o_.Holds), V.sc (.int .i64 o_.Ring.Span), V.sc (.int .i64 o_.Ring.Head), V.sl false 3 (List.map E3 o_.Ring.Counts), V.sl false 3 (List.map E3 o_.Ring.Sums), V.sl false 94 (List.map E94 o_.Slots)]] []) (X.ret) (st 77 [(4, V.sc (.bool false))] [] [])]) (by kernel_rfl) (cj (nf h1) (cj (nf h1) (cj (nf h1) (cj (nf h1) (cj (nf h1) (cj (nf h1) (cj h2 (cj h2 (cj h2 (cj h2 (cj h2 (cj h2 (cj h3 (cj h3 (cj h3 (cj h3 (cj h3 (cj h3 (cj h4 (cj h4 (cj h4 (cj h4 (cj h4 (cj h4 (cj h5 (cj h5 (cj h5 (cj (len_nm _ _) (cj h5 (cj h5 (cj h5 (cj (len_nm _ _) (cj h5 (cj h5 (cj h6 (cj (len_nm _ _) (cj1 ((spec_AcctSame_l0_ok o o_ h11 o.Holds [] rfl r1 h12).at h14)))))))))))))))))))))))))))))))))))))))))) (fun h11 =>
          Pn.none))))))) (fun h1 =>
    Pn.some (Fn.of [.bit true, .bit true, .bit true, .bit true, .bit true, .bit true, .bit true, .bit true, .bit true, .bit true, .bit true, .bit true, .bit true, .bit true, .bit true, .bit true, .bit true, .bit true, .bit true, .bit true, .bit true, .bit true, .bit true, .bit true, .bit true, .bit true, .bit true, .bit true, .bit true, .bit true, .bit true, .bit true, .bit true] (p := [(!(o.Id == o_.Id)) = true,
     (!(o.Id == o_.Id)) = true,
     (!(o.Id == o_.Id)) = true,
     (!(o.Id == o_.Id)) = true,
     (!(o.Id == o_.Id)) = true,
     (!(o.Id == o_.Id)) = true,
     true = true,
     true = true,
     true = true,
     true = true,
     true = true,
     true = true,
     true = true,
     true = true,
     true = true,
     true = true,
     true = true,
     true = true,
     true = true,
     true = true,
     true = true,
     true = true,
     true = true,
     true = true,
     true = true,
     true = true,
     true = true,
     true = true,
     true = true,
     true = true,
     true = true,
     true = true,
     true = true]) (by kernel_rfl) (cj (nt h1) (cj (nt h1) (cj (nt h1) (cj (nt h1) (cj (nt h1) (cj (nt h1) (cj rfl (cj rfl (cj rfl (cj rfl (cj rfl (cj rfl (cj rfl (cj rfl (cj rfl (cj rfl (cj rfl (cj rfl (cj rfl (cj rfl (cj rfl (cj rfl (cj rfl (cj rfl (cj rfl (cj rfl (cj rfl (cj rfl (cj rfl (cj rfl (cj rfl (cj rfl (cj1 rfl)))))))))))))))))))))))))))))))))))
def spec_BookSame_l0 (a : Book) (b : Book) : List Acct → List Acct → Option (Lo Unit Unit)
  | [], p1 =>
   some (.out ())
  | x1 :: t1, p1 =>
   (b.Accts[(p1.length : Int).toNat]?).bind fun x2 =>
   (spec_AcctSame x1 x2).bind fun r1 =>
   if r1 = true then
    spec_BookSame_l0 a b t1 (p1 ++ [x1])
   else
    some (.ret ())
theorem spec_BookSame_l0_ok (a : Book) (b : Book) (h3 : capOk a.Accts.length = true) : ∀ (t1 p1 : List Acct) (_ : a.Accts = p1 ++ t1) , Pn (LpO Tryz.prog (sub (codeOf Tryz.prog 45) [1, 1, 0, 1, 0, 0]) (st 31 [(3, V.ptr 0 0), (15, V.sl false 34 (List.map E34 a.Accts)), (16, V.sc (.int .i64 (a.Accts.length : Int))), (17, V.sc (.int .i64 (p1.length : Int)))] [Blk.box 50 [V.sl false 34 (List.map E34 b.Accts)]] []) (fun (y : Lo Unit Unit) => Lo.elim y (fun s => (X.out 0, st 31 [] [] [])) (fun s => (X.ret, st 31 [(4, V.sc (.bool false))] [] [])))) (spec_BookSame_l0 a b t1 p1)
  | [], p1, h2 => by
    unfold spec_BookSame_l0
    exact
     Pn.some (LpO.out [.bit false, .mask [], .ren []] (p := [(decide ((p1.length : Int) < (a.Accts.length : Int))) = false]) (by kernel_rfl) (show X.out 0 ≠ X.go from nofun) (cj1 (rng_end h2)))
  | x1 :: t1, p1, h2 => by
    unfold spec_BookSame_l0
    exact
     Pn.bind (fun x2 h4 =>
      Pn.bind (fun r1 h5 =>
       Pn.ite (fun h6 =>
        LpO.go [.bit true, .el (E34 x1), .draw [], .el (E34 x2), .call [] (E4 r1) [], .bit false, .wait 2, .mask [3, 15, 16, 17], .ren [0], .nm 17 (V.sc (.int .i64 ((p1 ++ [x1]).length : Int)))] (p := [(decide ((p1.length : Int) < (a.Accts.length : Int))) = true,
         (0 : Int) ≤ (p1.length : Int),
         (List.map E34 a.Accts)[(p1.length : Int).toNat]? = some (E34 x1),
         (0 : Int) ≤ (p1.length : Int),
         (List.map E34 b.Accts)[(p1.length : Int).toNat]? = some (E34 x2),
         Fn Tryz.prog 78 [(false, E34 x1), (false, E34 x2)] (E4 r1) [],
         (true || ((E4 r1).nv && nvL [])) = true,
         (!r1) = false,
         V.sc (.int .i64 (i64 ((p1.length : Int) + 1))) = V.sc (.int .i64 ((p1 ++ [x1]).length : Int))]) (by kernel_rfl) (cj (rng_lt h2) (cj (by omega) (cj (rng_get _ h2) (cj (by omega) (cj (map_get h4) (cj (spec_AcctSame_ok x1 x2 r1 h5) (cj rfl (cj (nf h6) (cj1 (rng_next h2 h3)))))))))) (spec_BookSame_l0_ok a b h3 t1 (p1 ++ [x1]) (rng_step h2))) (fun h6 =>
        Pn.some (LpO.out [.bit true, .el (E34 x1), .draw [], .el (E34 x2), .call [] (E4 r1) [], .bit true, .wait 1, .mask [4], .ren []] (p := [(decide ((p1.length : Int) < (a.Accts.length : Int))) = true,
         (0 : Int) ≤ (p1.length : Int),
         (List.map E34 a.Accts)[(p1.length : Int).toNat]? = some (E34 x1),
         (0 : Int) ≤ (p1.length : Int),
         (List.map E34 b.Accts)[(p1.length : Int).toNat]? = some (E34 x2),
         Fn Tryz.prog 78 [(false, E34 x1), (false, E34 x2)] (E4 r1) [],
         (true || ((E4 r1).nv && nvL [])) = true,
         (!r1) = true]) (by kernel_rfl) (show X.ret ≠ X.go from nofun) (cj (rng_lt h2) (cj (by omega) (cj (rng_get _ h2) (cj (by omega) (cj (map_get h4) (cj (spec_AcctSame_ok x1 x2 r1 h5) (cj rfl (cj1 (nt h6)))))))))))))
def spec_BookSame (a : Book) (b : Book) : Option (Bool) :=
 if ((a.Accts.length : Int) != (b.Accts.length : Int)) = true then
  some false
 else
  if (capOk a.Accts.length) = true then
   (spec_BookSame_l0 a b a.Accts []).bind fun r2 =>
   Lo.elim r2 (fun s1 =>
    some true) (fun s2 =>
    some false)
  else none
theorem spec_BookSame_ok (a : Book) (b : Book) : Pn (fun y => Fn Tryz.prog 45 [(false, E50 a), (false, E50 b)] (E4 y) []) (spec_BookSame a b) := by
  unfold spec_BookSame
  exact
   Pn.ite (fun h1 =>
    Pn.some (Fn.of [.wait 6, .nm 9 (V.sc (.int .i64 (a.Accts.length : Int))), .wait 3, .nm 12 (V.sc (.int .i64 (b.Accts.length : Int))), .bit true] (p := [V.sc (.int .i64 ((List.map E34 a.Accts).length : Int)) = V.sc (.int .i64 (a.Accts.length : Int)),
     V.sc (.int .i64 ((List.map E34 b.Accts).length : Int)) = V.sc (.int .i64 (b.Accts.length : Int)),
     ((a.Accts.length : Int) != (b.Accts.length : Int)) = true]) (by kernel_rfl) (cj (len_nm _ _) (cj (len_nm _ _) (cj1 h1))))) (fun h1 =>
    Pn.ite (fun h7 =>
     Pn.bind (fun r2 h8 =>
      Pn.lo (fun s1 h9 =>
       Pn.some (Fn.of [.wait 6, .nm 9 (V.sc (.int .i64 (a.Accts.length : Int))), .wait 3, .nm 12 (V.sc (.int .i64 (b.Accts.length : Int))), .bit false, .wait 2, .nm 16 (V.sc (.int .i64 (a.Accts.length : Int))), .wait 2, .mask [3, 15, 16, 17], .ren [1], .loop (X.out 0) (st 31 [] [] [])] (p := [V.sc (.int .i64 ((List.map E34 a.Accts).length : Int)) = V.sc (.int .i64 (a.Accts.length : Int)),
        V.sc (.int .i64 ((List.map E34 b.Accts).length : Int)) = V.sc (.int .i64 (b.Accts.length : Int)),
        ((a.Accts.length : Int) != (b.Accts.length : Int)) = false,
        V.sc (.int .i64 ((List.map E34 a.Accts).length : Int)) = V.sc (.int .i64 (a.Accts.length : Int)),
        Loop Tryz.prog (sub (codeOf Tryz.prog 45) [1, 1, 0, 1, 0, 0]) (st 31 [(3, V.ptr 0 0), (15, V.sl false 34 (List.map E34 a.Accts)), (16, V.sc (.int .i64 (a.Accts.length : Int))), (17, V.sc (.int .i64 0))] [Blk.box 50 [V.sl false 34 (List.map E34 b.Accts)]] []) (X.out 0) (st 31 [] [] [])]) (by kernel_rfl) (cj (len_nm _ _) (cj (len_nm _ _) (cj h1 (cj (len_nm _ _) (cj1 ((spec_BookSame_l0_ok a b h7 a.Accts [] rfl r2 h8).at h9)))))))) (fun s2 h10 =>
       Pn.some (Fn.of [.wait 6, .nm 9 (V.sc (.int .i64 (a.Accts.length : Int))), .wait 3, .nm 12 (V.sc (.int .i64 (b.Accts.length : Int))), .bit false, .wait 2, .nm 16 (V.sc (.int .i64 (a.Accts.length : Int))), .wait 2, .mask [3, 15, 16, 17], .ren [1], .loop (X.ret) (st 31 [(4, V.sc (.bool false))] [] [])] (p := [V.sc (.int .i64 ((List.map E34 a.Accts).length : Int)) = V.sc (.int .i64 (a.Accts.length : Int)),
        V.sc (.int .i64 ((List.map E34 b.Accts).length : Int)) = V.sc (.int .i64 (b.Accts.length : Int)),
        ((a.Accts.length : Int) != (b.Accts.length : Int)) = false,
        V.sc (.int .i64 ((List.map E34 a.Accts).length : Int)) = V.sc (.int .i64 (a.Accts.length : Int)),
        Loop Tryz.prog (sub (codeOf Tryz.prog 45) [1, 1, 0, 1, 0, 0]) (st 31 [(3, V.ptr 0 0), (15, V.sl false 34 (List.map E34 a.Accts)), (16, V.sc (.int .i64 (a.Accts.length : Int))), (17, V.sc (.int .i64 0))] [Blk.box 50 [V.sl false 34 (List.map E34 b.Accts)]] []) (X.ret) (st 31 [(4, V.sc (.bool false))] [] [])]) (by kernel_rfl) (cj (len_nm _ _) (cj (len_nm _ _) (cj h1 (cj (len_nm _ _) (cj1 ((spec_BookSame_l0_ok a b h7 a.Accts [] rfl r2 h8).at h10)))))))))) (fun h7 =>
     Pn.none))
def spec_SeenSame (a : Book) (b : Book) (now : Int) : Option (Bool) :=
 (spec_BookOk a).bind fun r1 =>
 if r1 = true then
  (spec_BookOk b).bind fun r2 =>
  if r2 = true then
   (spec_l06Time now).bind fun r3 =>
   if r3 = true then
    (spec_BookTime a now).bind fun r4 =>
    (spec_BookTime b now).bind fun r5 =>
    (spec_BookSame r4 r5).bind fun r6 =>
    some r6
   else
    some false
  else
   some false
 else
  some false
theorem spec_SeenSame_ok (a : Book) (b : Book) (now : Int) : Pn (fun y => Fn Tryz.prog 16 [(false, E50 a), (false, E50 b), (false, E3 now)] (E4 y) []) (spec_SeenSame a b now) := by
  unfold spec_SeenSame
  exact
   Pn.bind (fun r1 h1 =>
    Pn.ite (fun h2 =>
     Pn.bind (fun r2 h3 =>
      Pn.ite (fun h4 =>
       Pn.bind (fun r3 h5 =>
        Pn.ite (fun h6 =>
         Pn.bind (fun r4 h7 =>
          Pn.bind (fun r5 h8 =>
           Pn.bind (fun r6 h9 =>
            Pn.some (Fn.of [.draw [], .call [] (E4 r1) [], .bit true, .bit true, .call [] (E4 r2) [], .bit true, .bit true, .bit true, .call [] (E4 r3) [], .bit true, .bit true, .bit true, .bit true, .bit true, .bit true, .call [] (E50 r4) [], .bit true, .call [] (E50 r5) [], .bit true, .call [] (E4 r6) [], .bit true] (p := [Fn Tryz.prog 43 [(false, E50 a)] (E4 r1) [],
             (true || ((E4 r1).nv && nvL [])) = true,
             r1 = true,
             r1 = true,
             Fn Tryz.prog 43 [(false, E50 b)] (E4 r2) [],
             (true || ((E4 r2).nv && nvL [])) = true,
             r1 = true,
             r2 = true,
             r2 = true,
             Fn Tryz.prog 44 [(false, E3 now)] (E4 r3) [],
             (true || ((E4 r3).nv && nvL [])) = true,
             r2 = true,
             r3 = true,
             r3 = true,
             r3 = true,
             r3 = true,
             r3 = true,
             Fn Tryz.prog 46 [(false, E50 a), (false, E3 now)] (E50 r4) [],
             (true || ((E50 r4).nv && nvL [])) = true,
             r3 = true,
             Fn Tryz.prog 46 [(false, E50 b), (false, E3 now)] (E50 r5) [],
             (true || ((E50 r5).nv && nvL [])) = true,
             r3 = true,
             Fn Tryz.prog 45 [(false, E50 r4), (false, E50 r5)] (E4 r6) [],
             (false || ((E4 r6).nv && nvL [])) = true,
             r3 = true]) (by kernel_rfl) (cj (spec_BookOk_ok a r1 h1) (cj rfl (cj h2 (cj h2 (cj (spec_BookOk_ok b r2 h3) (cj rfl (cj h2 (cj h4 (cj h4 (cj (spec_l06Time_ok now r3 h5) (cj rfl (cj h4 (cj h6 (cj h6 (cj h6 (cj h6 (cj h6 (cj (spec_BookTime_ok a now r4 h7) (cj rfl (cj h6 (cj (spec_BookTime_ok b now r5 h8) (cj rfl (cj h6 (cj (spec_BookSame_ok r4 r5 r6 h9) (cj (by simp [V.nv, nvL, nvL_all, nv_E4]) (cj1 h6))))))))))))))))))))))))))))))) (fun h6 =>
         Pn.some (Fn.of [.draw [], .call [] (E4 r1) [], .bit true, .bit true, .call [] (E4 r2) [], .bit true, .bit true, .bit true, .call [] (E4 r3) [], .bit true, .bit false, .bit false, .bit false, .bit false, .bit false, .bit false, .bit false, .bit false] (p := [Fn Tryz.prog 43 [(false, E50 a)] (E4 r1) [],
          (true || ((E4 r1).nv && nvL [])) = true,
          r1 = true,
          r1 = true,
          Fn Tryz.prog 43 [(false, E50 b)] (E4 r2) [],
          (true || ((E4 r2).nv && nvL [])) = true,
          r1 = true,
          r2 = true,
          r2 = true,
          Fn Tryz.prog 44 [(false, E3 now)] (E4 r3) [],
          (true || ((E4 r3).nv && nvL [])) = true,
          r2 = true,
          r3 = false,
          r3 = false,
          r3 = false,
          r3 = false,
          r3 = false,
          r3 = false,
          r3 = false,
          r3 = false]) (by kernel_rfl) (cj (spec_BookOk_ok a r1 h1) (cj rfl (cj h2 (cj h2 (cj (spec_BookOk_ok b r2 h3) (cj rfl (cj h2 (cj h4 (cj h4 (cj (spec_l06Time_ok now r3 h5) (cj rfl (cj h4 (cj h6 (cj h6 (cj h6 (cj h6 (cj h6 (cj h6 (cj h6 (cj1 h6)))))))))))))))))))))))) (fun h4 =>
       Pn.some (Fn.of [.draw [], .call [] (E4 r1) [], .bit true, .bit true, .call [] (E4 r2) [], .bit true, .bit false, .bit false, .bit false, .bit false, .bit false, .bit false, .bit false, .bit false, .bit false, .bit false, .bit false] (p := [Fn Tryz.prog 43 [(false, E50 a)] (E4 r1) [],
        (true || ((E4 r1).nv && nvL [])) = true,
        r1 = true,
        r1 = true,
        Fn Tryz.prog 43 [(false, E50 b)] (E4 r2) [],
        (true || ((E4 r2).nv && nvL [])) = true,
        r1 = true,
        r2 = false,
        r2 = false,
        r2 = false,
        false = false,
        false = false,
        false = false,
        false = false,
        false = false,
        false = false,
        false = false,
        false = false]) (by kernel_rfl) (cj (spec_BookOk_ok a r1 h1) (cj rfl (cj h2 (cj h2 (cj (spec_BookOk_ok b r2 h3) (cj rfl (cj h2 (cj h4 (cj h4 (cj h4 (cj rfl (cj rfl (cj rfl (cj rfl (cj rfl (cj rfl (cj rfl (cj1 rfl)))))))))))))))))))))) (fun h2 =>
     Pn.some (Fn.of [.draw [], .call [] (E4 r1) [], .bit false, .bit false, .bit false, .bit false, .bit false, .bit false, .bit false, .bit false, .bit false, .bit false, .bit false, .bit false, .bit false, .bit false] (p := [Fn Tryz.prog 43 [(false, E50 a)] (E4 r1) [],
      (true || ((E4 r1).nv && nvL [])) = true,
      r1 = false,
      r1 = false,
      r1 = false,
      false = false,
      false = false,
      false = false,
      false = false,
      false = false,
      false = false,
      false = false,
      false = false,
      false = false,
      false = false,
      false = false]) (by kernel_rfl) (cj (spec_BookOk_ok a r1 h1) (cj rfl (cj h2 (cj h2 (cj h2 (cj rfl (cj rfl (cj rfl (cj rfl (cj rfl (cj rfl (cj rfl (cj rfl (cj rfl (cj rfl (cj1 rfl)))))))))))))))))))
def impl_Digits_l0 (s_ : ByteArray) : Nat → Int → Option (Lo Unit Unit)
  | 0, _ => none
  | n + 1, v1 =>
   if (decide (v1 < (s_.size : Int))) = true then
    if (decide (0 ≤ v1)) = true then
     if (decide ((v1 : Int) < (s_.size : Int))) = true then
      if (decide ((sAt s_ v1) < 48)) = true then
       some (.ret ())
      else
       if (decide (57 < (sAt s_ v1))) = true then
        some (.ret ())
       else
        impl_Digits_l0 s_ n (i64 (v1 + 1))
     else none
    else none
   else
    some (.out ())
theorem impl_Digits_l0_ok (s_ : ByteArray) : ∀ (n : Nat) (v1 : Int), Pn (LpO Tryz.prog (sub (codeOf Tryz.prog 139) [1, 0, 1, 0, 0]) (st 22 [(0, V.sc (.string s_)), (5, V.sc (.int .i64 (s_.size : Int))), (6, V.sc (.int .i64 v1))] [] []) (fun (y : Lo Unit Unit) => Lo.elim y (fun s => (X.out 0, st 22 [(0, V.sc (.string s_))] [] [])) (fun s => (X.ret, st 22 [(2, V.sc (.bool false))] [] [])))) (impl_Digits_l0 s_ n v1)
  | 0, _ => Pn.none
  | n + 1, v1 => by
    unfold impl_Digits_l0
    exact
     Pn.ite (fun h1 =>
      Pn.ite (fun h2 =>
       Pn.ite (fun h3 =>
        Pn.ite (fun h4 =>
         Pn.some (LpO.out [.bit true, .bit true, .bit true, .bit true, .bit true, .bit true, .bit true, .wait 1, .mask [2], .ren []] (p := [(decide (v1 < (s_.size : Int))) = true,
          (0 : Int) ≤ v1,
          (v1 : Int) < s_.size,
          (decide ((sAt s_ v1) < 48)) = true,
          (decide ((sAt s_ v1) < 48)) = true,
          (decide ((sAt s_ v1) < 48)) = true,
          (decide ((sAt s_ v1) < 48)) = true,
          (decide ((sAt s_ v1) < 48)) = true,
          true = true]) (by kernel_rfl) (show X.ret ≠ X.go from nofun) (cj h1 (cj (od h2) (cj (od h3) (cj h4 (cj h4 (cj h4 (cj h4 (cj h4 (cj1 rfl))))))))))) (fun h4 =>
         Pn.ite (fun h5 =>
          Pn.some (LpO.out [.bit true, .bit false, .bit false, .bit false, .bit false, .bit false, .bit true, .wait 1, .mask [2], .ren []] (p := [(decide (v1 < (s_.size : Int))) = true,
           (0 : Int) ≤ v1,
           (v1 : Int) < s_.size,
           (decide ((sAt s_ v1) < 48)) = false,
           (decide ((sAt s_ v1) < 48)) = false,
           (decide ((sAt s_ v1) < 48)) = false,
           (0 : Int) ≤ v1,
           (v1 : Int) < s_.size,
           (decide ((sAt s_ v1) < 48)) = false,
           (decide ((sAt s_ v1) < 48)) = false,
           (decide (57 < (sAt s_ v1))) = true]) (by kernel_rfl) (show X.ret ≠ X.go from nofun) (cj h1 (cj (od h2) (cj (od h3) (cj h4 (cj h4 (cj h4 (cj (od h2) (cj (od h3) (cj h4 (cj h4 (cj1 h5))))))))))))) (fun h5 =>
          LpO.go [.bit true, .bit false, .bit false, .bit false, .bit false, .bit false, .bit false, .wait 2, .mask [0, 5, 6], .ren []] (p := [(decide (v1 < (s_.size : Int))) = true,
           (0 : Int) ≤ v1,
           (v1 : Int) < s_.size,
           (decide ((sAt s_ v1) < 48)) = false,
           (decide ((sAt s_ v1) < 48)) = false,
           (decide ((sAt s_ v1) < 48)) = false,
           (0 : Int) ≤ v1,
           (v1 : Int) < s_.size,
           (decide ((sAt s_ v1) < 48)) = false,
           (decide ((sAt s_ v1) < 48)) = false,
           (decide (57 < (sAt s_ v1))) = false]) (by kernel_rfl) (cj h1 (cj (od h2) (cj (od h3) (cj h4 (cj h4 (cj h4 (cj (od h2) (cj (od h3) (cj h4 (cj h4 (cj1 h5))))))))))) (impl_Digits_l0_ok s_ n (i64 (v1 + 1)))))) (fun h3 =>
        Pn.none)) (fun h2 =>
       Pn.none)) (fun h1 =>
      Pn.some (LpO.out [.bit false, .mask [0], .ren []] (p := [(decide (v1 < (s_.size : Int))) = false]) (by kernel_rfl) (show X.out 0 ≠ X.go from nofun) (cj1 h1)))
def impl_Digits (s_ : ByteArray) : Option (Bool) :=
 (impl_Digits_l0 s_ FUEL 0).bind fun r1 =>
 Lo.elim r1 (fun s1 =>
  some (!(s_ == (bs [])))) (fun s2 =>
  some false)
theorem impl_Digits_ok (s_ : ByteArray) : Pn (fun y => Fn Tryz.prog 139 [(false, E9 s_)] (E4 y) []) (impl_Digits s_) := by
  unfold impl_Digits
  exact
   Pn.bind (fun r1 h6 =>
    Pn.lo (fun s1 h7 =>
     Pn.some (Fn.of [.wait 5, .mask [0, 5, 6], .ren [], .loop (X.out 0) (st 22 [(0, V.sc (.string s_))] [] [])] (p := [Loop Tryz.prog (sub (codeOf Tryz.prog 139) [1, 0, 1, 0, 0]) (st 22 [(0, V.sc (.string s_)), (5, V.sc (.int .i64 (s_.size : Int))), (6, V.sc (.int .i64 0))] [] []) (X.out 0) (st 22 [(0, V.sc (.string s_))] [] [])]) (by kernel_rfl) (cj1 ((impl_Digits_l0_ok s_ FUEL 0 r1 h6).at h7)))) (fun s2 h8 =>
     Pn.some (Fn.of [.wait 5, .mask [0, 5, 6], .ren [], .loop (X.ret) (st 22 [(2, V.sc (.bool false))] [] [])] (p := [Loop Tryz.prog (sub (codeOf Tryz.prog 139) [1, 0, 1, 0, 0]) (st 22 [(0, V.sc (.string s_)), (5, V.sc (.int .i64 (s_.size : Int))), (6, V.sc (.int .i64 0))] [] []) (X.ret) (st 22 [(2, V.sc (.bool false))] [] [])]) (by kernel_rfl) (cj1 ((impl_Digits_l0_ok s_ FUEL 0 r1 h6).at h8)))))
def impl_Luhn_l0 (s_ : ByteArray) : Nat → Int → Bool → Int → Option (Int)
  | 0, _, _, _ => none
  | n + 1, v1, v2, v3 =>
   if (decide (0 ≤ v3)) = true then
    if (decide ((v3 : Int) < (s_.size : Int))) = true then
     if v2 = true then
      if (decide (9 < (i64 ((i64 (u8 ((sAt s_ v3) - 48))) * 2)))) = true then
       impl_Luhn_l0 s_ n (i64 (v1 + (i64 ((i64 ((i64 (u8 ((sAt s_ v3) - 48))) * 2)) - 9)))) (!v2) (i64 (v3 - 1))
      else
       impl_Luhn_l0 s_ n (i64 (v1 + (i64 ((i64 (u8 ((sAt s_ v3) - 48))) * 2)))) (!v2) (i64 (v3 - 1))
     else
      impl_Luhn_l0 s_ n (i64 (v1 + (i64 (u8 ((sAt s_ v3) - 48))))) (!v2) (i64 (v3 - 1))
    else none
   else
    some v1
theorem impl_Luhn_l0_ok (s_ : ByteArray) : ∀ (n : Nat) (v1 : Int) (v2 : Bool) (v3 : Int), Pn (LpO Tryz.prog (sub (codeOf Tryz.prog 140) [1, 1, 1, 0, 1, 0, 0]) (st 38 [(0, V.sc (.string s_)), (3, V.sc (.int .i64 v1)), (4, V.sc (.bool v2)), (5, V.sc (.int .i64 v3))] [] []) (fun (y : Int) => (X.out 0, st 38 [(3, V.sc (.int .i64 y))] [] []))) (impl_Luhn_l0 s_ n v1 v2 v3)
  | 0, _, _, _ => Pn.none
  | n + 1, v1, v2, v3 => by
    unfold impl_Luhn_l0
    exact
     Pn.ite (fun h3 =>
      Pn.ite (fun h4 =>
       Pn.ite (fun h5 =>
        Pn.ite (fun h6 =>
         LpO.go [.bit true, .bit true, .bit true, .wait 13, .mask [0, 3, 4, 5], .ren []] (p := [(decide (0 ≤ v3)) = true,
          (0 : Int) ≤ v3,
          (v3 : Int) < s_.size,
          v2 = true,
          (decide (9 < (i64 ((i64 (u8 ((sAt s_ v3) - 48))) * 2)))) = true]) (by kernel_rfl) (cj h3 (cj (od h3) (cj (od h4) (cj h5 (cj1 h6))))) (impl_Luhn_l0_ok s_ n (i64 (v1 + (i64 ((i64 ((i64 (u8 ((sAt s_ v3) - 48))) * 2)) - 9)))) (!v2) (i64 (v3 - 1)))) (fun h6 =>
         LpO.go [.bit true, .bit true, .bit false, .wait 10, .mask [0, 3, 4, 5], .ren []] (p := [(decide (0 ≤ v3)) = true,
          (0 : Int) ≤ v3,
          (v3 : Int) < s_.size,
          v2 = true,
          (decide (9 < (i64 ((i64 (u8 ((sAt s_ v3) - 48))) * 2)))) = false]) (by kernel_rfl) (cj h3 (cj (od h3) (cj (od h4) (cj h5 (cj1 h6))))) (impl_Luhn_l0_ok s_ n (i64 (v1 + (i64 ((i64 (u8 ((sAt s_ v3) - 48))) * 2)))) (!v2) (i64 (v3 - 1))))) (fun h5 =>
        LpO.go [.bit true, .bit false, .wait 10, .mask [0, 3, 4, 5], .ren []] (p := [(decide (0 ≤ v3)) = true,
         (0 : Int) ≤ v3,
         (v3 : Int) < s_.size,
         v2 = false]) (by kernel_rfl) (cj h3 (cj (od h3) (cj (od h4) (cj1 h5)))) (impl_Luhn_l0_ok s_ n (i64 (v1 + (i64 (u8 ((sAt s_ v3) - 48))))) (!v2) (i64 (v3 - 1))))) (fun h4 =>
       Pn.none)) (fun h3 =>
      Pn.some (LpO.out [.bit false, .mask [3], .ren []] (p := [(decide (0 ≤ v3)) = false]) (by kernel_rfl) (show X.out 0 ≠ X.go from nofun) (cj1 h3)))
def impl_Luhn (s_ : ByteArray) : Option (Int) :=
 (impl_Digits s_).bind fun r1 =>
 if r1 = true then
  (impl_Luhn_l0 s_ FUEL 0 true (i64 ((s_.size : Int) - 1))).bind fun r2 =>
  some (Int.tmod (i64 (10 - (Int.tmod r2 10))) 10)
 else
  some (-1)
theorem impl_Luhn_ok (s_ : ByteArray) : Pn (fun y => Fn Tryz.prog 140 [(false, E9 s_)] (E3 y) []) (impl_Luhn s_) := by
  unfold impl_Luhn
  exact
   Pn.bind (fun r1 h1 =>
    Pn.ite (fun h2 =>
     Pn.bind (fun r2 h7 =>
      Pn.some (Fn.of [.call [] (E4 r1) [], .bit false, .wait 6, .mask [0, 3, 4, 5], .ren [], .loop (X.out 0) (st 38 [(3, V.sc (.int .i64 r2))] [] [])] (p := [Fn Tryz.prog 139 [(false, E9 s_)] (E4 r1) [],
       (true || ((E4 r1).nv && nvL [])) = true,
       (!r1) = false,
       Loop Tryz.prog (sub (codeOf Tryz.prog 140) [1, 1, 1, 0, 1, 0, 0]) (st 38 [(0, V.sc (.string s_)), (3, V.sc (.int .i64 0)), (4, V.sc (.bool true)), (5, V.sc (.int .i64 (i64 ((s_.size : Int) - 1))))] [] []) (X.out 0) (st 38 [(3, V.sc (.int .i64 r2))] [] []),
       (10 : Int) ≠ 0,
       (10 : Int) ≠ 0]) (by kernel_rfl) (cj (impl_Digits_ok s_ r1 h1) (cj rfl (cj (nf h2) (cj (impl_Luhn_l0_ok s_ FUEL 0 true (i64 ((s_.size : Int) - 1)) r2 h7) (cj (by decide) (cj1 (by decide)))))))))) (fun h2 =>
     Pn.some (Fn.of [.call [] (E4 r1) [], .bit true] (p := [Fn Tryz.prog 139 [(false, E9 s_)] (E4 r1) [],
      (true || ((E4 r1).nv && nvL [])) = true,
      (!r1) = true]) (by kernel_rfl) (cj (impl_Digits_ok s_ r1 h1) (cj rfl (cj1 (nt h2)))))))
def impl_LuhnOk (s_ : ByteArray) : Option (Bool) :=
 if (decide (1 ≤ (i64 ((s_.size : Int) - 1)))) = true then
  (impl_Digits s_).bind fun r1 =>
  if r1 = true then
   if (decide (0 ≤ (i64 ((s_.size : Int) - 1)))) = true then
    if (decide ((i64 ((s_.size : Int) - 1)) ≤ (s_.size : Int))) = true then
     if (decide (0 ≤ i64 ((s_.size : Int) - 1))) = true then
      if (decide ((i64 ((s_.size : Int) - 1) : Int) < (s_.size : Int))) = true then
       (impl_Luhn (s_.extract 0 (i64 ((s_.size : Int) - 1)).toNat)).bind fun r2 =>
       some (r2 == (i64 (u8 ((sAt s_ (i64 ((s_.size : Int) - 1))) - 48))))
      else none
     else none
    else none
   else none
  else
   some false
 else
  some false
theorem impl_LuhnOk_ok (s_ : ByteArray) : Pn (fun y => Fn Tryz.prog 123 [(false, E9 s_)] (E4 y) []) (impl_LuhnOk s_) := by
  unfold impl_LuhnOk
  exact
   Pn.ite (fun h1 =>
    Pn.bind (fun r1 h2 =>
     Pn.ite (fun h3 =>
      Pn.ite (fun h4 =>
       Pn.ite (fun h5 =>
        Pn.ite (fun h6 =>
         Pn.ite (fun h7 =>
          Pn.bind (fun r2 h8 =>
           Pn.some (Fn.of [.draw [], .bit true, .bit true, .call [] (E4 r1) [], .bit true, .bit true, .bit true, .bit true, .bit true, .bit true, .bit true, .bit true, .bit true, .bit true, .call [] (E3 r2) [], .bit true, .bit true] (p := [(decide (1 ≤ (i64 ((s_.size : Int) - 1)))) = true,
            (decide (1 ≤ (i64 ((s_.size : Int) - 1)))) = true,
            Fn Tryz.prog 139 [(false, E9 s_)] (E4 r1) [],
            (true || ((E4 r1).nv && nvL [])) = true,
            (decide (1 ≤ (i64 ((s_.size : Int) - 1)))) = true,
            r1 = true,
            r1 = true,
            r1 = true,
            (0 : Int) ≤ 0,
            (0 : Int) ≤ (i64 ((s_.size : Int) - 1)),
            ((i64 ((s_.size : Int) - 1)) : Int) ≤ (s_.size : Int),
            r1 = true,
            r1 = true,
            r1 = true,
            (0 : Int) ≤ i64 ((s_.size : Int) - 1),
            (i64 ((s_.size : Int) - 1) : Int) < s_.size,
            r1 = true,
            r1 = true,
            r1 = true,
            Fn Tryz.prog 140 [(false, E9 (s_.extract 0 (i64 ((s_.size : Int) - 1)).toNat))] (E3 r2) [],
            (true || ((E3 r2).nv && nvL [])) = true,
            r1 = true,
            r1 = true]) (by kernel_rfl) (cj h1 (cj h1 (cj (impl_Digits_ok s_ r1 h2) (cj rfl (cj h1 (cj h3 (cj h3 (cj h3 (cj (by decide) (cj (od h4) (cj (od h5) (cj h3 (cj h3 (cj h3 (cj (od h6) (cj (od h7) (cj h3 (cj h3 (cj h3 (cj (impl_Luhn_ok (s_.extract 0 (i64 ((s_.size : Int) - 1)).toNat) r2 h8) (cj rfl (cj h3 (cj1 h3)))))))))))))))))))))))))) (fun h7 =>
          Pn.none)) (fun h6 =>
         Pn.none)) (fun h5 =>
        Pn.none)) (fun h4 =>
       Pn.none)) (fun h3 =>
      Pn.some (Fn.of [.draw [], .bit true, .bit true, .call [] (E4 r1) [], .bit true, .bit false, .bit false, .bit false, .bit false, .bit false, .bit false, .bit false, .bit false, .bit false, .bit false, .bit false] (p := [(decide (1 ≤ (i64 ((s_.size : Int) - 1)))) = true,
       (decide (1 ≤ (i64 ((s_.size : Int) - 1)))) = true,
       Fn Tryz.prog 139 [(false, E9 s_)] (E4 r1) [],
       (true || ((E4 r1).nv && nvL [])) = true,
       (decide (1 ≤ (i64 ((s_.size : Int) - 1)))) = true,
       r1 = false,
       r1 = false,
       r1 = false,
       r1 = false,
       r1 = false,
       r1 = false,
       r1 = false,
       r1 = false,
       r1 = false,
       r1 = false,
       r1 = false]) (by kernel_rfl) (cj h1 (cj h1 (cj (impl_Digits_ok s_ r1 h2) (cj rfl (cj h1 (cj h3 (cj h3 (cj h3 (cj h3 (cj h3 (cj h3 (cj h3 (cj h3 (cj h3 (cj h3 (cj1 h3)))))))))))))))))))) (fun h1 =>
    Pn.some (Fn.of [.draw [], .bit false, .bit false, .bit false, .bit false, .bit false, .bit false, .bit false, .bit false, .bit false, .bit false, .bit false, .bit false, .bit false, .bit false] (p := [(decide (1 ≤ (i64 ((s_.size : Int) - 1)))) = false,
     (decide (1 ≤ (i64 ((s_.size : Int) - 1)))) = false,
     (decide (1 ≤ (i64 ((s_.size : Int) - 1)))) = false,
     false = false,
     false = false,
     false = false,
     false = false,
     false = false,
     false = false,
     false = false,
     false = false,
     false = false,
     false = false,
     false = false]) (by kernel_rfl) (cj h1 (cj h1 (cj h1 (cj rfl (cj rfl (cj rfl (cj rfl (cj rfl (cj rfl (cj rfl (cj rfl (cj rfl (cj rfl (cj1 rfl))))))))))))))))
def impl_AcctIdOk (s_ : ByteArray) : Option (Bool) :=
 if (decide ((s_.size : Int) ≤ 19)) = true then
  (impl_LuhnOk s_).bind fun r1 =>
  some r1
 else
  some false
theorem impl_AcctIdOk_ok (s_ : ByteArray) : Pn (fun y => Fn Tryz.prog 105 [(false, E9 s_)] (E4 y) []) (impl_AcctIdOk s_) := by
  unfold impl_AcctIdOk
  exact
   Pn.ite (fun h1 =>
    Pn.bind (fun r1 h2 =>
     Pn.some (Fn.of [.bit true, .bit true, .call [] (E4 r1) [], .bit true] (p := [(decide ((s_.size : Int) ≤ 19)) = true,
      (decide ((s_.size : Int) ≤ 19)) = true,
      Fn Tryz.prog 123 [(false, E9 s_)] (E4 r1) [],
      (true || ((E4 r1).nv && nvL [])) = true,
      (decide ((s_.size : Int) ≤ 19)) = true]) (by kernel_rfl) (cj h1 (cj h1 (cj (impl_LuhnOk_ok s_ r1 h2) (cj rfl (cj1 h1)))))))) (fun h1 =>
    Pn.some (Fn.of [.bit false, .bit false, .bit false] (p := [(decide ((s_.size : Int) ≤ 19)) = false,
     (decide ((s_.size : Int) ≤ 19)) = false,
     (decide ((s_.size : Int) ≤ 19)) = false]) (by kernel_rfl) (cj h1 (cj h1 (cj1 h1)))))
def impl_within (n : Int) (low : Int) (high : Int) : Option (Bool) :=
 if (decide (low ≤ n)) = true then
  some (decide (n ≤ high))
 else
  some false
theorem impl_within_ok (n : Int) (low : Int) (high : Int) : Pn (fun y => Fn Tryz.prog 66 [(false, E3 n), (false, E3 low), (false, E3 high)] (E4 y) []) (impl_within n low high) := by
  unfold impl_within
  exact
   Pn.ite (fun h1 =>
    Pn.some (Fn.of [.bit true, .bit true, .bit true, .bit true] (p := [(decide (low ≤ n)) = true,
     (decide (low ≤ n)) = true,
     (decide (low ≤ n)) = true,
     (decide (low ≤ n)) = true]) (by kernel_rfl) (cj h1 (cj h1 (cj h1 (cj1 h1)))))) (fun h1 =>
    Pn.some (Fn.of [.bit false, .bit false, .bit false, .bit false] (p := [(decide (low ≤ n)) = false,
     (decide (low ≤ n)) = false,
     (decide (low ≤ n)) = false,
     (decide (low ≤ n)) = false]) (by kernel_rfl) (cj h1 (cj h1 (cj h1 (cj1 h1))))))
def impl_isMoney (n : Int) : Option (Bool) :=
 (impl_within n 0 4611686018427387904).bind fun r1 =>
 some r1
theorem impl_isMoney_ok (n : Int) : Pn (fun y => Fn Tryz.prog 106 [(false, E3 n)] (E4 y) []) (impl_isMoney n) := by
  unfold impl_isMoney
  exact
   Pn.bind (fun r1 h1 =>
    Pn.some (Fn.of [.call [] (E4 r1) []] (p := [Fn Tryz.prog 66 [(false, E3 n), (false, E3 0), (false, E3 4611686018427387904)] (E4 r1) [],
     (true || ((E4 r1).nv && nvL [])) = true]) (by kernel_rfl) (cj (impl_within_ok n 0 4611686018427387904 r1 h1) (cj1 rfl))))
def impl_HoldIdOk_l0 (s_ : ByteArray) : Nat → Int → Option (Lo Unit Unit)
  | 0, _ => none
  | n + 1, v1 =>
   if (decide (v1 < (s_.size : Int))) = true then
    if (decide (0 ≤ v1)) = true then
     if (decide ((v1 : Int) < (s_.size : Int))) = true then
      if (decide ((sAt s_ v1) < 48)) = true then
       if (decide ((sAt s_ v1) < 97)) = true then
        some (.ret ())
       else
        if (decide (122 < (sAt s_ v1))) = true then
         some (.ret ())
        else
         impl_HoldIdOk_l0 s_ n (i64 (v1 + 1))
      else
       if (decide (57 < (sAt s_ v1))) = true then
        if (decide ((sAt s_ v1) < 97)) = true then
         some (.ret ())
        else
         if (decide (122 < (sAt s_ v1))) = true then
          some (.ret ())
         else
          impl_HoldIdOk_l0 s_ n (i64 (v1 + 1))
       else
        impl_HoldIdOk_l0 s_ n (i64 (v1 + 1))
     else none
    else none
   else
    some (.out ())
theorem impl_HoldIdOk_l0_ok (s_ : ByteArray) : ∀ (n : Nat) (v1 : Int), Pn (LpO Tryz.prog (sub (codeOf Tryz.prog 65) [1, 0, 1, 0, 0]) (st 35 [(0, V.sc (.string s_)), (5, V.sc (.int .i64 (s_.size : Int))), (6, V.sc (.int .i64 v1))] [] []) (fun (y : Lo Unit Unit) => Lo.elim y (fun s => (X.out 0, st 35 [(0, V.sc (.string s_))] [] [])) (fun s => (X.ret, st 35 [(2, V.sc (.bool false))] [] [])))) (impl_HoldIdOk_l0 s_ n v1)
  | 0, _ => Pn.none
  | n + 1, v1 => by
    unfold impl_HoldIdOk_l0
    exact
     Pn.ite (fun h1 =>
      Pn.ite (fun h2 =>
       Pn.ite (fun h3 =>
        Pn.ite (fun h4 =>
         Pn.ite (fun h5 =>
          Pn.some (LpO.out [.bit true, .bit true, .bit true, .bit true, .bit true, .bit true, .bit true, .bit true, .bit true, .bit true, .bit true, .bit true, .bit true, .bit true, .bit true, .bit true, .bit true, .bit true, .bit true, .wait 1, .mask [2], .ren []] (p := [(decide (v1 < (s_.size : Int))) = true,
           (0 : Int) ≤ v1,
           (v1 : Int) < s_.size,
           (decide ((sAt s_ v1) < 48)) = true,
           (decide ((sAt s_ v1) < 48)) = true,
           (decide ((sAt s_ v1) < 48)) = true,
           (decide ((sAt s_ v1) < 48)) = true,
           (decide ((sAt s_ v1) < 48)) = true,
           true = true,
           true = true,
           true = true,
           (0 : Int) ≤ v1,
           (v1 : Int) < s_.size,
           true = true,
           true = true,
           (decide ((sAt s_ v1) < 97)) = true,
           (decide ((sAt s_ v1) < 97)) = true,
           (decide ((sAt s_ v1) < 97)) = true,
           (decide ((sAt s_ v1) < 97)) = true,
           true = true,
           (decide ((sAt s_ v1) < 97)) = true,
           true = true,
           true = true]) (by kernel_rfl) (show X.ret ≠ X.go from nofun) (cj h1 (cj (od h2) (cj (od h3) (cj h4 (cj h4 (cj h4 (cj h4 (cj h4 (cj rfl (cj rfl (cj rfl (cj (od h2) (cj (od h3) (cj rfl (cj rfl (cj h5 (cj h5 (cj h5 (cj h5 (cj rfl (cj h5 (cj rfl (cj1 rfl))))))))))))))))))))))))) (fun h5 =>
          Pn.ite (fun h6 =>
           Pn.some (LpO.out [.bit true, .bit true, .bit true, .bit true, .bit true, .bit true, .bit true, .bit true, .bit true, .bit true, .bit true, .bit false, .bit false, .bit false, .bit false, .bit true, .bit false, .bit true, .bit true, .wait 1, .mask [2], .ren []] (p := [(decide (v1 < (s_.size : Int))) = true,
            (0 : Int) ≤ v1,
            (v1 : Int) < s_.size,
            (decide ((sAt s_ v1) < 48)) = true,
            (decide ((sAt s_ v1) < 48)) = true,
            (decide ((sAt s_ v1) < 48)) = true,
            (decide ((sAt s_ v1) < 48)) = true,
            (decide ((sAt s_ v1) < 48)) = true,
            true = true,
            true = true,
            true = true,
            (0 : Int) ≤ v1,
            (v1 : Int) < s_.size,
            true = true,
            true = true,
            (decide ((sAt s_ v1) < 97)) = false,
            (decide ((sAt s_ v1) < 97)) = false,
            (decide ((sAt s_ v1) < 97)) = false,
            (0 : Int) ≤ v1,
            (v1 : Int) < s_.size,
            (decide ((sAt s_ v1) < 97)) = false,
            true = true,
            (decide ((sAt s_ v1) < 97)) = false,
            true = true,
            (decide (122 < (sAt s_ v1))) = true]) (by kernel_rfl) (show X.ret ≠ X.go from nofun) (cj h1 (cj (od h2) (cj (od h3) (cj h4 (cj h4 (cj h4 (cj h4 (cj h4 (cj rfl (cj rfl (cj rfl (cj (od h2) (cj (od h3) (cj rfl (cj rfl (cj h5 (cj h5 (cj h5 (cj (od h2) (cj (od h3) (cj h5 (cj rfl (cj h5 (cj rfl (cj1 h6))))))))))))))))))))))))))) (fun h6 =>
           LpO.go [.bit true, .bit true, .bit true, .bit true, .bit true, .bit true, .bit true, .bit true, .bit true, .bit true, .bit true, .bit false, .bit false, .bit false, .bit false, .bit true, .bit false, .bit true, .bit false, .wait 2, .mask [0, 5, 6], .ren []] (p := [(decide (v1 < (s_.size : Int))) = true,
            (0 : Int) ≤ v1,
            (v1 : Int) < s_.size,
            (decide ((sAt s_ v1) < 48)) = true,
            (decide ((sAt s_ v1) < 48)) = true,
            (decide ((sAt s_ v1) < 48)) = true,
            (decide ((sAt s_ v1) < 48)) = true,
            (decide ((sAt s_ v1) < 48)) = true,
            true = true,
            true = true,
            true = true,
            (0 : Int) ≤ v1,
            (v1 : Int) < s_.size,
            true = true,
            true = true,
            (decide ((sAt s_ v1) < 97)) = false,
            (decide ((sAt s_ v1) < 97)) = false,
            (decide ((sAt s_ v1) < 97)) = false,
            (0 : Int) ≤ v1,
            (v1 : Int) < s_.size,
            (decide ((sAt s_ v1) < 97)) = false,
            true = true,
            (decide ((sAt s_ v1) < 97)) = false,
            true = true,
            (decide (122 < (sAt s_ v1))) = false]) (by kernel_rfl) (cj h1 (cj (od h2) (cj (od h3) (cj h4 (cj h4 (cj h4 (cj h4 (cj h4 (cj rfl (cj rfl (cj rfl (cj (od h2) (cj (od h3) (cj rfl (cj rfl (cj h5 (cj h5 (cj h5 (cj (od h2) (cj (od h3) (cj h5 (cj rfl (cj h5 (cj rfl (cj1 h6))))))))))))))))))))))))) (impl_HoldIdOk_l0_ok s_ n (i64 (v1 + 1)))))) (fun h4 =>
         Pn.ite (fun h7 =>
          Pn.ite (fun h8 =>
           Pn.some (LpO.out [.bit true, .bit false, .bit false, .bit false, .bit false, .bit false, .bit true, .bit true, .bit true, .bit true, .bit true, .bit true, .bit true, .bit true, .bit true, .bit true, .bit true, .bit true, .bit true, .wait 1, .mask [2], .ren []] (p := [(decide (v1 < (s_.size : Int))) = true,
            (0 : Int) ≤ v1,
            (v1 : Int) < s_.size,
            (decide ((sAt s_ v1) < 48)) = false,
            (decide ((sAt s_ v1) < 48)) = false,
            (decide ((sAt s_ v1) < 48)) = false,
            (0 : Int) ≤ v1,
            (v1 : Int) < s_.size,
            (decide ((sAt s_ v1) < 48)) = false,
            (decide ((sAt s_ v1) < 48)) = false,
            (decide (57 < (sAt s_ v1))) = true,
            (decide (57 < (sAt s_ v1))) = true,
            (decide (57 < (sAt s_ v1))) = true,
            (0 : Int) ≤ v1,
            (v1 : Int) < s_.size,
            (decide (57 < (sAt s_ v1))) = true,
            (decide (57 < (sAt s_ v1))) = true,
            (decide ((sAt s_ v1) < 97)) = true,
            (decide ((sAt s_ v1) < 97)) = true,
            (decide ((sAt s_ v1) < 97)) = true,
            (decide ((sAt s_ v1) < 97)) = true,
            (decide (57 < (sAt s_ v1))) = true,
            (decide ((sAt s_ v1) < 97)) = true,
            (decide (57 < (sAt s_ v1))) = true,
            true = true]) (by kernel_rfl) (show X.ret ≠ X.go from nofun) (cj h1 (cj (od h2) (cj (od h3) (cj h4 (cj h4 (cj h4 (cj (od h2) (cj (od h3) (cj h4 (cj h4 (cj h7 (cj h7 (cj h7 (cj (od h2) (cj (od h3) (cj h7 (cj h7 (cj h8 (cj h8 (cj h8 (cj h8 (cj h7 (cj h8 (cj h7 (cj1 rfl))))))))))))))))))))))))))) (fun h8 =>
           Pn.ite (fun h9 =>
            Pn.some (LpO.out [.bit true, .bit false, .bit false, .bit false, .bit false, .bit false, .bit true, .bit true, .bit true, .bit true, .bit true, .bit false, .bit false, .bit false, .bit false, .bit true, .bit false, .bit true, .bit true, .wait 1, .mask [2], .ren []] (p := [(decide (v1 < (s_.size : Int))) = true,
             (0 : Int) ≤ v1,
             (v1 : Int) < s_.size,
             (decide ((sAt s_ v1) < 48)) = false,
             (decide ((sAt s_ v1) < 48)) = false,
             (decide ((sAt s_ v1) < 48)) = false,
             (0 : Int) ≤ v1,
             (v1 : Int) < s_.size,
             (decide ((sAt s_ v1) < 48)) = false,
             (decide ((sAt s_ v1) < 48)) = false,
             (decide (57 < (sAt s_ v1))) = true,
             (decide (57 < (sAt s_ v1))) = true,
             (decide (57 < (sAt s_ v1))) = true,
             (0 : Int) ≤ v1,
             (v1 : Int) < s_.size,
             (decide (57 < (sAt s_ v1))) = true,
             (decide (57 < (sAt s_ v1))) = true,
             (decide ((sAt s_ v1) < 97)) = false,
             (decide ((sAt s_ v1) < 97)) = false,
             (decide ((sAt s_ v1) < 97)) = false,
             (0 : Int) ≤ v1,
             (v1 : Int) < s_.size,
             (decide ((sAt s_ v1) < 97)) = false,
             (decide (57 < (sAt s_ v1))) = true,
             (decide ((sAt s_ v1) < 97)) = false,
             (decide (57 < (sAt s_ v1))) = true,
             (decide (122 < (sAt s_ v1))) = true]) (by kernel_rfl) (show X.ret ≠ X.go from nofun) (cj h1 (cj (od h2) (cj (od h3) (cj h4 (cj h4 (cj h4 (cj (od h2) (cj (od h3) (cj h4 (cj h4 (cj h7 (cj h7 (cj h7 (cj (od h2) (cj (od h3) (cj h7 (cj h7 (cj h8 (cj h8 (cj h8 (cj (od h2) (cj (od h3) (cj h8 (cj h7 (cj h8 (cj h7 (cj1 h9))))))))))))))))))))))))))))) (fun h9 =>
            LpO.go [.bit true, .bit false, .bit false, .bit false, .bit false, .bit false, .bit true, .bit true, .bit true, .bit true, .bit true, .bit false, .bit false, .bit false, .bit false, .bit true, .bit false, .bit true, .bit false, .wait 2, .mask [0, 5, 6], .ren []] (p := [(decide (v1 < (s_.size : Int))) = true,
             (0 : Int) ≤ v1,
             (v1 : Int) < s_.size,
             (decide ((sAt s_ v1) < 48)) = false,
             (decide ((sAt s_ v1) < 48)) = false,
             (decide ((sAt s_ v1) < 48)) = false,
             (0 : Int) ≤ v1,
             (v1 : Int) < s_.size,
             (decide ((sAt s_ v1) < 48)) = false,
             (decide ((sAt s_ v1) < 48)) = false,
             (decide (57 < (sAt s_ v1))) = true,
             (decide (57 < (sAt s_ v1))) = true,
             (decide (57 < (sAt s_ v1))) = true,
             (0 : Int) ≤ v1,
             (v1 : Int) < s_.size,
             (decide (57 < (sAt s_ v1))) = true,
             (decide (57 < (sAt s_ v1))) = true,
             (decide ((sAt s_ v1) < 97)) = false,
             (decide ((sAt s_ v1) < 97)) = false,
             (decide ((sAt s_ v1) < 97)) = false,
             (0 : Int) ≤ v1,
             (v1 : Int) < s_.size,
             (decide ((sAt s_ v1) < 97)) = false,
             (decide (57 < (sAt s_ v1))) = true,
             (decide ((sAt s_ v1) < 97)) = false,
             (decide (57 < (sAt s_ v1))) = true,
             (decide (122 < (sAt s_ v1))) = false]) (by kernel_rfl) (cj h1 (cj (od h2) (cj (od h3) (cj h4 (cj h4 (cj h4 (cj (od h2) (cj (od h3) (cj h4 (cj h4 (cj h7 (cj h7 (cj h7 (cj (od h2) (cj (od h3) (cj h7 (cj h7 (cj h8 (cj h8 (cj h8 (cj (od h2) (cj (od h3) (cj h8 (cj h7 (cj h8 (cj h7 (cj1 h9))))))))))))))))))))))))))) (impl_HoldIdOk_l0_ok s_ n (i64 (v1 + 1)))))) (fun h7 =>
          LpO.go [.bit true, .bit false, .bit false, .bit false, .bit false, .bit false, .bit false, .bit false, .bit false, .bit false, .bit false, .bit false, .bit false, .bit false, .wait 2, .mask [0, 5, 6], .ren []] (p := [(decide (v1 < (s_.size : Int))) = true,
           (0 : Int) ≤ v1,
           (v1 : Int) < s_.size,
           (decide ((sAt s_ v1) < 48)) = false,
           (decide ((sAt s_ v1) < 48)) = false,
           (decide ((sAt s_ v1) < 48)) = false,
           (0 : Int) ≤ v1,
           (v1 : Int) < s_.size,
           (decide ((sAt s_ v1) < 48)) = false,
           (decide ((sAt s_ v1) < 48)) = false,
           (decide (57 < (sAt s_ v1))) = false,
           (decide (57 < (sAt s_ v1))) = false,
           (decide (57 < (sAt s_ v1))) = false,
           (decide (57 < (sAt s_ v1))) = false,
           (decide (57 < (sAt s_ v1))) = false,
           (decide (57 < (sAt s_ v1))) = false,
           (decide (57 < (sAt s_ v1))) = false,
           false = false]) (by kernel_rfl) (cj h1 (cj (od h2) (cj (od h3) (cj h4 (cj h4 (cj h4 (cj (od h2) (cj (od h3) (cj h4 (cj h4 (cj h7 (cj h7 (cj h7 (cj h7 (cj h7 (cj h7 (cj h7 (cj1 rfl)))))))))))))))))) (impl_HoldIdOk_l0_ok s_ n (i64 (v1 + 1)))))) (fun h3 =>
        Pn.none)) (fun h2 =>
       Pn.none)) (fun h1 =>
      Pn.some (LpO.out [.bit false, .mask [0], .ren []] (p := [(decide (v1 < (s_.size : Int))) = false]) (by kernel_rfl) (show X.out 0 ≠ X.go from nofun) (cj1 h1)))
def impl_HoldIdOk (s_ : ByteArray) : Option (Bool) :=
 (impl_HoldIdOk_l0 s_ FUEL 0).bind fun r1 =>
 Lo.elim r1 (fun s1 =>
  (impl_within (s_.size : Int) 1 6).bind fun r2 =>
  some r2) (fun s2 =>
  some false)
theorem impl_HoldIdOk_ok (s_ : ByteArray) : Pn (fun y => Fn Tryz.prog 65 [(false, E9 s_)] (E4 y) []) (impl_HoldIdOk s_) := by
  unfold impl_HoldIdOk
  exact
   Pn.bind (fun r1 h10 =>
    Pn.lo (fun s1 h11 =>
     Pn.bind (fun r2 h13 =>
      Pn.some (Fn.of [.wait 5, .mask [0, 5, 6], .ren [], .loop (X.out 0) (st 35 [(0, V.sc (.string s_))] [] []), .call [] (E4 r2) []] (p := [Loop Tryz.prog (sub (codeOf Tryz.prog 65) [1, 0, 1, 0, 0]) (st 35 [(0, V.sc (.string s_)), (5, V.sc (.int .i64 (s_.size : Int))), (6, V.sc (.int .i64 0))] [] []) (X.out 0) (st 35 [(0, V.sc (.string s_))] [] []),
       Fn Tryz.prog 66 [(false, E3 (s_.size : Int)), (false, E3 1), (false, E3 6)] (E4 r2) [],
       (true || ((E4 r2).nv && nvL [])) = true]) (by kernel_rfl) (cj ((impl_HoldIdOk_l0_ok s_ FUEL 0 r1 h10).at h11) (cj (impl_within_ok (s_.size : Int) 1 6 r2 h13) (cj1 rfl)))))) (fun s2 h12 =>
     Pn.some (Fn.of [.wait 5, .mask [0, 5, 6], .ren [], .loop (X.ret) (st 35 [(2, V.sc (.bool false))] [] [])] (p := [Loop Tryz.prog (sub (codeOf Tryz.prog 65) [1, 0, 1, 0, 0]) (st 35 [(0, V.sc (.string s_)), (5, V.sc (.int .i64 (s_.size : Int))), (6, V.sc (.int .i64 0))] [] []) (X.ret) (st 35 [(2, V.sc (.bool false))] [] [])]) (by kernel_rfl) (cj1 ((impl_HoldIdOk_l0_ok s_ FUEL 0 r1 h10).at h12)))))
def impl_isTime (n : Int) : Option (Bool) :=
 (impl_within n 0 1000000000).bind fun r1 =>
 some r1
theorem impl_isTime_ok (n : Int) : Pn (fun y => Fn Tryz.prog 49 [(false, E3 n)] (E4 y) []) (impl_isTime n) := by
  unfold impl_isTime
  exact
   Pn.bind (fun r1 h1 =>
    Pn.some (Fn.of [.call [] (E4 r1) []] (p := [Fn Tryz.prog 66 [(false, E3 n), (false, E3 0), (false, E3 1000000000)] (E4 r1) [],
     (true || ((E4 r1).nv && nvL [])) = true]) (by kernel_rfl) (cj (impl_within_ok n 0 1000000000 r1 h1) (cj1 rfl))))
def impl_HoldOk (h_ : Hold) : Option (Bool) :=
 (impl_HoldIdOk h_.Id).bind fun r1 =>
 if r1 = true then
  (impl_within h_.Amount 1 9007199254740992).bind fun r2 =>
  if r2 = true then
   (impl_isTime h_.Due).bind fun r3 =>
   some r3
  else
   some false
 else
  some false
theorem impl_HoldOk_ok (h_ : Hold) : Pn (fun y => Fn Tryz.prog 124 [(false, E74 h_)] (E4 y) []) (impl_HoldOk h_) := by
  unfold impl_HoldOk
  exact
   Pn.bind (fun r1 h1 =>
    Pn.ite (fun h2 =>
     Pn.bind (fun r2 h3 =>
      Pn.ite (fun h4 =>
       Pn.bind (fun r3 h5 =>
        Pn.some (Fn.of [.call [] (E4 r1) [], .bit true, .bit true, .bit true, .call [] (E4 r2) [], .bit true, .bit true, .bit true, .bit true, .call [] (E4 r3) [], .bit true] (p := [Fn Tryz.prog 65 [(false, E9 h_.Id)] (E4 r1) [],
         (true || ((E4 r1).nv && nvL [])) = true,
         r1 = true,
         r1 = true,
         r1 = true,
         Fn Tryz.prog 66 [(false, E3 h_.Amount), (false, E3 1), (false, E3 9007199254740992)] (E4 r2) [],
         (true || ((E4 r2).nv && nvL [])) = true,
         r1 = true,
         r2 = true,
         r2 = true,
         r2 = true,
         Fn Tryz.prog 49 [(false, E3 h_.Due)] (E4 r3) [],
         (true || ((E4 r3).nv && nvL [])) = true,
         r2 = true]) (by kernel_rfl) (cj (impl_HoldIdOk_ok h_.Id r1 h1) (cj rfl (cj h2 (cj h2 (cj h2 (cj (impl_within_ok h_.Amount 1 9007199254740992 r2 h3) (cj rfl (cj h2 (cj h4 (cj h4 (cj h4 (cj (impl_isTime_ok h_.Due r3 h5) (cj rfl (cj1 h4))))))))))))))))) (fun h4 =>
       Pn.some (Fn.of [.call [] (E4 r1) [], .bit true, .bit true, .bit true, .call [] (E4 r2) [], .bit true, .bit false, .bit false, .bit false, .bit false] (p := [Fn Tryz.prog 65 [(false, E9 h_.Id)] (E4 r1) [],
        (true || ((E4 r1).nv && nvL [])) = true,
        r1 = true,
        r1 = true,
        r1 = true,
        Fn Tryz.prog 66 [(false, E3 h_.Amount), (false, E3 1), (false, E3 9007199254740992)] (E4 r2) [],
        (true || ((E4 r2).nv && nvL [])) = true,
        r1 = true,
        r2 = false,
        r2 = false,
        r2 = false,
        r2 = false]) (by kernel_rfl) (cj (impl_HoldIdOk_ok h_.Id r1 h1) (cj rfl (cj h2 (cj h2 (cj h2 (cj (impl_within_ok h_.Amount 1 9007199254740992 r2 h3) (cj rfl (cj h2 (cj h4 (cj h4 (cj h4 (cj1 h4)))))))))))))))) (fun h2 =>
     Pn.some (Fn.of [.call [] (E4 r1) [], .bit false, .bit false, .bit false, .bit false, .bit false, .bit false, .bit false, .bit false] (p := [Fn Tryz.prog 65 [(false, E9 h_.Id)] (E4 r1) [],
      (true || ((E4 r1).nv && nvL [])) = true,
      r1 = false,
      r1 = false,
      r1 = false,
      r1 = false,
      false = false,
      false = false,
      false = false,
      false = false]) (by kernel_rfl) (cj (impl_HoldIdOk_ok h_.Id r1 h1) (cj rfl (cj h2 (cj h2 (cj h2 (cj h2 (cj rfl (cj rfl (cj rfl (cj1 rfl)))))))))))))
def impl_HoldsOk_l0 (l : List Hold) : List Hold → List Hold → Option (Lo Unit Unit)
  | [], p1 =>
   some (.out ())
  | x1 :: t1, p1 =>
   (impl_HoldOk x1).bind fun r1 =>
   if r1 = true then
    if (decide (0 < (p1.length : Int))) = true then
     if (decide (0 ≤ (i64 ((p1.length : Int) - 1)))) = true then
      (l[(i64 ((p1.length : Int) - 1)).toNat]?).bind fun x2 =>
      if (Op.bytesLess x1.Id.toList x2.Id.toList || (x1.Id == x2.Id)) = true then
       some (.ret ())
      else
       impl_HoldsOk_l0 l t1 (p1 ++ [x1])
     else none
    else
     impl_HoldsOk_l0 l t1 (p1 ++ [x1])
   else
    some (.ret ())
theorem impl_HoldsOk_l0_ok (l : List Hold) (h2 : capOk l.length = true) : ∀ (t1 p1 : List Hold) (_ : l = p1 ++ t1) , Pn (LpO Tryz.prog (sub (codeOf Tryz.prog 107) [1, 0, 1, 0, 0]) (st 34 [(0, V.sl false 74 (List.map E74 l)), (5, V.sl false 74 (List.map E74 l)), (6, V.sc (.int .i64 (l.length : Int))), (7, V.sc (.int .i64 (p1.length : Int)))] [] []) (fun (y : Lo Unit Unit) => Lo.elim y (fun s => (X.out 0, st 34 [(0, V.sl false 74 (List.map E74 l))] [] [])) (fun s => (X.ret, st 34 [(2, V.sc (.bool false))] [] [])))) (impl_HoldsOk_l0 l t1 p1)
  | [], p1, h1 => by
    unfold impl_HoldsOk_l0
    exact
     Pn.some (LpO.out [.bit false, .mask [0], .ren []] (p := [(decide ((p1.length : Int) < (l.length : Int))) = false]) (by kernel_rfl) (show X.out 0 ≠ X.go from nofun) (cj1 (rng_end h1)))
  | x1 :: t1, p1, h1 => by
    unfold impl_HoldsOk_l0
    exact
     Pn.bind (fun r1 h3 =>
      Pn.ite (fun h4 =>
       Pn.ite (fun h5 =>
        Pn.ite (fun h6 =>
         Pn.bind (fun x2 h7 =>
          Pn.ite (fun h8 =>
           Pn.some (LpO.out [.bit true, .el (E74 x1), .draw [], .call [] (E4 r1) [], .bit false, .bit false, .bit false, .bit true, .bit true, .bit true, .bit true, .bit true, .bit true, .el (E74 x2), .bit true, .bit true, .bit true, .bit false, .bit true, .bit false, .bit true, .wait 1, .mask [2], .ren []] (p := [(decide ((p1.length : Int) < (l.length : Int))) = true,
            (0 : Int) ≤ (p1.length : Int),
            (List.map E74 l)[(p1.length : Int).toNat]? = some (E74 x1),
            Fn Tryz.prog 124 [(false, E74 x1)] (E4 r1) [],
            (true || ((E4 r1).nv && nvL [])) = true,
            (!r1) = false,
            (!r1) = false,
            (!r1) = false,
            (decide (0 < (p1.length : Int))) = true,
            (decide (0 < (p1.length : Int))) = true,
            (decide (0 < (p1.length : Int))) = true,
            (decide (0 < (p1.length : Int))) = true,
            (decide (0 < (p1.length : Int))) = true,
            (decide (0 < (p1.length : Int))) = true,
            (0 : Int) ≤ (i64 ((p1.length : Int) - 1)),
            (List.map E74 l)[(i64 ((p1.length : Int) - 1)).toNat]? = some (E74 x2),
            (decide (0 < (p1.length : Int))) = true,
            (decide (0 < (p1.length : Int))) = true,
            (decide (0 < (p1.length : Int))) = true,
            (!r1) = false,
            (decide (0 < (p1.length : Int))) = true,
            (!r1) = false,
            (Op.bytesLess x1.Id.toList x2.Id.toList || (x1.Id == x2.Id)) = true]) (by kernel_rfl) (show X.ret ≠ X.go from nofun) (cj (rng_lt h1) (cj (by omega) (cj (rng_get _ h1) (cj (impl_HoldOk_ok x1 r1 h3) (cj rfl (cj (nf h4) (cj (nf h4) (cj (nf h4) (cj h5 (cj h5 (cj h5 (cj h5 (cj h5 (cj h5 (cj (od h6) (cj (map_get h7) (cj h5 (cj h5 (cj h5 (cj (nf h4) (cj h5 (cj (nf h4) (cj1 h8))))))))))))))))))))))))) (fun h8 =>
           LpO.go [.bit true, .el (E74 x1), .draw [], .call [] (E4 r1) [], .bit false, .bit false, .bit false, .bit true, .bit true, .bit true, .bit true, .bit true, .bit true, .el (E74 x2), .bit true, .bit true, .bit true, .bit false, .bit true, .bit false, .bit false, .wait 2, .mask [0, 5, 6, 7], .ren [], .nm 7 (V.sc (.int .i64 ((p1 ++ [x1]).length : Int)))] (p := [(decide ((p1.length : Int) < (l.length : Int))) = true,
            (0 : Int) ≤ (p1.length : Int),
            (List.map E74 l)[(p1.length : Int).toNat]? = some (E74 x1),
            Fn Tryz.prog 124 [(false, E74 x1)] (E4 r1) [],
            (true || ((E4 r1).nv && nvL [])) = true,
            (!r1) = false,
            (!r1) = false,
            (!r1) = false,
            (decide (0 < (p1.length : Int))) = true,
            (decide (0 < (p1.length : Int))) = true,
            (decide (0 < (p1.length : Int))) = true,
            (decide (0 < (p1.length : Int))) = true,
            (decide (0 < (p1.length : Int))) = true,
            (decide (0 < (p1.length : Int))) = true,
            (0 : Int) ≤ (i64 ((p1.length : Int) - 1)),
            (List.map E74 l)[(i64 ((p1.length : Int) - 1)).toNat]? = some (E74 x2),
            (decide (0 < (p1.length : Int))) = true,
            (decide (0 < (p1.length : Int))) = true,
            (decide (0 < (p1.length : Int))) = true,
            (!r1) = false,
            (decide (0 < (p1.length : Int))) = true,
            (!r1) = false,
            (Op.bytesLess x1.Id.toList x2.Id.toList || (x1.Id == x2.Id)) = false,
            V.sc (.int .i64 (i64 ((p1.length : Int) + 1))) = V.sc (.int .i64 ((p1 ++ [x1]).length : Int))]) (by kernel_rfl) (cj (rng_lt h1) (cj (by omega) (cj (rng_get _ h1) (cj (impl_HoldOk_ok x1 r1 h3) (cj rfl (cj (nf h4) (cj (nf h4) (cj (nf h4) (cj h5 (cj h5 (cj h5 (cj h5 (cj h5 (cj h5 (cj (od h6) (cj (map_get h7) (cj h5 (cj h5 (cj h5 (cj (nf h4) (cj h5 (cj (nf h4) (cj h8 (cj1 (rng_next h1 h2))))))))))))))))))))))))) (impl_HoldsOk_l0_ok l h2 t1 (p1 ++ [x1]) (rng_step h1))))) (fun h6 =>
         Pn.none)) (fun h5 =>
        LpO.go [.bit true, .el (E74 x1), .draw [], .call [] (E4 r1) [], .bit false, .bit false, .bit false, .bit false, .bit false, .bit false, .bit false, .bit false, .bit false, .bit false, .bit false, .bit false, .bit false, .bit false, .bit false, .bit false, .wait 2, .mask [0, 5, 6, 7], .ren [], .nm 7 (V.sc (.int .i64 ((p1 ++ [x1]).length : Int)))] (p := [(decide ((p1.length : Int) < (l.length : Int))) = true,
         (0 : Int) ≤ (p1.length : Int),
         (List.map E74 l)[(p1.length : Int).toNat]? = some (E74 x1),
         Fn Tryz.prog 124 [(false, E74 x1)] (E4 r1) [],
         (true || ((E4 r1).nv && nvL [])) = true,
         (!r1) = false,
         (!r1) = false,
         (!r1) = false,
         (decide (0 < (p1.length : Int))) = false,
         (decide (0 < (p1.length : Int))) = false,
         (decide (0 < (p1.length : Int))) = false,
         (decide (0 < (p1.length : Int))) = false,
         (decide (0 < (p1.length : Int))) = false,
         (decide (0 < (p1.length : Int))) = false,
         (decide (0 < (p1.length : Int))) = false,
         (decide (0 < (p1.length : Int))) = false,
         (decide (0 < (p1.length : Int))) = false,
         (!r1) = false,
         (decide (0 < (p1.length : Int))) = false,
         (!r1) = false,
         false = false,
         V.sc (.int .i64 (i64 ((p1.length : Int) + 1))) = V.sc (.int .i64 ((p1 ++ [x1]).length : Int))]) (by kernel_rfl) (cj (rng_lt h1) (cj (by omega) (cj (rng_get _ h1) (cj (impl_HoldOk_ok x1 r1 h3) (cj rfl (cj (nf h4) (cj (nf h4) (cj (nf h4) (cj h5 (cj h5 (cj h5 (cj h5 (cj h5 (cj h5 (cj h5 (cj h5 (cj h5 (cj (nf h4) (cj h5 (cj (nf h4) (cj rfl (cj1 (rng_next h1 h2))))))))))))))))))))))) (impl_HoldsOk_l0_ok l h2 t1 (p1 ++ [x1]) (rng_step h1)))) (fun h4 =>
       Pn.some (LpO.out [.bit true, .el (E74 x1), .draw [], .call [] (E4 r1) [], .bit true, .bit true, .bit true, .bit true, .bit true, .bit true, .wait 1, .mask [2], .ren []] (p := [(decide ((p1.length : Int) < (l.length : Int))) = true,
        (0 : Int) ≤ (p1.length : Int),
        (List.map E74 l)[(p1.length : Int).toNat]? = some (E74 x1),
        Fn Tryz.prog 124 [(false, E74 x1)] (E4 r1) [],
        (true || ((E4 r1).nv && nvL [])) = true,
        (!r1) = true,
        (!r1) = true,
        (!r1) = true,
        (!r1) = true,
        (!r1) = true,
        true = true]) (by kernel_rfl) (show X.ret ≠ X.go from nofun) (cj (rng_lt h1) (cj (by omega) (cj (rng_get _ h1) (cj (impl_HoldOk_ok x1 r1 h3) (cj rfl (cj (nt h4) (cj (nt h4) (cj (nt h4) (cj (nt h4) (cj (nt h4) (cj1 rfl))))))))))))))
def impl_HoldsOk (l : List Hold) : Option (Bool) :=
 if (capOk l.length) = true then
  (impl_HoldsOk_l0 l l []).bind fun r2 =>
  Lo.elim r2 (fun s1 =>
   some (decide ((l.length : Int) ≤ 4))) (fun s2 =>
   some false)
 else none
theorem impl_HoldsOk_ok (l : List Hold) : Pn (fun y => Fn Tryz.prog 107 [(false, E30 l)] (E4 y) []) (impl_HoldsOk l) := by
  unfold impl_HoldsOk
  exact
   Pn.ite (fun h9 =>
    Pn.bind (fun r2 h10 =>
     Pn.lo (fun s1 h11 =>
      Pn.some (Fn.of [.wait 3, .nm 6 (V.sc (.int .i64 (l.length : Int))), .wait 2, .mask [0, 5, 6, 7], .ren [], .loop (X.out 0) (st 34 [(0, V.sl false 74 (List.map E74 l))] [] []), .wait 2, .nm 32 (V.sc (.int .i64 (l.length : Int)))] (p := [V.sc (.int .i64 ((List.map E74 l).length : Int)) = V.sc (.int .i64 (l.length : Int)),
       Loop Tryz.prog (sub (codeOf Tryz.prog 107) [1, 0, 1, 0, 0]) (st 34 [(0, V.sl false 74 (List.map E74 l)), (5, V.sl false 74 (List.map E74 l)), (6, V.sc (.int .i64 (l.length : Int))), (7, V.sc (.int .i64 0))] [] []) (X.out 0) (st 34 [(0, V.sl false 74 (List.map E74 l))] [] []),
       V.sc (.int .i64 ((List.map E74 l).length : Int)) = V.sc (.int .i64 (l.length : Int))]) (by kernel_rfl) (cj (len_nm _ _) (cj ((impl_HoldsOk_l0_ok l h9 l [] rfl r2 h10).at h11) (cj1 (len_nm _ _)))))) (fun s2 h12 =>
      Pn.some (Fn.of [.wait 3, .nm 6 (V.sc (.int .i64 (l.length : Int))), .wait 2, .mask [0, 5, 6, 7], .ren [], .loop (X.ret) (st 34 [(2, V.sc (.bool false))] [] [])] (p := [V.sc (.int .i64 ((List.map E74 l).length : Int)) = V.sc (.int .i64 (l.length : Int)),
       Loop Tryz.prog (sub (codeOf Tryz.prog 107) [1, 0, 1, 0, 0]) (st 34 [(0, V.sl false 74 (List.map E74 l)), (5, V.sl false 74 (List.map E74 l)), (6, V.sc (.int .i64 (l.length : Int))), (7, V.sc (.int .i64 0))] [] []) (X.ret) (st 34 [(2, V.sc (.bool false))] [] [])]) (by kernel_rfl) (cj (len_nm _ _) (cj1 ((impl_HoldsOk_l0_ok l h9 l [] rfl r2 h10).at h12))))))) (fun h9 =>
    Pn.none)
def slices_Grow_int_nil (n : Int) : Option ((List Int)) :=
 if (decide (n < 0)) = true then none else
 if (decide (0 < (i64 (n - 0)))) = true then
  if (capOk (i64 (n - 0)).toNat) = true then
   some []
  else none
 else
  some []
theorem slices_Grow_int_nil_ok (n : Int) : Pn (fun y => Fn Tryz.prog 141 [(false, V.nl 3), (false, E3 n)] (E23 y) []) (slices_Grow_int_nil n) := by
  unfold slices_Grow_int_nil
  exact
   Pn.ite (fun h1 =>
    Pn.none) (fun h1 =>
    Pn.ite (fun h2 =>
     Pn.ite (fun h3 =>
      Pn.some (Fn.of [.bit false, .bit true, .wait 5, .nb 0 (.row 3 (List.map E3 (List.replicate ((i64 (n - 0)).toNat) 0)) [])] (p := [(decide (n < 0)) = false,
       (decide (0 < (i64 (n - 0)))) = true,
       (0 : Int) ≤ 0,
       (0 : Int) ≤ 0,
       (0 : Int) ≤ 0,
       (0 : Int) < (i64 (n - 0)),
       ((i64 (n - 0)) : Int) ≤ 9223372036854775807,
       (i64 (n - 0)).toNat * 8 ≤ 140737488355328,
       Blk.row 3 (List.replicate ((i64 (n - 0)).toNat) (V.sc (.int .i64 0))) [] = Blk.row 3 (List.map E3 (List.replicate ((i64 (n - 0)).toNat) 0)) [],
       (0 : Int) ≤ 0,
       (0 : Int) ≤ 0,
       (0 : Int) ≤ ((List.map E3 (List.replicate ((i64 (n - 0)).toNat) 0)).length : Int)]) (by kernel_rfl) (cj h1 (cj h2 (cj (by decide) (cj (by decide) (cj (by decide) (cj (od h2) (cj (cap5 h2 h3) (cj (cap2 h3 (by decide)) (cj (nb_rep E3 _ 0) (cj (by decide) (cj (by decide) (cj1 (by rw [List.length_map]; exact (by omega)))))))))))))))) (fun h3 =>
      Pn.none)) (fun h2 =>
     Pn.some (Fn.of [.bit false, .bit false] (p := [(decide (n < 0)) = false,
      (decide (0 < (i64 (n - 0)))) = false]) (by kernel_rfl) (cj h1 (cj1 h2)))))
def slices_Concat_int_l0 (slices : List (List Int)) : List (List Int) → Int → Option (Int)
  | [], v1 =>
   some v1
  | x1 :: t1, v1 =>
   if (decide ((i64 (v1 + (x1.length : Int))) < 0)) = true then none else
   slices_Concat_int_l0 slices t1 (i64 (v1 + (x1.length : Int)))
theorem slices_Concat_int_l0_ok (slices : List (List Int)) (h2 : capOk slices.length = true) : ∀ (t1 p1 : List (List Int)) (_ : slices = p1 ++ t1) (v1 : Int), Pn (LpO Tryz.prog (sub (codeOf Tryz.prog 125) [1, 1, 0, 1, 0, 0]) (st 36 [(0, V.sl false 23 (List.map E23 slices)), (3, V.sc (.int .i64 v1)), (9, V.sl false 23 (List.map E23 slices)), (10, V.sc (.int .i64 (slices.length : Int))), (11, V.sc (.int .i64 (p1.length : Int)))] [] []) (fun (y : Int) => (X.out 0, st 36 [(0, V.sl false 23 (List.map E23 slices)), (3, V.sc (.int .i64 y))] [] []))) (slices_Concat_int_l0 slices t1 v1)
  | [], p1, h1, v1 => by
    unfold slices_Concat_int_l0
    exact
     Pn.some (LpO.out [.bit false, .mask [0, 3], .ren []] (p := [(decide ((p1.length : Int) < (slices.length : Int))) = false]) (by kernel_rfl) (show X.out 0 ≠ X.go from nofun) (cj1 (rng_end h1)))
  | x1 :: t1, p1, h1, v1 => by
    unfold slices_Concat_int_l0
    exact
     Pn.ite (fun h3 =>
      Pn.none) (fun h3 =>
      LpO.go [.bit true, .el (E23 x1), .wait 5, .nm 17 (V.sc (.int .i64 (x1.length : Int))), .bit false, .wait 2, .mask [0, 3, 9, 10, 11], .ren [], .nm 11 (V.sc (.int .i64 ((p1 ++ [x1]).length : Int)))] (p := [(decide ((p1.length : Int) < (slices.length : Int))) = true,
       (0 : Int) ≤ (p1.length : Int),
       (List.map E23 slices)[(p1.length : Int).toNat]? = some (E23 x1),
       V.sc (.int .i64 ((List.map E3 x1).length : Int)) = V.sc (.int .i64 (x1.length : Int)),
       (decide ((i64 (v1 + (x1.length : Int))) < 0)) = false,
       V.sc (.int .i64 (i64 ((p1.length : Int) + 1))) = V.sc (.int .i64 ((p1 ++ [x1]).length : Int))]) (by kernel_rfl) (cj (rng_lt h1) (cj (by omega) (cj (rng_get _ h1) (cj (len_nm _ _) (cj h3 (cj1 (rng_next h1 h2))))))) (slices_Concat_int_l0_ok slices h2 t1 (p1 ++ [x1]) (rng_step h1) (i64 (v1 + (x1.length : Int)))))
def slices_Concat_int_l1 (slices : List (List Int)) : List (List Int) → (List Int) → Option ((List Int))
  | [], v2 =>
   some v2
  | x2 :: t2, v2 =>
   if (capOk (v2.length + x2.length)) = true then
    slices_Concat_int_l1 slices t2 (v2 ++ x2)
   else none
theorem slices_Concat_int_l1_ok (slices : List (List Int)) (h8 : capOk slices.length = true) : ∀ (t2 p2 : List (List Int)) (_ : slices = p2 ++ t2) (v2 : List Int), Pn (LpO Tryz.prog (sub (codeOf Tryz.prog 125) [1, 1, 1, 1, 0, 1, 0, 0]) (st 36 [(6, V.ow 0), (25, V.sl false 23 (List.map E23 slices)), (26, V.sc (.int .i64 (slices.length : Int))), (27, V.sc (.int .i64 (p2.length : Int)))] [Blk.row 3 (List.map E3 v2) []] []) (fun (y : (List Int)) => (X.out 2, st 36 [(6, V.ow 0)] [Blk.row 3 (List.map E3 y) []] []))) (slices_Concat_int_l1 slices t2 v2)
  | [], p2, h7, v2 => by
    unfold slices_Concat_int_l1
    exact
     Pn.some (LpO.out [.bit false, .mask [6], .ren [0]] (p := [(decide ((p2.length : Int) < (slices.length : Int))) = false]) (by kernel_rfl) (show X.out 2 ≠ X.go from nofun) (cj1 (rng_end h7)))
  | x2 :: t2, p2, h7, v2 => by
    unfold slices_Concat_int_l1
    exact
     Pn.ite (fun h9 =>
      LpO.go [.bit true, .el (E23 x2), .cp (List.map E3 x2), .nb 1 (.row 3 (List.map E3 (v2 ++ x2)) []), .wait 4, .mask [6, 25, 26, 27], .ren [1], .nm 27 (V.sc (.int .i64 ((p2 ++ [x2]).length : Int)))] (p := [(decide ((p2.length : Int) < (slices.length : Int))) = true,
       (0 : Int) ≤ (p2.length : Int),
       (List.map E23 slices)[(p2.length : Int).toNat]? = some (E23 x2),
       (List.map E3 x2).map V.vw = (List.map E3 x2),
       (List.map E3 v2).length + (List.map E3 x2).length ≤ 9223372036854775807,
       ((List.map E3 v2).length + (List.map E3 x2).length) * 8 ≤ 140737488355328,
       Blk.row 3 ((List.map E3 v2) ++ (List.map E3 x2)) [] = Blk.row 3 (List.map E3 (v2 ++ x2)) [],
       V.sc (.int .i64 (i64 ((p2.length : Int) + 1))) = V.sc (.int .i64 ((p2 ++ [x2]).length : Int))]) (by kernel_rfl) (cj (rng_lt h7) (cj (by omega) (cj (rng_get _ h7) (cj (vw_id (fun _ => rfl) _) (cj (cap1 (capN (by simp) h9)) (cj (cap2 (capN (by simp) h9) (by decide)) (cj (nb_app E3 v2 x2) (cj1 (rng_next h7 h8))))))))) (slices_Concat_int_l1_ok slices h8 t2 (p2 ++ [x2]) (rng_step h7) (v2 ++ x2))) (fun h9 =>
      Pn.none)
def slices_Concat_int (slices : List (List Int)) : Option ((List Int)) :=
 if (capOk slices.length) = true then
  (slices_Concat_int_l0 slices slices 0).bind fun r1 =>
  (slices_Grow_int_nil r1).bind fun r2 =>
  (slices_Concat_int_l1 slices slices r2).bind fun r3 =>
  some r3
 else none
theorem slices_Concat_int_ok (slices : List (List Int)) : Pn (fun y => Fn Tryz.prog 125 [(false, E130 slices)] (E23 y) []) (slices_Concat_int slices) := by
  unfold slices_Concat_int
  exact
   Pn.ite (fun h4 =>
    Pn.bind (fun r1 h5 =>
     Pn.bind (fun r2 h6 =>
      Pn.bind (fun r3 h10 =>
       Pn.some (Fn.of [.wait 4, .nm 10 (V.sc (.int .i64 (slices.length : Int))), .wait 2, .mask [0, 3, 9, 10, 11], .ren [], .loop (X.out 0) (st 36 [(0, V.sl false 23 (List.map E23 slices)), (3, V.sc (.int .i64 r1))] [] []), .call [] (E23 r2) [], .wait 3, .nm 26 (V.sc (.int .i64 (slices.length : Int))), .wait 2, .mask [6, 25, 26, 27], .ren [0], .loop (X.out 2) (st 36 [(6, V.ow 0)] [Blk.row 3 (List.map E3 r3) []] [])] (p := [V.sc (.int .i64 ((List.map E23 slices).length : Int)) = V.sc (.int .i64 (slices.length : Int)),
        Loop Tryz.prog (sub (codeOf Tryz.prog 125) [1, 1, 0, 1, 0, 0]) (st 36 [(0, V.sl false 23 (List.map E23 slices)), (3, V.sc (.int .i64 0)), (9, V.sl false 23 (List.map E23 slices)), (10, V.sc (.int .i64 (slices.length : Int))), (11, V.sc (.int .i64 0))] [] []) (X.out 0) (st 36 [(0, V.sl false 23 (List.map E23 slices)), (3, V.sc (.int .i64 r1))] [] []),
        Fn Tryz.prog 141 [(false, V.nl 3), (false, E3 r1)] (E23 r2) [],
        (true || ((E23 r2).nv && nvL [])) = true,
        V.sc (.int .i64 ((List.map E23 slices).length : Int)) = V.sc (.int .i64 (slices.length : Int)),
        Loop Tryz.prog (sub (codeOf Tryz.prog 125) [1, 1, 1, 1, 0, 1, 0, 0]) (st 36 [(6, V.ow 0), (25, V.sl false 23 (List.map E23 slices)), (26, V.sc (.int .i64 (slices.length : Int))), (27, V.sc (.int .i64 0))] [Blk.row 3 (List.map E3 r2) []] []) (X.out 2) (st 36 [(6, V.ow 0)] [Blk.row 3 (List.map E3 r3) []] [])]) (by kernel_rfl) (cj (len_nm _ _) (cj (slices_Concat_int_l0_ok slices h4 slices [] rfl 0 r1 h5) (cj (slices_Grow_int_nil_ok r1 r2 h6) (cj rfl (cj (len_nm _ _) (cj1 (slices_Concat_int_l1_ok slices h4 slices [] rfl r2 r3 h10)))))))))))) (fun h4 =>
    Pn.none)
def impl_RingOk_l0 (r_ : Ring) (r1 : (List Int)) : List Int → Option (Lo Unit Unit)
  | [] =>
   some (.out ())
  | x1 :: t1 =>
   (impl_isMoney x1).bind fun r2 =>
   if r2 = true then
    impl_RingOk_l0 r_ r1 t1
   else
    some (.ret ())
theorem impl_RingOk_l0_ok (r_ : Ring) (r1 : (List Int)) (h3 : capOk r1.length = true) : ∀ (t1 p1 : List Int) (_ : r1 = p1 ++ t1) , Pn (LpO Tryz.prog (sub (codeOf Tryz.prog 108) [1, 1, 0, 1, 0, 0]) (st 43 [(1, V.ptr 0 0), (3, V.sc (.int .i64 (r_.Counts.length : Int))), (14, V.ow 1), (15, V.sc (.int .i64 (r1.length : Int))), (16, V.sc (.int .i64 (p1.length : Int)))] [Blk.box 31 [V.sc (.int .i64 r_.Span), V.sc (.int .i64 r_.Head), V.sl false 3 (List.map E3 r_.Counts), V.sl false 3 (List.map E3 r_.Sums)], Blk.row 3 (List.map E3 r1) []] []) (fun (y : Lo Unit Unit) => Lo.elim y (fun s => (X.out 0, st 43 [(1, V.ptr 0 0), (3, V.sc (.int .i64 (r_.Counts.length : Int)))] [Blk.box 31 [V.sc (.int .i64 r_.Span), V.sc (.int .i64 r_.Head), V.sl false 3 (List.map E3 r_.Counts), V.sl false 3 (List.map E3 r_.Sums)]] [])) (fun s => (X.ret, st 43 [(2, V.sc (.bool false))] [] [])))) (impl_RingOk_l0 r_ r1 t1)
  | [], p1, h2 => by
    unfold impl_RingOk_l0
    exact
     Pn.some (LpO.out [.bit false, .mask [1, 3], .ren [0]] (p := [(decide ((p1.length : Int) < (r1.length : Int))) = false]) (by kernel_rfl) (show X.out 0 ≠ X.go from nofun) (cj1 (rng_end h2)))
  | x1 :: t1, p1, h2 => by
    unfold impl_RingOk_l0
    exact
     Pn.bind (fun r2 h4 =>
      Pn.ite (fun h5 =>
       LpO.go [.bit true, .el (E3 x1), .call [] (E4 r2) [], .bit false, .wait 2, .mask [1, 3, 14, 15, 16], .ren [0, 1], .nm 16 (V.sc (.int .i64 ((p1 ++ [x1]).length : Int)))] (p := [(decide ((p1.length : Int) < (r1.length : Int))) = true,
        (0 : Int) ≤ (p1.length : Int),
        ((p1.length : Int) : Int) < ((List.map E3 r1).length : Int),
        look [] ((p1.length : Int).toNat) = none,
        (List.map E3 r1)[(p1.length : Int).toNat]? = some (E3 x1),
        Fn Tryz.prog 106 [(false, E3 x1)] (E4 r2) [],
        (true || ((E4 r2).nv && nvL [])) = true,
        (!r2) = false,
        V.sc (.int .i64 (i64 ((p1.length : Int) + 1))) = V.sc (.int .i64 ((p1 ++ [x1]).length : Int))]) (by kernel_rfl) (cj (rng_lt h2) (cj (by omega) (cj (rng_ltI _ h2) (cj rfl (cj (rng_get _ h2) (cj (impl_isMoney_ok x1 r2 h4) (cj rfl (cj (nf h5) (cj1 (rng_next h2 h3)))))))))) (impl_RingOk_l0_ok r_ r1 h3 t1 (p1 ++ [x1]) (rng_step h2))) (fun h5 =>
       Pn.some (LpO.out [.bit true, .el (E3 x1), .call [] (E4 r2) [], .bit true, .wait 1, .mask [2], .ren []] (p := [(decide ((p1.length : Int) < (r1.length : Int))) = true,
        (0 : Int) ≤ (p1.length : Int),
        ((p1.length : Int) : Int) < ((List.map E3 r1).length : Int),
        look [] ((p1.length : Int).toNat) = none,
        (List.map E3 r1)[(p1.length : Int).toNat]? = some (E3 x1),
        Fn Tryz.prog 106 [(false, E3 x1)] (E4 r2) [],
        (true || ((E4 r2).nv && nvL [])) = true,
        (!r2) = true]) (by kernel_rfl) (show X.ret ≠ X.go from nofun) (cj (rng_lt h2) (cj (by omega) (cj (rng_ltI _ h2) (cj rfl (cj (rng_get _ h2) (cj (impl_isMoney_ok x1 r2 h4) (cj rfl (cj1 (nt h5))))))))))))
def impl_RingOk (r_ : Ring) : Option (Bool) :=
 (slices_Concat_int [r_.Counts, r_.Sums]).bind fun r1 =>
 if (capOk r1.length) = true then
  (impl_RingOk_l0 r_ r1 r1).bind fun r3 =>
  Lo.elim r3 (fun s1 =>
   (impl_within r_.Span 1 1000).bind fun r4 =>
   if r4 = true then
    (impl_within (r_.Counts.length : Int) 1 8).bind fun r5 =>
    if r5 = true then
     if ((r_.Sums.length : Int) == (r_.Counts.length : Int)) = true then
      (impl_isTime r_.Head).bind fun r6 =>
      some r6
     else
      some false
    else
     some false
   else
    some false) (fun s2 =>
   some false)
 else none
theorem impl_RingOk_ok (r_ : Ring) : Pn (fun y => Fn Tryz.prog 108 [(false, E31 r_)] (E4 y) []) (impl_RingOk r_) := by
  unfold impl_RingOk
  exact
   Pn.bind (fun r1 h1 =>
    Pn.ite (fun h6 =>
     Pn.bind (fun r3 h7 =>
      Pn.lo (fun s1 h8 =>
       Pn.bind (fun r4 h10 =>
        Pn.ite (fun h11 =>
         Pn.bind (fun r5 h12 =>
          Pn.ite (fun h13 =>
           Pn.ite (fun h14 =>
            Pn.bind (fun r6 h15 =>
             Pn.some (Fn.of [.wait 5, .nm 8 (V.sc (.int .i64 (r_.Counts.length : Int))), .call [] (E23 r1) [], .wait 1, .nm 15 (V.sc (.int .i64 (r1.length : Int))), .wait 2, .mask [1, 3, 14, 15, 16], .ren [0, 2], .loop (X.out 0) (st 43 [(1, V.ptr 0 0), (3, V.sc (.int .i64 (r_.Counts.length : Int)))] [Blk.box 31 [V.sc (.int .i64 r_.Span), V.sc (.int .i64 r_.Head), V.sl false 3 (List.map E3 r_.Counts), V.sl false 3 (List.map E3 r_.Sums)]] []), .call [] (E4 r4) [], .bit true, .bit true, .call [] (E4 r5) [], .bit true, .bit true, .bit true, .bit true, .nm 34 (V.sc (.int .i64 (r_.Sums.length : Int))), .bit true, .bit true, .bit true, .bit true, .bit true, .bit true, .call [] (E4 r6) [], .bit true] (p := [V.sc (.int .i64 ((List.map E3 r_.Counts).length : Int)) = V.sc (.int .i64 (r_.Counts.length : Int)),
              Fn Tryz.prog 125 [(false, V.sl true 23 [V.sl false 3 (List.map E3 r_.Counts), V.sl false 3 (List.map E3 r_.Sums)])] (E23 r1) [],
              (false || ((E23 r1).nv && nvL [])) = true,
              V.sc (.int .i64 ((List.map E3 r1).length : Int)) = V.sc (.int .i64 (r1.length : Int)),
              Loop Tryz.prog (sub (codeOf Tryz.prog 108) [1, 1, 0, 1, 0, 0]) (st 43 [(1, V.ptr 0 0), (3, V.sc (.int .i64 (r_.Counts.length : Int))), (14, V.ow 1), (15, V.sc (.int .i64 (r1.length : Int))), (16, V.sc (.int .i64 0))] [Blk.box 31 [V.sc (.int .i64 r_.Span), V.sc (.int .i64 r_.Head), V.sl false 3 (List.map E3 r_.Counts), V.sl false 3 (List.map E3 r_.Sums)], Blk.row 3 (List.map E3 r1) []] []) (X.out 0) (st 43 [(1, V.ptr 0 0), (3, V.sc (.int .i64 (r_.Counts.length : Int)))] [Blk.box 31 [V.sc (.int .i64 r_.Span), V.sc (.int .i64 r_.Head), V.sl false 3 (List.map E3 r_.Counts), V.sl false 3 (List.map E3 r_.Sums)]] []),
              Fn Tryz.prog 66 [(false, E3 r_.Span), (false, E3 1), (false, E3 1000)] (E4 r4) [],
              (true || ((E4 r4).nv && nvL [])) = true,
              r4 = true,
              r4 = true,
              Fn Tryz.prog 66 [(false, E3 (r_.Counts.length : Int)), (false, E3 1), (false, E3 8)] (E4 r5) [],
              (true || ((E4 r5).nv && nvL [])) = true,
              r4 = true,
              r5 = true,
              r5 = true,
              r5 = true,
              V.sc (.int .i64 ((List.map E3 r_.Sums).length : Int)) = V.sc (.int .i64 (r_.Sums.length : Int)),
              r5 = true,
              r5 = true,
              r5 = true,
              ((r_.Sums.length : Int) == (r_.Counts.length : Int)) = true,
              ((r_.Sums.length : Int) == (r_.Counts.length : Int)) = true,
              ((r_.Sums.length : Int) == (r_.Counts.length : Int)) = true,
              Fn Tryz.prog 49 [(false, E3 r_.Head)] (E4 r6) [],
              (true || ((E4 r6).nv && nvL [])) = true,
              ((r_.Sums.length : Int) == (r_.Counts.length : Int)) = true]) (by kernel_rfl) (cj (len_nm _ _) (cj (Fn.flag 0 (by kernel_rfl) (slices_Concat_int_ok [r_.Counts, r_.Sums] r1 h1)) (cj (by simp [V.nv, nvL, nvL_all, nv_E3, nv_E23]) (cj (len_nm _ _) (cj ((impl_RingOk_l0_ok r_ r1 h6 r1 [] rfl r3 h7).at h8) (cj (impl_within_ok r_.Span 1 1000 r4 h10) (cj rfl (cj h11 (cj h11 (cj (impl_within_ok (r_.Counts.length : Int) 1 8 r5 h12) (cj rfl (cj h11 (cj h13 (cj h13 (cj h13 (cj (len_nm _ _) (cj h13 (cj h13 (cj h13 (cj h14 (cj h14 (cj h14 (cj (impl_isTime_ok r_.Head r6 h15) (cj rfl (cj1 h14)))))))))))))))))))))))))))) (fun h14 =>
            Pn.some (Fn.of [.wait 5, .nm 8 (V.sc (.int .i64 (r_.Counts.length : Int))), .call [] (E23 r1) [], .wait 1, .nm 15 (V.sc (.int .i64 (r1.length : Int))), .wait 2, .mask [1, 3, 14, 15, 16], .ren [0, 2], .loop (X.out 0) (st 43 [(1, V.ptr 0 0), (3, V.sc (.int .i64 (r_.Counts.length : Int)))] [Blk.box 31 [V.sc (.int .i64 r_.Span), V.sc (.int .i64 r_.Head), V.sl false 3 (List.map E3 r_.Counts), V.sl false 3 (List.map E3 r_.Sums)]] []), .call [] (E4 r4) [], .bit true, .bit true, .call [] (E4 r5) [], .bit true, .bit true, .bit true, .bit true, .nm 34 (V.sc (.int .i64 (r_.Sums.length : Int))), .bit true, .bit true, .bit true, .bit false, .bit false, .bit false, .bit false] (p := [V.sc (.int .i64 ((List.map E3 r_.Counts).length : Int)) = V.sc (.int .i64 (r_.Counts.length : Int)),
             Fn Tryz.prog 125 [(false, V.sl true 23 [V.sl false 3 (List.map E3 r_.Counts), V.sl false 3 (List.map E3 r_.Sums)])] (E23 r1) [],
             (false || ((E23 r1).nv && nvL [])) = true,
             V.sc (.int .i64 ((List.map E3 r1).length : Int)) = V.sc (.int .i64 (r1.length : Int)),
             Loop Tryz.prog (sub (codeOf Tryz.prog 108) [1, 1, 0, 1, 0, 0]) (st 43 [(1, V.ptr 0 0), (3, V.sc (.int .i64 (r_.Counts.length : Int))), (14, V.ow 1), (15, V.sc (.int .i64 (r1.length : Int))), (16, V.sc (.int .i64 0))] [Blk.box 31 [V.sc (.int .i64 r_.Span), V.sc (.int .i64 r_.Head), V.sl false 3 (List.map E3 r_.Counts), V.sl false 3 (List.map E3 r_.Sums)], Blk.row 3 (List.map E3 r1) []] []) (X.out 0) (st 43 [(1, V.ptr 0 0), (3, V.sc (.int .i64 (r_.Counts.length : Int)))] [Blk.box 31 [V.sc (.int .i64 r_.Span), V.sc (.int .i64 r_.Head), V.sl false 3 (List.map E3 r_.Counts), V.sl false 3 (List.map E3 r_.Sums)]] []),
             Fn Tryz.prog 66 [(false, E3 r_.Span), (false, E3 1), (false, E3 1000)] (E4 r4) [],
             (true || ((E4 r4).nv && nvL [])) = true,
             r4 = true,
             r4 = true,
             Fn Tryz.prog 66 [(false, E3 (r_.Counts.length : Int)), (false, E3 1), (false, E3 8)] (E4 r5) [],
             (true || ((E4 r5).nv && nvL [])) = true,
             r4 = true,
             r5 = true,
             r5 = true,
             r5 = true,
             V.sc (.int .i64 ((List.map E3 r_.Sums).length : Int)) = V.sc (.int .i64 (r_.Sums.length : Int)),
             r5 = true,
             r5 = true,
             r5 = true,
             ((r_.Sums.length : Int) == (r_.Counts.length : Int)) = false,
             ((r_.Sums.length : Int) == (r_.Counts.length : Int)) = false,
             ((r_.Sums.length : Int) == (r_.Counts.length : Int)) = false,
             ((r_.Sums.length : Int) == (r_.Counts.length : Int)) = false]) (by kernel_rfl) (cj (len_nm _ _) (cj (Fn.flag 0 (by kernel_rfl) (slices_Concat_int_ok [r_.Counts, r_.Sums] r1 h1)) (cj (by simp [V.nv, nvL, nvL_all, nv_E3, nv_E23]) (cj (len_nm _ _) (cj ((impl_RingOk_l0_ok r_ r1 h6 r1 [] rfl r3 h7).at h8) (cj (impl_within_ok r_.Span 1 1000 r4 h10) (cj rfl (cj h11 (cj h11 (cj (impl_within_ok (r_.Counts.length : Int) 1 8 r5 h12) (cj rfl (cj h11 (cj h13 (cj h13 (cj h13 (cj (len_nm _ _) (cj h13 (cj h13 (cj h13 (cj h14 (cj h14 (cj h14 (cj1 h14)))))))))))))))))))))))))) (fun h13 =>
           Pn.some (Fn.of [.wait 5, .nm 8 (V.sc (.int .i64 (r_.Counts.length : Int))), .call [] (E23 r1) [], .wait 1, .nm 15 (V.sc (.int .i64 (r1.length : Int))), .wait 2, .mask [1, 3, 14, 15, 16], .ren [0, 2], .loop (X.out 0) (st 43 [(1, V.ptr 0 0), (3, V.sc (.int .i64 (r_.Counts.length : Int)))] [Blk.box 31 [V.sc (.int .i64 r_.Span), V.sc (.int .i64 r_.Head), V.sl false 3 (List.map E3 r_.Counts), V.sl false 3 (List.map E3 r_.Sums)]] []), .call [] (E4 r4) [], .bit true, .bit true, .call [] (E4 r5) [], .bit true, .bit false, .bit false, .bit false, .bit false, .bit false, .bit false, .bit false, .bit false, .bit false, .bit false] (p := [V.sc (.int .i64 ((List.map E3 r_.Counts).length : Int)) = V.sc (.int .i64 (r_.Counts.length : Int)),
            Fn Tryz.prog 125 [(false, V.sl true 23 [V.sl false 3 (List.map E3 r_.Counts), V.sl false 3 (List.map E3 r_.Sums)])] (E23 r1) [],
            (false || ((E23 r1).nv && nvL [])) = true,
            V.sc (.int .i64 ((List.map E3 r1).length : Int)) = V.sc (.int .i64 (r1.length : Int)),
            Loop Tryz.prog (sub (codeOf Tryz.prog 108) [1, 1, 0, 1, 0, 0]) (st 43 [(1, V.ptr 0 0), (3, V.sc (.int .i64 (r_.Counts.length : Int))), (14, V.ow 1), (15, V.sc (.int .i64 (r1.length : Int))), (16, V.sc (.int .i64 0))] [Blk.box 31 [V.sc (.int .i64 r_.Span), V.sc (.int .i64 r_.Head), V.sl false 3 (List.map E3 r_.Counts), V.sl false 3 (List.map E3 r_.Sums)], Blk.row 3 (List.map E3 r1) []] []) (X.out 0) (st 43 [(1, V.ptr 0 0), (3, V.sc (.int .i64 (r_.Counts.length : Int)))] [Blk.box 31 [V.sc (.int .i64 r_.Span), V.sc (.int .i64 r_.Head), V.sl false 3 (List.map E3 r_.Counts), V.sl false 3 (List.map E3 r_.Sums)]] []),
            Fn Tryz.prog 66 [(false, E3 r_.Span), (false, E3 1), (false, E3 1000)] (E4 r4) [],
            (true || ((E4 r4).nv && nvL [])) = true,
            r4 = true,
            r4 = true,
            Fn Tryz.prog 66 [(false, E3 (r_.Counts.length : Int)), (false, E3 1), (false, E3 8)] (E4 r5) [],
            (true || ((E4 r5).nv && nvL [])) = true,
            r4 = true,
            r5 = false,
            r5 = false,
            r5 = false,
            r5 = false,
            r5 = false,
            r5 = false,
            false = false,
            false = false,
            false = false,
            false = false]) (by kernel_rfl) (cj (len_nm _ _) (cj (Fn.flag 0 (by kernel_rfl) (slices_Concat_int_ok [r_.Counts, r_.Sums] r1 h1)) (cj (by simp [V.nv, nvL, nvL_all, nv_E3, nv_E23]) (cj (len_nm _ _) (cj ((impl_RingOk_l0_ok r_ r1 h6 r1 [] rfl r3 h7).at h8) (cj (impl_within_ok r_.Span 1 1000 r4 h10) (cj rfl (cj h11 (cj h11 (cj (impl_within_ok (r_.Counts.length : Int) 1 8 r5 h12) (cj rfl (cj h11 (cj h13 (cj h13 (cj h13 (cj h13 (cj h13 (cj h13 (cj rfl (cj rfl (cj rfl (cj1 rfl)))))))))))))))))))))))))) (fun h11 =>
         Pn.some (Fn.of [.wait 5, .nm 8 (V.sc (.int .i64 (r_.Counts.length : Int))), .call [] (E23 r1) [], .wait 1, .nm 15 (V.sc (.int .i64 (r1.length : Int))), .wait 2, .mask [1, 3, 14, 15, 16], .ren [0, 2], .loop (X.out 0) (st 43 [(1, V.ptr 0 0), (3, V.sc (.int .i64 (r_.Counts.length : Int)))] [Blk.box 31 [V.sc (.int .i64 r_.Span), V.sc (.int .i64 r_.Head), V.sl false 3 (List.map E3 r_.Counts), V.sl false 3 (List.map E3 r_.Sums)]] []), .call [] (E4 r4) [], .bit false, .bit false, .bit false, .bit false, .bit false, .bit false, .bit false, .bit false, .bit false, .bit false, .bit false, .bit false, .bit false] (p := [V.sc (.int .i64 ((List.map E3 r_.Counts).length : Int)) = V.sc (.int .i64 (r_.Counts.length : Int)),
          Fn Tryz.prog 125 [(false, V.sl true 23 [V.sl false 3 (List.map E3 r_.Counts), V.sl false 3 (List.map E3 r_.Sums)])] (E23 r1) [],
          (false || ((E23 r1).nv && nvL [])) = true,
          V.sc (.int .i64 ((List.map E3 r1).length : Int)) = V.sc (.int .i64 (r1.length : Int)),
          Loop Tryz.prog (sub (codeOf Tryz.prog 108) [1, 1, 0, 1, 0, 0]) (st 43 [(1, V.ptr 0 0), (3, V.sc (.int .i64 (r_.Counts.length : Int))), (14, V.ow 1), (15, V.sc (.int .i64 (r1.length : Int))), (16, V.sc (.int .i64 0))] [Blk.box 31 [V.sc (.int .i64 r_.Span), V.sc (.int .i64 r_.Head), V.sl false 3 (List.map E3 r_.Counts), V.sl false 3 (List.map E3 r_.Sums)], Blk.row 3 (List.map E3 r1) []] []) (X.out 0) (st 43 [(1, V.ptr 0 0), (3, V.sc (.int .i64 (r_.Counts.length : Int)))] [Blk.box 31 [V.sc (.int .i64 r_.Span), V.sc (.int .i64 r_.Head), V.sl false 3 (List.map E3 r_.Counts), V.sl false 3 (List.map E3 r_.Sums)]] []),
          Fn Tryz.prog 66 [(false, E3 r_.Span), (false, E3 1), (false, E3 1000)] (E4 r4) [],
          (true || ((E4 r4).nv && nvL [])) = true,
          r4 = false,
          r4 = false,
          r4 = false,
          false = false,
          false = false,
          false = false,
          false = false,
          false = false,
          false = false,
          false = false,
          false = false,
          false = false,
          false = false]) (by kernel_rfl) (cj (len_nm _ _) (cj (Fn.flag 0 (by kernel_rfl) (slices_Concat_int_ok [r_.Counts, r_.Sums] r1 h1)) (cj (by simp [V.nv, nvL, nvL_all, nv_E3, nv_E23]) (cj (len_nm _ _) (cj ((impl_RingOk_l0_ok r_ r1 h6 r1 [] rfl r3 h7).at h8) (cj (impl_within_ok r_.Span 1 1000 r4 h10) (cj rfl (cj h11 (cj h11 (cj h11 (cj rfl (cj rfl (cj rfl (cj rfl (cj rfl (cj rfl (cj rfl (cj rfl (cj rfl (cj1 rfl)))))))))))))))))))))))) (fun s2 h9 =>
       Pn.some (Fn.of [.wait 5, .nm 8 (V.sc (.int .i64 (r_.Counts.length : Int))), .call [] (E23 r1) [], .wait 1, .nm 15 (V.sc (.int .i64 (r1.length : Int))), .wait 2, .mask [1, 3, 14, 15, 16], .ren [0, 2], .loop (X.ret) (st 43 [(2, V.sc (.bool false))] [] [])] (p := [V.sc (.int .i64 ((List.map E3 r_.Counts).length : Int)) = V.sc (.int .i64 (r_.Counts.length : Int)),
        Fn Tryz.prog 125 [(false, V.sl true 23 [V.sl false 3 (List.map E3 r_.Counts), V.sl false 3 (List.map E3 r_.Sums)])] (E23 r1) [],
        (false || ((E23 r1).nv && nvL [])) = true,
        V.sc (.int .i64 ((List.map E3 r1).length : Int)) = V.sc (.int .i64 (r1.length : Int)),
        Loop Tryz.prog (sub (codeOf Tryz.prog 108) [1, 1, 0, 1, 0, 0]) (st 43 [(1, V.ptr 0 0), (3, V.sc (.int .i64 (r_.Counts.length : Int))), (14, V.ow 1), (15, V.sc (.int .i64 (r1.length : Int))), (16, V.sc (.int .i64 0))] [Blk.box 31 [V.sc (.int .i64 r_.Span), V.sc (.int .i64 r_.Head), V.sl false 3 (List.map E3 r_.Counts), V.sl false 3 (List.map E3 r_.Sums)], Blk.row 3 (List.map E3 r1) []] []) (X.ret) (st 43 [(2, V.sc (.bool false))] [] [])]) (by kernel_rfl) (cj (len_nm _ _) (cj (Fn.flag 0 (by kernel_rfl) (slices_Concat_int_ok [r_.Counts, r_.Sums] r1 h1)) (cj (by simp [V.nv, nvL, nvL_all, nv_E3, nv_E23]) (cj (len_nm _ _) (cj1 ((impl_RingOk_l0_ok r_ r1 h6 r1 [] rfl r3 h7).at h9)))))))))) (fun h6 =>
     Pn.none))
def impl_isWide (s_ : ByteArray) (n : Int) : Option (Bool) :=
 (impl_Digits s_).bind fun r1 =>
 if r1 = true then
  some ((s_.size : Int) == n)
 else
  some false
theorem impl_isWide_ok (s_ : ByteArray) (n : Int) : Pn (fun y => Fn Tryz.prog 142 [(false, E9 s_), (false, E3 n)] (E4 y) []) (impl_isWide s_ n) := by
  unfold impl_isWide
  exact
   Pn.bind (fun r1 h1 =>
    Pn.ite (fun h2 =>
     Pn.some (Fn.of [.call [] (E4 r1) [], .bit true, .bit true, .bit true, .bit true, .bit true] (p := [Fn Tryz.prog 139 [(false, E9 s_)] (E4 r1) [],
      (true || ((E4 r1).nv && nvL [])) = true,
      r1 = true,
      r1 = true,
      r1 = true,
      r1 = true,
      r1 = true]) (by kernel_rfl) (cj (impl_Digits_ok s_ r1 h1) (cj rfl (cj h2 (cj h2 (cj h2 (cj h2 (cj1 h2))))))))) (fun h2 =>
     Pn.some (Fn.of [.call [] (E4 r1) [], .bit false, .bit false, .bit false, .bit false, .bit false] (p := [Fn Tryz.prog 139 [(false, E9 s_)] (E4 r1) [],
      (true || ((E4 r1).nv && nvL [])) = true,
      r1 = false,
      r1 = false,
      r1 = false,
      r1 = false,
      r1 = false]) (by kernel_rfl) (cj (impl_Digits_ok s_ r1 h1) (cj rfl (cj h2 (cj h2 (cj h2 (cj h2 (cj1 h2))))))))))
def impl_SlotOk (s_ : Slot) : Option (Bool) :=
 (impl_isWide s_.Trace 6).bind fun r1 =>
 if r1 = true then
  (impl_isWide s_.Mti 4).bind fun r2 =>
  if r2 = true then
   (impl_within (s_.Reply.length : Int) 1 200).bind fun r3 =>
   some r3
  else
   some false
 else
  some false
theorem impl_SlotOk_ok (s_ : Slot) : Pn (fun y => Fn Tryz.prog 126 [(false, E94 s_)] (E4 y) []) (impl_SlotOk s_) := by
  unfold impl_SlotOk
  exact
   Pn.bind (fun r1 h1 =>
    Pn.ite (fun h2 =>
     Pn.bind (fun r2 h3 =>
      Pn.ite (fun h4 =>
       Pn.bind (fun r3 h5 =>
        Pn.some (Fn.of [.call [] (E4 r1) [], .bit true, .bit true, .bit true, .call [] (E4 r2) [], .bit true, .bit true, .bit true, .bit true, .nm 14 (V.sc (.int .i64 (s_.Reply.length : Int))), .bit true, .call [] (E4 r3) [], .bit true] (p := [Fn Tryz.prog 142 [(false, E9 s_.Trace), (false, E3 6)] (E4 r1) [],
         (true || ((E4 r1).nv && nvL [])) = true,
         r1 = true,
         r1 = true,
         r1 = true,
         Fn Tryz.prog 142 [(false, E9 s_.Mti), (false, E3 4)] (E4 r2) [],
         (true || ((E4 r2).nv && nvL [])) = true,
         r1 = true,
         r2 = true,
         r2 = true,
         r2 = true,
         V.sc (.int .i64 ((List.map E5 s_.Reply).length : Int)) = V.sc (.int .i64 (s_.Reply.length : Int)),
         r2 = true,
         Fn Tryz.prog 66 [(false, E3 (s_.Reply.length : Int)), (false, E3 1), (false, E3 200)] (E4 r3) [],
         (true || ((E4 r3).nv && nvL [])) = true,
         r2 = true]) (by kernel_rfl) (cj (impl_isWide_ok s_.Trace 6 r1 h1) (cj rfl (cj h2 (cj h2 (cj h2 (cj (impl_isWide_ok s_.Mti 4 r2 h3) (cj rfl (cj h2 (cj h4 (cj h4 (cj h4 (cj (len_nm _ _) (cj h4 (cj (impl_within_ok (s_.Reply.length : Int) 1 200 r3 h5) (cj rfl (cj1 h4))))))))))))))))))) (fun h4 =>
       Pn.some (Fn.of [.call [] (E4 r1) [], .bit true, .bit true, .bit true, .call [] (E4 r2) [], .bit true, .bit false, .bit false, .bit false, .bit false, .bit false] (p := [Fn Tryz.prog 142 [(false, E9 s_.Trace), (false, E3 6)] (E4 r1) [],
        (true || ((E4 r1).nv && nvL [])) = true,
        r1 = true,
        r1 = true,
        r1 = true,
        Fn Tryz.prog 142 [(false, E9 s_.Mti), (false, E3 4)] (E4 r2) [],
        (true || ((E4 r2).nv && nvL [])) = true,
        r1 = true,
        r2 = false,
        r2 = false,
        r2 = false,
        r2 = false,
        r2 = false]) (by kernel_rfl) (cj (impl_isWide_ok s_.Trace 6 r1 h1) (cj rfl (cj h2 (cj h2 (cj h2 (cj (impl_isWide_ok s_.Mti 4 r2 h3) (cj rfl (cj h2 (cj h4 (cj h4 (cj h4 (cj h4 (cj1 h4))))))))))))))))) (fun h2 =>
     Pn.some (Fn.of [.call [] (E4 r1) [], .bit false, .bit false, .bit false, .bit false, .bit false, .bit false, .bit false, .bit false, .bit false] (p := [Fn Tryz.prog 142 [(false, E9 s_.Trace), (false, E3 6)] (E4 r1) [],
      (true || ((E4 r1).nv && nvL [])) = true,
      r1 = false,
      r1 = false,
      r1 = false,
      r1 = false,
      false = false,
      false = false,
      false = false,
      false = false,
      false = false]) (by kernel_rfl) (cj (impl_isWide_ok s_.Trace 6 r1 h1) (cj rfl (cj h2 (cj h2 (cj h2 (cj h2 (cj rfl (cj rfl (cj rfl (cj rfl (cj1 rfl))))))))))))))
def impl_slotAt_1 (s_ : Slot) (c0_0 : ByteArray) (c1_0 : ByteArray) : Option (Bool) :=
 if (s_.Trace == c0_0) = true then
  some (s_.Mti == c1_0)
 else
  some false
theorem impl_slotAt_1_ok (s_ : Slot) (c0_0 : ByteArray) (c1_0 : ByteArray) : Pn (fun y => Fn Tryz.prog 144 [(false, E94 s_), (false, V.cp [V.sc (.string c0_0)]), (false, V.cp [V.sc (.string c1_0)])] (E4 y) []) (impl_slotAt_1 s_ c0_0 c1_0) := by
  unfold impl_slotAt_1
  exact
   Pn.ite (fun h1 =>
    Pn.some (Fn.of [.bit true, .bit true, .bit true, .bit true, .bit true] (p := [(s_.Trace == c0_0) = true,
     (s_.Trace == c0_0) = true,
     (s_.Trace == c0_0) = true,
     (s_.Trace == c0_0) = true,
     (s_.Trace == c0_0) = true]) (by kernel_rfl) (cj h1 (cj h1 (cj h1 (cj h1 (cj1 h1))))))) (fun h1 =>
    Pn.some (Fn.of [.bit false, .bit false, .bit false, .bit false, .bit false] (p := [(s_.Trace == c0_0) = false,
     (s_.Trace == c0_0) = false,
     (s_.Trace == c0_0) = false,
     (s_.Trace == c0_0) = false,
     (s_.Trace == c0_0) = false]) (by kernel_rfl) (cj h1 (cj h1 (cj h1 (cj h1 (cj1 h1)))))))
def slices_IndexFunc_impl_Slot_impl_slotAt_1_l0 (s_ : List Slot) (f0_0 : ByteArray) (f1_0 : ByteArray) : List Slot → List Slot → Option (Lo Unit Int)
  | [], p1 =>
   some (.out ())
  | x1 :: t1, p1 =>
   (impl_slotAt_1 x1 f0_0 f1_0).bind fun r1 =>
   if r1 = true then
    some (.ret (p1.length : Int))
   else
    slices_IndexFunc_impl_Slot_impl_slotAt_1_l0 s_ f0_0 f1_0 t1 (p1 ++ [x1])
theorem slices_IndexFunc_impl_Slot_impl_slotAt_1_l0_ok (s_ : List Slot) (f0_0 : ByteArray) (f1_0 : ByteArray) (h2 : capOk s_.length = true) : ∀ (t1 p1 : List Slot) (_ : s_ = p1 ++ t1) , Pn (LpO Tryz.prog (sub (codeOf Tryz.prog 143) [1, 0, 1, 0, 0]) (st 19 [(0, V.sl false 94 (List.map E94 s_)), (1, V.fn 144 [V.cp [V.sc (.string f0_0)], V.cp [V.sc (.string f1_0)]]), (7, V.sc (.int .i64 (s_.length : Int))), (8, V.sc (.int .i64 (p1.length : Int)))] [] []) (fun (y : Lo Unit Int) => Lo.elim y (fun s => (X.out 0, st 19 [] [] [])) (fun s => (X.ret, st 19 [(4, V.sc (.int .i64 s))] [] [])))) (slices_IndexFunc_impl_Slot_impl_slotAt_1_l0 s_ f0_0 f1_0 t1 p1)
  | [], p1, h1 => by
    unfold slices_IndexFunc_impl_Slot_impl_slotAt_1_l0
    exact
     Pn.some (LpO.out [.bit false, .mask [], .ren []] (p := [(decide ((p1.length : Int) < (s_.length : Int))) = false]) (by kernel_rfl) (show X.out 0 ≠ X.go from nofun) (cj1 (rng_end h1)))
  | x1 :: t1, p1, h1 => by
    unfold slices_IndexFunc_impl_Slot_impl_slotAt_1_l0
    exact
     Pn.bind (fun r1 h3 =>
      Pn.ite (fun h4 =>
       Pn.some (LpO.out [.bit true, .el (E94 x1), .call [] (E4 r1) [], .bit true, .wait 2, .mask [4], .ren []] (p := [(decide ((p1.length : Int) < (s_.length : Int))) = true,
        (0 : Int) ≤ (p1.length : Int),
        (List.map E94 s_)[(p1.length : Int).toNat]? = some (E94 x1),
        Fn Tryz.prog 144 [(false, E94 x1), (false, V.cp [V.sc (.string f0_0)]), (false, V.cp [V.sc (.string f1_0)])] (E4 r1) [],
        (true || ((E4 r1).nv && nvL [])) = true,
        r1 = true]) (by kernel_rfl) (show X.ret ≠ X.go from nofun) (cj (rng_lt h1) (cj (by omega) (cj (rng_get _ h1) (cj (impl_slotAt_1_ok x1 f0_0 f1_0 r1 h3) (cj rfl (cj1 h4)))))))) (fun h4 =>
       LpO.go [.bit true, .el (E94 x1), .call [] (E4 r1) [], .bit false, .wait 2, .mask [0, 1, 7, 8], .ren [], .nm 8 (V.sc (.int .i64 ((p1 ++ [x1]).length : Int)))] (p := [(decide ((p1.length : Int) < (s_.length : Int))) = true,
        (0 : Int) ≤ (p1.length : Int),
        (List.map E94 s_)[(p1.length : Int).toNat]? = some (E94 x1),
        Fn Tryz.prog 144 [(false, E94 x1), (false, V.cp [V.sc (.string f0_0)]), (false, V.cp [V.sc (.string f1_0)])] (E4 r1) [],
        (true || ((E4 r1).nv && nvL [])) = true,
        r1 = false,
        V.sc (.int .i64 (i64 ((p1.length : Int) + 1))) = V.sc (.int .i64 ((p1 ++ [x1]).length : Int))]) (by kernel_rfl) (cj (rng_lt h1) (cj (by omega) (cj (rng_get _ h1) (cj (impl_slotAt_1_ok x1 f0_0 f1_0 r1 h3) (cj rfl (cj h4 (cj1 (rng_next h1 h2)))))))) (slices_IndexFunc_impl_Slot_impl_slotAt_1_l0_ok s_ f0_0 f1_0 h2 t1 (p1 ++ [x1]) (rng_step h1))))
def slices_IndexFunc_impl_Slot_impl_slotAt_1 (s_ : List Slot) (f0_0 : ByteArray) (f1_0 : ByteArray) : Option (Int) :=
 if (capOk s_.length) = true then
  (slices_IndexFunc_impl_Slot_impl_slotAt_1_l0 s_ f0_0 f1_0 s_ []).bind fun r2 =>
  Lo.elim r2 (fun s1 =>
   some (-1)) (fun s2 =>
   some s2)
 else none
theorem slices_IndexFunc_impl_Slot_impl_slotAt_1_ok (s_ : List Slot) (f0_0 : ByteArray) (f1_0 : ByteArray) : Pn (fun y => Fn Tryz.prog 143 [(false, E32 s_), (false, V.fn 144 [V.cp [V.sc (.string f0_0)], V.cp [V.sc (.string f1_0)]])] (E3 y) []) (slices_IndexFunc_impl_Slot_impl_slotAt_1 s_ f0_0 f1_0) := by
  unfold slices_IndexFunc_impl_Slot_impl_slotAt_1
  exact
   Pn.ite (fun h5 =>
    Pn.bind (fun r2 h6 =>
     Pn.lo (fun s1 h7 =>
      Pn.some (Fn.of [.wait 3, .nm 7 (V.sc (.int .i64 (s_.length : Int))), .wait 2, .mask [0, 1, 7, 8], .ren [], .loop (X.out 0) (st 19 [] [] [])] (p := [V.sc (.int .i64 ((List.map E94 s_).length : Int)) = V.sc (.int .i64 (s_.length : Int)),
       Loop Tryz.prog (sub (codeOf Tryz.prog 143) [1, 0, 1, 0, 0]) (st 19 [(0, V.sl false 94 (List.map E94 s_)), (1, V.fn 144 [V.cp [V.sc (.string f0_0)], V.cp [V.sc (.string f1_0)]]), (7, V.sc (.int .i64 (s_.length : Int))), (8, V.sc (.int .i64 0))] [] []) (X.out 0) (st 19 [] [] [])]) (by kernel_rfl) (cj (len_nm _ _) (cj1 ((slices_IndexFunc_impl_Slot_impl_slotAt_1_l0_ok s_ f0_0 f1_0 h5 s_ [] rfl r2 h6).at h7))))) (fun s2 h8 =>
      Pn.some (Fn.of [.wait 3, .nm 7 (V.sc (.int .i64 (s_.length : Int))), .wait 2, .mask [0, 1, 7, 8], .ren [], .loop (X.ret) (st 19 [(4, V.sc (.int .i64 s2))] [] [])] (p := [V.sc (.int .i64 ((List.map E94 s_).length : Int)) = V.sc (.int .i64 (s_.length : Int)),
       Loop Tryz.prog (sub (codeOf Tryz.prog 143) [1, 0, 1, 0, 0]) (st 19 [(0, V.sl false 94 (List.map E94 s_)), (1, V.fn 144 [V.cp [V.sc (.string f0_0)], V.cp [V.sc (.string f1_0)]]), (7, V.sc (.int .i64 (s_.length : Int))), (8, V.sc (.int .i64 0))] [] []) (X.ret) (st 19 [(4, V.sc (.int .i64 s2))] [] [])]) (by kernel_rfl) (cj (len_nm _ _) (cj1 ((slices_IndexFunc_impl_Slot_impl_slotAt_1_l0_ok s_ f0_0 f1_0 h5 s_ [] rfl r2 h6).at h8))))))) (fun h5 =>
    Pn.none)
def impl_slotAt (l : List Slot) (trace : ByteArray) (mti : ByteArray) : Option (Int) :=
 (slices_IndexFunc_impl_Slot_impl_slotAt_1 l trace mti).bind fun r1 =>
 some r1
theorem impl_slotAt_ok (l : List Slot) (trace : ByteArray) (mti : ByteArray) : Pn (fun y => Fn Tryz.prog 127 [(false, E32 l), (false, E9 trace), (false, E9 mti)] (E3 y) []) (impl_slotAt l trace mti) := by
  unfold impl_slotAt
  exact
   Pn.bind (fun r1 h1 =>
    Pn.some (Fn.of [.call [] (E3 r1) []] (p := [Fn Tryz.prog 143 [(false, E32 l), (false, V.fn 144 [V.cp [V.sc (.string trace)], V.cp [V.sc (.string mti)]])] (E3 r1) [],
     (false || ((E3 r1).nv && nvL [])) = true]) (by kernel_rfl) (cj (slices_IndexFunc_impl_Slot_impl_slotAt_1_ok l trace mti r1 h1) (cj1 (by simp [V.nv, nvL, nvL_all, nv_E3])))))
def impl_SlotsOk_l0 (l : List Slot) : List Slot → List Slot → Option (Lo Unit Unit)
  | [], p1 =>
   some (.out ())
  | x1 :: t1, p1 =>
   (impl_SlotOk x1).bind fun r1 =>
   if r1 = true then
    (impl_slotAt l x1.Trace x1.Mti).bind fun r2 =>
    if (r2 != (p1.length : Int)) = true then
     some (.ret ())
    else
     impl_SlotsOk_l0 l t1 (p1 ++ [x1])
   else
    some (.ret ())
theorem impl_SlotsOk_l0_ok (l : List Slot) (h2 : capOk l.length = true) : ∀ (t1 p1 : List Slot) (_ : l = p1 ++ t1) , Pn (LpO Tryz.prog (sub (codeOf Tryz.prog 109) [1, 0, 1, 0, 0]) (st 29 [(0, V.sl false 94 (List.map E94 l)), (5, V.sl false 94 (List.map E94 l)), (6, V.sc (.int .i64 (l.length : Int))), (7, V.sc (.int .i64 (p1.length : Int)))] [] []) (fun (y : Lo Unit Unit) => Lo.elim y (fun s => (X.out 0, st 29 [(0, V.sl false 94 (List.map E94 l))] [] [])) (fun s => (X.ret, st 29 [(2, V.sc (.bool false))] [] [])))) (impl_SlotsOk_l0 l t1 p1)
  | [], p1, h1 => by
    unfold impl_SlotsOk_l0
    exact
     Pn.some (LpO.out [.bit false, .mask [0], .ren []] (p := [(decide ((p1.length : Int) < (l.length : Int))) = false]) (by kernel_rfl) (show X.out 0 ≠ X.go from nofun) (cj1 (rng_end h1)))
  | x1 :: t1, p1, h1 => by
    unfold impl_SlotsOk_l0
    exact
     Pn.bind (fun r1 h3 =>
      Pn.ite (fun h4 =>
       Pn.bind (fun r2 h5 =>
        Pn.ite (fun h6 =>
         Pn.some (LpO.out [.bit true, .el (E94 x1), .call [] (E4 r1) [], .bit false, .bit false, .bit false, .bit false, .bit false, .bit false, .call [] (E3 r2) [], .bit false, .bit false, .bit false, .bit true, .wait 1, .mask [2], .ren []] (p := [(decide ((p1.length : Int) < (l.length : Int))) = true,
          (0 : Int) ≤ (p1.length : Int),
          (List.map E94 l)[(p1.length : Int).toNat]? = some (E94 x1),
          Fn Tryz.prog 126 [(false, E94 x1)] (E4 r1) [],
          (true || ((E4 r1).nv && nvL [])) = true,
          (!r1) = false,
          (!r1) = false,
          (!r1) = false,
          (!r1) = false,
          (!r1) = false,
          (!r1) = false,
          Fn Tryz.prog 127 [(false, E32 l), (false, E9 x1.Trace), (false, E9 x1.Mti)] (E3 r2) [],
          (true || ((E3 r2).nv && nvL [])) = true,
          (!r1) = false,
          (!r1) = false,
          (!r1) = false,
          (r2 != (p1.length : Int)) = true]) (by kernel_rfl) (show X.ret ≠ X.go from nofun) (cj (rng_lt h1) (cj (by omega) (cj (rng_get _ h1) (cj (impl_SlotOk_ok x1 r1 h3) (cj rfl (cj (nf h4) (cj (nf h4) (cj (nf h4) (cj (nf h4) (cj (nf h4) (cj (nf h4) (cj (impl_slotAt_ok l x1.Trace x1.Mti r2 h5) (cj rfl (cj (nf h4) (cj (nf h4) (cj (nf h4) (cj1 h6))))))))))))))))))) (fun h6 =>
         LpO.go [.bit true, .el (E94 x1), .call [] (E4 r1) [], .bit false, .bit false, .bit false, .bit false, .bit false, .bit false, .call [] (E3 r2) [], .bit false, .bit false, .bit false, .bit false, .wait 2, .mask [0, 5, 6, 7], .ren [], .nm 7 (V.sc (.int .i64 ((p1 ++ [x1]).length : Int)))] (p := [(decide ((p1.length : Int) < (l.length : Int))) = true,
          (0 : Int) ≤ (p1.length : Int),
          (List.map E94 l)[(p1.length : Int).toNat]? = some (E94 x1),
          Fn Tryz.prog 126 [(false, E94 x1)] (E4 r1) [],
          (true || ((E4 r1).nv && nvL [])) = true,
          (!r1) = false,
          (!r1) = false,
          (!r1) = false,
          (!r1) = false,
          (!r1) = false,
          (!r1) = false,
          Fn Tryz.prog 127 [(false, E32 l), (false, E9 x1.Trace), (false, E9 x1.Mti)] (E3 r2) [],
          (true || ((E3 r2).nv && nvL [])) = true,
          (!r1) = false,
          (!r1) = false,
          (!r1) = false,
          (r2 != (p1.length : Int)) = false,
          V.sc (.int .i64 (i64 ((p1.length : Int) + 1))) = V.sc (.int .i64 ((p1 ++ [x1]).length : Int))]) (by kernel_rfl) (cj (rng_lt h1) (cj (by omega) (cj (rng_get _ h1) (cj (impl_SlotOk_ok x1 r1 h3) (cj rfl (cj (nf h4) (cj (nf h4) (cj (nf h4) (cj (nf h4) (cj (nf h4) (cj (nf h4) (cj (impl_slotAt_ok l x1.Trace x1.Mti r2 h5) (cj rfl (cj (nf h4) (cj (nf h4) (cj (nf h4) (cj h6 (cj1 (rng_next h1 h2))))))))))))))))))) (impl_SlotsOk_l0_ok l h2 t1 (p1 ++ [x1]) (rng_step h1))))) (fun h4 =>
       Pn.some (LpO.out [.bit true, .el (E94 x1), .call [] (E4 r1) [], .bit true, .bit true, .bit true, .bit true, .bit true, .bit true, .bit true, .bit true, .bit true, .bit true, .wait 1, .mask [2], .ren []] (p := [(decide ((p1.length : Int) < (l.length : Int))) = true,
        (0 : Int) ≤ (p1.length : Int),
        (List.map E94 l)[(p1.length : Int).toNat]? = some (E94 x1),
        Fn Tryz.prog 126 [(false, E94 x1)] (E4 r1) [],
        (true || ((E4 r1).nv && nvL [])) = true,
        (!r1) = true,
        (!r1) = true,
        (!r1) = true,
        (!r1) = true,
        (!r1) = true,
        (!r1) = true,
        (!r1) = true,
        (!r1) = true,
        (!r1) = true,
        true = true]) (by kernel_rfl) (show X.ret ≠ X.go from nofun) (cj (rng_lt h1) (cj (by omega) (cj (rng_get _ h1) (cj (impl_SlotOk_ok x1 r1 h3) (cj rfl (cj (nt h4) (cj (nt h4) (cj (nt h4) (cj (nt h4) (cj (nt h4) (cj (nt h4) (cj (nt h4) (cj (nt h4) (cj (nt h4) (cj1 rfl))))))))))))))))))
def impl_SlotsOk (l : List Slot) : Option (Bool) :=
 if (capOk l.length) = true then
  (impl_SlotsOk_l0 l l []).bind fun r3 =>
  Lo.elim r3 (fun s1 =>
   some (decide ((l.length : Int) ≤ 6))) (fun s2 =>
   some false)
 else none
theorem impl_SlotsOk_ok (l : List Slot) : Pn (fun y => Fn Tryz.prog 109 [(false, E32 l)] (E4 y) []) (impl_SlotsOk l) := by
  unfold impl_SlotsOk
  exact
   Pn.ite (fun h7 =>
    Pn.bind (fun r3 h8 =>
     Pn.lo (fun s1 h9 =>
      Pn.some (Fn.of [.wait 3, .nm 6 (V.sc (.int .i64 (l.length : Int))), .wait 2, .mask [0, 5, 6, 7], .ren [], .loop (X.out 0) (st 29 [(0, V.sl false 94 (List.map E94 l))] [] []), .wait 2, .nm 27 (V.sc (.int .i64 (l.length : Int)))] (p := [V.sc (.int .i64 ((List.map E94 l).length : Int)) = V.sc (.int .i64 (l.length : Int)),
       Loop Tryz.prog (sub (codeOf Tryz.prog 109) [1, 0, 1, 0, 0]) (st 29 [(0, V.sl false 94 (List.map E94 l)), (5, V.sl false 94 (List.map E94 l)), (6, V.sc (.int .i64 (l.length : Int))), (7, V.sc (.int .i64 0))] [] []) (X.out 0) (st 29 [(0, V.sl false 94 (List.map E94 l))] [] []),
       V.sc (.int .i64 ((List.map E94 l).length : Int)) = V.sc (.int .i64 (l.length : Int))]) (by kernel_rfl) (cj (len_nm _ _) (cj ((impl_SlotsOk_l0_ok l h7 l [] rfl r3 h8).at h9) (cj1 (len_nm _ _)))))) (fun s2 h10 =>
      Pn.some (Fn.of [.wait 3, .nm 6 (V.sc (.int .i64 (l.length : Int))), .wait 2, .mask [0, 5, 6, 7], .ren [], .loop (X.ret) (st 29 [(2, V.sc (.bool false))] [] [])] (p := [V.sc (.int .i64 ((List.map E94 l).length : Int)) = V.sc (.int .i64 (l.length : Int)),
       Loop Tryz.prog (sub (codeOf Tryz.prog 109) [1, 0, 1, 0, 0]) (st 29 [(0, V.sl false 94 (List.map E94 l)), (5, V.sl false 94 (List.map E94 l)), (6, V.sc (.int .i64 (l.length : Int))), (7, V.sc (.int .i64 0))] [] []) (X.ret) (st 29 [(2, V.sc (.bool false))] [] [])]) (by kernel_rfl) (cj (len_nm _ _) (cj1 ((impl_SlotsOk_l0_ok l h7 l [] rfl r3 h8).at h10))))))) (fun h7 =>
    Pn.none)
def impl_AddSat (a : Int) (b : Int) : Option (Int) :=
 if (decide ((i64 (4611686018427387904 - (imax 0 (imin b 4611686018427387904)))) < (imax 0 (imin a 4611686018427387904)))) = true then
  some 4611686018427387904
 else
  some (i64 ((imax 0 (imin a 4611686018427387904)) + (imax 0 (imin b 4611686018427387904))))
theorem impl_AddSat_ok (a : Int) (b : Int) : Pn (fun y => Fn Tryz.prog 110 [(false, E3 a), (false, E3 b)] (E3 y) []) (impl_AddSat a b) := by
  unfold impl_AddSat
  exact
   Pn.ite (fun h1 =>
    Pn.some (Fn.of [.bit true] (p := [(decide ((i64 (4611686018427387904 - (imax 0 (imin b 4611686018427387904)))) < (imax 0 (imin a 4611686018427387904)))) = true]) (by kernel_rfl) (cj1 h1))) (fun h1 =>
    Pn.some (Fn.of [.bit false] (p := [(decide ((i64 (4611686018427387904 - (imax 0 (imin b 4611686018427387904)))) < (imax 0 (imin a 4611686018427387904)))) = false]) (by kernel_rfl) (cj1 h1)))
def impl_Stored_l0 (l : List Hold) : List Hold → Int → Option (Int)
  | [], v1 =>
   some v1
  | x1 :: t1, v1 =>
   (impl_AddSat v1 x1.Amount).bind fun r1 =>
   impl_Stored_l0 l t1 r1
theorem impl_Stored_l0_ok (l : List Hold) (h2 : capOk l.length = true) : ∀ (t1 p1 : List Hold) (_ : l = p1 ++ t1) (v1 : Int), Pn (LpO Tryz.prog (sub (codeOf Tryz.prog 111) [1, 1, 0, 1, 0, 0]) (st 18 [(3, V.sc (.int .i64 v1)), (6, V.sl false 74 (List.map E74 l)), (7, V.sc (.int .i64 (l.length : Int))), (8, V.sc (.int .i64 (p1.length : Int)))] [] []) (fun (y : Int) => (X.out 0, st 18 [(3, V.sc (.int .i64 y))] [] []))) (impl_Stored_l0 l t1 v1)
  | [], p1, h1, v1 => by
    unfold impl_Stored_l0
    exact
     Pn.some (LpO.out [.bit false, .mask [3], .ren []] (p := [(decide ((p1.length : Int) < (l.length : Int))) = false]) (by kernel_rfl) (show X.out 0 ≠ X.go from nofun) (cj1 (rng_end h1)))
  | x1 :: t1, p1, h1, v1 => by
    unfold impl_Stored_l0
    exact
     Pn.bind (fun r1 h3 =>
      LpO.go [.bit true, .el (E74 x1), .call [] (E3 r1) [], .wait 4, .mask [3, 6, 7, 8], .ren [], .nm 8 (V.sc (.int .i64 ((p1 ++ [x1]).length : Int)))] (p := [(decide ((p1.length : Int) < (l.length : Int))) = true,
       (0 : Int) ≤ (p1.length : Int),
       (List.map E74 l)[(p1.length : Int).toNat]? = some (E74 x1),
       Fn Tryz.prog 110 [(false, E3 v1), (false, E3 x1.Amount)] (E3 r1) [],
       (true || ((E3 r1).nv && nvL [])) = true,
       V.sc (.int .i64 (i64 ((p1.length : Int) + 1))) = V.sc (.int .i64 ((p1 ++ [x1]).length : Int))]) (by kernel_rfl) (cj (rng_lt h1) (cj (by omega) (cj (rng_get _ h1) (cj (impl_AddSat_ok v1 x1.Amount r1 h3) (cj rfl (cj1 (rng_next h1 h2))))))) (impl_Stored_l0_ok l h2 t1 (p1 ++ [x1]) (rng_step h1) r1))
def impl_Stored (l : List Hold) : Option (Int) :=
 if (capOk l.length) = true then
  (impl_Stored_l0 l l 0).bind fun r2 =>
  some r2
 else none
theorem impl_Stored_ok (l : List Hold) : Pn (fun y => Fn Tryz.prog 111 [(false, E30 l)] (E3 y) []) (impl_Stored l) := by
  unfold impl_Stored
  exact
   Pn.ite (fun h4 =>
    Pn.bind (fun r2 h5 =>
     Pn.some (Fn.of [.wait 4, .nm 7 (V.sc (.int .i64 (l.length : Int))), .wait 2, .mask [3, 6, 7, 8], .ren [], .loop (X.out 0) (st 18 [(3, V.sc (.int .i64 r2))] [] [])] (p := [V.sc (.int .i64 ((List.map E74 l).length : Int)) = V.sc (.int .i64 (l.length : Int)),
      Loop Tryz.prog (sub (codeOf Tryz.prog 111) [1, 1, 0, 1, 0, 0]) (st 18 [(3, V.sc (.int .i64 0)), (6, V.sl false 74 (List.map E74 l)), (7, V.sc (.int .i64 (l.length : Int))), (8, V.sc (.int .i64 0))] [] []) (X.out 0) (st 18 [(3, V.sc (.int .i64 r2))] [] [])]) (by kernel_rfl) (cj (len_nm _ _) (cj1 (impl_Stored_l0_ok l h4 l [] rfl 0 r2 h5)))))) (fun h4 =>
    Pn.none)
def impl_AcctOk (a : Acct) : Option (Bool) :=
 (impl_AcctIdOk a.Id).bind fun r1 =>
 if r1 = true then
  (impl_within a.Limit 0 9007199254740992).bind fun r2 =>
  if r2 = true then
   (impl_within a.Most 0 1000).bind fun r3 =>
   if r3 = true then
    (impl_within a.MostSum 0 9007199254740992).bind fun r4 =>
    if r4 = true then
     (impl_isMoney a.Posted).bind fun r5 =>
     if r5 = true then
      (impl_HoldsOk a.Holds).bind fun r6 =>
      if r6 = true then
       (impl_RingOk a.Ring).bind fun r7 =>
       if r7 = true then
        (impl_SlotsOk a.Slots).bind fun r8 =>
        if r8 = true then
         (impl_Stored a.Holds).bind fun r9 =>
         (impl_AddSat a.Posted r9).bind fun r10 =>
         some (decide (r10 ≤ a.Limit))
        else
         some false
       else
        some false
      else
       some false
     else
      some false
    else
     some false
   else
    some false
  else
   some false
 else
  some false
theorem impl_AcctOk_ok (a : Acct) : Pn (fun y => Fn Tryz.prog 80 [(false, E34 a)] (E4 y) []) (impl_AcctOk a) := by
  unfold impl_AcctOk
  exact
   Pn.bind (fun r1 h1 =>
    Pn.ite (fun h2 =>
     Pn.bind (fun r2 h3 =>
      Pn.ite (fun h4 =>
       Pn.bind (fun r3 h5 =>
        Pn.ite (fun h6 =>
         Pn.bind (fun r4 h7 =>
          Pn.ite (fun h8 =>
           Pn.bind (fun r5 h9 =>
            Pn.ite (fun h10 =>
             Pn.bind (fun r6 h11 =>
              Pn.ite (fun h12 =>
               Pn.bind (fun r7 h13 =>
                Pn.ite (fun h14 =>
                 Pn.bind (fun r8 h15 =>
                  Pn.ite (fun h16 =>
                   Pn.bind (fun r9 h17 =>
                    Pn.bind (fun r10 h18 =>
                     Pn.some (Fn.of [.draw [], .call [] (E4 r1) [], .bit true, .bit true, .bit true, .call [] (E4 r2) [], .bit true, .bit true, .bit true, .bit true, .call [] (E4 r3) [], .bit true, .bit true, .bit true, .bit true, .call [] (E4 r4) [], .bit true, .bit true, .bit true, .bit true, .call [] (E4 r5) [], .bit true, .bit true, .bit true, .bit true, .call [] (E4 r6) [], .bit true, .bit true, .bit true, .bit true, .call [] (E4 r7) [], .bit true, .bit true, .bit true, .bit true, .call [] (E4 r8) [], .bit true, .bit true, .bit true, .bit true, .bit true, .bit true, .bit true, .bit true, .call [] (E3 r9) [], .bit true, .call [] (E3 r10) [], .bit true, .bit true] (p := [Fn Tryz.prog 105 [(false, E9 a.Id)] (E4 r1) [],
                      (true || ((E4 r1).nv && nvL [])) = true,
                      r1 = true,
                      r1 = true,
                      r1 = true,
                      Fn Tryz.prog 66 [(false, E3 a.Limit), (false, E3 0), (false, E3 9007199254740992)] (E4 r2) [],
                      (true || ((E4 r2).nv && nvL [])) = true,
                      r1 = true,
                      r2 = true,
                      r2 = true,
                      r2 = true,
                      Fn Tryz.prog 66 [(false, E3 a.Most), (false, E3 0), (false, E3 1000)] (E4 r3) [],
                      (true || ((E4 r3).nv && nvL [])) = true,
                      r2 = true,
                      r3 = true,
                      r3 = true,
                      r3 = true,
                      Fn Tryz.prog 66 [(false, E3 a.MostSum), (false, E3 0), (false, E3 9007199254740992)] (E4 r4) [],
                      (true || ((E4 r4).nv && nvL [])) = true,
                      r3 = true,
                      r4 = true,
                      r4 = true,
                      r4 = true,
                      Fn Tryz.prog 106 [(false, E3 a.Posted)] (E4 r5) [],
                      (true || ((E4 r5).nv && nvL [])) = true,
                      r4 = true,
                      r5 = true,
                      r5 = true,
                      r5 = true,
                      Fn Tryz.prog 107 [(false, E30 a.Holds)] (E4 r6) [],
                      (true || ((E4 r6).nv && nvL [])) = true,
                      r5 = true,
                      r6 = true,
                      r6 = true,
                      r6 = true,
                      Fn Tryz.prog 108 [(false, E31 a.Ring)] (E4 r7) [],
                      (true || ((E4 r7).nv && nvL [])) = true,
                      r6 = true,
                      r7 = true,
                      r7 = true,
                      r7 = true,
                      Fn Tryz.prog 109 [(false, E32 a.Slots)] (E4 r8) [],
                      (true || ((E4 r8).nv && nvL [])) = true,
                      r7 = true,
                      r8 = true,
                      r8 = true,
                      r8 = true,
                      r8 = true,
                      r8 = true,
                      r8 = true,
                      r8 = true,
                      Fn Tryz.prog 111 [(false, E30 a.Holds)] (E3 r9) [],
                      (true || ((E3 r9).nv && nvL [])) = true,
                      r8 = true,
                      Fn Tryz.prog 110 [(false, E3 a.Posted), (false, E3 r9)] (E3 r10) [],
                      (true || ((E3 r10).nv && nvL [])) = true,
                      r8 = true,
                      r8 = true]) (by kernel_rfl) (cj (impl_AcctIdOk_ok a.Id r1 h1) (cj rfl (cj h2 (cj h2 (cj h2 (cj (impl_within_ok a.Limit 0 9007199254740992 r2 h3) (cj rfl (cj h2 (cj h4 (cj h4 (cj h4 (cj (impl_within_ok a.Most 0 1000 r3 h5) (cj rfl (cj h4 (cj h6 (cj h6 (cj h6 (cj (impl_within_ok a.MostSum 0 9007199254740992 r4 h7) (cj rfl (cj h6 (cj h8 (cj h8 (cj h8 (cj (impl_isMoney_ok a.Posted r5 h9) (cj rfl (cj h8 (cj h10 (cj h10 (cj h10 (cj (impl_HoldsOk_ok a.Holds r6 h11) (cj rfl (cj h10 (cj h12 (cj h12 (cj h12 (cj (impl_RingOk_ok a.Ring r7 h13) (cj rfl (cj h12 (cj h14 (cj h14 (cj h14 (cj (impl_SlotsOk_ok a.Slots r8 h15) (cj rfl (cj h14 (cj h16 (cj h16 (cj h16 (cj h16 (cj h16 (cj h16 (cj h16 (cj (impl_Stored_ok a.Holds r9 h17) (cj rfl (cj h16 (cj (impl_AddSat_ok a.Posted r9 r10 h18) (cj rfl (cj h16 (cj1 h16)))))))))))))))))))))))))))))))))))))))))))))))))))))))))))))) (fun h16 =>
                   Pn.some (Fn.of [.draw [], .call [] (E4 r1) [], .bit true, .bit true, .bit true, .call [] (E4 r2) [], .bit true, .bit true, .bit true, .bit true, .call [] (E4 r3) [], .bit true, .bit true, .bit true, .bit true, .call [] (E4 r4) [], .bit true, .bit true, .bit true, .bit true, .call [] (E4 r5) [], .bit true, .bit true, .bit true, .bit true, .call [] (E4 r6) [], .bit true, .bit true, .bit true, .bit true, .call [] (E4 r7) [], .bit true, .bit true, .bit true, .bit true, .call [] (E4 r8) [], .bit true, .bit false, .bit false, .bit false, .bit false, .bit false, .bit false, .bit false, .bit false, .bit false, .bit false] (p := [Fn Tryz.prog 105 [(false, E9 a.Id)] (E4 r1) [],
                    (true || ((E4 r1).nv && nvL [])) = true,
                    r1 = true,
                    r1 = true,
                    r1 = true,
                    Fn Tryz.prog 66 [(false, E3 a.Limit), (false, E3 0), (false, E3 9007199254740992)] (E4 r2) [],
                    (true || ((E4 r2).nv && nvL [])) = true,
                    r1 = true,
                    r2 = true,
                    r2 = true,
                    r2 = true,
                    Fn Tryz.prog 66 [(false, E3 a.Most), (false, E3 0), (false, E3 1000)] (E4 r3) [],
                    (true || ((E4 r3).nv && nvL [])) = true,
                    r2 = true,
                    r3 = true,
                    r3 = true,
                    r3 = true,
                    Fn Tryz.prog 66 [(false, E3 a.MostSum), (false, E3 0), (false, E3 9007199254740992)] (E4 r4) [],
                    (true || ((E4 r4).nv && nvL [])) = true,
                    r3 = true,
                    r4 = true,
                    r4 = true,
                    r4 = true,
                    Fn Tryz.prog 106 [(false, E3 a.Posted)] (E4 r5) [],
                    (true || ((E4 r5).nv && nvL [])) = true,
                    r4 = true,
                    r5 = true,
                    r5 = true,
                    r5 = true,
                    Fn Tryz.prog 107 [(false, E30 a.Holds)] (E4 r6) [],
                    (true || ((E4 r6).nv && nvL [])) = true,
                    r5 = true,
                    r6 = true,
                    r6 = true,
                    r6 = true,
                    Fn Tryz.prog 108 [(false, E31 a.Ring)] (E4 r7) [],
                    (true || ((E4 r7).nv && nvL [])) = true,
                    r6 = true,
                    r7 = true,
                    r7 = true,
                    r7 = true,
                    Fn Tryz.prog 109 [(false, E32 a.Slots)] (E4 r8) [],
                    (true || ((E4 r8).nv && nvL [])) = true,
                    r7 = true,
                    r8 = false,
                    r8 = false,
                    r8 = false,
                    r8 = false,
                    r8 = false,
                    r8 = false,
                    r8 = false,
                    r8 = false,
                    r8 = false,
                    r8 = false]) (by kernel_rfl) (cj (impl_AcctIdOk_ok a.Id r1 h1) (cj rfl (cj h2 (cj h2 (cj h2 (cj (impl_within_ok a.Limit 0 9007199254740992 r2 h3) (cj rfl (cj h2 (cj h4 (cj h4 (cj h4 (cj (impl_within_ok a.Most 0 1000 r3 h5) (cj rfl (cj h4 (cj h6 (cj h6 (cj h6 (cj (impl_within_ok a.MostSum 0 9007199254740992 r4 h7) (cj rfl (cj h6 (cj h8 (cj h8 (cj h8 (cj (impl_isMoney_ok a.Posted r5 h9) (cj rfl (cj h8 (cj h10 (cj h10 (cj h10 (cj (impl_HoldsOk_ok a.Holds r6 h11) (cj rfl (cj h10 (cj h12 (cj h12 (cj h12 (cj (impl_RingOk_ok a.Ring r7 h13) (cj rfl (cj h12 (cj h14 (cj h14 (cj h14 (cj (impl_SlotsOk_ok a.Slots r8 h15) (cj rfl (cj h14 (cj h16 (cj h16 (cj h16 (cj h16 (cj h16 (cj h16 (cj h16 (cj h16 (cj h16 (cj1 h16)))))))))))))))))))))))))))))))))))))))))))))))))))))))))) (fun h14 =>
                 Pn.some (Fn.of [.draw [], .call [] (E4 r1) [], .bit true, .bit true, .bit true, .call [] (E4 r2) [], .bit true, .bit true, .bit true, .bit true, .call [] (E4 r3) [], .bit true, .bit true, .bit true, .bit true, .call [] (E4 r4) [], .bit true, .bit true, .bit true, .bit true, .call [] (E4 r5) [], .bit true, .bit true, .bit true, .bit true, .call [] (E4 r6) [], .bit true, .bit true, .bit true, .bit true, .call [] (E4 r7) [], .bit true, .bit false, .bit false, .bit false, .bit false, .bit false, .bit false, .bit false, .bit false, .bit false, .bit false, .bit false, .bit false, .bit false, .bit false] (p := [Fn Tryz.prog 105 [(false, E9 a.Id)] (E4 r1) [],
                  (true || ((E4 r1).nv && nvL [])) = true,
                  r1 = true,
                  r1 = true,
                  r1 = true,
                  Fn Tryz.prog 66 [(false, E3 a.Limit), (false, E3 0), (false, E3 9007199254740992)] (E4 r2) [],
                  (true || ((E4 r2).nv && nvL [])) = true,
                  r1 = true,
                  r2 = true,
                  r2 = true,
                  r2 = true,
                  Fn Tryz.prog 66 [(false, E3 a.Most), (false, E3 0), (false, E3 1000)] (E4 r3) [],
                  (true || ((E4 r3).nv && nvL [])) = true,
                  r2 = true,
                  r3 = true,
                  r3 = true,
                  r3 = true,
                  Fn Tryz.prog 66 [(false, E3 a.MostSum), (false, E3 0), (false, E3 9007199254740992)] (E4 r4) [],
                  (true || ((E4 r4).nv && nvL [])) = true,
                  r3 = true,
                  r4 = true,
                  r4 = true,
                  r4 = true,
                  Fn Tryz.prog 106 [(false, E3 a.Posted)] (E4 r5) [],
                  (true || ((E4 r5).nv && nvL [])) = true,
                  r4 = true,
                  r5 = true,
                  r5 = true,
                  r5 = true,
                  Fn Tryz.prog 107 [(false, E30 a.Holds)] (E4 r6) [],
                  (true || ((E4 r6).nv && nvL [])) = true,
                  r5 = true,
                  r6 = true,
                  r6 = true,
                  r6 = true,
                  Fn Tryz.prog 108 [(false, E31 a.Ring)] (E4 r7) [],
                  (true || ((E4 r7).nv && nvL [])) = true,
                  r6 = true,
                  r7 = false,
                  r7 = false,
                  r7 = false,
                  r7 = false,
                  false = false,
                  false = false,
                  false = false,
                  false = false,
                  false = false,
                  false = false,
                  false = false,
                  false = false,
                  false = false,
                  false = false]) (by kernel_rfl) (cj (impl_AcctIdOk_ok a.Id r1 h1) (cj rfl (cj h2 (cj h2 (cj h2 (cj (impl_within_ok a.Limit 0 9007199254740992 r2 h3) (cj rfl (cj h2 (cj h4 (cj h4 (cj h4 (cj (impl_within_ok a.Most 0 1000 r3 h5) (cj rfl (cj h4 (cj h6 (cj h6 (cj h6 (cj (impl_within_ok a.MostSum 0 9007199254740992 r4 h7) (cj rfl (cj h6 (cj h8 (cj h8 (cj h8 (cj (impl_isMoney_ok a.Posted r5 h9) (cj rfl (cj h8 (cj h10 (cj h10 (cj h10 (cj (impl_HoldsOk_ok a.Holds r6 h11) (cj rfl (cj h10 (cj h12 (cj h12 (cj h12 (cj (impl_RingOk_ok a.Ring r7 h13) (cj rfl (cj h12 (cj h14 (cj h14 (cj h14 (cj h14 (cj rfl (cj rfl (cj rfl (cj rfl (cj rfl (cj rfl (cj rfl (cj rfl (cj rfl (cj1 rfl)))))))))))))))))))))))))))))))))))))))))))))))))))))))) (fun h12 =>
               Pn.some (Fn.of [.draw [], .call [] (E4 r1) [], .bit true, .bit true, .bit true, .call [] (E4 r2) [], .bit true, .bit true, .bit true, .bit true, .call [] (E4 r3) [], .bit true, .bit true, .bit true, .bit true, .call [] (E4 r4) [], .bit true, .bit true, .bit true, .bit true, .call [] (E4 r5) [], .bit true, .bit true, .bit true, .bit true, .call [] (E4 r6) [], .bit true, .bit false, .bit false, .bit false, .bit false, .bit false, .bit false, .bit false, .bit false, .bit false, .bit false, .bit false, .bit false, .bit false, .bit false, .bit false, .bit false, .bit false, .bit false] (p := [Fn Tryz.prog 105 [(false, E9 a.Id)] (E4 r1) [],
                (true || ((E4 r1).nv && nvL [])) = true,
                r1 = true,
                r1 = true,
                r1 = true,
                Fn Tryz.prog 66 [(false, E3 a.Limit), (false, E3 0), (false, E3 9007199254740992)] (E4 r2) [],
                (true || ((E4 r2).nv && nvL [])) = true,
                r1 = true,
                r2 = true,
                r2 = true,
                r2 = true,
                Fn Tryz.prog 66 [(false, E3 a.Most), (false, E3 0), (false, E3 1000)] (E4 r3) [],
                (true || ((E4 r3).nv && nvL [])) = true,
                r2 = true,
                r3 = true,
                r3 = true,
                r3 = true,
                Fn Tryz.prog 66 [(false, E3 a.MostSum), (false, E3 0), (false, E3 9007199254740992)] (E4 r4) [],
                (true || ((E4 r4).nv && nvL [])) = true,
                r3 = true,
                r4 = true,
                r4 = true,
                r4 = true,
                Fn Tryz.prog 106 [(false, E3 a.Posted)] (E4 r5) [],
                (true || ((E4 r5).nv && nvL [])) = true,
                r4 = true,
                r5 = true,
                r5 = true,
                r5 = true,
                Fn Tryz.prog 107 [(false, E30 a.Holds)] (E4 r6) [],
                (true || ((E4 r6).nv && nvL [])) = true,
                r5 = true,
                r6 = false,
                r6 = false,
                r6 = false,
                r6 = false,
                false = false,
                false = false,
                false = false,
                false = false,
                false = false,
                false = false,
                false = false,
                false = false,
                false = false,
                false = false,
                false = false,
                false = false,
                false = false,
                false = false]) (by kernel_rfl) (cj (impl_AcctIdOk_ok a.Id r1 h1) (cj rfl (cj h2 (cj h2 (cj h2 (cj (impl_within_ok a.Limit 0 9007199254740992 r2 h3) (cj rfl (cj h2 (cj h4 (cj h4 (cj h4 (cj (impl_within_ok a.Most 0 1000 r3 h5) (cj rfl (cj h4 (cj h6 (cj h6 (cj h6 (cj (impl_within_ok a.MostSum 0 9007199254740992 r4 h7) (cj rfl (cj h6 (cj h8 (cj h8 (cj h8 (cj (impl_isMoney_ok a.Posted r5 h9) (cj rfl (cj h8 (cj h10 (cj h10 (cj h10 (cj (impl_HoldsOk_ok a.Holds r6 h11) (cj rfl (cj h10 (cj h12 (cj h12 (cj h12 (cj h12 (cj rfl (cj rfl (cj rfl (cj rfl (cj rfl (cj rfl (cj rfl (cj rfl (cj rfl (cj rfl (cj rfl (cj rfl (cj rfl (cj1 rfl)))))))))))))))))))))))))))))))))))))))))))))))))))))) (fun h10 =>
             Pn.some (Fn.of [.draw [], .call [] (E4 r1) [], .bit true, .bit true, .bit true, .call [] (E4 r2) [], .bit true, .bit true, .bit true, .bit true, .call [] (E4 r3) [], .bit true, .bit true, .bit true, .bit true, .call [] (E4 r4) [], .bit true, .bit true, .bit true, .bit true, .call [] (E4 r5) [], .bit true, .bit false, .bit false, .bit false, .bit false, .bit false, .bit false, .bit false, .bit false, .bit false, .bit false, .bit false, .bit false, .bit false, .bit false, .bit false, .bit false, .bit false, .bit false, .bit false, .bit false, .bit false, .bit false] (p := [Fn Tryz.prog 105 [(false, E9 a.Id)] (E4 r1) [],
              (true || ((E4 r1).nv && nvL [])) = true,
              r1 = true,
              r1 = true,
              r1 = true,
              Fn Tryz.prog 66 [(false, E3 a.Limit), (false, E3 0), (false, E3 9007199254740992)] (E4 r2) [],
              (true || ((E4 r2).nv && nvL [])) = true,
              r1 = true,
              r2 = true,
              r2 = true,
              r2 = true,
              Fn Tryz.prog 66 [(false, E3 a.Most), (false, E3 0), (false, E3 1000)] (E4 r3) [],
              (true || ((E4 r3).nv && nvL [])) = true,
              r2 = true,
              r3 = true,
              r3 = true,
              r3 = true,
              Fn Tryz.prog 66 [(false, E3 a.MostSum), (false, E3 0), (false, E3 9007199254740992)] (E4 r4) [],
              (true || ((E4 r4).nv && nvL [])) = true,
              r3 = true,
              r4 = true,
              r4 = true,
              r4 = true,
              Fn Tryz.prog 106 [(false, E3 a.Posted)] (E4 r5) [],
              (true || ((E4 r5).nv && nvL [])) = true,
              r4 = true,
              r5 = false,
              r5 = false,
              r5 = false,
              r5 = false,
              false = false,
              false = false,
              false = false,
              false = false,
              false = false,
              false = false,
              false = false,
              false = false,
              false = false,
              false = false,
              false = false,
              false = false,
              false = false,
              false = false,
              false = false,
              false = false,
              false = false,
              false = false]) (by kernel_rfl) (cj (impl_AcctIdOk_ok a.Id r1 h1) (cj rfl (cj h2 (cj h2 (cj h2 (cj (impl_within_ok a.Limit 0 9007199254740992 r2 h3) (cj rfl (cj h2 (cj h4 (cj h4 (cj h4 (cj (impl_within_ok a.Most 0 1000 r3 h5) (cj rfl (cj h4 (cj h6 (cj h6 (cj h6 (cj (impl_within_ok a.MostSum 0 9007199254740992 r4 h7) (cj rfl (cj h6 (cj h8 (cj h8 (cj h8 (cj (impl_isMoney_ok a.Posted r5 h9) (cj rfl (cj h8 (cj h10 (cj h10 (cj h10 (cj h10 (cj rfl (cj rfl (cj rfl (cj rfl (cj rfl (cj rfl (cj rfl (cj rfl (cj rfl (cj rfl (cj rfl (cj rfl (cj rfl (cj rfl (cj rfl (cj rfl (cj rfl (cj1 rfl)))))))))))))))))))))))))))))))))))))))))))))))))))) (fun h8 =>
           Pn.some (Fn.of [.draw [], .call [] (E4 r1) [], .bit true, .bit true, .bit true, .call [] (E4 r2) [], .bit true, .bit true, .bit true, .bit true, .call [] (E4 r3) [], .bit true, .bit true, .bit true, .bit true, .call [] (E4 r4) [], .bit true, .bit false, .bit false, .bit false, .bit false, .bit false, .bit false, .bit false, .bit false, .bit false, .bit false, .bit false, .bit false, .bit false, .bit false, .bit false, .bit false, .bit false, .bit false, .bit false, .bit false, .bit false, .bit false, .bit false, .bit false, .bit false, .bit false] (p := [Fn Tryz.prog 105 [(false, E9 a.Id)] (E4 r1) [],
            (true || ((E4 r1).nv && nvL [])) = true,
            r1 = true,
            r1 = true,
            r1 = true,
            Fn Tryz.prog 66 [(false, E3 a.Limit), (false, E3 0), (false, E3 9007199254740992)] (E4 r2) [],
            (true || ((E4 r2).nv && nvL [])) = true,
            r1 = true,
            r2 = true,
            r2 = true,
            r2 = true,
            Fn Tryz.prog 66 [(false, E3 a.Most), (false, E3 0), (false, E3 1000)] (E4 r3) [],
            (true || ((E4 r3).nv && nvL [])) = true,
            r2 = true,
            r3 = true,
            r3 = true,
            r3 = true,
            Fn Tryz.prog 66 [(false, E3 a.MostSum), (false, E3 0), (false, E3 9007199254740992)] (E4 r4) [],
            (true || ((E4 r4).nv && nvL [])) = true,
            r3 = true,
            r4 = false,
            r4 = false,
            r4 = false,
            r4 = false,
            false = false,
            false = false,
            false = false,
            false = false,
            false = false,
            false = false,
            false = false,
            false = false,
            false = false,
            false = false,
            false = false,
            false = false,
            false = false,
            false = false,
            false = false,
            false = false,
            false = false,
            false = false,
            false = false,
            false = false,
            false = false,
            false = false]) (by kernel_rfl) (cj (impl_AcctIdOk_ok a.Id r1 h1) (cj rfl (cj h2 (cj h2 (cj h2 (cj (impl_within_ok a.Limit 0 9007199254740992 r2 h3) (cj rfl (cj h2 (cj h4 (cj h4 (cj h4 (cj (impl_within_ok a.Most 0 1000 r3 h5) (cj rfl (cj h4 (cj h6 (cj h6 (cj h6 (cj (impl_within_ok a.MostSum 0 9007199254740992 r4 h7) (cj rfl (cj h6 (cj h8 (cj h8 (cj h8 (cj h8 (cj rfl (cj rfl (cj rfl (cj rfl (cj rfl (cj rfl (cj rfl (cj rfl (cj rfl (cj rfl (cj rfl (cj rfl (cj rfl (cj rfl (cj rfl (cj rfl (cj rfl (cj rfl (cj rfl (cj rfl (cj rfl (cj1 rfl)))))))))))))))))))))))))))))))))))))))))))))))))) (fun h6 =>
         Pn.some (Fn.of [.draw [], .call [] (E4 r1) [], .bit true, .bit true, .bit true, .call [] (E4 r2) [], .bit true, .bit true, .bit true, .bit true, .call [] (E4 r3) [], .bit true, .bit false, .bit false, .bit false, .bit false, .bit false, .bit false, .bit false, .bit false, .bit false, .bit false, .bit false, .bit false, .bit false, .bit false, .bit false, .bit false, .bit false, .bit false, .bit false, .bit false, .bit false, .bit false, .bit false, .bit false, .bit false, .bit false, .bit false, .bit false, .bit false, .bit false] (p := [Fn Tryz.prog 105 [(false, E9 a.Id)] (E4 r1) [],
          (true || ((E4 r1).nv && nvL [])) = true,
          r1 = true,
          r1 = true,
          r1 = true,
          Fn Tryz.prog 66 [(false, E3 a.Limit), (false, E3 0), (false, E3 9007199254740992)] (E4 r2) [],
          (true || ((E4 r2).nv && nvL [])) = true,
          r1 = true,
          r2 = true,
          r2 = true,
          r2 = true,
          Fn Tryz.prog 66 [(false, E3 a.Most), (false, E3 0), (false, E3 1000)] (E4 r3) [],
          (true || ((E4 r3).nv && nvL [])) = true,
          r2 = true,
          r3 = false,
          r3 = false,
          r3 = false,
          r3 = false,
          false = false,
          false = false,
          false = false,
          false = false,
          false = false,
          false = false,
          false = false,
          false = false,
          false = false,
          false = false,
          false = false,
          false = false,
          false = false,
          false = false,
          false = false,
          false = false,
          false = false,
          false = false,
          false = false,
          false = false,
          false = false,
          false = false,
          false = false,
          false = false,
          false = false,
          false = false]) (by kernel_rfl) (cj (impl_AcctIdOk_ok a.Id r1 h1) (cj rfl (cj h2 (cj h2 (cj h2 (cj (impl_within_ok a.Limit 0 9007199254740992 r2 h3) (cj rfl (cj h2 (cj h4 (cj h4 (cj h4 (cj (impl_within_ok a.Most 0 1000 r3 h5) (cj rfl (cj h4 (cj h6 (cj h6 (cj h6 (cj h6 (cj rfl (cj rfl (cj rfl (cj rfl (cj rfl (cj rfl (cj rfl (cj rfl (cj rfl (cj rfl (cj rfl (cj rfl (cj rfl (cj rfl (cj rfl (cj rfl (cj rfl (cj rfl (cj rfl (cj rfl (cj rfl (cj rfl (cj rfl (cj rfl (cj rfl (cj1 rfl)))))))))))))))))))))))))))))))))))))))))))))))) (fun h4 =>
       Pn.some (Fn.of [.draw [], .call [] (E4 r1) [], .bit true, .bit true, .bit true, .call [] (E4 r2) [], .bit true, .bit false, .bit false, .bit false, .bit false, .bit false, .bit false, .bit false, .bit false, .bit false, .bit false, .bit false, .bit false, .bit false, .bit false, .bit false, .bit false, .bit false, .bit false, .bit false, .bit false, .bit false, .bit false, .bit false, .bit false, .bit false, .bit false, .bit false, .bit false, .bit false, .bit false, .bit false, .bit false, .bit false, .bit false] (p := [Fn Tryz.prog 105 [(false, E9 a.Id)] (E4 r1) [],
        (true || ((E4 r1).nv && nvL [])) = true,
        r1 = true,
        r1 = true,
        r1 = true,
        Fn Tryz.prog 66 [(false, E3 a.Limit), (false, E3 0), (false, E3 9007199254740992)] (E4 r2) [],
        (true || ((E4 r2).nv && nvL [])) = true,
        r1 = true,
        r2 = false,
        r2 = false,
        r2 = false,
        r2 = false,
        false = false,
        false = false,
        false = false,
        false = false,
        false = false,
        false = false,
        false = false,
        false = false,
        false = false,
        false = false,
        false = false,
        false = false,
        false = false,
        false = false,
        false = false,
        false = false,
        false = false,
        false = false,
        false = false,
        false = false,
        false = false,
        false = false,
        false = false,
        false = false,
        false = false,
        false = false,
        false = false,
        false = false,
        false = false,
        false = false]) (by kernel_rfl) (cj (impl_AcctIdOk_ok a.Id r1 h1) (cj rfl (cj h2 (cj h2 (cj h2 (cj (impl_within_ok a.Limit 0 9007199254740992 r2 h3) (cj rfl (cj h2 (cj h4 (cj h4 (cj h4 (cj h4 (cj rfl (cj rfl (cj rfl (cj rfl (cj rfl (cj rfl (cj rfl (cj rfl (cj rfl (cj rfl (cj rfl (cj rfl (cj rfl (cj rfl (cj rfl (cj rfl (cj rfl (cj rfl (cj rfl (cj rfl (cj rfl (cj rfl (cj rfl (cj rfl (cj rfl (cj rfl (cj rfl (cj rfl (cj rfl (cj1 rfl)))))))))))))))))))))))))))))))))))))))))))))) (fun h2 =>
     Pn.some (Fn.of [.draw [], .call [] (E4 r1) [], .bit false, .bit false, .bit false, .bit false, .bit false, .bit false, .bit false, .bit false, .bit false, .bit false, .bit false, .bit false, .bit false, .bit false, .bit false, .bit false, .bit false, .bit false, .bit false, .bit false, .bit false, .bit false, .bit false, .bit false, .bit false, .bit false, .bit false, .bit false, .bit false, .bit false, .bit false, .bit false, .bit false, .bit false, .bit false, .bit false, .bit false, .bit false] (p := [Fn Tryz.prog 105 [(false, E9 a.Id)] (E4 r1) [],
      (true || ((E4 r1).nv && nvL [])) = true,
      r1 = false,
      r1 = false,
      r1 = false,
      r1 = false,
      false = false,
      false = false,
      false = false,
      false = false,
      false = false,
      false = false,
      false = false,
      false = false,
      false = false,
      false = false,
      false = false,
      false = false,
      false = false,
      false = false,
      false = false,
      false = false,
      false = false,
      false = false,
      false = false,
      false = false,
      false = false,
      false = false,
      false = false,
      false = false,
      false = false,
      false = false,
      false = false,
      false = false,
      false = false,
      false = false,
      false = false,
      false = false,
      false = false,
      false = false]) (by kernel_rfl) (cj (impl_AcctIdOk_ok a.Id r1 h1) (cj rfl (cj h2 (cj h2 (cj h2 (cj h2 (cj rfl (cj rfl (cj rfl (cj rfl (cj rfl (cj rfl (cj rfl (cj rfl (cj rfl (cj rfl (cj rfl (cj rfl (cj rfl (cj rfl (cj rfl (cj rfl (cj rfl (cj rfl (cj rfl (cj rfl (cj rfl (cj rfl (cj rfl (cj rfl (cj rfl (cj rfl (cj rfl (cj rfl (cj rfl (cj rfl (cj rfl (cj rfl (cj rfl (cj1 rfl)))))))))))))))))))))))))))))))))))))))))))
def impl_BookOk_l0 (b : Book) : List Acct → List Acct → Option (Lo Unit Unit)
  | [], p1 =>
   some (.out ())
  | x1 :: t1, p1 =>
   (impl_AcctOk x1).bind fun r1 =>
   if r1 = true then
    if (decide (0 < (p1.length : Int))) = true then
     if (decide (0 ≤ (i64 ((p1.length : Int) - 1)))) = true then
      (b.Accts[(i64 ((p1.length : Int) - 1)).toNat]?).bind fun x2 =>
      if (Op.bytesLess x1.Id.toList x2.Id.toList || (x1.Id == x2.Id)) = true then
       some (.ret ())
      else
       impl_BookOk_l0 b t1 (p1 ++ [x1])
     else none
    else
     impl_BookOk_l0 b t1 (p1 ++ [x1])
   else
    some (.ret ())
theorem impl_BookOk_l0_ok (b : Book) (h2 : capOk b.Accts.length = true) : ∀ (t1 p1 : List Acct) (_ : b.Accts = p1 ++ t1) , Pn (LpO Tryz.prog (sub (codeOf Tryz.prog 48) [1, 0, 1, 0, 0]) (st 37 [(1, V.ptr 0 0), (6, V.sl false 34 (List.map E34 b.Accts)), (7, V.sc (.int .i64 (b.Accts.length : Int))), (8, V.sc (.int .i64 (p1.length : Int)))] [Blk.box 50 [V.sl false 34 (List.map E34 b.Accts)]] []) (fun (y : Lo Unit Unit) => Lo.elim y (fun s => (X.out 0, st 37 [(1, V.ptr 0 0)] [Blk.box 50 [V.sl false 34 (List.map E34 b.Accts)]] [])) (fun s => (X.ret, st 37 [(2, V.sc (.bool false))] [] [])))) (impl_BookOk_l0 b t1 p1)
  | [], p1, h1 => by
    unfold impl_BookOk_l0
    exact
     Pn.some (LpO.out [.bit false, .mask [1], .ren [0]] (p := [(decide ((p1.length : Int) < (b.Accts.length : Int))) = false]) (by kernel_rfl) (show X.out 0 ≠ X.go from nofun) (cj1 (rng_end h1)))
  | x1 :: t1, p1, h1 => by
    unfold impl_BookOk_l0
    exact
     Pn.bind (fun r1 h3 =>
      Pn.ite (fun h4 =>
       Pn.ite (fun h5 =>
        Pn.ite (fun h6 =>
         Pn.bind (fun x2 h7 =>
          Pn.ite (fun h8 =>
           Pn.some (LpO.out [.bit true, .el (E34 x1), .draw [], .call [] (E4 r1) [], .bit false, .bit false, .bit false, .bit true, .bit true, .bit true, .bit true, .bit true, .bit true, .bit true, .el (E34 x2), .bit true, .bit true, .bit true, .bit false, .bit true, .bit false, .bit true, .wait 1, .mask [2], .ren []] (p := [(decide ((p1.length : Int) < (b.Accts.length : Int))) = true,
            (0 : Int) ≤ (p1.length : Int),
            (List.map E34 b.Accts)[(p1.length : Int).toNat]? = some (E34 x1),
            Fn Tryz.prog 80 [(false, E34 x1)] (E4 r1) [],
            (true || ((E4 r1).nv && nvL [])) = true,
            (!r1) = false,
            (!r1) = false,
            (!r1) = false,
            (decide (0 < (p1.length : Int))) = true,
            (decide (0 < (p1.length : Int))) = true,
            (decide (0 < (p1.length : Int))) = true,
            (decide (0 < (p1.length : Int))) = true,
            (decide (0 < (p1.length : Int))) = true,
            (decide (0 < (p1.length : Int))) = true,
            (decide (0 < (p1.length : Int))) = true,
            (0 : Int) ≤ (i64 ((p1.length : Int) - 1)),
            (List.map E34 b.Accts)[(i64 ((p1.length : Int) - 1)).toNat]? = some (E34 x2),
            (decide (0 < (p1.length : Int))) = true,
            (decide (0 < (p1.length : Int))) = true,
            (decide (0 < (p1.length : Int))) = true,
            (!r1) = false,
            (decide (0 < (p1.length : Int))) = true,
            (!r1) = false,
            (Op.bytesLess x1.Id.toList x2.Id.toList || (x1.Id == x2.Id)) = true]) (by kernel_rfl) (show X.ret ≠ X.go from nofun) (cj (rng_lt h1) (cj (by omega) (cj (rng_get _ h1) (cj (impl_AcctOk_ok x1 r1 h3) (cj rfl (cj (nf h4) (cj (nf h4) (cj (nf h4) (cj h5 (cj h5 (cj h5 (cj h5 (cj h5 (cj h5 (cj h5 (cj (od h6) (cj (map_get h7) (cj h5 (cj h5 (cj h5 (cj (nf h4) (cj h5 (cj (nf h4) (cj1 h8)))))))))))))))))))))))))) (fun h8 =>
           LpO.go [.bit true, .el (E34 x1), .draw [], .call [] (E4 r1) [], .bit false, .bit false, .bit false, .bit true, .bit true, .bit true, .bit true, .bit true, .bit true, .bit true, .el (E34 x2), .bit true, .bit true, .bit true, .bit false, .bit true, .bit false, .bit false, .wait 2, .mask [1, 6, 7, 8], .ren [0], .nm 8 (V.sc (.int .i64 ((p1 ++ [x1]).length : Int)))] (p := [(decide ((p1.length : Int) < (b.Accts.length : Int))) = true,
            (0 : Int) ≤ (p1.length : Int),
            (List.map E34 b.Accts)[(p1.length : Int).toNat]? = some (E34 x1),
            Fn Tryz.prog 80 [(false, E34 x1)] (E4 r1) [],
            (true || ((E4 r1).nv && nvL [])) = true,
            (!r1) = false,
            (!r1) = false,
            (!r1) = false,
            (decide (0 < (p1.length : Int))) = true,
            (decide (0 < (p1.length : Int))) = true,
            (decide (0 < (p1.length : Int))) = true,
            (decide (0 < (p1.length : Int))) = true,
            (decide (0 < (p1.length : Int))) = true,
            (decide (0 < (p1.length : Int))) = true,
            (decide (0 < (p1.length : Int))) = true,
            (0 : Int) ≤ (i64 ((p1.length : Int) - 1)),
            (List.map E34 b.Accts)[(i64 ((p1.length : Int) - 1)).toNat]? = some (E34 x2),
            (decide (0 < (p1.length : Int))) = true,
            (decide (0 < (p1.length : Int))) = true,
            (decide (0 < (p1.length : Int))) = true,
            (!r1) = false,
            (decide (0 < (p1.length : Int))) = true,
            (!r1) = false,
            (Op.bytesLess x1.Id.toList x2.Id.toList || (x1.Id == x2.Id)) = false,
            V.sc (.int .i64 (i64 ((p1.length : Int) + 1))) = V.sc (.int .i64 ((p1 ++ [x1]).length : Int))]) (by kernel_rfl) (cj (rng_lt h1) (cj (by omega) (cj (rng_get _ h1) (cj (impl_AcctOk_ok x1 r1 h3) (cj rfl (cj (nf h4) (cj (nf h4) (cj (nf h4) (cj h5 (cj h5 (cj h5 (cj h5 (cj h5 (cj h5 (cj h5 (cj (od h6) (cj (map_get h7) (cj h5 (cj h5 (cj h5 (cj (nf h4) (cj h5 (cj (nf h4) (cj h8 (cj1 (rng_next h1 h2)))))))))))))))))))))))))) (impl_BookOk_l0_ok b h2 t1 (p1 ++ [x1]) (rng_step h1))))) (fun h6 =>
         Pn.none)) (fun h5 =>
        LpO.go [.bit true, .el (E34 x1), .draw [], .call [] (E4 r1) [], .bit false, .bit false, .bit false, .bit false, .bit false, .bit false, .bit false, .bit false, .bit false, .bit false, .bit false, .bit false, .bit false, .bit false, .bit false, .bit false, .bit false, .wait 2, .mask [1, 6, 7, 8], .ren [0], .nm 8 (V.sc (.int .i64 ((p1 ++ [x1]).length : Int)))] (p := [(decide ((p1.length : Int) < (b.Accts.length : Int))) = true,
         (0 : Int) ≤ (p1.length : Int),
         (List.map E34 b.Accts)[(p1.length : Int).toNat]? = some (E34 x1),
         Fn Tryz.prog 80 [(false, E34 x1)] (E4 r1) [],
         (true || ((E4 r1).nv && nvL [])) = true,
         (!r1) = false,
         (!r1) = false,
         (!r1) = false,
         (decide (0 < (p1.length : Int))) = false,
         (decide (0 < (p1.length : Int))) = false,
         (decide (0 < (p1.length : Int))) = false,
         (decide (0 < (p1.length : Int))) = false,
         (decide (0 < (p1.length : Int))) = false,
         (decide (0 < (p1.length : Int))) = false,
         (decide (0 < (p1.length : Int))) = false,
         (decide (0 < (p1.length : Int))) = false,
         (decide (0 < (p1.length : Int))) = false,
         (decide (0 < (p1.length : Int))) = false,
         (!r1) = false,
         (decide (0 < (p1.length : Int))) = false,
         (!r1) = false,
         false = false,
         V.sc (.int .i64 (i64 ((p1.length : Int) + 1))) = V.sc (.int .i64 ((p1 ++ [x1]).length : Int))]) (by kernel_rfl) (cj (rng_lt h1) (cj (by omega) (cj (rng_get _ h1) (cj (impl_AcctOk_ok x1 r1 h3) (cj rfl (cj (nf h4) (cj (nf h4) (cj (nf h4) (cj h5 (cj h5 (cj h5 (cj h5 (cj h5 (cj h5 (cj h5 (cj h5 (cj h5 (cj h5 (cj (nf h4) (cj h5 (cj (nf h4) (cj rfl (cj1 (rng_next h1 h2)))))))))))))))))))))))) (impl_BookOk_l0_ok b h2 t1 (p1 ++ [x1]) (rng_step h1)))) (fun h4 =>
       Pn.some (LpO.out [.bit true, .el (E34 x1), .draw [], .call [] (E4 r1) [], .bit true, .bit true, .bit true, .bit true, .bit true, .bit true, .wait 1, .mask [2], .ren []] (p := [(decide ((p1.length : Int) < (b.Accts.length : Int))) = true,
        (0 : Int) ≤ (p1.length : Int),
        (List.map E34 b.Accts)[(p1.length : Int).toNat]? = some (E34 x1),
        Fn Tryz.prog 80 [(false, E34 x1)] (E4 r1) [],
        (true || ((E4 r1).nv && nvL [])) = true,
        (!r1) = true,
        (!r1) = true,
        (!r1) = true,
        (!r1) = true,
        (!r1) = true,
        true = true]) (by kernel_rfl) (show X.ret ≠ X.go from nofun) (cj (rng_lt h1) (cj (by omega) (cj (rng_get _ h1) (cj (impl_AcctOk_ok x1 r1 h3) (cj rfl (cj (nt h4) (cj (nt h4) (cj (nt h4) (cj (nt h4) (cj (nt h4) (cj1 rfl))))))))))))))
def impl_BookOk (b : Book) : Option (Bool) :=
 if (capOk b.Accts.length) = true then
  (impl_BookOk_l0 b b.Accts []).bind fun r2 =>
  Lo.elim r2 (fun s1 =>
   some (decide ((b.Accts.length : Int) ≤ 6))) (fun s2 =>
   some false)
 else none
theorem impl_BookOk_ok (b : Book) : Pn (fun y => Fn Tryz.prog 48 [(false, E50 b)] (E4 y) []) (impl_BookOk b) := by
  unfold impl_BookOk
  exact
   Pn.ite (fun h9 =>
    Pn.bind (fun r2 h10 =>
     Pn.lo (fun s1 h11 =>
      Pn.some (Fn.of [.wait 5, .nm 7 (V.sc (.int .i64 (b.Accts.length : Int))), .wait 2, .mask [1, 6, 7, 8], .ren [0], .loop (X.out 0) (st 37 [(1, V.ptr 0 0)] [Blk.box 50 [V.sl false 34 (List.map E34 b.Accts)]] []), .wait 3, .nm 35 (V.sc (.int .i64 (b.Accts.length : Int)))] (p := [V.sc (.int .i64 ((List.map E34 b.Accts).length : Int)) = V.sc (.int .i64 (b.Accts.length : Int)),
       Loop Tryz.prog (sub (codeOf Tryz.prog 48) [1, 0, 1, 0, 0]) (st 37 [(1, V.ptr 0 0), (6, V.sl false 34 (List.map E34 b.Accts)), (7, V.sc (.int .i64 (b.Accts.length : Int))), (8, V.sc (.int .i64 0))] [Blk.box 50 [V.sl false 34 (List.map E34 b.Accts)]] []) (X.out 0) (st 37 [(1, V.ptr 0 0)] [Blk.box 50 [V.sl false 34 (List.map E34 b.Accts)]] []),
       V.sc (.int .i64 ((List.map E34 b.Accts).length : Int)) = V.sc (.int .i64 (b.Accts.length : Int))]) (by kernel_rfl) (cj (len_nm _ _) (cj ((impl_BookOk_l0_ok b h9 b.Accts [] rfl r2 h10).at h11) (cj1 (len_nm _ _)))))) (fun s2 h12 =>
      Pn.some (Fn.of [.wait 5, .nm 7 (V.sc (.int .i64 (b.Accts.length : Int))), .wait 2, .mask [1, 6, 7, 8], .ren [0], .loop (X.ret) (st 37 [(2, V.sc (.bool false))] [] [])] (p := [V.sc (.int .i64 ((List.map E34 b.Accts).length : Int)) = V.sc (.int .i64 (b.Accts.length : Int)),
       Loop Tryz.prog (sub (codeOf Tryz.prog 48) [1, 0, 1, 0, 0]) (st 37 [(1, V.ptr 0 0), (6, V.sl false 34 (List.map E34 b.Accts)), (7, V.sc (.int .i64 (b.Accts.length : Int))), (8, V.sc (.int .i64 0))] [Blk.box 50 [V.sl false 34 (List.map E34 b.Accts)]] []) (X.ret) (st 37 [(2, V.sc (.bool false))] [] [])]) (by kernel_rfl) (cj (len_nm _ _) (cj1 ((impl_BookOk_l0_ok b h9 b.Accts [] rfl r2 h10).at h12))))))) (fun h9 =>
    Pn.none)
def slices_Clone_impl_Hold (s_ : List Hold) : Option (List Hold) := if capOk s_.length = true then some s_ else none
theorem slices_Clone_impl_Hold_ok : ∀ (s_ : List Hold), Pn (fun y => Fn Tryz.prog 68 [(false, E30 s_)] (E30 y) []) (slices_Clone_impl_Hold s_)
  | [] => by
    unfold slices_Clone_impl_Hold
    exact Pn.ite (fun h => Pn.some (Fn.two [] [.bit true] [.bit false, .cp (List.map E74 []), .nb 1 (.row 74 (List.map E74 []) [])] (p := []) (pT := [true = true]) (pF := [false = false, (List.map E74 []).map V.vw = (List.map E74 []), ([] : List V).length + (List.map E74 []).length ≤ 9223372036854775807, (([] : List V).length + (List.map E74 []).length) * 32 ≤ 140737488355328, Blk.row 74 (([] : List V) ++ (List.map E74 [])) [] = Blk.row 74 (List.map E74 []) []]) (by kernel_rfl) trivial (cj1 rfl) (cj rfl (cj (vw_id (fun _ => rfl) _) (cj (cap1 (capN (by simp) h)) (cj (cap2 (capN (by simp) h) (by decide)) (cj1 rfl))))))) (fun _ => Pn.none)
  | x :: t => by
    unfold slices_Clone_impl_Hold
    exact Pn.ite (fun h => Pn.some (Fn.two [] [.bit true] [.bit false, .cp (List.map E74 (x :: t)), .nb 1 (.row 74 (List.map E74 (x :: t)) [])] (p := []) (pT := [false = false, (List.map E74 (x :: t)).map V.vw = (List.map E74 (x :: t)), ([] : List V).length + (List.map E74 (x :: t)).length ≤ 9223372036854775807, (([] : List V).length + (List.map E74 (x :: t)).length) * 32 ≤ 140737488355328, Blk.row 74 (([] : List V) ++ (List.map E74 (x :: t))) [] = Blk.row 74 (List.map E74 (x :: t)) []]) (pF := [false = false, (List.map E74 (x :: t)).map V.vw = (List.map E74 (x :: t)), ([] : List V).length + (List.map E74 (x :: t)).length ≤ 9223372036854775807, (([] : List V).length + (List.map E74 (x :: t)).length) * 32 ≤ 140737488355328, Blk.row 74 (([] : List V) ++ (List.map E74 (x :: t))) [] = Blk.row 74 (List.map E74 (x :: t)) []]) (by kernel_rfl) trivial (cj rfl (cj (vw_id (fun _ => rfl) _) (cj (cap1 (capN (by simp) h)) (cj (cap2 (capN (by simp) h) (by decide)) (cj1 rfl))))) (cj rfl (cj (vw_id (fun _ => rfl) _) (cj (cap1 (capN (by simp) h)) (cj (cap2 (capN (by simp) h) (by decide)) (cj1 rfl))))))) (fun _ => Pn.none)
def slices_Clone_int (s_ : List Int) : Option (List Int) := if capOk s_.length = true then some s_ else none
theorem slices_Clone_int_ok : ∀ (s_ : List Int), Pn (fun y => Fn Tryz.prog 145 [(false, E23 s_)] (E23 y) []) (slices_Clone_int s_)
  | [] => by
    unfold slices_Clone_int
    exact Pn.ite (fun h => Pn.some (Fn.two [] [.bit true] [.bit false, .cp (List.map E3 []), .nb 1 (.row 3 (List.map E3 []) [])] (p := []) (pT := [true = true]) (pF := [false = false, (List.map E3 []).map V.vw = (List.map E3 []), ([] : List V).length + (List.map E3 []).length ≤ 9223372036854775807, (([] : List V).length + (List.map E3 []).length) * 8 ≤ 140737488355328, Blk.row 3 (([] : List V) ++ (List.map E3 [])) [] = Blk.row 3 (List.map E3 []) []]) (by kernel_rfl) trivial (cj1 rfl) (cj rfl (cj (vw_id (fun _ => rfl) _) (cj (cap1 (capN (by simp) h)) (cj (cap2 (capN (by simp) h) (by decide)) (cj1 rfl))))))) (fun _ => Pn.none)
  | x :: t => by
    unfold slices_Clone_int
    exact Pn.ite (fun h => Pn.some (Fn.two [] [.bit true] [.bit false, .cp (List.map E3 (x :: t)), .nb 1 (.row 3 (List.map E3 (x :: t)) [])] (p := []) (pT := [false = false, (List.map E3 (x :: t)).map V.vw = (List.map E3 (x :: t)), ([] : List V).length + (List.map E3 (x :: t)).length ≤ 9223372036854775807, (([] : List V).length + (List.map E3 (x :: t)).length) * 8 ≤ 140737488355328, Blk.row 3 (([] : List V) ++ (List.map E3 (x :: t))) [] = Blk.row 3 (List.map E3 (x :: t)) []]) (pF := [false = false, (List.map E3 (x :: t)).map V.vw = (List.map E3 (x :: t)), ([] : List V).length + (List.map E3 (x :: t)).length ≤ 9223372036854775807, (([] : List V).length + (List.map E3 (x :: t)).length) * 8 ≤ 140737488355328, Blk.row 3 (([] : List V) ++ (List.map E3 (x :: t))) [] = Blk.row 3 (List.map E3 (x :: t)) []]) (by kernel_rfl) trivial (cj rfl (cj (vw_id (fun _ => rfl) _) (cj (cap1 (capN (by simp) h)) (cj (cap2 (capN (by simp) h) (by decide)) (cj1 rfl))))) (cj rfl (cj (vw_id (fun _ => rfl) _) (cj (cap1 (capN (by simp) h)) (cj (cap2 (capN (by simp) h) (by decide)) (cj1 rfl))))))) (fun _ => Pn.none)
def impl_Ring_copied (r_ : Ring) : Option (Ring) :=
 (slices_Clone_int r_.Counts).bind fun r1 =>
 (slices_Clone_int r_.Sums).bind fun r2 =>
 some (Ring.mk r_.Span r_.Head r1 r2)
theorem impl_Ring_copied_ok (r_ : Ring) : Pn (fun y => Fn Tryz.prog 132 [(false, E31 r_)] (E31 y) []) (impl_Ring_copied r_) := by
  unfold impl_Ring_copied
  exact
   Pn.bind (fun r1 h1 =>
    Pn.bind (fun r2 h2 =>
     Pn.some (Fn.of [.draw [7, 9], .call [] (E23 r1) [], .call [] (E23 r2) []] (p := [Fn Tryz.prog 145 [(false, E23 r_.Counts)] (E23 r1) [],
      (true || ((E23 r1).nv && nvL [])) = true,
      Fn Tryz.prog 145 [(false, E23 r_.Sums)] (E23 r2) [],
      (true || ((E23 r2).nv && nvL [])) = true]) (by kernel_rfl) (cj (slices_Clone_int_ok r_.Counts r1 h1) (cj rfl (cj (slices_Clone_int_ok r_.Sums r2 h2) (cj1 rfl)))))))
def slices_Clone_byte (s_ : List Int) : Option (List Int) := if capOk s_.length = true then some s_ else none
theorem slices_Clone_byte_ok : ∀ (s_ : List Int), Pn (fun y => Fn Tryz.prog 146 [(false, E85 s_)] (E85 y) []) (slices_Clone_byte s_)
  | [] => by
    unfold slices_Clone_byte
    exact Pn.ite (fun h => Pn.some (Fn.two [] [.bit true] [.bit false, .cp (List.map E5 []), .nb 1 (.row 5 (List.map E5 []) [])] (p := []) (pT := [true = true]) (pF := [false = false, (List.map E5 []).map V.vw = (List.map E5 []), ([] : List V).length + (List.map E5 []).length ≤ 9223372036854775807, (([] : List V).length + (List.map E5 []).length) * 1 ≤ 140737488355328, Blk.row 5 (([] : List V) ++ (List.map E5 [])) [] = Blk.row 5 (List.map E5 []) []]) (by kernel_rfl) trivial (cj1 rfl) (cj rfl (cj (vw_id (fun _ => rfl) _) (cj (cap1 (capN (by simp) h)) (cj (cap2 (capN (by simp) h) (by decide)) (cj1 rfl))))))) (fun _ => Pn.none)
  | x :: t => by
    unfold slices_Clone_byte
    exact Pn.ite (fun h => Pn.some (Fn.two [] [.bit true] [.bit false, .cp (List.map E5 (x :: t)), .nb 1 (.row 5 (List.map E5 (x :: t)) [])] (p := []) (pT := [false = false, (List.map E5 (x :: t)).map V.vw = (List.map E5 (x :: t)), ([] : List V).length + (List.map E5 (x :: t)).length ≤ 9223372036854775807, (([] : List V).length + (List.map E5 (x :: t)).length) * 1 ≤ 140737488355328, Blk.row 5 (([] : List V) ++ (List.map E5 (x :: t))) [] = Blk.row 5 (List.map E5 (x :: t)) []]) (pF := [false = false, (List.map E5 (x :: t)).map V.vw = (List.map E5 (x :: t)), ([] : List V).length + (List.map E5 (x :: t)).length ≤ 9223372036854775807, (([] : List V).length + (List.map E5 (x :: t)).length) * 1 ≤ 140737488355328, Blk.row 5 (([] : List V) ++ (List.map E5 (x :: t))) [] = Blk.row 5 (List.map E5 (x :: t)) []]) (by kernel_rfl) trivial (cj rfl (cj (vw_id (fun _ => rfl) _) (cj (cap1 (capN (by simp) h)) (cj (cap2 (capN (by simp) h) (by decide)) (cj1 rfl))))) (cj rfl (cj (vw_id (fun _ => rfl) _) (cj (cap1 (capN (by simp) h)) (cj (cap2 (capN (by simp) h) (by decide)) (cj1 rfl))))))) (fun _ => Pn.none)
def impl_copySlots_l0 (l : List Slot) : List Slot → (List Slot) → Option ((List Slot))
  | [], v1 =>
   some v1
  | x1 :: t1, v1 =>
   (slices_Clone_byte x1.Reply).bind fun r1 =>
   if (capOk (v1.length + 1)) = true then
    impl_copySlots_l0 l t1 (v1 ++ [(Slot.mk x1.Trace x1.Mti r1)])
   else none
theorem impl_copySlots_l0_ok (l : List Slot) (h2 : capOk l.length = true) : ∀ (t1 p1 : List Slot) (_ : l = p1 ++ t1) (v1 : List Slot), Pn (LpO Tryz.prog (sub (codeOf Tryz.prog 136) [1, 1, 0, 1, 0, 0]) (st 26 [(3, V.ow 0), (7, V.sl false 94 (List.map E94 l)), (8, V.sc (.int .i64 (l.length : Int))), (9, V.sc (.int .i64 (p1.length : Int)))] [Blk.row 94 (List.map E94 v1) []] []) (fun (y : (List Slot)) => (X.out 0, st 26 [(3, V.ow 0)] [Blk.row 94 (List.map E94 y) []] []))) (impl_copySlots_l0 l t1 v1)
  | [], p1, h1, v1 => by
    unfold impl_copySlots_l0
    exact
     Pn.some (LpO.out [.bit false, .mask [3], .ren [0]] (p := [(decide ((p1.length : Int) < (l.length : Int))) = false]) (by kernel_rfl) (show X.out 0 ≠ X.go from nofun) (cj1 (rng_end h1)))
  | x1 :: t1, p1, h1, v1 => by
    unfold impl_copySlots_l0
    exact
     Pn.bind (fun r1 h3 =>
      Pn.ite (fun h4 =>
       LpO.go [.bit true, .el (E94 x1), .draw [10], .call [] (E85 r1) [], .wait 2, .shut 3, .mv, .nb 4 (.row 94 (List.map E94 (v1 ++ [(Slot.mk x1.Trace x1.Mti r1)])) []), .wait 4, .mask [3, 7, 8, 9], .ren [4], .nm 9 (V.sc (.int .i64 ((p1 ++ [x1]).length : Int)))] (p := [(decide ((p1.length : Int) < (l.length : Int))) = true,
        (0 : Int) ≤ (p1.length : Int),
        (List.map E94 l)[(p1.length : Int).toNat]? = some (E94 x1),
        Fn Tryz.prog 146 [(false, E85 x1.Reply)] (E85 r1) [],
        (true || ((E85 r1).nv && nvL [])) = true,
        (List.map E94 v1).length + [V.agg [V.sc (.string x1.Trace), V.sc (.string x1.Mti), V.sl true 5 (List.map E5 r1)]].length ≤ 9223372036854775807,
        ((List.map E94 v1).length + [V.agg [V.sc (.string x1.Trace), V.sc (.string x1.Mti), V.sl true 5 (List.map E5 r1)]].length) * 56 ≤ 140737488355328,
        Blk.row 94 ((List.map E94 v1) ++ [V.agg [V.sc (.string x1.Trace), V.sc (.string x1.Mti), V.sl true 5 (List.map E5 r1)]]) [] = Blk.row 94 (List.map E94 (v1 ++ [(Slot.mk x1.Trace x1.Mti r1)])) [],
        V.sc (.int .i64 (i64 ((p1.length : Int) + 1))) = V.sc (.int .i64 ((p1 ++ [x1]).length : Int))]) (by kernel_rfl) (cj (rng_lt h1) (cj (by omega) (cj (rng_get _ h1) (cj (slices_Clone_byte_ok x1.Reply r1 h3) (cj rfl (cj (cap1 (capN (by simp) h4)) (cj (cap2 (capN (by simp) h4) (by decide)) (cj (nb_app E94 v1 [(Slot.mk x1.Trace x1.Mti r1)]) (cj1 (rng_next h1 h2)))))))))) (impl_copySlots_l0_ok l h2 t1 (p1 ++ [x1]) (rng_step h1) (v1 ++ [(Slot.mk x1.Trace x1.Mti r1)]))) (fun h4 =>
       Pn.none))
def impl_copySlots (l : List Slot) : Option ((List Slot)) :=
 if (capOk l.length) = true then
  (impl_copySlots_l0 l l []).bind fun r2 =>
  some r2
 else none
theorem impl_copySlots_ok (l : List Slot) : Pn (fun y => Fn Tryz.prog 136 [(false, E32 l)] (E32 y) []) (impl_copySlots l) := by
  unfold impl_copySlots
  exact
   Pn.ite (fun h5 =>
    Pn.bind (fun r2 h6 =>
     Pn.some (Fn.of [.wait 5, .nm 8 (V.sc (.int .i64 (l.length : Int))), .wait 2, .mask [3, 7, 8, 9], .ren [0], .loop (X.out 0) (st 26 [(3, V.ow 0)] [Blk.row 94 (List.map E94 r2) []] [])] (p := [V.sc (.int .i64 ((List.map E94 l).length : Int)) = V.sc (.int .i64 (l.length : Int)),
      Loop Tryz.prog (sub (codeOf Tryz.prog 136) [1, 1, 0, 1, 0, 0]) (st 26 [(3, V.ow 0), (7, V.sl false 94 (List.map E94 l)), (8, V.sc (.int .i64 (l.length : Int))), (9, V.sc (.int .i64 0))] [Blk.row 94 ([] : List V) []] []) (X.out 0) (st 26 [(3, V.ow 0)] [Blk.row 94 (List.map E94 r2) []] [])]) (by kernel_rfl) (cj (len_nm _ _) (cj1 (impl_copySlots_l0_ok l h5 l [] rfl [] r2 h6)))))) (fun h5 =>
    Pn.none)
def impl_Acct_copied (a : Acct) : Option (Acct) :=
 (slices_Clone_impl_Hold a.Holds).bind fun r1 =>
 (impl_Ring_copied a.Ring).bind fun r2 =>
 (impl_copySlots a.Slots).bind fun r3 =>
 some (Acct.mk a.Id a.Limit a.Posted a.Most a.MostSum r1 r2 r3)
theorem impl_Acct_copied_ok (a : Acct) : Pn (fun y => Fn Tryz.prog 121 [(false, E34 a)] (E34 y) []) (impl_Acct_copied a) := by
  unfold impl_Acct_copied
  exact
   Pn.bind (fun r1 h1 =>
    Pn.bind (fun r2 h2 =>
     Pn.bind (fun r3 h3 =>
      Pn.some (Fn.of [.draw [10, 12, 14], .call [] (E30 r1) [], .call [] (E31 r2) [], .call [] (E32 r3) []] (p := [Fn Tryz.prog 68 [(false, E30 a.Holds)] (E30 r1) [],
       (true || ((E30 r1).nv && nvL [])) = true,
       Fn Tryz.prog 132 [(false, E31 a.Ring)] (E31 r2) [],
       (true || ((E31 r2).nv && nvL [])) = true,
       Fn Tryz.prog 136 [(false, E32 a.Slots)] (E32 r3) [],
       (true || ((E32 r3).nv && nvL [])) = true]) (by kernel_rfl) (cj (slices_Clone_impl_Hold_ok a.Holds r1 h1) (cj rfl (cj (impl_Ring_copied_ok a.Ring r2 h2) (cj rfl (cj (impl_copySlots_ok a.Slots r3 h3) (cj1 rfl))))))))))
def impl_Live (h_ : Hold) (now : Int) : Option (Bool) :=
 some (decide (now < h_.Due))
theorem impl_Live_ok (h_ : Hold) (now : Int) : Pn (fun y => Fn Tryz.prog 138 [(false, E74 h_), (false, E3 now)] (E4 y) []) (impl_Live h_ now) := by
  unfold impl_Live
  exact
   Pn.some (Fn.of [] (p := []) (by kernel_rfl) trivial)
def impl_LiveOnes_1 (h_ : Hold) (c0_0 : Int) : Option (Bool) :=
 (impl_Live h_ c0_0).bind fun r1 =>
 some (!r1)
theorem impl_LiveOnes_1_ok (h_ : Hold) (c0_0 : Int) : Pn (fun y => Fn Tryz.prog 137 [(false, E74 h_), (false, V.cp [V.sc (.int .i64 c0_0)])] (E4 y) []) (impl_LiveOnes_1 h_ c0_0) := by
  unfold impl_LiveOnes_1
  exact
   Pn.bind (fun r1 h1 =>
    Pn.some (Fn.of [.call [] (E4 r1) []] (p := [Fn Tryz.prog 138 [(false, E74 h_), (false, E3 c0_0)] (E4 r1) [],
     (true || ((E4 r1).nv && nvL [])) = true]) (by kernel_rfl) (cj (impl_Live_ok h_ c0_0 r1 h1) (cj1 rfl))))
def slices_IndexFunc_impl_Hold_impl_LiveOnes_1_l0 (s_ : List Hold) (f0_0 : Int) : List Hold → List Hold → Option (Lo Unit Int)
  | [], p1 =>
   some (.out ())
  | x1 :: t1, p1 =>
   (impl_LiveOnes_1 x1 f0_0).bind fun r1 =>
   if r1 = true then
    some (.ret (p1.length : Int))
   else
    slices_IndexFunc_impl_Hold_impl_LiveOnes_1_l0 s_ f0_0 t1 (p1 ++ [x1])
theorem slices_IndexFunc_impl_Hold_impl_LiveOnes_1_l0_ok (s_ : List Hold) (f0_0 : Int) (h2 : capOk s_.length = true) : ∀ (t1 p1 : List Hold) (_ : s_ = p1 ++ t1) , Pn (LpO Tryz.prog (sub (codeOf Tryz.prog 99) [1, 0, 1, 0, 0]) (st 19 [(0, V.sl false 74 (List.map E74 s_)), (1, V.fn 137 [V.cp [V.sc (.int .i64 f0_0)]]), (7, V.sc (.int .i64 (s_.length : Int))), (8, V.sc (.int .i64 (p1.length : Int)))] [] []) (fun (y : Lo Unit Int) => Lo.elim y (fun s => (X.out 0, st 19 [] [] [])) (fun s => (X.ret, st 19 [(4, V.sc (.int .i64 s))] [] [])))) (slices_IndexFunc_impl_Hold_impl_LiveOnes_1_l0 s_ f0_0 t1 p1)
  | [], p1, h1 => by
    unfold slices_IndexFunc_impl_Hold_impl_LiveOnes_1_l0
    exact
     Pn.some (LpO.out [.bit false, .mask [], .ren []] (p := [(decide ((p1.length : Int) < (s_.length : Int))) = false]) (by kernel_rfl) (show X.out 0 ≠ X.go from nofun) (cj1 (rng_end h1)))
  | x1 :: t1, p1, h1 => by
    unfold slices_IndexFunc_impl_Hold_impl_LiveOnes_1_l0
    exact
     Pn.bind (fun r1 h3 =>
      Pn.ite (fun h4 =>
       Pn.some (LpO.out [.bit true, .el (E74 x1), .call [] (E4 r1) [], .bit true, .wait 2, .mask [4], .ren []] (p := [(decide ((p1.length : Int) < (s_.length : Int))) = true,
        (0 : Int) ≤ (p1.length : Int),
        (List.map E74 s_)[(p1.length : Int).toNat]? = some (E74 x1),
        Fn Tryz.prog 137 [(false, E74 x1), (false, V.cp [V.sc (.int .i64 f0_0)])] (E4 r1) [],
        (true || ((E4 r1).nv && nvL [])) = true,
        r1 = true]) (by kernel_rfl) (show X.ret ≠ X.go from nofun) (cj (rng_lt h1) (cj (by omega) (cj (rng_get _ h1) (cj (impl_LiveOnes_1_ok x1 f0_0 r1 h3) (cj rfl (cj1 h4)))))))) (fun h4 =>
       LpO.go [.bit true, .el (E74 x1), .call [] (E4 r1) [], .bit false, .wait 2, .mask [0, 1, 7, 8], .ren [], .nm 8 (V.sc (.int .i64 ((p1 ++ [x1]).length : Int)))] (p := [(decide ((p1.length : Int) < (s_.length : Int))) = true,
        (0 : Int) ≤ (p1.length : Int),
        (List.map E74 s_)[(p1.length : Int).toNat]? = some (E74 x1),
        Fn Tryz.prog 137 [(false, E74 x1), (false, V.cp [V.sc (.int .i64 f0_0)])] (E4 r1) [],
        (true || ((E4 r1).nv && nvL [])) = true,
        r1 = false,
        V.sc (.int .i64 (i64 ((p1.length : Int) + 1))) = V.sc (.int .i64 ((p1 ++ [x1]).length : Int))]) (by kernel_rfl) (cj (rng_lt h1) (cj (by omega) (cj (rng_get _ h1) (cj (impl_LiveOnes_1_ok x1 f0_0 r1 h3) (cj rfl (cj h4 (cj1 (rng_next h1 h2)))))))) (slices_IndexFunc_impl_Hold_impl_LiveOnes_1_l0_ok s_ f0_0 h2 t1 (p1 ++ [x1]) (rng_step h1))))
def slices_IndexFunc_impl_Hold_impl_LiveOnes_1 (s_ : List Hold) (f0_0 : Int) : Option (Int) :=
 if (capOk s_.length) = true then
  (slices_IndexFunc_impl_Hold_impl_LiveOnes_1_l0 s_ f0_0 s_ []).bind fun r2 =>
  Lo.elim r2 (fun s1 =>
   some (-1)) (fun s2 =>
   some s2)
 else none
theorem slices_IndexFunc_impl_Hold_impl_LiveOnes_1_ok (s_ : List Hold) (f0_0 : Int) : Pn (fun y => Fn Tryz.prog 99 [(false, E30 s_), (false, V.fn 137 [V.cp [V.sc (.int .i64 f0_0)]])] (E3 y) []) (slices_IndexFunc_impl_Hold_impl_LiveOnes_1 s_ f0_0) := by
  unfold slices_IndexFunc_impl_Hold_impl_LiveOnes_1
  exact
   Pn.ite (fun h5 =>
    Pn.bind (fun r2 h6 =>
     Pn.lo (fun s1 h7 =>
      Pn.some (Fn.of [.wait 3, .nm 7 (V.sc (.int .i64 (s_.length : Int))), .wait 2, .mask [0, 1, 7, 8], .ren [], .loop (X.out 0) (st 19 [] [] [])] (p := [V.sc (.int .i64 ((List.map E74 s_).length : Int)) = V.sc (.int .i64 (s_.length : Int)),
       Loop Tryz.prog (sub (codeOf Tryz.prog 99) [1, 0, 1, 0, 0]) (st 19 [(0, V.sl false 74 (List.map E74 s_)), (1, V.fn 137 [V.cp [V.sc (.int .i64 f0_0)]]), (7, V.sc (.int .i64 (s_.length : Int))), (8, V.sc (.int .i64 0))] [] []) (X.out 0) (st 19 [] [] [])]) (by kernel_rfl) (cj (len_nm _ _) (cj1 ((slices_IndexFunc_impl_Hold_impl_LiveOnes_1_l0_ok s_ f0_0 h5 s_ [] rfl r2 h6).at h7))))) (fun s2 h8 =>
      Pn.some (Fn.of [.wait 3, .nm 7 (V.sc (.int .i64 (s_.length : Int))), .wait 2, .mask [0, 1, 7, 8], .ren [], .loop (X.ret) (st 19 [(4, V.sc (.int .i64 s2))] [] [])] (p := [V.sc (.int .i64 ((List.map E74 s_).length : Int)) = V.sc (.int .i64 (s_.length : Int)),
       Loop Tryz.prog (sub (codeOf Tryz.prog 99) [1, 0, 1, 0, 0]) (st 19 [(0, V.sl false 74 (List.map E74 s_)), (1, V.fn 137 [V.cp [V.sc (.int .i64 f0_0)]]), (7, V.sc (.int .i64 (s_.length : Int))), (8, V.sc (.int .i64 0))] [] []) (X.ret) (st 19 [(4, V.sc (.int .i64 s2))] [] [])]) (by kernel_rfl) (cj (len_nm _ _) (cj1 ((slices_IndexFunc_impl_Hold_impl_LiveOnes_1_l0_ok s_ f0_0 h5 s_ [] rfl r2 h6).at h8))))))) (fun h5 =>
    Pn.none)
def slices_DeleteFunc_impl_Hold_impl_LiveOnes_1_l0 (del0_0 : Int) : Nat → Int → Int → (List Hold) → Option (Int × (List Hold))
  | 0, _, _, _ => none
  | n + 1, v1, v2, v3 =>
   if (decide (v2 < (v3.length : Int))) = true then
    if (decide (0 ≤ v2)) = true then
     (v3[v2.toNat]?).bind fun x1 =>
     (impl_LiveOnes_1 x1 del0_0).bind fun r2 =>
     if r2 = true then
      slices_DeleteFunc_impl_Hold_impl_LiveOnes_1_l0 del0_0 n v1 (i64 (v2 + 1)) v3
     else
      if (decide (0 ≤ v1)) = true then
       (v3[v1.toNat]?).bind fun x2 =>
       slices_DeleteFunc_impl_Hold_impl_LiveOnes_1_l0 del0_0 n (i64 (v1 + 1)) (i64 (v2 + 1)) (v3.set v1.toNat x1)
      else none
    else none
   else
    some (v1, v3)
theorem slices_DeleteFunc_impl_Hold_impl_LiveOnes_1_l0_ok (del0_0 : Int) : ∀ (n : Nat) (v1 : Int) (v2 : Int) (v3 : List Hold), Pn (LpO Tryz.prog (sub (codeOf Tryz.prog 67) [1, 1, 1, 0, 1, 0, 0]) (st 42 [(0, V.ow 0), (1, V.fn 137 [V.cp [V.sc (.int .i64 del0_0)]]), (5, V.sc (.int .i64 v1)), (6, V.sc (.int .i64 v2))] [Blk.row 74 (List.map E74 v3) []] [some 0]) (fun (y : Int × (List Hold)) => (X.out 0, st 42 [(0, V.ow 0), (5, V.sc (.int .i64 y.1))] [Blk.row 74 (List.map E74 y.2) []] [some 0]))) (slices_DeleteFunc_impl_Hold_impl_LiveOnes_1_l0 del0_0 n v1 v2 v3)
  | 0, _, _, _ => Pn.none
  | n + 1, v1, v2, v3 => by
    unfold slices_DeleteFunc_impl_Hold_impl_LiveOnes_1_l0
    exact
     Pn.ite (fun h3 =>
      Pn.ite (fun h4 =>
       Pn.bind (fun x1 h5 =>
        Pn.bind (fun r2 h6 =>
         Pn.ite (fun h7 =>
          LpO.go [.wait 3, .nm 18 (V.sc (.int .i64 (v3.length : Int))), .bit true, .el (E74 x1), .call [] (E4 r2) [], .bit false, .wait 3, .mask [0, 1, 5, 6], .ren [0]] (p := [V.sc (.int .i64 ((List.map E74 v3).length : Int)) = V.sc (.int .i64 (v3.length : Int)),
           (decide (v2 < (v3.length : Int))) = true,
           (0 : Int) ≤ v2,
           (v2 : Int) < ((List.map E74 v3).length : Int),
           look [] v2.toNat = none,
           (List.map E74 v3)[v2.toNat]? = some (E74 x1),
           Fn Tryz.prog 137 [(false, E74 x1), (false, V.cp [V.sc (.int .i64 del0_0)])] (E4 r2) [],
           (true || ((E4 r2).nv && nvL [])) = true,
           (!r2) = false]) (by kernel_rfl) (cj (len_nm _ _) (cj h3 (cj (od h4) (cj (map_ltN (od h4) h5) (cj rfl (cj (map_get h5) (cj (impl_LiveOnes_1_ok x1 del0_0 r2 h6) (cj rfl (cj1 (nf h7)))))))))) (slices_DeleteFunc_impl_Hold_impl_LiveOnes_1_l0_ok del0_0 n v1 (i64 (v2 + 1)) v3)) (fun h7 =>
          Pn.ite (fun h8 =>
           Pn.bind (fun x2 h9 =>
            LpO.go [.wait 3, .nm 18 (V.sc (.int .i64 (v3.length : Int))), .bit true, .el (E74 x1), .call [] (E4 r2) [], .bit true, .el (E74 x2), .nb 0 (.row 74 (List.map E74 (v3.set v1.toNat x1)) []), .wait 7, .mask [0, 1, 5, 6], .ren [0]] (p := [V.sc (.int .i64 ((List.map E74 v3).length : Int)) = V.sc (.int .i64 (v3.length : Int)),
             (decide (v2 < (v3.length : Int))) = true,
             (0 : Int) ≤ v2,
             (v2 : Int) < ((List.map E74 v3).length : Int),
             look [] v2.toNat = none,
             (List.map E74 v3)[v2.toNat]? = some (E74 x1),
             Fn Tryz.prog 137 [(false, E74 x1), (false, V.cp [V.sc (.int .i64 del0_0)])] (E4 r2) [],
             (true || ((E4 r2).nv && nvL [])) = true,
             (!r2) = true,
             (0 : Int) ≤ v1,
             (v1 : Int) < ((List.map E74 v3).length : Int),
             look [] v1.toNat = none,
             (List.map E74 v3)[v1.toNat]? = some (E74 x2),
             Blk.row 74 ((List.map E74 v3).set v1.toNat (V.agg [V.sc (.string x1.Id), V.sc (.int .i64 x1.Amount), V.sc (.int .i64 x1.Due)])) [] = Blk.row 74 (List.map E74 (v3.set v1.toNat x1)) []]) (by kernel_rfl) (cj (len_nm _ _) (cj h3 (cj (od h4) (cj (map_ltN (od h4) h5) (cj rfl (cj (map_get h5) (cj (impl_LiveOnes_1_ok x1 del0_0 r2 h6) (cj rfl (cj (nt h7) (cj (od h8) (cj (map_ltN (od h8) h9) (cj rfl (cj (map_get h9) (cj1 (nb_set E74 _ _ x1))))))))))))))) (slices_DeleteFunc_impl_Hold_impl_LiveOnes_1_l0_ok del0_0 n (i64 (v1 + 1)) (i64 (v2 + 1)) (v3.set v1.toNat x1)))) (fun h8 =>
           Pn.none))))) (fun h4 =>
       Pn.none)) (fun h3 =>
      Pn.some (LpO.out [.wait 3, .nm 18 (V.sc (.int .i64 (v3.length : Int))), .bit false, .mask [0, 5], .ren [0]] (p := [V.sc (.int .i64 ((List.map E74 v3).length : Int)) = V.sc (.int .i64 (v3.length : Int)),
       (decide (v2 < (v3.length : Int))) = false]) (by kernel_rfl) (show X.out 0 ≠ X.go from nofun) (cj (len_nm _ _) (cj1 h3))))
def slices_DeleteFunc_impl_Hold_impl_LiveOnes_1 (s_ : List Hold) (del0_0 : Int) : Option ((List Hold)) :=
 (slices_IndexFunc_impl_Hold_impl_LiveOnes_1 s_ del0_0).bind fun r1 =>
 if (r1 == (-1)) = true then
  some s_
 else
  (slices_DeleteFunc_impl_Hold_impl_LiveOnes_1_l0 del0_0 FUEL r1 (i64 (r1 + 1)) s_).bind fun r3 =>
  if (decide (0 ≤ r3.1)) = true then
   if (decide (r3.1 ≤ (r3.2.length : Int))) = true then
    if (decide (r3.1 ≤ ((r3.2.take r3.1.toNat ++ (List.replicate (r3.2.length - r3.1.toNat) (Hold.mk ByteArray.empty 0 0) ++ r3.2.drop (r3.1.toNat + (r3.2.length - r3.1.toNat)))).length : Int))) = true then
     some ((r3.2.take r3.1.toNat ++ (List.replicate (r3.2.length - r3.1.toNat) (Hold.mk ByteArray.empty 0 0) ++ r3.2.drop (r3.1.toNat + (r3.2.length - r3.1.toNat)))).take r3.1.toNat)
    else none
   else none
  else none
theorem slices_DeleteFunc_impl_Hold_impl_LiveOnes_1_ok (s_ : List Hold) (del0_0 : Int) : Pn (fun y => Fn Tryz.prog 67 [(true, E30 s_), (false, V.fn 137 [V.cp [V.sc (.int .i64 del0_0)]])] (E30 y) [V.un]) (slices_DeleteFunc_impl_Hold_impl_LiveOnes_1 s_ del0_0) := by
  unfold slices_DeleteFunc_impl_Hold_impl_LiveOnes_1
  exact
   Pn.bind (fun r1 h1 =>
    Pn.ite (fun h2 =>
     Pn.some (Fn.of [.call [] (E3 r1) [], .bit true] (p := [Fn Tryz.prog 99 [(false, E30 s_), (false, V.fn 137 [V.cp [V.sc (.int .i64 del0_0)]])] (E3 r1) [],
      (false || ((E3 r1).nv && nvL [])) = true,
      (r1 == (-1)) = true]) (by kernel_rfl) (cj (slices_IndexFunc_impl_Hold_impl_LiveOnes_1_ok s_ del0_0 r1 h1) (cj (by simp [V.nv, nvL, nvL_all, nv_E3]) (cj1 h2))))) (fun h2 =>
     Pn.bind (fun r3 h10 =>
      Pn.ite (fun h11 =>
       Pn.ite (fun h12 =>
        Pn.ite (fun h13 =>
         Pn.some (Fn.as (res := V.sl true 74 ((List.map E74 (r3.2.take r3.1.toNat ++ (List.replicate (r3.2.length - r3.1.toNat) (Hold.mk ByteArray.empty 0 0) ++ r3.2.drop (r3.1.toNat + (r3.2.length - r3.1.toNat))))).take r3.1.toNat)) (sb_take _ _ _) rfl (Fn.of [.call [] (E3 r1) [], .bit false, .wait 3, .mask [0, 1, 5, 6], .ren [0], .loop (X.out 0) (st 42 [(0, V.ow 0), (5, V.sc (.int .i64 r3.1))] [Blk.row 74 (List.map E74 r3.2) []] [some 0]), .wait 3, .nm 38 (V.sb 0 3 r3.1.toNat (r3.2.length - r3.1.toNat)), .wait 1, .nb 0 (.row 74 (List.map E74 (r3.2.take r3.1.toNat ++ (List.replicate (r3.2.length - r3.1.toNat) (Hold.mk ByteArray.empty 0 0) ++ r3.2.drop (r3.1.toNat + (r3.2.length - r3.1.toNat))))) [])] (p := [Fn Tryz.prog 99 [(false, E30 s_), (false, V.fn 137 [V.cp [V.sc (.int .i64 del0_0)]])] (E3 r1) [],
          (false || ((E3 r1).nv && nvL [])) = true,
          (r1 == (-1)) = false,
          Loop Tryz.prog (sub (codeOf Tryz.prog 67) [1, 1, 1, 0, 1, 0, 0]) (st 42 [(0, V.ow 0), (1, V.fn 137 [V.cp [V.sc (.int .i64 del0_0)]]), (5, V.sc (.int .i64 r1)), (6, V.sc (.int .i64 (i64 (r1 + 1))))] [Blk.row 74 (List.map E74 s_) []] [some 0]) (X.out 0) (st 42 [(0, V.ow 0), (5, V.sc (.int .i64 r3.1))] [Blk.row 74 (List.map E74 r3.2) []] [some 0]),
          (0 : Int) ≤ r3.1,
          (r3.1 : Int) ≤ ((List.map E74 r3.2).length : Int),
          (((List.map E74 r3.2).length : Int) : Int) ≤ ((List.map E74 r3.2).length : Int),
          V.sb 0 3 r3.1.toNat ((((List.map E74 r3.2).length : Int).toNat) - (r3.1.toNat)) = V.sb 0 3 r3.1.toNat (r3.2.length - r3.1.toNat),
          Blk.row 74 ((List.map E74 r3.2).take r3.1.toNat ++ (List.replicate (r3.2.length - r3.1.toNat) (V.agg [V.sc (.string ByteArray.empty), V.sc (.int .i64 0), V.sc (.int .i64 0)]) ++ (List.map E74 r3.2).drop (r3.1.toNat + (r3.2.length - r3.1.toNat)))) [] = Blk.row 74 (List.map E74 (r3.2.take r3.1.toNat ++ (List.replicate (r3.2.length - r3.1.toNat) (Hold.mk ByteArray.empty 0 0) ++ r3.2.drop (r3.1.toNat + (r3.2.length - r3.1.toNat))))) [],
          (0 : Int) ≤ 0,
          (0 : Int) ≤ r3.1,
          (r3.1 : Int) ≤ ((List.map E74 (r3.2.take r3.1.toNat ++ (List.replicate (r3.2.length - r3.1.toNat) (Hold.mk ByteArray.empty 0 0) ++ r3.2.drop (r3.1.toNat + (r3.2.length - r3.1.toNat))))).length : Int)]) (by kernel_rfl) (cj (slices_IndexFunc_impl_Hold_impl_LiveOnes_1_ok s_ del0_0 r1 h1) (cj (by simp [V.nv, nvL, nvL_all, nv_E3]) (cj h2 (cj (slices_DeleteFunc_impl_Hold_impl_LiveOnes_1_l0_ok del0_0 FUEL r1 (i64 (r1 + 1)) s_ r3 h10) (cj (od h11) (cj (by rw [List.length_map]; exact (od h12)) (cj (Int.le_refl _) (cj (by simp) (cj (nb_clr E74 _ _ _ (Hold.mk ByteArray.empty 0 0)) (cj (by decide) (cj (od h11) (cj1 (by rw [List.length_map]; exact (od h13))))))))))))))))) (fun h13 =>
         Pn.none)) (fun h12 =>
        Pn.none)) (fun h11 =>
       Pn.none))))
def impl_LiveOnes (l : List Hold) (now : Int) : Option ((List Hold)) :=
 (slices_Clone_impl_Hold l).bind fun r1 =>
 (slices_DeleteFunc_impl_Hold_impl_LiveOnes_1 r1 now).bind fun r2 =>
 some r2
theorem impl_LiveOnes_ok (l : List Hold) (now : Int) : Pn (fun y => Fn Tryz.prog 122 [(false, E30 l), (false, E3 now)] (E30 y) []) (impl_LiveOnes l now) := by
  unfold impl_LiveOnes
  exact
   Pn.bind (fun r1 h1 =>
    Pn.bind (fun r2 h2 =>
     Pn.some (Fn.of [.call [] (E30 r1) [], .call [true, false] (E30 r2) [V.un]] (p := [Fn Tryz.prog 68 [(false, E30 l)] (E30 r1) [],
      (true || ((E30 r1).nv && nvL [])) = true,
      Fn Tryz.prog 67 [(true, E30 r1), (false, V.fn 137 [V.cp [V.sc (.int .i64 now)]])] (E30 r2) [V.un],
      (false || ((E30 r2).nv && nvL [V.un])) = true]) (by kernel_rfl) (cj (slices_Clone_impl_Hold_ok l r1 h1) (cj rfl (cj (slices_DeleteFunc_impl_Hold_impl_LiveOnes_1_ok r1 now r2 h2) (cj1 (by simp [V.nv, nvL, nvL_all, nv_E3, nv_E9, nv_E30, nv_E74]))))))))
def impl_AcctSwept (a : Acct) (now : Int) : Option (Acct) :=
 (impl_Acct_copied a).bind fun r1 =>
 (impl_AcctOk a).bind fun r2 =>
 if r2 = true then
  (impl_isTime now).bind fun r3 =>
  if r3 = true then
   (impl_LiveOnes a.Holds now).bind fun r4 =>
   some (Acct.mk r1.Id r1.Limit r1.Posted r1.Most r1.MostSum r4 r1.Ring r1.Slots)
  else
   some r1
 else
  some r1
theorem impl_AcctSwept_ok (a : Acct) (now : Int) : Pn (fun y => Fn Tryz.prog 98 [(false, E34 a), (false, E3 now)] (E34 y) []) (impl_AcctSwept a now) := by
  unfold impl_AcctSwept
  exact
   Pn.bind (fun r1 h1 =>
    Pn.bind (fun r2 h2 =>
     Pn.ite (fun h3 =>
      Pn.bind (fun r3 h4 =>
       Pn.ite (fun h5 =>
        Pn.bind (fun r4 h6 =>
         Pn.some (Fn.of [.call [] (E34 r1) [], .call [] (E4 r2) [], .bit true, .bit true, .call [] (E4 r3) [], .bit true, .bit true, .call [] (E30 r4) []] (p := [Fn Tryz.prog 121 [(false, E34 a)] (E34 r1) [],
          (true || ((E34 r1).nv && nvL [])) = true,
          Fn Tryz.prog 80 [(false, E34 a)] (E4 r2) [],
          (true || ((E4 r2).nv && nvL [])) = true,
          r2 = true,
          r2 = true,
          Fn Tryz.prog 49 [(false, E3 now)] (E4 r3) [],
          (true || ((E4 r3).nv && nvL [])) = true,
          r2 = true,
          r3 = true,
          Fn Tryz.prog 122 [(false, E30 a.Holds), (false, E3 now)] (E30 r4) [],
          (true || ((E30 r4).nv && nvL [])) = true]) (by kernel_rfl) (cj (impl_Acct_copied_ok a r1 h1) (cj rfl (cj (impl_AcctOk_ok a r2 h2) (cj rfl (cj h3 (cj h3 (cj (impl_isTime_ok now r3 h4) (cj rfl (cj h3 (cj h5 (cj (impl_LiveOnes_ok a.Holds now r4 h6) (cj1 rfl))))))))))))))) (fun h5 =>
        Pn.some (Fn.of [.call [] (E34 r1) [], .call [] (E4 r2) [], .bit true, .bit true, .call [] (E4 r3) [], .bit true, .bit false] (p := [Fn Tryz.prog 121 [(false, E34 a)] (E34 r1) [],
         (true || ((E34 r1).nv && nvL [])) = true,
         Fn Tryz.prog 80 [(false, E34 a)] (E4 r2) [],
         (true || ((E4 r2).nv && nvL [])) = true,
         r2 = true,
         r2 = true,
         Fn Tryz.prog 49 [(false, E3 now)] (E4 r3) [],
         (true || ((E4 r3).nv && nvL [])) = true,
         r2 = true,
         r3 = false]) (by kernel_rfl) (cj (impl_Acct_copied_ok a r1 h1) (cj rfl (cj (impl_AcctOk_ok a r2 h2) (cj rfl (cj h3 (cj h3 (cj (impl_isTime_ok now r3 h4) (cj rfl (cj h3 (cj1 h5)))))))))))))) (fun h3 =>
      Pn.some (Fn.of [.call [] (E34 r1) [], .call [] (E4 r2) [], .bit false, .bit false, .bit false, .bit false] (p := [Fn Tryz.prog 121 [(false, E34 a)] (E34 r1) [],
       (true || ((E34 r1).nv && nvL [])) = true,
       Fn Tryz.prog 80 [(false, E34 a)] (E4 r2) [],
       (true || ((E4 r2).nv && nvL [])) = true,
       r2 = false,
       r2 = false,
       r2 = false,
       false = false]) (by kernel_rfl) (cj (impl_Acct_copied_ok a r1 h1) (cj rfl (cj (impl_AcctOk_ok a r2 h2) (cj rfl (cj h3 (cj h3 (cj h3 (cj1 rfl))))))))))))
def impl_shifted_l0 (l : List Int) (by_ : Int) : List Int → List Int → (List Int) → Option ((List Int))
  | [], p1, v1 =>
   some v1
  | x1 :: t1, p1, v1 =>
   if (decide (by_ ≤ (p1.length : Int))) = true then
    if (decide (0 ≤ (i64 ((p1.length : Int) - by_)))) = true then
     (l[(i64 ((p1.length : Int) - by_)).toNat]?).bind fun x2 =>
     (v1[(p1.length : Int).toNat]?).bind fun x3 =>
     impl_shifted_l0 l by_ t1 (p1 ++ [x1]) (v1.set ((p1.length : Int).toNat) x2)
    else none
   else
    impl_shifted_l0 l by_ t1 (p1 ++ [x1]) v1
theorem impl_shifted_l0_ok (l : List Int) (by_ : Int) (h4 : capOk l.length = true) : ∀ (t1 p1 : List Int) (_ : l = p1 ++ t1) (v1 : List Int), Pn (LpO Tryz.prog (sub (codeOf Tryz.prog 133) [1, 1, 0, 1, 0, 0]) (st 29 [(0, V.sl false 3 (List.map E3 l)), (1, V.sc (.int .i64 by_)), (5, V.ow 0), (11, V.sc (.int .i64 (l.length : Int))), (12, V.sc (.int .i64 (p1.length : Int)))] [Blk.row 3 (List.map E3 v1) []] []) (fun (y : (List Int)) => (X.out 0, st 29 [(5, V.ow 0)] [Blk.row 3 (List.map E3 y) []] []))) (impl_shifted_l0 l by_ t1 p1 v1)
  | [], p1, h3, v1 => by
    unfold impl_shifted_l0
    exact
     Pn.some (LpO.out [.bit false, .mask [5], .ren [0]] (p := [(decide ((p1.length : Int) < (l.length : Int))) = false]) (by kernel_rfl) (show X.out 0 ≠ X.go from nofun) (cj1 (rng_end h3)))
  | x1 :: t1, p1, h3, v1 => by
    unfold impl_shifted_l0
    exact
     Pn.ite (fun h5 =>
      Pn.ite (fun h6 =>
       Pn.bind (fun x2 h7 =>
        Pn.bind (fun x3 h8 =>
         LpO.go [.bit true, .bit true, .el (E3 x2), .el (E3 x3), .nb 0 (.row 3 (List.map E3 (v1.set ((p1.length : Int).toNat) x2)) []), .wait 3, .mask [0, 1, 5, 11, 12], .ren [0], .nm 12 (V.sc (.int .i64 ((p1 ++ [x1]).length : Int)))] (p := [(decide ((p1.length : Int) < (l.length : Int))) = true,
          (decide (by_ ≤ (p1.length : Int))) = true,
          (0 : Int) ≤ (i64 ((p1.length : Int) - by_)),
          (List.map E3 l)[(i64 ((p1.length : Int) - by_)).toNat]? = some (E3 x2),
          (0 : Int) ≤ (p1.length : Int),
          ((p1.length : Int) : Int) < ((List.map E3 v1).length : Int),
          look [] ((p1.length : Int).toNat) = none,
          (List.map E3 v1)[(p1.length : Int).toNat]? = some (E3 x3),
          Blk.row 3 ((List.map E3 v1).set ((p1.length : Int).toNat) (V.sc (.int .i64 x2))) [] = Blk.row 3 (List.map E3 (v1.set ((p1.length : Int).toNat) x2)) [],
          V.sc (.int .i64 (i64 ((p1.length : Int) + 1))) = V.sc (.int .i64 ((p1 ++ [x1]).length : Int))]) (by kernel_rfl) (cj (rng_lt h3) (cj h5 (cj (od h6) (cj (map_get h7) (cj (by omega) (cj (map_ltN (by omega) h8) (cj rfl (cj (map_get h8) (cj (nb_set E3 _ _ x2) (cj1 (rng_next h3 h4))))))))))) (impl_shifted_l0_ok l by_ h4 t1 (p1 ++ [x1]) (rng_step h3) (v1.set ((p1.length : Int).toNat) x2))))) (fun h6 =>
       Pn.none)) (fun h5 =>
      LpO.go [.bit true, .bit false, .wait 2, .mask [0, 1, 5, 11, 12], .ren [0], .nm 12 (V.sc (.int .i64 ((p1 ++ [x1]).length : Int)))] (p := [(decide ((p1.length : Int) < (l.length : Int))) = true,
       (decide (by_ ≤ (p1.length : Int))) = false,
       V.sc (.int .i64 (i64 ((p1.length : Int) + 1))) = V.sc (.int .i64 ((p1 ++ [x1]).length : Int))]) (by kernel_rfl) (cj (rng_lt h3) (cj h5 (cj1 (rng_next h3 h4)))) (impl_shifted_l0_ok l by_ h4 t1 (p1 ++ [x1]) (rng_step h3) v1))
def impl_shifted (l : List Int) (by_ : Int) : Option ((List Int)) :=
 if (decide (0 ≤ (l.length : Int))) = true then
  if (capOk (l.length : Int).toNat) = true then
   if (capOk l.length) = true then
    (impl_shifted_l0 l by_ l [] (List.replicate ((l.length : Int).toNat) 0)).bind fun r1 =>
    some r1
   else none
  else none
 else none
theorem impl_shifted_ok (l : List Int) (by_ : Int) : Pn (fun y => Fn Tryz.prog 133 [(false, E23 l), (false, E3 by_)] (E23 y) []) (impl_shifted l by_) := by
  unfold impl_shifted
  exact
   Pn.ite (fun h1 =>
    Pn.ite (fun h2 =>
     Pn.ite (fun h9 =>
      Pn.bind (fun r1 h10 =>
       Pn.some (Fn.of [.wait 3, .nm 8 (V.sc (.int .i64 (l.length : Int))), .wait 1, .nb 0 (.row 3 (List.map E3 (List.replicate ((l.length : Int).toNat) 0)) []), .wait 3, .nm 11 (V.sc (.int .i64 (l.length : Int))), .wait 2, .mask [0, 1, 5, 11, 12], .ren [0], .loop (X.out 0) (st 29 [(5, V.ow 0)] [Blk.row 3 (List.map E3 r1) []] [])] (p := [V.sc (.int .i64 ((List.map E3 l).length : Int)) = V.sc (.int .i64 (l.length : Int)),
        ((l.length : Int) : Int) = (l.length : Int),
        (0 : Int) ≤ (l.length : Int),
        ((l.length : Int) : Int) ≤ 9223372036854775807,
        8 * (l.length : Int).toNat ≤ 281474976710656,
        Blk.row 3 (List.replicate ((l.length : Int).toNat) (V.sc (.int .i64 0))) [] = Blk.row 3 (List.map E3 (List.replicate ((l.length : Int).toNat) 0)) [],
        V.sc (.int .i64 ((List.map E3 l).length : Int)) = V.sc (.int .i64 (l.length : Int)),
        Loop Tryz.prog (sub (codeOf Tryz.prog 133) [1, 1, 0, 1, 0, 0]) (st 29 [(0, V.sl false 3 (List.map E3 l)), (1, V.sc (.int .i64 by_)), (5, V.ow 0), (11, V.sc (.int .i64 (l.length : Int))), (12, V.sc (.int .i64 0))] [Blk.row 3 (List.map E3 (List.replicate ((l.length : Int).toNat) 0)) []] []) (X.out 0) (st 29 [(5, V.ow 0)] [Blk.row 3 (List.map E3 r1) []] [])]) (by kernel_rfl) (cj (len_nm _ _) (cj rfl (cj (od h1) (cj (cap3 h1 h2) (cj (cap4 h2 (by decide)) (cj (nb_rep E3 _ 0) (cj (len_nm _ _) (cj1 (impl_shifted_l0_ok l by_ h9 l [] rfl (List.replicate ((l.length : Int).toNat) 0) r1 h10)))))))))))) (fun h9 =>
      Pn.none)) (fun h2 =>
     Pn.none)) (fun h1 =>
    Pn.none)
def impl_RingRoll (r_ : Ring) (now : Int) : Option (Ring) :=
 (impl_Ring_copied r_).bind fun r1 =>
 (impl_RingOk r_).bind fun r2 =>
 if r2 = true then
  (impl_isTime now).bind fun r3 =>
  if r3 = true then
   if (decide (r_.Span ≠ 0)) = true then
    if (decide ((i64 (Int.tdiv now r_.Span)) ≤ r_.Head)) = true then
     some r1
    else
     (impl_shifted r_.Counts (i64 ((i64 (Int.tdiv now r_.Span)) - r_.Head))).bind fun r4 =>
     (impl_shifted r_.Sums (i64 ((i64 (Int.tdiv now r_.Span)) - r_.Head))).bind fun r5 =>
     some (Ring.mk r_.Span (i64 (Int.tdiv now r_.Span)) r4 r5)
   else none
  else
   some r1
 else
  some r1
theorem impl_RingRoll_ok (r_ : Ring) (now : Int) : Pn (fun y => Fn Tryz.prog 115 [(false, E31 r_), (false, E3 now)] (E31 y) []) (impl_RingRoll r_ now) := by
  unfold impl_RingRoll
  exact
   Pn.bind (fun r1 h1 =>
    Pn.bind (fun r2 h2 =>
     Pn.ite (fun h3 =>
      Pn.bind (fun r3 h4 =>
       Pn.ite (fun h5 =>
        Pn.ite (fun h6 =>
         Pn.ite (fun h7 =>
          Pn.some (Fn.of [.call [] (E31 r1) [], .draw [], .call [] (E4 r2) [], .bit false, .bit false, .call [] (E4 r3) [], .bit false, .bit false, .bit false, .bit false, .bit false, .bit false, .bit false, .bit false, .bit false, .bit false, .bit true] (p := [Fn Tryz.prog 132 [(false, E31 r_)] (E31 r1) [],
           (true || ((E31 r1).nv && nvL [])) = true,
           Fn Tryz.prog 108 [(false, E31 r_)] (E4 r2) [],
           (true || ((E4 r2).nv && nvL [])) = true,
           (!r2) = false,
           (!r2) = false,
           Fn Tryz.prog 49 [(false, E3 now)] (E4 r3) [],
           (true || ((E4 r3).nv && nvL [])) = true,
           (!r2) = false,
           (!r2) = false,
           (!r3) = false,
           (!r3) = false,
           (!r3) = false,
           (!r3) = false,
           (r_.Span : Int) ≠ 0,
           (!r3) = false,
           (!r3) = false,
           (!r3) = false,
           (!r3) = false,
           (decide ((i64 (Int.tdiv now r_.Span)) ≤ r_.Head)) = true]) (by kernel_rfl) (cj (impl_Ring_copied_ok r_ r1 h1) (cj rfl (cj (impl_RingOk_ok r_ r2 h2) (cj rfl (cj (nf h3) (cj (nf h3) (cj (impl_isTime_ok now r3 h4) (cj rfl (cj (nf h3) (cj (nf h3) (cj (nf h5) (cj (nf h5) (cj (nf h5) (cj (nf h5) (cj (od h6) (cj (nf h5) (cj (nf h5) (cj (nf h5) (cj (nf h5) (cj1 h7)))))))))))))))))))))) (fun h7 =>
          Pn.bind (fun r4 h8 =>
           Pn.bind (fun r5 h9 =>
            Pn.some (Fn.of [.call [] (E31 r1) [], .draw [], .call [] (E4 r2) [], .bit false, .bit false, .call [] (E4 r3) [], .bit false, .bit false, .bit false, .bit false, .bit false, .bit false, .bit false, .bit false, .bit false, .bit false, .bit false, .draw [], .draw [15], .call [] (E23 r4) [], .call [] (E23 r5) []] (p := [Fn Tryz.prog 132 [(false, E31 r_)] (E31 r1) [],
             (true || ((E31 r1).nv && nvL [])) = true,
             Fn Tryz.prog 108 [(false, E31 r_)] (E4 r2) [],
             (true || ((E4 r2).nv && nvL [])) = true,
             (!r2) = false,
             (!r2) = false,
             Fn Tryz.prog 49 [(false, E3 now)] (E4 r3) [],
             (true || ((E4 r3).nv && nvL [])) = true,
             (!r2) = false,
             (!r2) = false,
             (!r3) = false,
             (!r3) = false,
             (!r3) = false,
             (!r3) = false,
             (r_.Span : Int) ≠ 0,
             (!r3) = false,
             (!r3) = false,
             (!r3) = false,
             (!r3) = false,
             (decide ((i64 (Int.tdiv now r_.Span)) ≤ r_.Head)) = false,
             (r_.Span : Int) ≠ 0,
             (r_.Span : Int) ≠ 0,
             Fn Tryz.prog 133 [(false, E23 r_.Counts), (false, E3 (i64 ((i64 (Int.tdiv now r_.Span)) - r_.Head)))] (E23 r4) [],
             (true || ((E23 r4).nv && nvL [])) = true,
             Fn Tryz.prog 133 [(false, E23 r_.Sums), (false, E3 (i64 ((i64 (Int.tdiv now r_.Span)) - r_.Head)))] (E23 r5) [],
             (true || ((E23 r5).nv && nvL [])) = true]) (by kernel_rfl) (cj (impl_Ring_copied_ok r_ r1 h1) (cj rfl (cj (impl_RingOk_ok r_ r2 h2) (cj rfl (cj (nf h3) (cj (nf h3) (cj (impl_isTime_ok now r3 h4) (cj rfl (cj (nf h3) (cj (nf h3) (cj (nf h5) (cj (nf h5) (cj (nf h5) (cj (nf h5) (cj (od h6) (cj (nf h5) (cj (nf h5) (cj (nf h5) (cj (nf h5) (cj h7 (cj (od h6) (cj (od h6) (cj (impl_shifted_ok r_.Counts (i64 ((i64 (Int.tdiv now r_.Span)) - r_.Head)) r4 h8) (cj rfl (cj (impl_shifted_ok r_.Sums (i64 ((i64 (Int.tdiv now r_.Span)) - r_.Head)) r5 h9) (cj1 rfl))))))))))))))))))))))))))))))) (fun h6 =>
         Pn.none)) (fun h5 =>
        Pn.some (Fn.of [.call [] (E31 r1) [], .draw [], .call [] (E4 r2) [], .bit false, .bit false, .call [] (E4 r3) [], .bit false, .bit false, .bit true, .bit true, .bit true, .bit true, .bit true, .bit true, .bit true, .bit true, .bit true] (p := [Fn Tryz.prog 132 [(false, E31 r_)] (E31 r1) [],
         (true || ((E31 r1).nv && nvL [])) = true,
         Fn Tryz.prog 108 [(false, E31 r_)] (E4 r2) [],
         (true || ((E4 r2).nv && nvL [])) = true,
         (!r2) = false,
         (!r2) = false,
         Fn Tryz.prog 49 [(false, E3 now)] (E4 r3) [],
         (true || ((E4 r3).nv && nvL [])) = true,
         (!r2) = false,
         (!r2) = false,
         (!r3) = true,
         (!r3) = true,
         (!r3) = true,
         (!r3) = true,
         (!r3) = true,
         (!r3) = true,
         (!r3) = true,
         (!r3) = true,
         true = true]) (by kernel_rfl) (cj (impl_Ring_copied_ok r_ r1 h1) (cj rfl (cj (impl_RingOk_ok r_ r2 h2) (cj rfl (cj (nf h3) (cj (nf h3) (cj (impl_isTime_ok now r3 h4) (cj rfl (cj (nf h3) (cj (nf h3) (cj (nt h5) (cj (nt h5) (cj (nt h5) (cj (nt h5) (cj (nt h5) (cj (nt h5) (cj (nt h5) (cj (nt h5) (cj1 rfl))))))))))))))))))))))) (fun h3 =>
      Pn.some (Fn.of [.call [] (E31 r1) [], .draw [], .call [] (E4 r2) [], .bit true, .bit true, .bit true, .bit true, .bit true, .bit true, .bit true, .bit true, .bit true, .bit true, .bit true, .bit true, .bit true] (p := [Fn Tryz.prog 132 [(false, E31 r_)] (E31 r1) [],
       (true || ((E31 r1).nv && nvL [])) = true,
       Fn Tryz.prog 108 [(false, E31 r_)] (E4 r2) [],
       (true || ((E4 r2).nv && nvL [])) = true,
       (!r2) = true,
       (!r2) = true,
       (!r2) = true,
       (!r2) = true,
       true = true,
       true = true,
       true = true,
       true = true,
       true = true,
       true = true,
       true = true,
       true = true,
       true = true]) (by kernel_rfl) (cj (impl_Ring_copied_ok r_ r1 h1) (cj rfl (cj (impl_RingOk_ok r_ r2 h2) (cj rfl (cj (nt h3) (cj (nt h3) (cj (nt h3) (cj (nt h3) (cj rfl (cj rfl (cj rfl (cj rfl (cj rfl (cj rfl (cj rfl (cj rfl (cj1 rfl)))))))))))))))))))))
def impl_AcctAt (a : Acct) (now : Int) : Option (Acct) :=
 (impl_AcctSwept a now).bind fun r1 =>
 (impl_AcctOk a).bind fun r2 =>
 if r2 = true then
  (impl_isTime now).bind fun r3 =>
  if r3 = true then
   (impl_RingRoll a.Ring now).bind fun r4 =>
   some (Acct.mk r1.Id r1.Limit r1.Posted r1.Most r1.MostSum r1.Holds r4 r1.Slots)
  else
   some r1
 else
  some r1
theorem impl_AcctAt_ok (a : Acct) (now : Int) : Pn (fun y => Fn Tryz.prog 85 [(false, E34 a), (false, E3 now)] (E34 y) []) (impl_AcctAt a now) := by
  unfold impl_AcctAt
  exact
   Pn.bind (fun r1 h1 =>
    Pn.bind (fun r2 h2 =>
     Pn.ite (fun h3 =>
      Pn.bind (fun r3 h4 =>
       Pn.ite (fun h5 =>
        Pn.bind (fun r4 h6 =>
         Pn.some (Fn.of [.call [] (E34 r1) [], .call [] (E4 r2) [], .bit true, .bit true, .call [] (E4 r3) [], .bit true, .bit true, .call [] (E31 r4) []] (p := [Fn Tryz.prog 98 [(false, E34 a), (false, E3 now)] (E34 r1) [],
          (true || ((E34 r1).nv && nvL [])) = true,
          Fn Tryz.prog 80 [(false, E34 a)] (E4 r2) [],
          (true || ((E4 r2).nv && nvL [])) = true,
          r2 = true,
          r2 = true,
          Fn Tryz.prog 49 [(false, E3 now)] (E4 r3) [],
          (true || ((E4 r3).nv && nvL [])) = true,
          r2 = true,
          r3 = true,
          Fn Tryz.prog 115 [(false, E31 a.Ring), (false, E3 now)] (E31 r4) [],
          (true || ((E31 r4).nv && nvL [])) = true]) (by kernel_rfl) (cj (impl_AcctSwept_ok a now r1 h1) (cj rfl (cj (impl_AcctOk_ok a r2 h2) (cj rfl (cj h3 (cj h3 (cj (impl_isTime_ok now r3 h4) (cj rfl (cj h3 (cj h5 (cj (impl_RingRoll_ok a.Ring now r4 h6) (cj1 rfl))))))))))))))) (fun h5 =>
        Pn.some (Fn.of [.call [] (E34 r1) [], .call [] (E4 r2) [], .bit true, .bit true, .call [] (E4 r3) [], .bit true, .bit false] (p := [Fn Tryz.prog 98 [(false, E34 a), (false, E3 now)] (E34 r1) [],
         (true || ((E34 r1).nv && nvL [])) = true,
         Fn Tryz.prog 80 [(false, E34 a)] (E4 r2) [],
         (true || ((E4 r2).nv && nvL [])) = true,
         r2 = true,
         r2 = true,
         Fn Tryz.prog 49 [(false, E3 now)] (E4 r3) [],
         (true || ((E4 r3).nv && nvL [])) = true,
         r2 = true,
         r3 = false]) (by kernel_rfl) (cj (impl_AcctSwept_ok a now r1 h1) (cj rfl (cj (impl_AcctOk_ok a r2 h2) (cj rfl (cj h3 (cj h3 (cj (impl_isTime_ok now r3 h4) (cj rfl (cj h3 (cj1 h5)))))))))))))) (fun h3 =>
      Pn.some (Fn.of [.call [] (E34 r1) [], .call [] (E4 r2) [], .bit false, .bit false, .bit false, .bit false] (p := [Fn Tryz.prog 98 [(false, E34 a), (false, E3 now)] (E34 r1) [],
       (true || ((E34 r1).nv && nvL [])) = true,
       Fn Tryz.prog 80 [(false, E34 a)] (E4 r2) [],
       (true || ((E4 r2).nv && nvL [])) = true,
       r2 = false,
       r2 = false,
       r2 = false,
       false = false]) (by kernel_rfl) (cj (impl_AcctSwept_ok a now r1 h1) (cj rfl (cj (impl_AcctOk_ok a r2 h2) (cj rfl (cj h3 (cj h3 (cj h3 (cj1 rfl))))))))))))
def impl_BookTime_1 (a : Acct) (c0_0 : Int) : Option (Acct) :=
 (impl_AcctAt a c0_0).bind fun r1 =>
 some r1
theorem impl_BookTime_1_ok (a : Acct) (c0_0 : Int) : Pn (fun y => Fn Tryz.prog 84 [(false, E34 a), (false, V.cp [V.sc (.int .i64 c0_0)])] (E34 y) []) (impl_BookTime_1 a c0_0) := by
  unfold impl_BookTime_1
  exact
   Pn.bind (fun r1 h1 =>
    Pn.some (Fn.of [.call [] (E34 r1) []] (p := [Fn Tryz.prog 85 [(false, E34 a), (false, E3 c0_0)] (E34 r1) [],
     (true || ((E34 r1).nv && nvL [])) = true]) (by kernel_rfl) (cj (impl_AcctAt_ok a c0_0 r1 h1) (cj1 rfl))))
def impl_Book_each_impl_BookTime_1_l0 (b : Book) (do_0_0 : Int) : List Acct → (List Acct) → Option ((List Acct))
  | [], v1 =>
   some v1
  | x1 :: t1, v1 =>
   (impl_BookTime_1 x1 do_0_0).bind fun r1 =>
   if (capOk (v1.length + 1)) = true then
    impl_Book_each_impl_BookTime_1_l0 b do_0_0 t1 (v1 ++ [r1])
   else none
theorem impl_Book_each_impl_BookTime_1_l0_ok (b : Book) (do_0_0 : Int) (h2 : capOk b.Accts.length = true) : ∀ (t1 p1 : List Acct) (_ : b.Accts = p1 ++ t1) (v1 : List Acct), Pn (LpO Tryz.prog (sub (codeOf Tryz.prog 83) [1, 1, 0, 1, 0, 0]) (st 26 [(1, V.fn 84 [V.cp [V.sc (.int .i64 do_0_0)]]), (4, V.ptr 0 0), (5, V.ptr 1 0), (10, V.sl false 34 (List.map E34 b.Accts)), (11, V.sc (.int .i64 (b.Accts.length : Int))), (12, V.sc (.int .i64 (p1.length : Int)))] [Blk.box 50 [V.nl 34], Blk.box 50 [V.ow 2], Blk.row 34 (List.map E34 v1) []] []) (fun (y : (List Acct)) => (X.out 0, st 26 [(4, V.ptr 0 0), (5, V.ptr 1 0)] [Blk.box 50 [V.nl 34], Blk.box 50 [V.ow 2], Blk.row 34 (List.map E34 y) []] []))) (impl_Book_each_impl_BookTime_1_l0 b do_0_0 t1 v1)
  | [], p1, h1, v1 => by
    unfold impl_Book_each_impl_BookTime_1_l0
    exact
     Pn.some (LpO.out [.bit false, .mask [4, 5], .ren [0, 1, 2]] (p := [(decide ((p1.length : Int) < (b.Accts.length : Int))) = false]) (by kernel_rfl) (show X.out 0 ≠ X.go from nofun) (cj1 (rng_end h1)))
  | x1 :: t1, p1, h1, v1 => by
    unfold impl_Book_each_impl_BookTime_1_l0
    exact
     Pn.bind (fun r1 h3 =>
      Pn.ite (fun h4 =>
       LpO.go [.bit true, .el (E34 x1), .draw [6, 8], .call [] (E34 r1) [], .wait 1, .shut 8, .mv, .nb 9 (.row 34 (List.map E34 (v1 ++ [r1])) []), .wait 5, .mask [1, 4, 5, 10, 11, 12], .ren [0, 1, 9], .nm 12 (V.sc (.int .i64 ((p1 ++ [x1]).length : Int)))] (p := [(decide ((p1.length : Int) < (b.Accts.length : Int))) = true,
        (0 : Int) ≤ (p1.length : Int),
        (List.map E34 b.Accts)[(p1.length : Int).toNat]? = some (E34 x1),
        Fn Tryz.prog 84 [(false, E34 x1), (false, V.cp [V.sc (.int .i64 do_0_0)])] (E34 r1) [],
        (true || ((E34 r1).nv && nvL [])) = true,
        (List.map E34 v1).length + [V.agg [V.sc (.string r1.Id), V.sc (.int .i64 r1.Limit), V.sc (.int .i64 r1.Posted), V.sc (.int .i64 r1.Most), V.sc (.int .i64 r1.MostSum), V.sl true 74 (List.map E74 r1.Holds), V.sc (.int .i64 r1.Ring.Span), V.sc (.int .i64 r1.Ring.Head), V.sl true 3 (List.map E3 r1.Ring.Counts), V.sl true 3 (List.map E3 r1.Ring.Sums), V.sl true 94 (List.map E94 r1.Slots)]].length ≤ 9223372036854775807,
        ((List.map E34 v1).length + [V.agg [V.sc (.string r1.Id), V.sc (.int .i64 r1.Limit), V.sc (.int .i64 r1.Posted), V.sc (.int .i64 r1.Most), V.sc (.int .i64 r1.MostSum), V.sl true 74 (List.map E74 r1.Holds), V.sc (.int .i64 r1.Ring.Span), V.sc (.int .i64 r1.Ring.Head), V.sl true 3 (List.map E3 r1.Ring.Counts), V.sl true 3 (List.map E3 r1.Ring.Sums), V.sl true 94 (List.map E94 r1.Slots)]].length) * 160 ≤ 140737488355328,
        Blk.row 34 ((List.map E34 v1) ++ [V.agg [V.sc (.string r1.Id), V.sc (.int .i64 r1.Limit), V.sc (.int .i64 r1.Posted), V.sc (.int .i64 r1.Most), V.sc (.int .i64 r1.MostSum), V.sl true 74 (List.map E74 r1.Holds), V.sc (.int .i64 r1.Ring.Span), V.sc (.int .i64 r1.Ring.Head), V.sl true 3 (List.map E3 r1.Ring.Counts), V.sl true 3 (List.map E3 r1.Ring.Sums), V.sl true 94 (List.map E94 r1.Slots)]]) [] = Blk.row 34 (List.map E34 (v1 ++ [r1])) [],
        V.sc (.int .i64 (i64 ((p1.length : Int) + 1))) = V.sc (.int .i64 ((p1 ++ [x1]).length : Int))]) (by kernel_rfl) (cj (rng_lt h1) (cj (by omega) (cj (rng_get _ h1) (cj (impl_BookTime_1_ok x1 do_0_0 r1 h3) (cj rfl (cj (cap1 (capN (by simp) h4)) (cj (cap2 (capN (by simp) h4) (by decide)) (cj (nb_app E34 v1 [r1]) (cj1 (rng_next h1 h2)))))))))) (impl_Book_each_impl_BookTime_1_l0_ok b do_0_0 h2 t1 (p1 ++ [x1]) (rng_step h1) (v1 ++ [r1]))) (fun h4 =>
       Pn.none))
def impl_Book_each_impl_BookTime_1 (b : Book) (do_0_0 : Int) : Option (Book) :=
 if (capOk b.Accts.length) = true then
  (impl_Book_each_impl_BookTime_1_l0 b do_0_0 b.Accts []).bind fun r2 =>
  some (Book.mk r2)
 else none
theorem impl_Book_each_impl_BookTime_1_ok (b : Book) (do_0_0 : Int) : Pn (fun y => Fn Tryz.prog 83 [(false, E50 b), (false, V.fn 84 [V.cp [V.sc (.int .i64 do_0_0)]])] (E50 y) []) (impl_Book_each_impl_BookTime_1 b do_0_0) := by
  unfold impl_Book_each_impl_BookTime_1
  exact
   Pn.ite (fun h5 =>
    Pn.bind (fun r2 h6 =>
     Pn.some (Fn.of [.wait 8, .nm 11 (V.sc (.int .i64 (b.Accts.length : Int))), .wait 2, .mask [1, 4, 5, 10, 11, 12], .ren [1, 2], .ownb 1 0, .mask [1, 4, 5, 10, 11, 12], .ren [0, 1, 2], .loop (X.out 0) (st 26 [(4, V.ptr 0 0), (5, V.ptr 1 0)] [Blk.box 50 [V.nl 34], Blk.box 50 [V.ow 2], Blk.row 34 (List.map E34 r2) []] [])] (p := [V.sc (.int .i64 ((List.map E34 b.Accts).length : Int)) = V.sc (.int .i64 (b.Accts.length : Int)),
      Loop Tryz.prog (sub (codeOf Tryz.prog 83) [1, 1, 0, 1, 0, 0]) (st 26 [(1, V.fn 84 [V.cp [V.sc (.int .i64 do_0_0)]]), (4, V.ptr 0 0), (5, V.ptr 1 0), (10, V.sl false 34 (List.map E34 b.Accts)), (11, V.sc (.int .i64 (b.Accts.length : Int))), (12, V.sc (.int .i64 0))] [Blk.box 50 [V.nl 34], Blk.box 50 [V.ow 2], Blk.row 34 ([] : List V) []] []) (X.out 0) (st 26 [(4, V.ptr 0 0), (5, V.ptr 1 0)] [Blk.box 50 [V.nl 34], Blk.box 50 [V.ow 2], Blk.row 34 (List.map E34 r2) []] [])]) (by kernel_rfl) (cj (len_nm _ _) (cj1 (impl_Book_each_impl_BookTime_1_l0_ok b do_0_0 h5 b.Accts [] rfl [] r2 h6)))))) (fun h5 =>
    Pn.none)
def impl_BookTime (b : Book) (now : Int) : Option (Book) :=
 (impl_Book_each_impl_BookTime_1 b now).bind fun r1 =>
 some r1
theorem impl_BookTime_ok (b : Book) (now : Int) : Pn (fun y => Fn Tryz.prog 51 [(false, E50 b), (false, E3 now)] (E50 y) []) (impl_BookTime b now) := by
  unfold impl_BookTime
  exact
   Pn.bind (fun r1 h1 =>
    Pn.some (Fn.of [.call [] (E50 r1) []] (p := [Fn Tryz.prog 83 [(false, E50 b), (false, V.fn 84 [V.cp [V.sc (.int .i64 now)]])] (E50 r1) [],
     (false || ((E50 r1).nv && nvL [])) = true]) (by kernel_rfl) (cj (impl_Book_each_impl_BookTime_1_ok b now r1 h1) (cj1 (by simp [V.nv, nvL, nvL_all, nv_E3, nv_E5, nv_E9, nv_E23, nv_E30, nv_E31, nv_E32, nv_E34, nv_E48, nv_E50, nv_E74, nv_E85, nv_E94])))))
def slices_Equal_impl_Hold_l0 (s1_ : List Hold) (s2_ : List Hold) : List Hold → List Hold → Option (Lo Unit Unit)
  | [], p1 =>
   some (.out ())
  | x1 :: t1, p1 =>
   (s2_[(p1.length : Int).toNat]?).bind fun x2 =>
   if ((x1.Id == x2.Id) && ((x1.Amount == x2.Amount) && ((x1.Due == x2.Due) && true))) = true then
    slices_Equal_impl_Hold_l0 s1_ s2_ t1 (p1 ++ [x1])
   else
    some (.ret ())
theorem slices_Equal_impl_Hold_l0_ok (s1_ : List Hold) (s2_ : List Hold) (h3 : capOk s1_.length = true) : ∀ (t1 p1 : List Hold) (_ : s1_ = p1 ++ t1) , Pn (LpO Tryz.prog (sub (codeOf Tryz.prog 112) [1, 1, 0, 1, 0, 0]) (st 26 [(0, V.sl false 74 (List.map E74 s1_)), (1, V.sl false 74 (List.map E74 s2_)), (12, V.sc (.int .i64 (s1_.length : Int))), (13, V.sc (.int .i64 (p1.length : Int)))] [] []) (fun (y : Lo Unit Unit) => Lo.elim y (fun s => (X.out 0, st 26 [] [] [])) (fun s => (X.ret, st 26 [(4, V.sc (.bool false))] [] [])))) (slices_Equal_impl_Hold_l0 s1_ s2_ t1 p1)
  | [], p1, h2 => by
    unfold slices_Equal_impl_Hold_l0
    exact
     Pn.some (LpO.out [.bit false, .mask [], .ren []] (p := [(decide ((p1.length : Int) < (s1_.length : Int))) = false]) (by kernel_rfl) (show X.out 0 ≠ X.go from nofun) (cj1 (rng_end h2)))
  | x1 :: t1, p1, h2 => by
    unfold slices_Equal_impl_Hold_l0
    exact
     Pn.bind (fun x2 h4 =>
      Pn.ite (fun h5 =>
       LpO.go [.bit true, .draw [], .el (E74 x1), .el (E74 x2), .bit false, .wait 2, .mask [0, 1, 12, 13], .ren [], .nm 13 (V.sc (.int .i64 ((p1 ++ [x1]).length : Int)))] (p := [(decide ((p1.length : Int) < (s1_.length : Int))) = true,
        (0 : Int) ≤ (p1.length : Int),
        (List.map E74 s1_)[(p1.length : Int).toNat]? = some (E74 x1),
        (0 : Int) ≤ (p1.length : Int),
        (List.map E74 s2_)[(p1.length : Int).toNat]? = some (E74 x2),
        (!((x1.Id == x2.Id) && ((x1.Amount == x2.Amount) && ((x1.Due == x2.Due) && true)))) = false,
        V.sc (.int .i64 (i64 ((p1.length : Int) + 1))) = V.sc (.int .i64 ((p1 ++ [x1]).length : Int))]) (by kernel_rfl) (cj (rng_lt h2) (cj (by omega) (cj (rng_get _ h2) (cj (by omega) (cj (map_get h4) (cj (nf h5) (cj1 (rng_next h2 h3)))))))) (slices_Equal_impl_Hold_l0_ok s1_ s2_ h3 t1 (p1 ++ [x1]) (rng_step h2))) (fun h5 =>
       Pn.some (LpO.out [.bit true, .draw [], .el (E74 x1), .el (E74 x2), .bit true, .wait 1, .mask [4], .ren []] (p := [(decide ((p1.length : Int) < (s1_.length : Int))) = true,
        (0 : Int) ≤ (p1.length : Int),
        (List.map E74 s1_)[(p1.length : Int).toNat]? = some (E74 x1),
        (0 : Int) ≤ (p1.length : Int),
        (List.map E74 s2_)[(p1.length : Int).toNat]? = some (E74 x2),
        (!((x1.Id == x2.Id) && ((x1.Amount == x2.Amount) && ((x1.Due == x2.Due) && true)))) = true]) (by kernel_rfl) (show X.ret ≠ X.go from nofun) (cj (rng_lt h2) (cj (by omega) (cj (rng_get _ h2) (cj (by omega) (cj (map_get h4) (cj1 (nt h5))))))))))
def slices_Equal_impl_Hold (s1_ : List Hold) (s2_ : List Hold) : Option (Bool) :=
 if ((s1_.length : Int) != (s2_.length : Int)) = true then
  some false
 else
  if (capOk s1_.length) = true then
   (slices_Equal_impl_Hold_l0 s1_ s2_ s1_ []).bind fun r1 =>
   Lo.elim r1 (fun s1 =>
    some true) (fun s2 =>
    some false)
  else none
theorem slices_Equal_impl_Hold_ok (s1_ : List Hold) (s2_ : List Hold) : Pn (fun y => Fn Tryz.prog 112 [(false, E30 s1_), (false, E30 s2_)] (E4 y) []) (slices_Equal_impl_Hold s1_ s2_) := by
  unfold slices_Equal_impl_Hold
  exact
   Pn.ite (fun h1 =>
    Pn.some (Fn.of [.wait 3, .nm 7 (V.sc (.int .i64 (s1_.length : Int))), .wait 2, .nm 9 (V.sc (.int .i64 (s2_.length : Int))), .bit true] (p := [V.sc (.int .i64 ((List.map E74 s1_).length : Int)) = V.sc (.int .i64 (s1_.length : Int)),
     V.sc (.int .i64 ((List.map E74 s2_).length : Int)) = V.sc (.int .i64 (s2_.length : Int)),
     ((s1_.length : Int) != (s2_.length : Int)) = true]) (by kernel_rfl) (cj (len_nm _ _) (cj (len_nm _ _) (cj1 h1))))) (fun h1 =>
    Pn.ite (fun h6 =>
     Pn.bind (fun r1 h7 =>
      Pn.lo (fun s1 h8 =>
       Pn.some (Fn.of [.wait 3, .nm 7 (V.sc (.int .i64 (s1_.length : Int))), .wait 2, .nm 9 (V.sc (.int .i64 (s2_.length : Int))), .bit false, .wait 1, .nm 12 (V.sc (.int .i64 (s1_.length : Int))), .wait 2, .mask [0, 1, 12, 13], .ren [], .loop (X.out 0) (st 26 [] [] [])] (p := [V.sc (.int .i64 ((List.map E74 s1_).length : Int)) = V.sc (.int .i64 (s1_.length : Int)),
        V.sc (.int .i64 ((List.map E74 s2_).length : Int)) = V.sc (.int .i64 (s2_.length : Int)),
        ((s1_.length : Int) != (s2_.length : Int)) = false,
        V.sc (.int .i64 ((List.map E74 s1_).length : Int)) = V.sc (.int .i64 (s1_.length : Int)),
        Loop Tryz.prog (sub (codeOf Tryz.prog 112) [1, 1, 0, 1, 0, 0]) (st 26 [(0, V.sl false 74 (List.map E74 s1_)), (1, V.sl false 74 (List.map E74 s2_)), (12, V.sc (.int .i64 (s1_.length : Int))), (13, V.sc (.int .i64 0))] [] []) (X.out 0) (st 26 [] [] [])]) (by kernel_rfl) (cj (len_nm _ _) (cj (len_nm _ _) (cj h1 (cj (len_nm _ _) (cj1 ((slices_Equal_impl_Hold_l0_ok s1_ s2_ h6 s1_ [] rfl r1 h7).at h8)))))))) (fun s2 h9 =>
       Pn.some (Fn.of [.wait 3, .nm 7 (V.sc (.int .i64 (s1_.length : Int))), .wait 2, .nm 9 (V.sc (.int .i64 (s2_.length : Int))), .bit false, .wait 1, .nm 12 (V.sc (.int .i64 (s1_.length : Int))), .wait 2, .mask [0, 1, 12, 13], .ren [], .loop (X.ret) (st 26 [(4, V.sc (.bool false))] [] [])] (p := [V.sc (.int .i64 ((List.map E74 s1_).length : Int)) = V.sc (.int .i64 (s1_.length : Int)),
        V.sc (.int .i64 ((List.map E74 s2_).length : Int)) = V.sc (.int .i64 (s2_.length : Int)),
        ((s1_.length : Int) != (s2_.length : Int)) = false,
        V.sc (.int .i64 ((List.map E74 s1_).length : Int)) = V.sc (.int .i64 (s1_.length : Int)),
        Loop Tryz.prog (sub (codeOf Tryz.prog 112) [1, 1, 0, 1, 0, 0]) (st 26 [(0, V.sl false 74 (List.map E74 s1_)), (1, V.sl false 74 (List.map E74 s2_)), (12, V.sc (.int .i64 (s1_.length : Int))), (13, V.sc (.int .i64 0))] [] []) (X.ret) (st 26 [(4, V.sc (.bool false))] [] [])]) (by kernel_rfl) (cj (len_nm _ _) (cj (len_nm _ _) (cj h1 (cj (len_nm _ _) (cj1 ((slices_Equal_impl_Hold_l0_ok s1_ s2_ h6 s1_ [] rfl r1 h7).at h9)))))))))) (fun h6 =>
     Pn.none))
def slices_Equal_int_l0 (s1_ : List Int) (s2_ : List Int) : List Int → List Int → Option (Lo Unit Unit)
  | [], p1 =>
   some (.out ())
  | x1 :: t1, p1 =>
   (s2_[(p1.length : Int).toNat]?).bind fun x2 =>
   if (x1 != x2) = true then
    some (.ret ())
   else
    slices_Equal_int_l0 s1_ s2_ t1 (p1 ++ [x1])
theorem slices_Equal_int_l0_ok (s1_ : List Int) (s2_ : List Int) (h3 : capOk s1_.length = true) : ∀ (t1 p1 : List Int) (_ : s1_ = p1 ++ t1) , Pn (LpO Tryz.prog (sub (codeOf Tryz.prog 128) [1, 1, 0, 1, 0, 0]) (st 26 [(0, V.sl false 3 (List.map E3 s1_)), (1, V.sl false 3 (List.map E3 s2_)), (12, V.sc (.int .i64 (s1_.length : Int))), (13, V.sc (.int .i64 (p1.length : Int)))] [] []) (fun (y : Lo Unit Unit) => Lo.elim y (fun s => (X.out 0, st 26 [] [] [])) (fun s => (X.ret, st 26 [(4, V.sc (.bool false))] [] [])))) (slices_Equal_int_l0 s1_ s2_ t1 p1)
  | [], p1, h2 => by
    unfold slices_Equal_int_l0
    exact
     Pn.some (LpO.out [.bit false, .mask [], .ren []] (p := [(decide ((p1.length : Int) < (s1_.length : Int))) = false]) (by kernel_rfl) (show X.out 0 ≠ X.go from nofun) (cj1 (rng_end h2)))
  | x1 :: t1, p1, h2 => by
    unfold slices_Equal_int_l0
    exact
     Pn.bind (fun x2 h4 =>
      Pn.ite (fun h5 =>
       Pn.some (LpO.out [.bit true, .draw [], .el (E3 x1), .el (E3 x2), .bit true, .wait 1, .mask [4], .ren []] (p := [(decide ((p1.length : Int) < (s1_.length : Int))) = true,
        (0 : Int) ≤ (p1.length : Int),
        (List.map E3 s1_)[(p1.length : Int).toNat]? = some (E3 x1),
        (0 : Int) ≤ (p1.length : Int),
        (List.map E3 s2_)[(p1.length : Int).toNat]? = some (E3 x2),
        (x1 != x2) = true]) (by kernel_rfl) (show X.ret ≠ X.go from nofun) (cj (rng_lt h2) (cj (by omega) (cj (rng_get _ h2) (cj (by omega) (cj (map_get h4) (cj1 h5)))))))) (fun h5 =>
       LpO.go [.bit true, .draw [], .el (E3 x1), .el (E3 x2), .bit false, .wait 2, .mask [0, 1, 12, 13], .ren [], .nm 13 (V.sc (.int .i64 ((p1 ++ [x1]).length : Int)))] (p := [(decide ((p1.length : Int) < (s1_.length : Int))) = true,
        (0 : Int) ≤ (p1.length : Int),
        (List.map E3 s1_)[(p1.length : Int).toNat]? = some (E3 x1),
        (0 : Int) ≤ (p1.length : Int),
        (List.map E3 s2_)[(p1.length : Int).toNat]? = some (E3 x2),
        (x1 != x2) = false,
        V.sc (.int .i64 (i64 ((p1.length : Int) + 1))) = V.sc (.int .i64 ((p1 ++ [x1]).length : Int))]) (by kernel_rfl) (cj (rng_lt h2) (cj (by omega) (cj (rng_get _ h2) (cj (by omega) (cj (map_get h4) (cj h5 (cj1 (rng_next h2 h3)))))))) (slices_Equal_int_l0_ok s1_ s2_ h3 t1 (p1 ++ [x1]) (rng_step h2))))
def slices_Equal_int (s1_ : List Int) (s2_ : List Int) : Option (Bool) :=
 if ((s1_.length : Int) != (s2_.length : Int)) = true then
  some false
 else
  if (capOk s1_.length) = true then
   (slices_Equal_int_l0 s1_ s2_ s1_ []).bind fun r1 =>
   Lo.elim r1 (fun s1 =>
    some true) (fun s2 =>
    some false)
  else none
theorem slices_Equal_int_ok (s1_ : List Int) (s2_ : List Int) : Pn (fun y => Fn Tryz.prog 128 [(false, E23 s1_), (false, E23 s2_)] (E4 y) []) (slices_Equal_int s1_ s2_) := by
  unfold slices_Equal_int
  exact
   Pn.ite (fun h1 =>
    Pn.some (Fn.of [.wait 3, .nm 7 (V.sc (.int .i64 (s1_.length : Int))), .wait 2, .nm 9 (V.sc (.int .i64 (s2_.length : Int))), .bit true] (p := [V.sc (.int .i64 ((List.map E3 s1_).length : Int)) = V.sc (.int .i64 (s1_.length : Int)),
     V.sc (.int .i64 ((List.map E3 s2_).length : Int)) = V.sc (.int .i64 (s2_.length : Int)),
     ((s1_.length : Int) != (s2_.length : Int)) = true]) (by kernel_rfl) (cj (len_nm _ _) (cj (len_nm _ _) (cj1 h1))))) (fun h1 =>
    Pn.ite (fun h6 =>
     Pn.bind (fun r1 h7 =>
      Pn.lo (fun s1 h8 =>
       Pn.some (Fn.of [.wait 3, .nm 7 (V.sc (.int .i64 (s1_.length : Int))), .wait 2, .nm 9 (V.sc (.int .i64 (s2_.length : Int))), .bit false, .wait 1, .nm 12 (V.sc (.int .i64 (s1_.length : Int))), .wait 2, .mask [0, 1, 12, 13], .ren [], .loop (X.out 0) (st 26 [] [] [])] (p := [V.sc (.int .i64 ((List.map E3 s1_).length : Int)) = V.sc (.int .i64 (s1_.length : Int)),
        V.sc (.int .i64 ((List.map E3 s2_).length : Int)) = V.sc (.int .i64 (s2_.length : Int)),
        ((s1_.length : Int) != (s2_.length : Int)) = false,
        V.sc (.int .i64 ((List.map E3 s1_).length : Int)) = V.sc (.int .i64 (s1_.length : Int)),
        Loop Tryz.prog (sub (codeOf Tryz.prog 128) [1, 1, 0, 1, 0, 0]) (st 26 [(0, V.sl false 3 (List.map E3 s1_)), (1, V.sl false 3 (List.map E3 s2_)), (12, V.sc (.int .i64 (s1_.length : Int))), (13, V.sc (.int .i64 0))] [] []) (X.out 0) (st 26 [] [] [])]) (by kernel_rfl) (cj (len_nm _ _) (cj (len_nm _ _) (cj h1 (cj (len_nm _ _) (cj1 ((slices_Equal_int_l0_ok s1_ s2_ h6 s1_ [] rfl r1 h7).at h8)))))))) (fun s2 h9 =>
       Pn.some (Fn.of [.wait 3, .nm 7 (V.sc (.int .i64 (s1_.length : Int))), .wait 2, .nm 9 (V.sc (.int .i64 (s2_.length : Int))), .bit false, .wait 1, .nm 12 (V.sc (.int .i64 (s1_.length : Int))), .wait 2, .mask [0, 1, 12, 13], .ren [], .loop (X.ret) (st 26 [(4, V.sc (.bool false))] [] [])] (p := [V.sc (.int .i64 ((List.map E3 s1_).length : Int)) = V.sc (.int .i64 (s1_.length : Int)),
        V.sc (.int .i64 ((List.map E3 s2_).length : Int)) = V.sc (.int .i64 (s2_.length : Int)),
        ((s1_.length : Int) != (s2_.length : Int)) = false,
        V.sc (.int .i64 ((List.map E3 s1_).length : Int)) = V.sc (.int .i64 (s1_.length : Int)),
        Loop Tryz.prog (sub (codeOf Tryz.prog 128) [1, 1, 0, 1, 0, 0]) (st 26 [(0, V.sl false 3 (List.map E3 s1_)), (1, V.sl false 3 (List.map E3 s2_)), (12, V.sc (.int .i64 (s1_.length : Int))), (13, V.sc (.int .i64 0))] [] []) (X.ret) (st 26 [(4, V.sc (.bool false))] [] [])]) (by kernel_rfl) (cj (len_nm _ _) (cj (len_nm _ _) (cj h1 (cj (len_nm _ _) (cj1 ((slices_Equal_int_l0_ok s1_ s2_ h6 s1_ [] rfl r1 h7).at h9)))))))))) (fun h6 =>
     Pn.none))
def impl_ringSame (a : Ring) (b : Ring) : Option (Bool) :=
 if (a.Span == b.Span) = true then
  if (a.Head == b.Head) = true then
   (slices_Equal_int a.Counts b.Counts).bind fun r1 =>
   if r1 = true then
    (slices_Equal_int a.Sums b.Sums).bind fun r2 =>
    some r2
   else
    some false
  else
   some false
 else
  some false
theorem impl_ringSame_ok (a : Ring) (b : Ring) : Pn (fun y => Fn Tryz.prog 113 [(false, E31 a), (false, E31 b)] (E4 y) []) (impl_ringSame a b) := by
  unfold impl_ringSame
  exact
   Pn.ite (fun h1 =>
    Pn.ite (fun h2 =>
     Pn.bind (fun r1 h3 =>
      Pn.ite (fun h4 =>
       Pn.bind (fun r2 h5 =>
        Pn.some (Fn.of [.bit true, .bit true, .bit true, .bit true, .bit true, .bit true, .bit true, .bit true, .bit true, .bit true, .bit true, .call [] (E4 r1) [], .bit true, .bit true, .bit true, .bit true, .bit true, .bit true, .call [] (E4 r2) [], .bit true] (p := [(a.Span == b.Span) = true,
         (a.Span == b.Span) = true,
         (a.Span == b.Span) = true,
         (a.Span == b.Span) = true,
         (a.Span == b.Span) = true,
         (a.Span == b.Span) = true,
         (a.Head == b.Head) = true,
         (a.Head == b.Head) = true,
         (a.Head == b.Head) = true,
         (a.Head == b.Head) = true,
         (a.Head == b.Head) = true,
         Fn Tryz.prog 128 [(false, E23 a.Counts), (false, E23 b.Counts)] (E4 r1) [],
         (true || ((E4 r1).nv && nvL [])) = true,
         (a.Head == b.Head) = true,
         r1 = true,
         r1 = true,
         r1 = true,
         r1 = true,
         r1 = true,
         Fn Tryz.prog 128 [(false, E23 a.Sums), (false, E23 b.Sums)] (E4 r2) [],
         (true || ((E4 r2).nv && nvL [])) = true,
         r1 = true]) (by kernel_rfl) (cj h1 (cj h1 (cj h1 (cj h1 (cj h1 (cj h1 (cj h2 (cj h2 (cj h2 (cj h2 (cj h2 (cj (slices_Equal_int_ok a.Counts b.Counts r1 h3) (cj rfl (cj h2 (cj h4 (cj h4 (cj h4 (cj h4 (cj h4 (cj (slices_Equal_int_ok a.Sums b.Sums r2 h5) (cj rfl (cj1 h4))))))))))))))))))))))))) (fun h4 =>
       Pn.some (Fn.of [.bit true, .bit true, .bit true, .bit true, .bit true, .bit true, .bit true, .bit true, .bit true, .bit true, .bit true, .call [] (E4 r1) [], .bit true, .bit false, .bit false, .bit false, .bit false, .bit false, .bit false] (p := [(a.Span == b.Span) = true,
        (a.Span == b.Span) = true,
        (a.Span == b.Span) = true,
        (a.Span == b.Span) = true,
        (a.Span == b.Span) = true,
        (a.Span == b.Span) = true,
        (a.Head == b.Head) = true,
        (a.Head == b.Head) = true,
        (a.Head == b.Head) = true,
        (a.Head == b.Head) = true,
        (a.Head == b.Head) = true,
        Fn Tryz.prog 128 [(false, E23 a.Counts), (false, E23 b.Counts)] (E4 r1) [],
        (true || ((E4 r1).nv && nvL [])) = true,
        (a.Head == b.Head) = true,
        r1 = false,
        r1 = false,
        r1 = false,
        r1 = false,
        r1 = false,
        r1 = false]) (by kernel_rfl) (cj h1 (cj h1 (cj h1 (cj h1 (cj h1 (cj h1 (cj h2 (cj h2 (cj h2 (cj h2 (cj h2 (cj (slices_Equal_int_ok a.Counts b.Counts r1 h3) (cj rfl (cj h2 (cj h4 (cj h4 (cj h4 (cj h4 (cj h4 (cj1 h4)))))))))))))))))))))))) (fun h2 =>
     Pn.some (Fn.of [.bit true, .bit true, .bit true, .bit true, .bit true, .bit true, .bit false, .bit false, .bit false, .bit false, .bit false, .bit false, .bit false, .bit false, .bit false, .bit false, .bit false, .bit false] (p := [(a.Span == b.Span) = true,
      (a.Span == b.Span) = true,
      (a.Span == b.Span) = true,
      (a.Span == b.Span) = true,
      (a.Span == b.Span) = true,
      (a.Span == b.Span) = true,
      (a.Head == b.Head) = false,
      (a.Head == b.Head) = false,
      (a.Head == b.Head) = false,
      (a.Head == b.Head) = false,
      (a.Head == b.Head) = false,
      (a.Head == b.Head) = false,
      false = false,
      false = false,
      false = false,
      false = false,
      false = false,
      false = false]) (by kernel_rfl) (cj h1 (cj h1 (cj h1 (cj h1 (cj h1 (cj h1 (cj h2 (cj h2 (cj h2 (cj h2 (cj h2 (cj h2 (cj rfl (cj rfl (cj rfl (cj rfl (cj rfl (cj1 rfl))))))))))))))))))))) (fun h1 =>
    Pn.some (Fn.of [.bit false, .bit false, .bit false, .bit false, .bit false, .bit false, .bit false, .bit false, .bit false, .bit false, .bit false, .bit false, .bit false, .bit false, .bit false, .bit false, .bit false, .bit false] (p := [(a.Span == b.Span) = false,
     (a.Span == b.Span) = false,
     (a.Span == b.Span) = false,
     (a.Span == b.Span) = false,
     (a.Span == b.Span) = false,
     (a.Span == b.Span) = false,
     false = false,
     false = false,
     false = false,
     false = false,
     false = false,
     false = false,
     false = false,
     false = false,
     false = false,
     false = false,
     false = false,
     false = false]) (by kernel_rfl) (cj h1 (cj h1 (cj h1 (cj h1 (cj h1 (cj h1 (cj rfl (cj rfl (cj rfl (cj rfl (cj rfl (cj rfl (cj rfl (cj rfl (cj rfl (cj rfl (cj rfl (cj1 rfl))))))))))))))))))))
def slices_Equal_byte_l0 (s1_ : List Int) (s2_ : List Int) : List Int → List Int → Option (Lo Unit Unit)
  | [], p1 =>
   some (.out ())
  | x1 :: t1, p1 =>
   (s2_[(p1.length : Int).toNat]?).bind fun x2 =>
   if (x1 != x2) = true then
    some (.ret ())
   else
    slices_Equal_byte_l0 s1_ s2_ t1 (p1 ++ [x1])
theorem slices_Equal_byte_l0_ok (s1_ : List Int) (s2_ : List Int) (h3 : capOk s1_.length = true) : ∀ (t1 p1 : List Int) (_ : s1_ = p1 ++ t1) , Pn (LpO Tryz.prog (sub (codeOf Tryz.prog 131) [1, 1, 0, 1, 0, 0]) (st 26 [(0, V.sl false 5 (List.map E5 s1_)), (1, V.sl false 5 (List.map E5 s2_)), (12, V.sc (.int .i64 (s1_.length : Int))), (13, V.sc (.int .i64 (p1.length : Int)))] [] []) (fun (y : Lo Unit Unit) => Lo.elim y (fun s => (X.out 0, st 26 [] [] [])) (fun s => (X.ret, st 26 [(4, V.sc (.bool false))] [] [])))) (slices_Equal_byte_l0 s1_ s2_ t1 p1)
  | [], p1, h2 => by
    unfold slices_Equal_byte_l0
    exact
     Pn.some (LpO.out [.bit false, .mask [], .ren []] (p := [(decide ((p1.length : Int) < (s1_.length : Int))) = false]) (by kernel_rfl) (show X.out 0 ≠ X.go from nofun) (cj1 (rng_end h2)))
  | x1 :: t1, p1, h2 => by
    unfold slices_Equal_byte_l0
    exact
     Pn.bind (fun x2 h4 =>
      Pn.ite (fun h5 =>
       Pn.some (LpO.out [.bit true, .draw [], .el (E5 x1), .el (E5 x2), .bit true, .wait 1, .mask [4], .ren []] (p := [(decide ((p1.length : Int) < (s1_.length : Int))) = true,
        (0 : Int) ≤ (p1.length : Int),
        (List.map E5 s1_)[(p1.length : Int).toNat]? = some (E5 x1),
        (0 : Int) ≤ (p1.length : Int),
        (List.map E5 s2_)[(p1.length : Int).toNat]? = some (E5 x2),
        (x1 != x2) = true]) (by kernel_rfl) (show X.ret ≠ X.go from nofun) (cj (rng_lt h2) (cj (by omega) (cj (rng_get _ h2) (cj (by omega) (cj (map_get h4) (cj1 h5)))))))) (fun h5 =>
       LpO.go [.bit true, .draw [], .el (E5 x1), .el (E5 x2), .bit false, .wait 2, .mask [0, 1, 12, 13], .ren [], .nm 13 (V.sc (.int .i64 ((p1 ++ [x1]).length : Int)))] (p := [(decide ((p1.length : Int) < (s1_.length : Int))) = true,
        (0 : Int) ≤ (p1.length : Int),
        (List.map E5 s1_)[(p1.length : Int).toNat]? = some (E5 x1),
        (0 : Int) ≤ (p1.length : Int),
        (List.map E5 s2_)[(p1.length : Int).toNat]? = some (E5 x2),
        (x1 != x2) = false,
        V.sc (.int .i64 (i64 ((p1.length : Int) + 1))) = V.sc (.int .i64 ((p1 ++ [x1]).length : Int))]) (by kernel_rfl) (cj (rng_lt h2) (cj (by omega) (cj (rng_get _ h2) (cj (by omega) (cj (map_get h4) (cj h5 (cj1 (rng_next h2 h3)))))))) (slices_Equal_byte_l0_ok s1_ s2_ h3 t1 (p1 ++ [x1]) (rng_step h2))))
def slices_Equal_byte (s1_ : List Int) (s2_ : List Int) : Option (Bool) :=
 if ((s1_.length : Int) != (s2_.length : Int)) = true then
  some false
 else
  if (capOk s1_.length) = true then
   (slices_Equal_byte_l0 s1_ s2_ s1_ []).bind fun r1 =>
   Lo.elim r1 (fun s1 =>
    some true) (fun s2 =>
    some false)
  else none
theorem slices_Equal_byte_ok (s1_ : List Int) (s2_ : List Int) : Pn (fun y => Fn Tryz.prog 131 [(false, E85 s1_), (false, E85 s2_)] (E4 y) []) (slices_Equal_byte s1_ s2_) := by
  unfold slices_Equal_byte
  exact
   Pn.ite (fun h1 =>
    Pn.some (Fn.of [.wait 3, .nm 7 (V.sc (.int .i64 (s1_.length : Int))), .wait 2, .nm 9 (V.sc (.int .i64 (s2_.length : Int))), .bit true] (p := [V.sc (.int .i64 ((List.map E5 s1_).length : Int)) = V.sc (.int .i64 (s1_.length : Int)),
     V.sc (.int .i64 ((List.map E5 s2_).length : Int)) = V.sc (.int .i64 (s2_.length : Int)),
     ((s1_.length : Int) != (s2_.length : Int)) = true]) (by kernel_rfl) (cj (len_nm _ _) (cj (len_nm _ _) (cj1 h1))))) (fun h1 =>
    Pn.ite (fun h6 =>
     Pn.bind (fun r1 h7 =>
      Pn.lo (fun s1 h8 =>
       Pn.some (Fn.of [.wait 3, .nm 7 (V.sc (.int .i64 (s1_.length : Int))), .wait 2, .nm 9 (V.sc (.int .i64 (s2_.length : Int))), .bit false, .wait 1, .nm 12 (V.sc (.int .i64 (s1_.length : Int))), .wait 2, .mask [0, 1, 12, 13], .ren [], .loop (X.out 0) (st 26 [] [] [])] (p := [V.sc (.int .i64 ((List.map E5 s1_).length : Int)) = V.sc (.int .i64 (s1_.length : Int)),
        V.sc (.int .i64 ((List.map E5 s2_).length : Int)) = V.sc (.int .i64 (s2_.length : Int)),
        ((s1_.length : Int) != (s2_.length : Int)) = false,
        V.sc (.int .i64 ((List.map E5 s1_).length : Int)) = V.sc (.int .i64 (s1_.length : Int)),
        Loop Tryz.prog (sub (codeOf Tryz.prog 131) [1, 1, 0, 1, 0, 0]) (st 26 [(0, V.sl false 5 (List.map E5 s1_)), (1, V.sl false 5 (List.map E5 s2_)), (12, V.sc (.int .i64 (s1_.length : Int))), (13, V.sc (.int .i64 0))] [] []) (X.out 0) (st 26 [] [] [])]) (by kernel_rfl) (cj (len_nm _ _) (cj (len_nm _ _) (cj h1 (cj (len_nm _ _) (cj1 ((slices_Equal_byte_l0_ok s1_ s2_ h6 s1_ [] rfl r1 h7).at h8)))))))) (fun s2 h9 =>
       Pn.some (Fn.of [.wait 3, .nm 7 (V.sc (.int .i64 (s1_.length : Int))), .wait 2, .nm 9 (V.sc (.int .i64 (s2_.length : Int))), .bit false, .wait 1, .nm 12 (V.sc (.int .i64 (s1_.length : Int))), .wait 2, .mask [0, 1, 12, 13], .ren [], .loop (X.ret) (st 26 [(4, V.sc (.bool false))] [] [])] (p := [V.sc (.int .i64 ((List.map E5 s1_).length : Int)) = V.sc (.int .i64 (s1_.length : Int)),
        V.sc (.int .i64 ((List.map E5 s2_).length : Int)) = V.sc (.int .i64 (s2_.length : Int)),
        ((s1_.length : Int) != (s2_.length : Int)) = false,
        V.sc (.int .i64 ((List.map E5 s1_).length : Int)) = V.sc (.int .i64 (s1_.length : Int)),
        Loop Tryz.prog (sub (codeOf Tryz.prog 131) [1, 1, 0, 1, 0, 0]) (st 26 [(0, V.sl false 5 (List.map E5 s1_)), (1, V.sl false 5 (List.map E5 s2_)), (12, V.sc (.int .i64 (s1_.length : Int))), (13, V.sc (.int .i64 0))] [] []) (X.ret) (st 26 [(4, V.sc (.bool false))] [] [])]) (by kernel_rfl) (cj (len_nm _ _) (cj (len_nm _ _) (cj h1 (cj (len_nm _ _) (cj1 ((slices_Equal_byte_l0_ok s1_ s2_ h6 s1_ [] rfl r1 h7).at h9)))))))))) (fun h6 =>
     Pn.none))
def impl_SlotsSame_1 (x_ : Slot) (y_ : Slot) : Option (Bool) :=
 if (x_.Trace == y_.Trace) = true then
  if (x_.Mti == y_.Mti) = true then
   (slices_Equal_byte x_.Reply y_.Reply).bind fun r1 =>
   some r1
  else
   some false
 else
  some false
theorem impl_SlotsSame_1_ok (x_ : Slot) (y_ : Slot) : Pn (fun y => Fn Tryz.prog 130 [(false, E94 x_), (false, E94 y_)] (E4 y) []) (impl_SlotsSame_1 x_ y_) := by
  unfold impl_SlotsSame_1
  exact
   Pn.ite (fun h1 =>
    Pn.ite (fun h2 =>
     Pn.bind (fun r1 h3 =>
      Pn.some (Fn.of [.bit true, .bit true, .bit true, .bit true, .bit true, .bit true, .bit true, .bit true, .bit true, .bit true, .bit true, .call [] (E4 r1) [], .bit true] (p := [(x_.Trace == y_.Trace) = true,
       (x_.Trace == y_.Trace) = true,
       (x_.Trace == y_.Trace) = true,
       (x_.Trace == y_.Trace) = true,
       (x_.Trace == y_.Trace) = true,
       (x_.Trace == y_.Trace) = true,
       (x_.Mti == y_.Mti) = true,
       (x_.Mti == y_.Mti) = true,
       (x_.Mti == y_.Mti) = true,
       (x_.Mti == y_.Mti) = true,
       (x_.Mti == y_.Mti) = true,
       Fn Tryz.prog 131 [(false, E85 x_.Reply), (false, E85 y_.Reply)] (E4 r1) [],
       (true || ((E4 r1).nv && nvL [])) = true,
       (x_.Mti == y_.Mti) = true]) (by kernel_rfl) (cj h1 (cj h1 (cj h1 (cj h1 (cj h1 (cj h1 (cj h2 (cj h2 (cj h2 (cj h2 (cj h2 (cj (slices_Equal_byte_ok x_.Reply y_.Reply r1 h3) (cj rfl (cj1 h2))))))))))))))))) (fun h2 =>
     Pn.some (Fn.of [.bit true, .bit true, .bit true, .bit true, .bit true, .bit true, .bit false, .bit false, .bit false, .bit false, .bit false, .bit false] (p := [(x_.Trace == y_.Trace) = true,
      (x_.Trace == y_.Trace) = true,
      (x_.Trace == y_.Trace) = true,
      (x_.Trace == y_.Trace) = true,
      (x_.Trace == y_.Trace) = true,
      (x_.Trace == y_.Trace) = true,
      (x_.Mti == y_.Mti) = false,
      (x_.Mti == y_.Mti) = false,
      (x_.Mti == y_.Mti) = false,
      (x_.Mti == y_.Mti) = false,
      (x_.Mti == y_.Mti) = false,
      (x_.Mti == y_.Mti) = false]) (by kernel_rfl) (cj h1 (cj h1 (cj h1 (cj h1 (cj h1 (cj h1 (cj h2 (cj h2 (cj h2 (cj h2 (cj h2 (cj1 h2))))))))))))))) (fun h1 =>
    Pn.some (Fn.of [.bit false, .bit false, .bit false, .bit false, .bit false, .bit false, .bit false, .bit false, .bit false, .bit false, .bit false, .bit false] (p := [(x_.Trace == y_.Trace) = false,
     (x_.Trace == y_.Trace) = false,
     (x_.Trace == y_.Trace) = false,
     (x_.Trace == y_.Trace) = false,
     (x_.Trace == y_.Trace) = false,
     (x_.Trace == y_.Trace) = false,
     false = false,
     false = false,
     false = false,
     false = false,
     false = false,
     false = false]) (by kernel_rfl) (cj h1 (cj h1 (cj h1 (cj h1 (cj h1 (cj h1 (cj rfl (cj rfl (cj rfl (cj rfl (cj rfl (cj1 rfl))))))))))))))
def slices_EqualFunc_impl_Slot_impl_SlotsSame_1_l0 (s1_ : List Slot) (s2_ : List Slot) : List Slot → List Slot → Option (Lo Unit Unit)
  | [], p1 =>
   some (.out ())
  | x1 :: t1, p1 =>
   (s2_[(p1.length : Int).toNat]?).bind fun x2 =>
   (impl_SlotsSame_1 x1 x2).bind fun r1 =>
   if r1 = true then
    slices_EqualFunc_impl_Slot_impl_SlotsSame_1_l0 s1_ s2_ t1 (p1 ++ [x1])
   else
    some (.ret ())
theorem slices_EqualFunc_impl_Slot_impl_SlotsSame_1_l0_ok (s1_ : List Slot) (s2_ : List Slot) (h3 : capOk s1_.length = true) : ∀ (t1 p1 : List Slot) (_ : s1_ = p1 ++ t1) , Pn (LpO Tryz.prog (sub (codeOf Tryz.prog 129) [1, 1, 0, 1, 0, 0]) (st 32 [(1, V.sl false 94 (List.map E94 s2_)), (2, V.fn 130 []), (15, V.sl false 94 (List.map E94 s1_)), (16, V.sc (.int .i64 (s1_.length : Int))), (17, V.sc (.int .i64 (p1.length : Int)))] [] []) (fun (y : Lo Unit Unit) => Lo.elim y (fun s => (X.out 0, st 32 [] [] [])) (fun s => (X.ret, st 32 [(6, V.sc (.bool false))] [] [])))) (slices_EqualFunc_impl_Slot_impl_SlotsSame_1_l0 s1_ s2_ t1 p1)
  | [], p1, h2 => by
    unfold slices_EqualFunc_impl_Slot_impl_SlotsSame_1_l0
    exact
     Pn.some (LpO.out [.bit false, .mask [], .ren []] (p := [(decide ((p1.length : Int) < (s1_.length : Int))) = false]) (by kernel_rfl) (show X.out 0 ≠ X.go from nofun) (cj1 (rng_end h2)))
  | x1 :: t1, p1, h2 => by
    unfold slices_EqualFunc_impl_Slot_impl_SlotsSame_1_l0
    exact
     Pn.bind (fun x2 h4 =>
      Pn.bind (fun r1 h5 =>
       Pn.ite (fun h6 =>
        LpO.go [.bit true, .el (E94 x1), .el (E94 x2), .call [] (E4 r1) [], .bit false, .wait 2, .mask [1, 2, 15, 16, 17], .ren [], .nm 17 (V.sc (.int .i64 ((p1 ++ [x1]).length : Int)))] (p := [(decide ((p1.length : Int) < (s1_.length : Int))) = true,
         (0 : Int) ≤ (p1.length : Int),
         (List.map E94 s1_)[(p1.length : Int).toNat]? = some (E94 x1),
         (0 : Int) ≤ (p1.length : Int),
         (List.map E94 s2_)[(p1.length : Int).toNat]? = some (E94 x2),
         Fn Tryz.prog 130 [(false, E94 x1), (false, E94 x2)] (E4 r1) [],
         (true || ((E4 r1).nv && nvL [])) = true,
         (!r1) = false,
         V.sc (.int .i64 (i64 ((p1.length : Int) + 1))) = V.sc (.int .i64 ((p1 ++ [x1]).length : Int))]) (by kernel_rfl) (cj (rng_lt h2) (cj (by omega) (cj (rng_get _ h2) (cj (by omega) (cj (map_get h4) (cj (impl_SlotsSame_1_ok x1 x2 r1 h5) (cj rfl (cj (nf h6) (cj1 (rng_next h2 h3)))))))))) (slices_EqualFunc_impl_Slot_impl_SlotsSame_1_l0_ok s1_ s2_ h3 t1 (p1 ++ [x1]) (rng_step h2))) (fun h6 =>
        Pn.some (LpO.out [.bit true, .el (E94 x1), .el (E94 x2), .call [] (E4 r1) [], .bit true, .wait 1, .mask [6], .ren []] (p := [(decide ((p1.length : Int) < (s1_.length : Int))) = true,
         (0 : Int) ≤ (p1.length : Int),
         (List.map E94 s1_)[(p1.length : Int).toNat]? = some (E94 x1),
         (0 : Int) ≤ (p1.length : Int),
         (List.map E94 s2_)[(p1.length : Int).toNat]? = some (E94 x2),
         Fn Tryz.prog 130 [(false, E94 x1), (false, E94 x2)] (E4 r1) [],
         (true || ((E4 r1).nv && nvL [])) = true,
         (!r1) = true]) (by kernel_rfl) (show X.ret ≠ X.go from nofun) (cj (rng_lt h2) (cj (by omega) (cj (rng_get _ h2) (cj (by omega) (cj (map_get h4) (cj (impl_SlotsSame_1_ok x1 x2 r1 h5) (cj rfl (cj1 (nt h6)))))))))))))
def slices_EqualFunc_impl_Slot_impl_SlotsSame_1 (s1_ : List Slot) (s2_ : List Slot) : Option (Bool) :=
 if ((s1_.length : Int) != (s2_.length : Int)) = true then
  some false
 else
  if (capOk s1_.length) = true then
   (slices_EqualFunc_impl_Slot_impl_SlotsSame_1_l0 s1_ s2_ s1_ []).bind fun r2 =>
   Lo.elim r2 (fun s1 =>
    some true) (fun s2 =>
    some false)
  else none
theorem slices_EqualFunc_impl_Slot_impl_SlotsSame_1_ok (s1_ : List Slot) (s2_ : List Slot) : Pn (fun y => Fn Tryz.prog 129 [(false, E32 s1_), (false, E32 s2_), (false, V.fn 130 [])] (E4 y) []) (slices_EqualFunc_impl_Slot_impl_SlotsSame_1 s1_ s2_) := by
  unfold slices_EqualFunc_impl_Slot_impl_SlotsSame_1
  exact
   Pn.ite (fun h1 =>
    Pn.some (Fn.of [.wait 3, .nm 11 (V.sc (.int .i64 (s1_.length : Int))), .wait 2, .nm 13 (V.sc (.int .i64 (s2_.length : Int))), .bit true] (p := [V.sc (.int .i64 ((List.map E94 s1_).length : Int)) = V.sc (.int .i64 (s1_.length : Int)),
     V.sc (.int .i64 ((List.map E94 s2_).length : Int)) = V.sc (.int .i64 (s2_.length : Int)),
     ((s1_.length : Int) != (s2_.length : Int)) = true]) (by kernel_rfl) (cj (len_nm _ _) (cj (len_nm _ _) (cj1 h1))))) (fun h1 =>
    Pn.ite (fun h7 =>
     Pn.bind (fun r2 h8 =>
      Pn.lo (fun s1 h9 =>
       Pn.some (Fn.of [.wait 3, .nm 11 (V.sc (.int .i64 (s1_.length : Int))), .wait 2, .nm 13 (V.sc (.int .i64 (s2_.length : Int))), .bit false, .wait 1, .nm 16 (V.sc (.int .i64 (s1_.length : Int))), .wait 2, .mask [1, 2, 15, 16, 17], .ren [], .loop (X.out 0) (st 32 [] [] [])] (p := [V.sc (.int .i64 ((List.map E94 s1_).length : Int)) = V.sc (.int .i64 (s1_.length : Int)),
        V.sc (.int .i64 ((List.map E94 s2_).length : Int)) = V.sc (.int .i64 (s2_.length : Int)),
        ((s1_.length : Int) != (s2_.length : Int)) = false,
        V.sc (.int .i64 ((List.map E94 s1_).length : Int)) = V.sc (.int .i64 (s1_.length : Int)),
        Loop Tryz.prog (sub (codeOf Tryz.prog 129) [1, 1, 0, 1, 0, 0]) (st 32 [(1, V.sl false 94 (List.map E94 s2_)), (2, V.fn 130 []), (15, V.sl false 94 (List.map E94 s1_)), (16, V.sc (.int .i64 (s1_.length : Int))), (17, V.sc (.int .i64 0))] [] []) (X.out 0) (st 32 [] [] [])]) (by kernel_rfl) (cj (len_nm _ _) (cj (len_nm _ _) (cj h1 (cj (len_nm _ _) (cj1 ((slices_EqualFunc_impl_Slot_impl_SlotsSame_1_l0_ok s1_ s2_ h7 s1_ [] rfl r2 h8).at h9)))))))) (fun s2 h10 =>
       Pn.some (Fn.of [.wait 3, .nm 11 (V.sc (.int .i64 (s1_.length : Int))), .wait 2, .nm 13 (V.sc (.int .i64 (s2_.length : Int))), .bit false, .wait 1, .nm 16 (V.sc (.int .i64 (s1_.length : Int))), .wait 2, .mask [1, 2, 15, 16, 17], .ren [], .loop (X.ret) (st 32 [(6, V.sc (.bool false))] [] [])] (p := [V.sc (.int .i64 ((List.map E94 s1_).length : Int)) = V.sc (.int .i64 (s1_.length : Int)),
        V.sc (.int .i64 ((List.map E94 s2_).length : Int)) = V.sc (.int .i64 (s2_.length : Int)),
        ((s1_.length : Int) != (s2_.length : Int)) = false,
        V.sc (.int .i64 ((List.map E94 s1_).length : Int)) = V.sc (.int .i64 (s1_.length : Int)),
        Loop Tryz.prog (sub (codeOf Tryz.prog 129) [1, 1, 0, 1, 0, 0]) (st 32 [(1, V.sl false 94 (List.map E94 s2_)), (2, V.fn 130 []), (15, V.sl false 94 (List.map E94 s1_)), (16, V.sc (.int .i64 (s1_.length : Int))), (17, V.sc (.int .i64 0))] [] []) (X.ret) (st 32 [(6, V.sc (.bool false))] [] [])]) (by kernel_rfl) (cj (len_nm _ _) (cj (len_nm _ _) (cj h1 (cj (len_nm _ _) (cj1 ((slices_EqualFunc_impl_Slot_impl_SlotsSame_1_l0_ok s1_ s2_ h7 s1_ [] rfl r2 h8).at h10)))))))))) (fun h7 =>
     Pn.none))
def impl_SlotsSame (a : List Slot) (b : List Slot) : Option (Bool) :=
 (slices_EqualFunc_impl_Slot_impl_SlotsSame_1 a b).bind fun r1 =>
 some r1
theorem impl_SlotsSame_ok (a : List Slot) (b : List Slot) : Pn (fun y => Fn Tryz.prog 114 [(false, E32 a), (false, E32 b)] (E4 y) []) (impl_SlotsSame a b) := by
  unfold impl_SlotsSame
  exact
   Pn.bind (fun r1 h1 =>
    Pn.some (Fn.of [.call [] (E4 r1) []] (p := [Fn Tryz.prog 129 [(false, E32 a), (false, E32 b), (false, V.fn 130 [])] (E4 r1) [],
     (true || ((E4 r1).nv && nvL [])) = true]) (by kernel_rfl) (cj (slices_EqualFunc_impl_Slot_impl_SlotsSame_1_ok a b r1 h1) (cj1 rfl))))
end Go.Proofs.YtaaiikopnadkeaaGreatM
