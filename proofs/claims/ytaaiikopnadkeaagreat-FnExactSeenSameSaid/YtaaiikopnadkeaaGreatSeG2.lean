/- Printed by gen.py: functions on plain data, and that the program computes them. No condition. -/
import Derived.Test.YtaaiikopnadkeaaGreatSeG1
namespace Go.Proofs.YtaaiikopnadkeaaGreatM
set_option linter.unusedVariables false
set_option linter.unusedSimpArgs false
open Go.RowKit
set_option maxRecDepth 100000

def impl_AcctSame (a : Acct) (b : Acct) : Option (Bool) :=
 if (a.Id == b.Id) = true then
  if (a.Limit == b.Limit) = true then
   if (a.Posted == b.Posted) = true then
    if (a.Most == b.Most) = true then
     if (a.MostSum == b.MostSum) = true then
      (slices_Equal_impl_Hold a.Holds b.Holds).bind fun r1 =>
      if r1 = true then
       (impl_ringSame a.Ring b.Ring).bind fun r2 =>
       if r2 = true then
        (impl_SlotsSame a.Slots b.Slots).bind fun r3 =>
        some r3
       else
        some false
      else
       some false
     else
      some false
    else
     some false
   else
    some false
  else
   some false
 else
  some false
theorem impl_AcctSame_ok (a : Acct) (b : Acct) : Pn (fun y => Fn Tryz.prog 82 [(false, E34 a), (false, E34 b)] (E4 y) []) (impl_AcctSame a b) := by
  unfold impl_AcctSame
  exact
   Pn.ite (fun h1 =>
    Pn.ite (fun h2 =>
     Pn.ite (fun h3 =>
      Pn.ite (fun h4 =>
       Pn.ite (fun h5 =>
        Pn.bind (fun r1 h6 =>
         Pn.ite (fun h7 =>
          Pn.bind (fun r2 h8 =>
           Pn.ite (fun h9 =>
            Pn.bind (fun r3 h10 =>
             Pn.some (Fn.of [.bit true, .bit true, .bit true, .bit true, .bit true, .bit true, .bit true, .bit true, .bit true, .bit true, .bit true, .bit true, .bit true, .bit true, .bit true, .bit true, .bit true, .bit true, .bit true, .bit true, .bit true, .bit true, .bit true, .bit true, .bit true, .bit true, .bit true, .bit true, .bit true, .call [] (E4 r1) [], .bit true, .bit true, .bit true, .bit true, .bit true, .bit true, .call [] (E4 r2) [], .bit true, .bit true, .bit true, .bit true, .bit true, .bit true, .call [] (E4 r3) [], .bit true] (p := [(a.Id == b.Id) = true,
              (a.Id == b.Id) = true,
              (a.Id == b.Id) = true,
              (a.Id == b.Id) = true,
              (a.Id == b.Id) = true,
              (a.Id == b.Id) = true,
              (a.Limit == b.Limit) = true,
              (a.Limit == b.Limit) = true,
              (a.Limit == b.Limit) = true,
              (a.Limit == b.Limit) = true,
              (a.Limit == b.Limit) = true,
              (a.Limit == b.Limit) = true,
              (a.Posted == b.Posted) = true,
              (a.Posted == b.Posted) = true,
              (a.Posted == b.Posted) = true,
              (a.Posted == b.Posted) = true,
              (a.Posted == b.Posted) = true,
              (a.Posted == b.Posted) = true,
              (a.Most == b.Most) = true,
              (a.Most == b.Most) = true,
              (a.Most == b.Most) = true,
              (a.Most == b.Most) = true,
              (a.Most == b.Most) = true,
              (a.Most == b.Most) = true,
              (a.MostSum == b.MostSum) = true,
              (a.MostSum == b.MostSum) = true,
              (a.MostSum == b.MostSum) = true,
              (a.MostSum == b.MostSum) = true,
              (a.MostSum == b.MostSum) = true,
              Fn Tryz.prog 112 [(false, E30 a.Holds), (false, E30 b.Holds)] (E4 r1) [],
              (true || ((E4 r1).nv && nvL [])) = true,
              (a.MostSum == b.MostSum) = true,
              r1 = true,
              r1 = true,
              r1 = true,
              r1 = true,
              r1 = true,
              Fn Tryz.prog 113 [(false, E31 a.Ring), (false, E31 b.Ring)] (E4 r2) [],
              (true || ((E4 r2).nv && nvL [])) = true,
              r1 = true,
              r2 = true,
              r2 = true,
              r2 = true,
              r2 = true,
              r2 = true,
              Fn Tryz.prog 114 [(false, E32 a.Slots), (false, E32 b.Slots)] (E4 r3) [],
              (true || ((E4 r3).nv && nvL [])) = true,
              r2 = true]) (by kernel_rfl) (cj h1 (cj h1 (cj h1 (cj h1 (cj h1 (cj h1 (cj h2 (cj h2 (cj h2 (cj h2 (cj h2 (cj h2 (cj h3 (cj h3 (cj h3 (cj h3 (cj h3 (cj h3 (cj h4 (cj h4 (cj h4 (cj h4 (cj h4 (cj h4 (cj h5 (cj h5 (cj h5 (cj h5 (cj h5 (cj (slices_Equal_impl_Hold_ok a.Holds b.Holds r1 h6) (cj rfl (cj h5 (cj h7 (cj h7 (cj h7 (cj h7 (cj h7 (cj (impl_ringSame_ok a.Ring b.Ring r2 h8) (cj rfl (cj h7 (cj h9 (cj h9 (cj h9 (cj h9 (cj h9 (cj (impl_SlotsSame_ok a.Slots b.Slots r3 h10) (cj rfl (cj1 h9))))))))))))))))))))))))))))))))))))))))))))))))))) (fun h9 =>
            Pn.some (Fn.of [.bit true, .bit true, .bit true, .bit true, .bit true, .bit true, .bit true, .bit true, .bit true, .bit true, .bit true, .bit true, .bit true, .bit true, .bit true, .bit true, .bit true, .bit true, .bit true, .bit true, .bit true, .bit true, .bit true, .bit true, .bit true, .bit true, .bit true, .bit true, .bit true, .call [] (E4 r1) [], .bit true, .bit true, .bit true, .bit true, .bit true, .bit true, .call [] (E4 r2) [], .bit true, .bit false, .bit false, .bit false, .bit false, .bit false, .bit false] (p := [(a.Id == b.Id) = true,
             (a.Id == b.Id) = true,
             (a.Id == b.Id) = true,
             (a.Id == b.Id) = true,
             (a.Id == b.Id) = true,
             (a.Id == b.Id) = true,
             (a.Limit == b.Limit) = true,
             (a.Limit == b.Limit) = true,
             (a.Limit == b.Limit) = true,
             (a.Limit == b.Limit) = true,
             (a.Limit == b.Limit) = true,
             (a.Limit == b.Limit) = true,
             (a.Posted == b.Posted) = true,
             (a.Posted == b.Posted) = true,
             (a.Posted == b.Posted) = true,
             (a.Posted == b.Posted) = true,
             (a.Posted == b.Posted) = true,
             (a.Posted == b.Posted) = true,
             (a.Most == b.Most) = true,
             (a.Most == b.Most) = true,
             (a.Most == b.Most) = true,
             (a.Most == b.Most) = true,
             (a.Most == b.Most) = true,
             (a.Most == b.Most) = true,
             (a.MostSum == b.MostSum) = true,
             (a.MostSum == b.MostSum) = true,
             (a.MostSum == b.MostSum) = true,
             (a.MostSum == b.MostSum) = true,
             (a.MostSum == b.MostSum) = true,
             Fn Tryz.prog 112 [(false, E30 a.Holds), (false, E30 b.Holds)] (E4 r1) [],
             (true || ((E4 r1).nv && nvL [])) = true,
             (a.MostSum == b.MostSum) = true,
             r1 = true,
             r1 = true,
             r1 = true,
             r1 = true,
             r1 = true,
             Fn Tryz.prog 113 [(false, E31 a.Ring), (false, E31 b.Ring)] (E4 r2) [],
             (true || ((E4 r2).nv && nvL [])) = true,
             r1 = true,
             r2 = false,
             r2 = false,
             r2 = false,
             r2 = false,
             r2 = false,
             r2 = false]) (by kernel_rfl) (cj h1 (cj h1 (cj h1 (cj h1 (cj h1 (cj h1 (cj h2 (cj h2 (cj h2 (cj h2 (cj h2 (cj h2 (cj h3 (cj h3 (cj h3 (cj h3 (cj h3 (cj h3 (cj h4 (cj h4 (cj h4 (cj h4 (cj h4 (cj h4 (cj h5 (cj h5 (cj h5 (cj h5 (cj h5 (cj (slices_Equal_impl_Hold_ok a.Holds b.Holds r1 h6) (cj rfl (cj h5 (cj h7 (cj h7 (cj h7 (cj h7 (cj h7 (cj (impl_ringSame_ok a.Ring b.Ring r2 h8) (cj rfl (cj h7 (cj h9 (cj h9 (cj h9 (cj h9 (cj h9 (cj1 h9)))))))))))))))))))))))))))))))))))))))))))))))))) (fun h7 =>
          Pn.some (Fn.of [.bit true, .bit true, .bit true, .bit true, .bit true, .bit true, .bit true, .bit true, .bit true, .bit true, .bit true, .bit true, .bit true, .bit true, .bit true, .bit true, .bit true, .bit true, .bit true, .bit true, .bit true, .bit true, .bit true, .bit true, .bit true, .bit true, .bit true, .bit true, .bit true, .call [] (E4 r1) [], .bit true, .bit false, .bit false, .bit false, .bit false, .bit false, .bit false, .bit false, .bit false, .bit false, .bit false, .bit false, .bit false] (p := [(a.Id == b.Id) = true,
           (a.Id == b.Id) = true,
           (a.Id == b.Id) = true,
           (a.Id == b.Id) = true,
           (a.Id == b.Id) = true,
           (a.Id == b.Id) = true,
           (a.Limit == b.Limit) = true,
           (a.Limit == b.Limit) = true,
           (a.Limit == b.Limit) = true,
           (a.Limit == b.Limit) = true,
           (a.Limit == b.Limit) = true,
           (a.Limit == b.Limit) = true,
           (a.Posted == b.Posted) = true,
           (a.Posted == b.Posted) = true,
           (a.Posted == b.Posted) = true,
           (a.Posted == b.Posted) = true,
           (a.Posted == b.Posted) = true,
           (a.Posted == b.Posted) = true,
           (a.Most == b.Most) = true,
           (a.Most == b.Most) = true,
           (a.Most == b.Most) = true,
           (a.Most == b.Most) = true,
           (a.Most == b.Most) = true,
           (a.Most == b.Most) = true,
           (a.MostSum == b.MostSum) = true,
           (a.MostSum == b.MostSum) = true,
           (a.MostSum == b.MostSum) = true,
           (a.MostSum == b.MostSum) = true,
           (a.MostSum == b.MostSum) = true,
           Fn Tryz.prog 112 [(false, E30 a.Holds), (false, E30 b.Holds)] (E4 r1) [],
           (true || ((E4 r1).nv && nvL [])) = true,
           (a.MostSum == b.MostSum) = true,
           r1 = false,
           r1 = false,
           r1 = false,
           r1 = false,
           r1 = false,
           r1 = false,
           false = false,
           false = false,
           false = false,
           false = false,
           false = false,
           false = false]) (by kernel_rfl) (cj h1 (cj h1 (cj h1 (cj h1 (cj h1 (cj h1 (cj h2 (cj h2 (cj h2 (cj h2 (cj h2 (cj h2 (cj h3 (cj h3 (cj h3 (cj h3 (cj h3 (cj h3 (cj h4 (cj h4 (cj h4 (cj h4 (cj h4 (cj h4 (cj h5 (cj h5 (cj h5 (cj h5 (cj h5 (cj (slices_Equal_impl_Hold_ok a.Holds b.Holds r1 h6) (cj rfl (cj h5 (cj h7 (cj h7 (cj h7 (cj h7 (cj h7 (cj h7 (cj rfl (cj rfl (cj rfl (cj rfl (cj rfl (cj1 rfl)))))))))))))))))))))))))))))))))))))))))))))))) (fun h5 =>
        Pn.some (Fn.of [.bit true, .bit true, .bit true, .bit true, .bit true, .bit true, .bit true, .bit true, .bit true, .bit true, .bit true, .bit true, .bit true, .bit true, .bit true, .bit true, .bit true, .bit true, .bit true, .bit true, .bit true, .bit true, .bit true, .bit true, .bit false, .bit false, .bit false, .bit false, .bit false, .bit false, .bit false, .bit false, .bit false, .bit false, .bit false, .bit false, .bit false, .bit false, .bit false, .bit false, .bit false, .bit false] (p := [(a.Id == b.Id) = true,
         (a.Id == b.Id) = true,
         (a.Id == b.Id) = true,
         (a.Id == b.Id) = true,
         (a.Id == b.Id) = true,
         (a.Id == b.Id) = true,
         (a.Limit == b.Limit) = true,
         (a.Limit == b.Limit) = true,
         (a.Limit == b.Limit) = true,
         (a.Limit == b.Limit) = true,
         (a.Limit == b.Limit) = true,
         (a.Limit == b.Limit) = true,
         (a.Posted == b.Posted) = true,
         (a.Posted == b.Posted) = true,
         (a.Posted == b.Posted) = true,
         (a.Posted == b.Posted) = true,
         (a.Posted == b.Posted) = true,
         (a.Posted == b.Posted) = true,
         (a.Most == b.Most) = true,
         (a.Most == b.Most) = true,
         (a.Most == b.Most) = true,
         (a.Most == b.Most) = true,
         (a.Most == b.Most) = true,
         (a.Most == b.Most) = true,
         (a.MostSum == b.MostSum) = false,
         (a.MostSum == b.MostSum) = false,
         (a.MostSum == b.MostSum) = false,
         (a.MostSum == b.MostSum) = false,
         (a.MostSum == b.MostSum) = false,
         (a.MostSum == b.MostSum) = false,
         false = false,
         false = false,
         false = false,
         false = false,
         false = false,
         false = false,
         false = false,
         false = false,
         false = false,
         false = false,
         false = false,
         false = false]) (by kernel_rfl) (cj h1 (cj h1 (cj h1 (cj h1 (cj h1 (cj h1 (cj h2 (cj h2 (cj h2 (cj h2 (cj h2 (cj h2 (cj h3 (cj h3 (cj h3 (cj h3 (cj h3 (cj h3 (cj h4 (cj h4 (cj h4 (cj h4 (cj h4 (cj h4 (cj h5 (cj h5 (cj h5 (cj h5 (cj h5 (cj h5 (cj rfl (cj rfl (cj rfl (cj rfl (cj rfl (cj rfl (cj rfl (cj rfl (cj rfl (cj rfl (cj rfl (cj1 rfl))))))))))))))))))))))))))))))))))))))))))))) (fun h4 =>
       Pn.some (Fn.of [.bit true, .bit true, .bit true, .bit true, .bit true, .bit true, .bit true, .bit true, .bit true, .bit true, .bit true, .bit true, .bit true, .bit true, .bit true, .bit true, .bit true, .bit true, .bit false, .bit false, .bit false, .bit false, .bit false, .bit false, .bit false, .bit false, .bit false, .bit false, .bit false, .bit false, .bit false, .bit false, .bit false, .bit false, .bit false, .bit false, .bit false, .bit false, .bit false, .bit false, .bit false, .bit false] (p := [(a.Id == b.Id) = true,
        (a.Id == b.Id) = true,
        (a.Id == b.Id) = true,
        (a.Id == b.Id) = true,
        (a.Id == b.Id) = true,
        (a.Id == b.Id) = true,
        (a.Limit == b.Limit) = true,
        (a.Limit == b.Limit) = true,
        (a.Limit == b.Limit) = true,
        (a.Limit == b.Limit) = true,
        (a.Limit == b.Limit) = true,
        (a.Limit == b.Limit) = true,
        (a.Posted == b.Posted) = true,
        (a.Posted == b.Posted) = true,
        (a.Posted == b.Posted) = true,
        (a.Posted == b.Posted) = true,
        (a.Posted == b.Posted) = true,
        (a.Posted == b.Posted) = true,
        (a.Most == b.Most) = false,
        (a.Most == b.Most) = false,
        (a.Most == b.Most) = false,
        (a.Most == b.Most) = false,
        (a.Most == b.Most) = false,
        (a.Most == b.Most) = false,
        false = false,
        false = false,
        false = false,
        false = false,
        false = false,
        false = false,
        false = false,
        false = false,
        false = false,
        false = false,
        false = false,
        false = false,
        false = false,
        false = false,
        false = false,
        false = false,
        false = false,
        false = false]) (by kernel_rfl) (cj h1 (cj h1 (cj h1 (cj h1 (cj h1 (cj h1 (cj h2 (cj h2 (cj h2 (cj h2 (cj h2 (cj h2 (cj h3 (cj h3 (cj h3 (cj h3 (cj h3 (cj h3 (cj h4 (cj h4 (cj h4 (cj h4 (cj h4 (cj h4 (cj rfl (cj rfl (cj rfl (cj rfl (cj rfl (cj rfl (cj rfl (cj rfl (cj rfl (cj rfl (cj rfl (cj rfl (cj rfl (cj rfl (cj rfl (cj rfl (cj rfl (cj1 rfl))))))))))))))))))))))))))))))))))))))))))))) (fun h3 =>
      Pn.some (Fn.of [.bit true, .bit true, .bit true, .bit true, .bit true, .bit true, .bit true, .bit true, .bit true, .bit true, .bit true, .bit true, .bit false, .bit false, .bit false, .bit false, .bit false, .bit false, .bit false, .bit false, .bit false, .bit false, .bit false, .bit false, .bit false, .bit false, .bit false, .bit false, .bit false, .bit false, .bit false, .bit false, .bit false, .bit false, .bit false, .bit false, .bit false, .bit false, .bit false, .bit false, .bit false, .bit false] (p := [(a.Id == b.Id) = true,
       (a.Id == b.Id) = true,
       (a.Id == b.Id) = true,
       (a.Id == b.Id) = true,
       (a.Id == b.Id) = true,
       (a.Id == b.Id) = true,
       (a.Limit == b.Limit) = true,
       (a.Limit == b.Limit) = true,
       (a.Limit == b.Limit) = true,
       (a.Limit == b.Limit) = true,
       (a.Limit == b.Limit) = true,
       (a.Limit == b.Limit) = true,
       (a.Posted == b.Posted) = false,
       (a.Posted == b.Posted) = false,
       (a.Posted == b.Posted) = false,
       (a.Posted == b.Posted) = false,
       (a.Posted == b.Posted) = false,
       (a.Posted == b.Posted) = false,
       false = false,
       false = false,
       false = false,
       false = false,
       false = false,
       false = false,
       false = false,
       false = false,
       false = false,
       false = false,
       false = false,
       false = false,
       false = false,
       false = false,
       false = false,
       false = false,
       false = false,
       false = false,
       false = false,
       false = false,
       false = false,
       false = false,
       false = false,
       false = false]) (by kernel_rfl) (cj h1 (cj h1 (cj h1 (cj h1 (cj h1 (cj h1 (cj h2 (cj h2 (cj h2 (cj h2 (cj h2 (cj h2 (cj h3 (cj h3 (cj h3 (cj h3 (cj h3 (cj h3 (cj rfl (cj rfl (cj rfl (cj rfl (cj rfl (cj rfl (cj rfl (cj rfl (cj rfl (cj rfl (cj rfl (cj rfl (cj rfl (cj rfl (cj rfl (cj rfl (cj rfl (cj rfl (cj rfl (cj rfl (cj rfl (cj rfl (cj rfl (cj1 rfl))))))))))))))))))))))))))))))))))))))))))))) (fun h2 =>
     Pn.some (Fn.of [.bit true, .bit true, .bit true, .bit true, .bit true, .bit true, .bit false, .bit false, .bit false, .bit false, .bit false, .bit false, .bit false, .bit false, .bit false, .bit false, .bit false, .bit false, .bit false, .bit false, .bit false, .bit false, .bit false, .bit false, .bit false, .bit false, .bit false, .bit false, .bit false, .bit false, .bit false, .bit false, .bit false, .bit false, .bit false, .bit false, .bit false, .bit false, .bit false, .bit false, .bit false, .bit false] (p := [(a.Id == b.Id) = true,
      (a.Id == b.Id) = true,
      (a.Id == b.Id) = true,
      (a.Id == b.Id) = true,
      (a.Id == b.Id) = true,
      (a.Id == b.Id) = true,
      (a.Limit == b.Limit) = false,
      (a.Limit == b.Limit) = false,
      (a.Limit == b.Limit) = false,
      (a.Limit == b.Limit) = false,
      (a.Limit == b.Limit) = false,
      (a.Limit == b.Limit) = false,
      false = false,
      false = false,
      false = false,
      false = false,
      false = false,
      false = false,
      false = false,
      false = false,
      false = false,
      false = false,
      false = false,
      false = false,
      false = false,
      false = false,
      false = false,
      false = false,
      false = false,
      false = false,
      false = false,
      false = false,
      false = false,
      false = false,
      false = false,
      false = false,
      false = false,
      false = false,
      false = false,
      false = false,
      false = false,
      false = false]) (by kernel_rfl) (cj h1 (cj h1 (cj h1 (cj h1 (cj h1 (cj h1 (cj h2 (cj h2 (cj h2 (cj h2 (cj h2 (cj h2 (cj rfl (cj rfl (cj rfl (cj rfl (cj rfl (cj rfl (cj rfl (cj rfl (cj rfl (cj rfl (cj rfl (cj rfl (cj rfl (cj rfl (cj rfl (cj rfl (cj rfl (cj rfl (cj rfl (cj rfl (cj rfl (cj rfl (cj rfl (cj rfl (cj rfl (cj rfl (cj rfl (cj rfl (cj rfl (cj1 rfl))))))))))))))))))))))))))))))))))))))))))))) (fun h1 =>
    Pn.some (Fn.of [.bit false, .bit false, .bit false, .bit false, .bit false, .bit false, .bit false, .bit false, .bit false, .bit false, .bit false, .bit false, .bit false, .bit false, .bit false, .bit false, .bit false, .bit false, .bit false, .bit false, .bit false, .bit false, .bit false, .bit false, .bit false, .bit false, .bit false, .bit false, .bit false, .bit false, .bit false, .bit false, .bit false, .bit false, .bit false, .bit false, .bit false, .bit false, .bit false, .bit false, .bit false, .bit false] (p := [(a.Id == b.Id) = false,
     (a.Id == b.Id) = false,
     (a.Id == b.Id) = false,
     (a.Id == b.Id) = false,
     (a.Id == b.Id) = false,
     (a.Id == b.Id) = false,
     false = false,
     false = false,
     false = false,
     false = false,
     false = false,
     false = false,
     false = false,
     false = false,
     false = false,
     false = false,
     false = false,
     false = false,
     false = false,
     false = false,
     false = false,
     false = false,
     false = false,
     false = false,
     false = false,
     false = false,
     false = false,
     false = false,
     false = false,
     false = false,
     false = false,
     false = false,
     false = false,
     false = false,
     false = false,
     false = false,
     false = false,
     false = false,
     false = false,
     false = false,
     false = false,
     false = false]) (by kernel_rfl) (cj h1 (cj h1 (cj h1 (cj h1 (cj h1 (cj h1 (cj rfl (cj rfl (cj rfl (cj rfl (cj rfl (cj rfl (cj rfl (cj rfl (cj rfl (cj rfl (cj rfl (cj rfl (cj rfl (cj rfl (cj rfl (cj rfl (cj rfl (cj rfl (cj rfl (cj rfl (cj rfl (cj rfl (cj rfl (cj rfl (cj rfl (cj rfl (cj rfl (cj rfl (cj rfl (cj rfl (cj rfl (cj rfl (cj rfl (cj rfl (cj rfl (cj1 rfl))))))))))))))))))))))))))))))))))))))))))))
def slices_EqualFunc_impl_Acct_impl_AcctSame_l0 (s1_ : List Acct) (s2_ : List Acct) : List Acct → List Acct → Option (Lo Unit Unit)
  | [], p1 =>
   some (.out ())
  | x1 :: t1, p1 =>
   (s2_[(p1.length : Int).toNat]?).bind fun x2 =>
   (impl_AcctSame x1 x2).bind fun r1 =>
   if r1 = true then
    slices_EqualFunc_impl_Acct_impl_AcctSame_l0 s1_ s2_ t1 (p1 ++ [x1])
   else
    some (.ret ())
theorem slices_EqualFunc_impl_Acct_impl_AcctSame_l0_ok (s1_ : List Acct) (s2_ : List Acct) (h3 : capOk s1_.length = true) : ∀ (t1 p1 : List Acct) (_ : s1_ = p1 ++ t1) , Pn (LpO Tryz.prog (sub (codeOf Tryz.prog 81) [1, 1, 0, 1, 0, 0]) (st 32 [(1, V.sl false 34 (List.map E34 s2_)), (2, V.fn 82 []), (15, V.sl false 34 (List.map E34 s1_)), (16, V.sc (.int .i64 (s1_.length : Int))), (17, V.sc (.int .i64 (p1.length : Int)))] [] []) (fun (y : Lo Unit Unit) => Lo.elim y (fun s => (X.out 0, st 32 [] [] [])) (fun s => (X.ret, st 32 [(6, V.sc (.bool false))] [] [])))) (slices_EqualFunc_impl_Acct_impl_AcctSame_l0 s1_ s2_ t1 p1)
  | [], p1, h2 => by
    unfold slices_EqualFunc_impl_Acct_impl_AcctSame_l0
    exact
     Pn.some (LpO.out [.bit false, .mask [], .ren []] (p := [(decide ((p1.length : Int) < (s1_.length : Int))) = false]) (by kernel_rfl) (show X.out 0 ≠ X.go from nofun) (cj1 (rng_end h2)))
  | x1 :: t1, p1, h2 => by
    unfold slices_EqualFunc_impl_Acct_impl_AcctSame_l0
    exact
     Pn.bind (fun x2 h4 =>
      Pn.bind (fun r1 h5 =>
       Pn.ite (fun h6 =>
        LpO.go [.bit true, .el (E34 x1), .el (E34 x2), .call [] (E4 r1) [], .bit false, .wait 2, .mask [1, 2, 15, 16, 17], .ren [], .nm 17 (V.sc (.int .i64 ((p1 ++ [x1]).length : Int)))] (p := [(decide ((p1.length : Int) < (s1_.length : Int))) = true,
         (0 : Int) ≤ (p1.length : Int),
         (List.map E34 s1_)[(p1.length : Int).toNat]? = some (E34 x1),
         (0 : Int) ≤ (p1.length : Int),
         (List.map E34 s2_)[(p1.length : Int).toNat]? = some (E34 x2),
         Fn Tryz.prog 82 [(false, E34 x1), (false, E34 x2)] (E4 r1) [],
         (true || ((E4 r1).nv && nvL [])) = true,
         (!r1) = false,
         V.sc (.int .i64 (i64 ((p1.length : Int) + 1))) = V.sc (.int .i64 ((p1 ++ [x1]).length : Int))]) (by kernel_rfl) (cj (rng_lt h2) (cj (by omega) (cj (rng_get _ h2) (cj (by omega) (cj (map_get h4) (cj (impl_AcctSame_ok x1 x2 r1 h5) (cj rfl (cj (nf h6) (cj1 (rng_next h2 h3)))))))))) (slices_EqualFunc_impl_Acct_impl_AcctSame_l0_ok s1_ s2_ h3 t1 (p1 ++ [x1]) (rng_step h2))) (fun h6 =>
        Pn.some (LpO.out [.bit true, .el (E34 x1), .el (E34 x2), .call [] (E4 r1) [], .bit true, .wait 1, .mask [6], .ren []] (p := [(decide ((p1.length : Int) < (s1_.length : Int))) = true,
         (0 : Int) ≤ (p1.length : Int),
         (List.map E34 s1_)[(p1.length : Int).toNat]? = some (E34 x1),
         (0 : Int) ≤ (p1.length : Int),
         (List.map E34 s2_)[(p1.length : Int).toNat]? = some (E34 x2),
         Fn Tryz.prog 82 [(false, E34 x1), (false, E34 x2)] (E4 r1) [],
         (true || ((E4 r1).nv && nvL [])) = true,
         (!r1) = true]) (by kernel_rfl) (show X.ret ≠ X.go from nofun) (cj (rng_lt h2) (cj (by omega) (cj (rng_get _ h2) (cj (by omega) (cj (map_get h4) (cj (impl_AcctSame_ok x1 x2 r1 h5) (cj rfl (cj1 (nt h6)))))))))))))
def slices_EqualFunc_impl_Acct_impl_AcctSame (s1_ : List Acct) (s2_ : List Acct) : Option (Bool) :=
 if ((s1_.length : Int) != (s2_.length : Int)) = true then
  some false
 else
  if (capOk s1_.length) = true then
   (slices_EqualFunc_impl_Acct_impl_AcctSame_l0 s1_ s2_ s1_ []).bind fun r2 =>
   Lo.elim r2 (fun s1 =>
    some true) (fun s2 =>
    some false)
  else none
theorem slices_EqualFunc_impl_Acct_impl_AcctSame_ok (s1_ : List Acct) (s2_ : List Acct) : Pn (fun y => Fn Tryz.prog 81 [(false, E48 s1_), (false, E48 s2_), (false, V.fn 82 [])] (E4 y) []) (slices_EqualFunc_impl_Acct_impl_AcctSame s1_ s2_) := by
  unfold slices_EqualFunc_impl_Acct_impl_AcctSame
  exact
   Pn.ite (fun h1 =>
    Pn.some (Fn.of [.wait 3, .nm 11 (V.sc (.int .i64 (s1_.length : Int))), .wait 2, .nm 13 (V.sc (.int .i64 (s2_.length : Int))), .bit true] (p := [V.sc (.int .i64 ((List.map E34 s1_).length : Int)) = V.sc (.int .i64 (s1_.length : Int)),
     V.sc (.int .i64 ((List.map E34 s2_).length : Int)) = V.sc (.int .i64 (s2_.length : Int)),
     ((s1_.length : Int) != (s2_.length : Int)) = true]) (by kernel_rfl) (cj (len_nm _ _) (cj (len_nm _ _) (cj1 h1))))) (fun h1 =>
    Pn.ite (fun h7 =>
     Pn.bind (fun r2 h8 =>
      Pn.lo (fun s1 h9 =>
       Pn.some (Fn.of [.wait 3, .nm 11 (V.sc (.int .i64 (s1_.length : Int))), .wait 2, .nm 13 (V.sc (.int .i64 (s2_.length : Int))), .bit false, .wait 1, .nm 16 (V.sc (.int .i64 (s1_.length : Int))), .wait 2, .mask [1, 2, 15, 16, 17], .ren [], .loop (X.out 0) (st 32 [] [] [])] (p := [V.sc (.int .i64 ((List.map E34 s1_).length : Int)) = V.sc (.int .i64 (s1_.length : Int)),
        V.sc (.int .i64 ((List.map E34 s2_).length : Int)) = V.sc (.int .i64 (s2_.length : Int)),
        ((s1_.length : Int) != (s2_.length : Int)) = false,
        V.sc (.int .i64 ((List.map E34 s1_).length : Int)) = V.sc (.int .i64 (s1_.length : Int)),
        Loop Tryz.prog (sub (codeOf Tryz.prog 81) [1, 1, 0, 1, 0, 0]) (st 32 [(1, V.sl false 34 (List.map E34 s2_)), (2, V.fn 82 []), (15, V.sl false 34 (List.map E34 s1_)), (16, V.sc (.int .i64 (s1_.length : Int))), (17, V.sc (.int .i64 0))] [] []) (X.out 0) (st 32 [] [] [])]) (by kernel_rfl) (cj (len_nm _ _) (cj (len_nm _ _) (cj h1 (cj (len_nm _ _) (cj1 ((slices_EqualFunc_impl_Acct_impl_AcctSame_l0_ok s1_ s2_ h7 s1_ [] rfl r2 h8).at h9)))))))) (fun s2 h10 =>
       Pn.some (Fn.of [.wait 3, .nm 11 (V.sc (.int .i64 (s1_.length : Int))), .wait 2, .nm 13 (V.sc (.int .i64 (s2_.length : Int))), .bit false, .wait 1, .nm 16 (V.sc (.int .i64 (s1_.length : Int))), .wait 2, .mask [1, 2, 15, 16, 17], .ren [], .loop (X.ret) (st 32 [(6, V.sc (.bool false))] [] [])] (p := [V.sc (.int .i64 ((List.map E34 s1_).length : Int)) = V.sc (.int .i64 (s1_.length : Int)),
        V.sc (.int .i64 ((List.map E34 s2_).length : Int)) = V.sc (.int .i64 (s2_.length : Int)),
        ((s1_.length : Int) != (s2_.length : Int)) = false,
        V.sc (.int .i64 ((List.map E34 s1_).length : Int)) = V.sc (.int .i64 (s1_.length : Int)),
        Loop Tryz.prog (sub (codeOf Tryz.prog 81) [1, 1, 0, 1, 0, 0]) (st 32 [(1, V.sl false 34 (List.map E34 s2_)), (2, V.fn 82 []), (15, V.sl false 34 (List.map E34 s1_)), (16, V.sc (.int .i64 (s1_.length : Int))), (17, V.sc (.int .i64 0))] [] []) (X.ret) (st 32 [(6, V.sc (.bool false))] [] [])]) (by kernel_rfl) (cj (len_nm _ _) (cj (len_nm _ _) (cj h1 (cj (len_nm _ _) (cj1 ((slices_EqualFunc_impl_Acct_impl_AcctSame_l0_ok s1_ s2_ h7 s1_ [] rfl r2 h8).at h10)))))))))) (fun h7 =>
     Pn.none))
def impl_BookSame (a : Book) (b : Book) : Option (Bool) :=
 (slices_EqualFunc_impl_Acct_impl_AcctSame a.Accts b.Accts).bind fun r1 =>
 some r1
theorem impl_BookSame_ok (a : Book) (b : Book) : Pn (fun y => Fn Tryz.prog 50 [(false, E50 a), (false, E50 b)] (E4 y) []) (impl_BookSame a b) := by
  unfold impl_BookSame
  exact
   Pn.bind (fun r1 h1 =>
    Pn.some (Fn.of [.call [] (E4 r1) []] (p := [Fn Tryz.prog 81 [(false, E48 a.Accts), (false, E48 b.Accts), (false, V.fn 82 [])] (E4 r1) [],
     (true || ((E4 r1).nv && nvL [])) = true]) (by kernel_rfl) (cj (slices_EqualFunc_impl_Acct_impl_AcctSame_ok a.Accts b.Accts r1 h1) (cj1 rfl))))
def impl_SeenSame (a : Book) (b : Book) (now : Int) : Option (Bool) :=
 (impl_BookOk a).bind fun r1 =>
 if r1 = true then
  (impl_BookOk b).bind fun r2 =>
  if r2 = true then
   (impl_isTime now).bind fun r3 =>
   if r3 = true then
    (impl_BookTime a now).bind fun r4 =>
    (impl_BookTime b now).bind fun r5 =>
    (impl_BookSame r4 r5).bind fun r6 =>
    some r6
   else
    some false
  else
   some false
 else
  some false
theorem impl_SeenSame_ok (a : Book) (b : Book) (now : Int) : Pn (fun y => Fn Tryz.prog 18 [(false, E50 a), (false, E50 b), (false, E3 now)] (E4 y) []) (impl_SeenSame a b now) := by
  unfold impl_SeenSame
  exact
   Pn.bind (fun r1 h1 =>
    Pn.ite (fun h2 =>
     Pn.bind (fun r2 h3 =>
      Pn.ite (fun h4 =>
       Pn.bind (fun r3 h5 =>
        Pn.ite (fun h6 =>
         Pn.bind (fun r4 h7 =>
          Pn.bind (fun r5 h8 =>
           Pn.bind (fun r6 h9 =>
            Pn.some (Fn.of [.draw [], .call [] (E4 r1) [], .bit true, .bit true, .call [] (E4 r2) [], .bit true, .bit true, .bit true, .call [] (E4 r3) [], .bit true, .bit true, .bit true, .bit true, .bit true, .bit true, .call [] (E50 r4) [], .bit true, .call [] (E50 r5) [], .bit true, .call [] (E4 r6) [], .bit true] (p := [Fn Tryz.prog 48 [(false, E50 a)] (E4 r1) [],
             (true || ((E4 r1).nv && nvL [])) = true,
             r1 = true,
             r1 = true,
             Fn Tryz.prog 48 [(false, E50 b)] (E4 r2) [],
             (true || ((E4 r2).nv && nvL [])) = true,
             r1 = true,
             r2 = true,
             r2 = true,
             Fn Tryz.prog 49 [(false, E3 now)] (E4 r3) [],
             (true || ((E4 r3).nv && nvL [])) = true,
             r2 = true,
             r3 = true,
             r3 = true,
             r3 = true,
             r3 = true,
             r3 = true,
             Fn Tryz.prog 51 [(false, E50 a), (false, E3 now)] (E50 r4) [],
             (true || ((E50 r4).nv && nvL [])) = true,
             r3 = true,
             Fn Tryz.prog 51 [(false, E50 b), (false, E3 now)] (E50 r5) [],
             (true || ((E50 r5).nv && nvL [])) = true,
             r3 = true,
             Fn Tryz.prog 50 [(false, E50 r4), (false, E50 r5)] (E4 r6) [],
             (false || ((E4 r6).nv && nvL [])) = true,
             r3 = true]) (by kernel_rfl) (cj (impl_BookOk_ok a r1 h1) (cj rfl (cj h2 (cj h2 (cj (impl_BookOk_ok b r2 h3) (cj rfl (cj h2 (cj h4 (cj h4 (cj (impl_isTime_ok now r3 h5) (cj rfl (cj h4 (cj h6 (cj h6 (cj h6 (cj h6 (cj h6 (cj (impl_BookTime_ok a now r4 h7) (cj rfl (cj h6 (cj (impl_BookTime_ok b now r5 h8) (cj rfl (cj h6 (cj (impl_BookSame_ok r4 r5 r6 h9) (cj (by simp [V.nv, nvL, nvL_all, nv_E4]) (cj1 h6))))))))))))))))))))))))))))))) (fun h6 =>
         Pn.some (Fn.of [.draw [], .call [] (E4 r1) [], .bit true, .bit true, .call [] (E4 r2) [], .bit true, .bit true, .bit true, .call [] (E4 r3) [], .bit true, .bit false, .bit false, .bit false, .bit false, .bit false, .bit false, .bit false, .bit false] (p := [Fn Tryz.prog 48 [(false, E50 a)] (E4 r1) [],
          (true || ((E4 r1).nv && nvL [])) = true,
          r1 = true,
          r1 = true,
          Fn Tryz.prog 48 [(false, E50 b)] (E4 r2) [],
          (true || ((E4 r2).nv && nvL [])) = true,
          r1 = true,
          r2 = true,
          r2 = true,
          Fn Tryz.prog 49 [(false, E3 now)] (E4 r3) [],
          (true || ((E4 r3).nv && nvL [])) = true,
          r2 = true,
          r3 = false,
          r3 = false,
          r3 = false,
          r3 = false,
          r3 = false,
          r3 = false,
          r3 = false,
          r3 = false]) (by kernel_rfl) (cj (impl_BookOk_ok a r1 h1) (cj rfl (cj h2 (cj h2 (cj (impl_BookOk_ok b r2 h3) (cj rfl (cj h2 (cj h4 (cj h4 (cj (impl_isTime_ok now r3 h5) (cj rfl (cj h4 (cj h6 (cj h6 (cj h6 (cj h6 (cj h6 (cj h6 (cj h6 (cj1 h6)))))))))))))))))))))))) (fun h4 =>
       Pn.some (Fn.of [.draw [], .call [] (E4 r1) [], .bit true, .bit true, .call [] (E4 r2) [], .bit true, .bit false, .bit false, .bit false, .bit false, .bit false, .bit false, .bit false, .bit false, .bit false, .bit false, .bit false] (p := [Fn Tryz.prog 48 [(false, E50 a)] (E4 r1) [],
        (true || ((E4 r1).nv && nvL [])) = true,
        r1 = true,
        r1 = true,
        Fn Tryz.prog 48 [(false, E50 b)] (E4 r2) [],
        (true || ((E4 r2).nv && nvL [])) = true,
        r1 = true,
        r2 = false,
        r2 = false,
        r2 = false,
        false = false,
        false = false,
        false = false,
        false = false,
        false = false,
        false = false,
        false = false,
        false = false]) (by kernel_rfl) (cj (impl_BookOk_ok a r1 h1) (cj rfl (cj h2 (cj h2 (cj (impl_BookOk_ok b r2 h3) (cj rfl (cj h2 (cj h4 (cj h4 (cj h4 (cj rfl (cj rfl (cj rfl (cj rfl (cj rfl (cj rfl (cj rfl (cj1 rfl)))))))))))))))))))))) (fun h2 =>
     Pn.some (Fn.of [.draw [], .call [] (E4 r1) [], .bit false, .bit false, .bit false, .bit false, .bit false, .bit false, .bit false, .bit false, .bit false, .bit false, .bit false, .bit false, .bit false, .bit false] (p := [Fn Tryz.prog 48 [(false, E50 a)] (E4 r1) [],
      (true || ((E4 r1).nv && nvL [])) = true,
      r1 = false,
      r1 = false,
      r1 = false,
      false = false,
      false = false,
      false = false,
      false = false,
      false = false,
      false = false,
      false = false,
      false = false,
      false = false,
      false = false,
      false = false]) (by kernel_rfl) (cj (impl_BookOk_ok a r1 h1) (cj rfl (cj h2 (cj h2 (cj h2 (cj rfl (cj rfl (cj rfl (cj rfl (cj rfl (cj rfl (cj rfl (cj rfl (cj rfl (cj rfl (cj1 rfl)))))))))))))))))))
def laws_eqHold (a : Hold) (b : Hold) : Option (Bool) :=
 if (a.Id == b.Id) = true then
  if (a.Amount != b.Amount) = true then
   some false
  else
   if (a.Due != b.Due) = true then
    some false
   else
    some true
 else
  some false
theorem laws_eqHold_ok (a : Hold) (b : Hold) : Pn (fun y => Fn Tryz.prog 70 [(false, E74 a), (false, E74 b)] (E4 y) []) (laws_eqHold a b) := by
  unfold laws_eqHold
  exact
   Pn.ite (fun h1 =>
    Pn.ite (fun h2 =>
     Pn.some (Fn.of [.bit false, .bit true] (p := [(!(a.Id == b.Id)) = false,
      (a.Amount != b.Amount) = true]) (by kernel_rfl) (cj (nf h1) (cj1 h2)))) (fun h2 =>
     Pn.ite (fun h3 =>
      Pn.some (Fn.of [.bit false, .bit false, .bit true] (p := [(!(a.Id == b.Id)) = false,
       (a.Amount != b.Amount) = false,
       (a.Due != b.Due) = true]) (by kernel_rfl) (cj (nf h1) (cj h2 (cj1 h3))))) (fun h3 =>
      Pn.some (Fn.of [.bit false, .bit false, .bit false] (p := [(!(a.Id == b.Id)) = false,
       (a.Amount != b.Amount) = false,
       (a.Due != b.Due) = false]) (by kernel_rfl) (cj (nf h1) (cj h2 (cj1 h3))))))) (fun h1 =>
    Pn.some (Fn.of [.bit true] (p := [(!(a.Id == b.Id)) = true]) (by kernel_rfl) (cj1 (nt h1))))
def laws_eqHoldS_l0 (a : List Hold) (b : List Hold) : List Hold → List Hold → Option (Lo Unit Unit)
  | [], p1 =>
   some (.out ())
  | x1 :: t1, p1 =>
   (b[(p1.length : Int).toNat]?).bind fun x2 =>
   (laws_eqHold x1 x2).bind fun r1 =>
   if r1 = true then
    laws_eqHoldS_l0 a b t1 (p1 ++ [x1])
   else
    some (.ret ())
theorem laws_eqHoldS_l0_ok (a : List Hold) (b : List Hold) (h3 : capOk a.length = true) : ∀ (t1 p1 : List Hold) (_ : a = p1 ++ t1) , Pn (LpO Tryz.prog (sub (codeOf Tryz.prog 32) [1, 1, 0, 1, 0, 0]) (st 27 [(0, V.sl false 74 (List.map E74 a)), (1, V.sl false 74 (List.map E74 b)), (5, V.sc (.int .i64 (p1.length : Int)))] [] []) (fun (y : Lo Unit Unit) => Lo.elim y (fun s => (X.out 0, st 27 [] [] [])) (fun s => (X.ret, st 27 [(4, V.sc (.bool false))] [] [])))) (laws_eqHoldS_l0 a b t1 p1)
  | [], p1, h2 => by
    unfold laws_eqHoldS_l0
    exact
     Pn.some (LpO.out [.wait 3, .nm 13 (V.sc (.int .i64 (a.length : Int))), .bit false, .mask [], .ren []] (p := [V.sc (.int .i64 ((List.map E74 a).length : Int)) = V.sc (.int .i64 (a.length : Int)),
      (decide ((p1.length : Int) < (a.length : Int))) = false]) (by kernel_rfl) (show X.out 0 ≠ X.go from nofun) (cj (len_nm _ _) (cj1 (rng_end h2))))
  | x1 :: t1, p1, h2 => by
    unfold laws_eqHoldS_l0
    exact
     Pn.bind (fun x2 h4 =>
      Pn.bind (fun r1 h5 =>
       Pn.ite (fun h6 =>
        LpO.go [.wait 3, .nm 13 (V.sc (.int .i64 (a.length : Int))), .bit true, .draw [], .el (E74 x1), .el (E74 x2), .call [] (E4 r1) [], .bit false, .wait 3, .mask [0, 1, 5], .ren [], .nm 5 (V.sc (.int .i64 ((p1 ++ [x1]).length : Int)))] (p := [V.sc (.int .i64 ((List.map E74 a).length : Int)) = V.sc (.int .i64 (a.length : Int)),
         (decide ((p1.length : Int) < (a.length : Int))) = true,
         (0 : Int) ≤ (p1.length : Int),
         (List.map E74 a)[(p1.length : Int).toNat]? = some (E74 x1),
         (0 : Int) ≤ (p1.length : Int),
         (List.map E74 b)[(p1.length : Int).toNat]? = some (E74 x2),
         Fn Tryz.prog 70 [(false, E74 x1), (false, E74 x2)] (E4 r1) [],
         (true || ((E4 r1).nv && nvL [])) = true,
         (!r1) = false,
         V.sc (.int .i64 (i64 ((p1.length : Int) + 1))) = V.sc (.int .i64 ((p1 ++ [x1]).length : Int))]) (by kernel_rfl) (cj (len_nm _ _) (cj (rng_lt h2) (cj (by omega) (cj (rng_get _ h2) (cj (by omega) (cj (map_get h4) (cj (laws_eqHold_ok x1 x2 r1 h5) (cj rfl (cj (nf h6) (cj1 (rng_next h2 h3))))))))))) (laws_eqHoldS_l0_ok a b h3 t1 (p1 ++ [x1]) (rng_step h2))) (fun h6 =>
        Pn.some (LpO.out [.wait 3, .nm 13 (V.sc (.int .i64 (a.length : Int))), .bit true, .draw [], .el (E74 x1), .el (E74 x2), .call [] (E4 r1) [], .bit true, .wait 1, .mask [4], .ren []] (p := [V.sc (.int .i64 ((List.map E74 a).length : Int)) = V.sc (.int .i64 (a.length : Int)),
         (decide ((p1.length : Int) < (a.length : Int))) = true,
         (0 : Int) ≤ (p1.length : Int),
         (List.map E74 a)[(p1.length : Int).toNat]? = some (E74 x1),
         (0 : Int) ≤ (p1.length : Int),
         (List.map E74 b)[(p1.length : Int).toNat]? = some (E74 x2),
         Fn Tryz.prog 70 [(false, E74 x1), (false, E74 x2)] (E4 r1) [],
         (true || ((E4 r1).nv && nvL [])) = true,
         (!r1) = true]) (by kernel_rfl) (show X.ret ≠ X.go from nofun) (cj (len_nm _ _) (cj (rng_lt h2) (cj (by omega) (cj (rng_get _ h2) (cj (by omega) (cj (map_get h4) (cj (laws_eqHold_ok x1 x2 r1 h5) (cj rfl (cj1 (nt h6))))))))))))))
def laws_eqHoldS (a : List Hold) (b : List Hold) : Option (Bool) :=
 if ((a.length : Int) != (b.length : Int)) = true then
  some false
 else
  if (capOk a.length) = true then
   (laws_eqHoldS_l0 a b a []).bind fun r2 =>
   Lo.elim r2 (fun s1 =>
    some true) (fun s2 =>
    some false)
  else none
theorem laws_eqHoldS_ok (a : List Hold) (b : List Hold) : Pn (fun y => Fn Tryz.prog 32 [(false, E30 a), (false, E30 b)] (E4 y) []) (laws_eqHoldS a b) := by
  unfold laws_eqHoldS
  exact
   Pn.ite (fun h1 =>
    Pn.some (Fn.of [.wait 3, .nm 7 (V.sc (.int .i64 (a.length : Int))), .wait 2, .nm 9 (V.sc (.int .i64 (b.length : Int))), .bit true] (p := [V.sc (.int .i64 ((List.map E74 a).length : Int)) = V.sc (.int .i64 (a.length : Int)),
     V.sc (.int .i64 ((List.map E74 b).length : Int)) = V.sc (.int .i64 (b.length : Int)),
     ((a.length : Int) != (b.length : Int)) = true]) (by kernel_rfl) (cj (len_nm _ _) (cj (len_nm _ _) (cj1 h1))))) (fun h1 =>
    Pn.ite (fun h7 =>
     Pn.bind (fun r2 h8 =>
      Pn.lo (fun s1 h9 =>
       Pn.some (Fn.of [.wait 3, .nm 7 (V.sc (.int .i64 (a.length : Int))), .wait 2, .nm 9 (V.sc (.int .i64 (b.length : Int))), .bit false, .wait 1, .mask [0, 1, 5], .ren [], .loop (X.out 0) (st 27 [] [] [])] (p := [V.sc (.int .i64 ((List.map E74 a).length : Int)) = V.sc (.int .i64 (a.length : Int)),
        V.sc (.int .i64 ((List.map E74 b).length : Int)) = V.sc (.int .i64 (b.length : Int)),
        ((a.length : Int) != (b.length : Int)) = false,
        Loop Tryz.prog (sub (codeOf Tryz.prog 32) [1, 1, 0, 1, 0, 0]) (st 27 [(0, V.sl false 74 (List.map E74 a)), (1, V.sl false 74 (List.map E74 b)), (5, V.sc (.int .i64 0))] [] []) (X.out 0) (st 27 [] [] [])]) (by kernel_rfl) (cj (len_nm _ _) (cj (len_nm _ _) (cj h1 (cj1 ((laws_eqHoldS_l0_ok a b h7 a [] rfl r2 h8).at h9))))))) (fun s2 h10 =>
       Pn.some (Fn.of [.wait 3, .nm 7 (V.sc (.int .i64 (a.length : Int))), .wait 2, .nm 9 (V.sc (.int .i64 (b.length : Int))), .bit false, .wait 1, .mask [0, 1, 5], .ren [], .loop (X.ret) (st 27 [(4, V.sc (.bool false))] [] [])] (p := [V.sc (.int .i64 ((List.map E74 a).length : Int)) = V.sc (.int .i64 (a.length : Int)),
        V.sc (.int .i64 ((List.map E74 b).length : Int)) = V.sc (.int .i64 (b.length : Int)),
        ((a.length : Int) != (b.length : Int)) = false,
        Loop Tryz.prog (sub (codeOf Tryz.prog 32) [1, 1, 0, 1, 0, 0]) (st 27 [(0, V.sl false 74 (List.map E74 a)), (1, V.sl false 74 (List.map E74 b)), (5, V.sc (.int .i64 0))] [] []) (X.ret) (st 27 [(4, V.sc (.bool false))] [] [])]) (by kernel_rfl) (cj (len_nm _ _) (cj (len_nm _ _) (cj h1 (cj1 ((laws_eqHoldS_l0_ok a b h7 a [] rfl r2 h8).at h10))))))))) (fun h7 =>
     Pn.none))
def laws_eqIntS_l0 (a : List Int) (b : List Int) : List Int → List Int → Option (Lo Unit Unit)
  | [], p1 =>
   some (.out ())
  | x1 :: t1, p1 =>
   (b[(p1.length : Int).toNat]?).bind fun x2 =>
   if (x1 != x2) = true then
    some (.ret ())
   else
    laws_eqIntS_l0 a b t1 (p1 ++ [x1])
theorem laws_eqIntS_l0_ok (a : List Int) (b : List Int) (h3 : capOk a.length = true) : ∀ (t1 p1 : List Int) (_ : a = p1 ++ t1) , Pn (LpO Tryz.prog (sub (codeOf Tryz.prog 71) [1, 1, 0, 1, 0, 0]) (st 26 [(0, V.sl false 3 (List.map E3 a)), (1, V.sl false 3 (List.map E3 b)), (5, V.sc (.int .i64 (p1.length : Int)))] [] []) (fun (y : Lo Unit Unit) => Lo.elim y (fun s => (X.out 0, st 26 [] [] [])) (fun s => (X.ret, st 26 [(4, V.sc (.bool false))] [] [])))) (laws_eqIntS_l0 a b t1 p1)
  | [], p1, h2 => by
    unfold laws_eqIntS_l0
    exact
     Pn.some (LpO.out [.wait 3, .nm 13 (V.sc (.int .i64 (a.length : Int))), .bit false, .mask [], .ren []] (p := [V.sc (.int .i64 ((List.map E3 a).length : Int)) = V.sc (.int .i64 (a.length : Int)),
      (decide ((p1.length : Int) < (a.length : Int))) = false]) (by kernel_rfl) (show X.out 0 ≠ X.go from nofun) (cj (len_nm _ _) (cj1 (rng_end h2))))
  | x1 :: t1, p1, h2 => by
    unfold laws_eqIntS_l0
    exact
     Pn.bind (fun x2 h4 =>
      Pn.ite (fun h5 =>
       Pn.some (LpO.out [.wait 3, .nm 13 (V.sc (.int .i64 (a.length : Int))), .bit true, .draw [], .el (E3 x1), .el (E3 x2), .bit true, .wait 1, .mask [4], .ren []] (p := [V.sc (.int .i64 ((List.map E3 a).length : Int)) = V.sc (.int .i64 (a.length : Int)),
        (decide ((p1.length : Int) < (a.length : Int))) = true,
        (0 : Int) ≤ (p1.length : Int),
        (List.map E3 a)[(p1.length : Int).toNat]? = some (E3 x1),
        (0 : Int) ≤ (p1.length : Int),
        (List.map E3 b)[(p1.length : Int).toNat]? = some (E3 x2),
        (x1 != x2) = true]) (by kernel_rfl) (show X.ret ≠ X.go from nofun) (cj (len_nm _ _) (cj (rng_lt h2) (cj (by omega) (cj (rng_get _ h2) (cj (by omega) (cj (map_get h4) (cj1 h5))))))))) (fun h5 =>
       LpO.go [.wait 3, .nm 13 (V.sc (.int .i64 (a.length : Int))), .bit true, .draw [], .el (E3 x1), .el (E3 x2), .bit false, .wait 3, .mask [0, 1, 5], .ren [], .nm 5 (V.sc (.int .i64 ((p1 ++ [x1]).length : Int)))] (p := [V.sc (.int .i64 ((List.map E3 a).length : Int)) = V.sc (.int .i64 (a.length : Int)),
        (decide ((p1.length : Int) < (a.length : Int))) = true,
        (0 : Int) ≤ (p1.length : Int),
        (List.map E3 a)[(p1.length : Int).toNat]? = some (E3 x1),
        (0 : Int) ≤ (p1.length : Int),
        (List.map E3 b)[(p1.length : Int).toNat]? = some (E3 x2),
        (x1 != x2) = false,
        V.sc (.int .i64 (i64 ((p1.length : Int) + 1))) = V.sc (.int .i64 ((p1 ++ [x1]).length : Int))]) (by kernel_rfl) (cj (len_nm _ _) (cj (rng_lt h2) (cj (by omega) (cj (rng_get _ h2) (cj (by omega) (cj (map_get h4) (cj h5 (cj1 (rng_next h2 h3))))))))) (laws_eqIntS_l0_ok a b h3 t1 (p1 ++ [x1]) (rng_step h2))))
def laws_eqIntS (a : List Int) (b : List Int) : Option (Bool) :=
 if ((a.length : Int) != (b.length : Int)) = true then
  some false
 else
  if (capOk a.length) = true then
   (laws_eqIntS_l0 a b a []).bind fun r1 =>
   Lo.elim r1 (fun s1 =>
    some true) (fun s2 =>
    some false)
  else none
theorem laws_eqIntS_ok (a : List Int) (b : List Int) : Pn (fun y => Fn Tryz.prog 71 [(false, E23 a), (false, E23 b)] (E4 y) []) (laws_eqIntS a b) := by
  unfold laws_eqIntS
  exact
   Pn.ite (fun h1 =>
    Pn.some (Fn.of [.wait 3, .nm 7 (V.sc (.int .i64 (a.length : Int))), .wait 2, .nm 9 (V.sc (.int .i64 (b.length : Int))), .bit true] (p := [V.sc (.int .i64 ((List.map E3 a).length : Int)) = V.sc (.int .i64 (a.length : Int)),
     V.sc (.int .i64 ((List.map E3 b).length : Int)) = V.sc (.int .i64 (b.length : Int)),
     ((a.length : Int) != (b.length : Int)) = true]) (by kernel_rfl) (cj (len_nm _ _) (cj (len_nm _ _) (cj1 h1))))) (fun h1 =>
    Pn.ite (fun h6 =>
     Pn.bind (fun r1 h7 =>
      Pn.lo (fun s1 h8 =>
       Pn.some (Fn.of [.wait 3, .nm 7 (V.sc (.int .i64 (a.length : Int))), .wait 2, .nm 9 (V.sc (.int .i64 (b.length : Int))), .bit false, .wait 1, .mask [0, 1, 5], .ren [], .loop (X.out 0) (st 26 [] [] [])] (p := [V.sc (.int .i64 ((List.map E3 a).length : Int)) = V.sc (.int .i64 (a.length : Int)),
        V.sc (.int .i64 ((List.map E3 b).length : Int)) = V.sc (.int .i64 (b.length : Int)),
        ((a.length : Int) != (b.length : Int)) = false,
        Loop Tryz.prog (sub (codeOf Tryz.prog 71) [1, 1, 0, 1, 0, 0]) (st 26 [(0, V.sl false 3 (List.map E3 a)), (1, V.sl false 3 (List.map E3 b)), (5, V.sc (.int .i64 0))] [] []) (X.out 0) (st 26 [] [] [])]) (by kernel_rfl) (cj (len_nm _ _) (cj (len_nm _ _) (cj h1 (cj1 ((laws_eqIntS_l0_ok a b h6 a [] rfl r1 h7).at h8))))))) (fun s2 h9 =>
       Pn.some (Fn.of [.wait 3, .nm 7 (V.sc (.int .i64 (a.length : Int))), .wait 2, .nm 9 (V.sc (.int .i64 (b.length : Int))), .bit false, .wait 1, .mask [0, 1, 5], .ren [], .loop (X.ret) (st 26 [(4, V.sc (.bool false))] [] [])] (p := [V.sc (.int .i64 ((List.map E3 a).length : Int)) = V.sc (.int .i64 (a.length : Int)),
        V.sc (.int .i64 ((List.map E3 b).length : Int)) = V.sc (.int .i64 (b.length : Int)),
        ((a.length : Int) != (b.length : Int)) = false,
        Loop Tryz.prog (sub (codeOf Tryz.prog 71) [1, 1, 0, 1, 0, 0]) (st 26 [(0, V.sl false 3 (List.map E3 a)), (1, V.sl false 3 (List.map E3 b)), (5, V.sc (.int .i64 0))] [] []) (X.ret) (st 26 [(4, V.sc (.bool false))] [] [])]) (by kernel_rfl) (cj (len_nm _ _) (cj (len_nm _ _) (cj h1 (cj1 ((laws_eqIntS_l0_ok a b h6 a [] rfl r1 h7).at h9))))))))) (fun h6 =>
     Pn.none))
def laws_eqRing (a : Ring) (b : Ring) : Option (Bool) :=
 if (a.Span != b.Span) = true then
  some false
 else
  if (a.Head != b.Head) = true then
   some false
  else
   (laws_eqIntS a.Counts b.Counts).bind fun r1 =>
   if r1 = true then
    (laws_eqIntS a.Sums b.Sums).bind fun r2 =>
    if r2 = true then
     some true
    else
     some false
   else
    some false
theorem laws_eqRing_ok (a : Ring) (b : Ring) : Pn (fun y => Fn Tryz.prog 33 [(false, E31 a), (false, E31 b)] (E4 y) []) (laws_eqRing a b) := by
  unfold laws_eqRing
  exact
   Pn.ite (fun h1 =>
    Pn.some (Fn.of [.bit true] (p := [(a.Span != b.Span) = true]) (by kernel_rfl) (cj1 h1))) (fun h1 =>
    Pn.ite (fun h2 =>
     Pn.some (Fn.of [.bit false, .bit true] (p := [(a.Span != b.Span) = false,
      (a.Head != b.Head) = true]) (by kernel_rfl) (cj h1 (cj1 h2)))) (fun h2 =>
     Pn.bind (fun r1 h3 =>
      Pn.ite (fun h4 =>
       Pn.bind (fun r2 h5 =>
        Pn.ite (fun h6 =>
         Pn.some (Fn.of [.bit false, .bit false, .call [] (E4 r1) [], .bit false, .call [] (E4 r2) [], .bit false] (p := [(a.Span != b.Span) = false,
          (a.Head != b.Head) = false,
          Fn Tryz.prog 71 [(false, E23 a.Counts), (false, E23 b.Counts)] (E4 r1) [],
          (true || ((E4 r1).nv && nvL [])) = true,
          (!r1) = false,
          Fn Tryz.prog 71 [(false, E23 a.Sums), (false, E23 b.Sums)] (E4 r2) [],
          (true || ((E4 r2).nv && nvL [])) = true,
          (!r2) = false]) (by kernel_rfl) (cj h1 (cj h2 (cj (laws_eqIntS_ok a.Counts b.Counts r1 h3) (cj rfl (cj (nf h4) (cj (laws_eqIntS_ok a.Sums b.Sums r2 h5) (cj rfl (cj1 (nf h6))))))))))) (fun h6 =>
         Pn.some (Fn.of [.bit false, .bit false, .call [] (E4 r1) [], .bit false, .call [] (E4 r2) [], .bit true] (p := [(a.Span != b.Span) = false,
          (a.Head != b.Head) = false,
          Fn Tryz.prog 71 [(false, E23 a.Counts), (false, E23 b.Counts)] (E4 r1) [],
          (true || ((E4 r1).nv && nvL [])) = true,
          (!r1) = false,
          Fn Tryz.prog 71 [(false, E23 a.Sums), (false, E23 b.Sums)] (E4 r2) [],
          (true || ((E4 r2).nv && nvL [])) = true,
          (!r2) = true]) (by kernel_rfl) (cj h1 (cj h2 (cj (laws_eqIntS_ok a.Counts b.Counts r1 h3) (cj rfl (cj (nf h4) (cj (laws_eqIntS_ok a.Sums b.Sums r2 h5) (cj rfl (cj1 (nt h6))))))))))))) (fun h4 =>
       Pn.some (Fn.of [.bit false, .bit false, .call [] (E4 r1) [], .bit true] (p := [(a.Span != b.Span) = false,
        (a.Head != b.Head) = false,
        Fn Tryz.prog 71 [(false, E23 a.Counts), (false, E23 b.Counts)] (E4 r1) [],
        (true || ((E4 r1).nv && nvL [])) = true,
        (!r1) = true]) (by kernel_rfl) (cj h1 (cj h2 (cj (laws_eqIntS_ok a.Counts b.Counts r1 h3) (cj rfl (cj1 (nt h4)))))))))))
def laws_eqByteS_l0 (a : List Int) (b : List Int) : List Int → List Int → Option (Lo Unit Unit)
  | [], p1 =>
   some (.out ())
  | x1 :: t1, p1 =>
   (b[(p1.length : Int).toNat]?).bind fun x2 =>
   if (x1 != x2) = true then
    some (.ret ())
   else
    laws_eqByteS_l0 a b t1 (p1 ++ [x1])
theorem laws_eqByteS_l0_ok (a : List Int) (b : List Int) (h3 : capOk a.length = true) : ∀ (t1 p1 : List Int) (_ : a = p1 ++ t1) , Pn (LpO Tryz.prog (sub (codeOf Tryz.prog 101) [1, 1, 0, 1, 0, 0]) (st 26 [(0, V.sl false 5 (List.map E5 a)), (1, V.sl false 5 (List.map E5 b)), (5, V.sc (.int .i64 (p1.length : Int)))] [] []) (fun (y : Lo Unit Unit) => Lo.elim y (fun s => (X.out 0, st 26 [] [] [])) (fun s => (X.ret, st 26 [(4, V.sc (.bool false))] [] [])))) (laws_eqByteS_l0 a b t1 p1)
  | [], p1, h2 => by
    unfold laws_eqByteS_l0
    exact
     Pn.some (LpO.out [.wait 3, .nm 13 (V.sc (.int .i64 (a.length : Int))), .bit false, .mask [], .ren []] (p := [V.sc (.int .i64 ((List.map E5 a).length : Int)) = V.sc (.int .i64 (a.length : Int)),
      (decide ((p1.length : Int) < (a.length : Int))) = false]) (by kernel_rfl) (show X.out 0 ≠ X.go from nofun) (cj (len_nm _ _) (cj1 (rng_end h2))))
  | x1 :: t1, p1, h2 => by
    unfold laws_eqByteS_l0
    exact
     Pn.bind (fun x2 h4 =>
      Pn.ite (fun h5 =>
       Pn.some (LpO.out [.wait 3, .nm 13 (V.sc (.int .i64 (a.length : Int))), .bit true, .draw [], .el (E5 x1), .el (E5 x2), .bit true, .wait 1, .mask [4], .ren []] (p := [V.sc (.int .i64 ((List.map E5 a).length : Int)) = V.sc (.int .i64 (a.length : Int)),
        (decide ((p1.length : Int) < (a.length : Int))) = true,
        (0 : Int) ≤ (p1.length : Int),
        (List.map E5 a)[(p1.length : Int).toNat]? = some (E5 x1),
        (0 : Int) ≤ (p1.length : Int),
        (List.map E5 b)[(p1.length : Int).toNat]? = some (E5 x2),
        (x1 != x2) = true]) (by kernel_rfl) (show X.ret ≠ X.go from nofun) (cj (len_nm _ _) (cj (rng_lt h2) (cj (by omega) (cj (rng_get _ h2) (cj (by omega) (cj (map_get h4) (cj1 h5))))))))) (fun h5 =>
       LpO.go [.wait 3, .nm 13 (V.sc (.int .i64 (a.length : Int))), .bit true, .draw [], .el (E5 x1), .el (E5 x2), .bit false, .wait 3, .mask [0, 1, 5], .ren [], .nm 5 (V.sc (.int .i64 ((p1 ++ [x1]).length : Int)))] (p := [V.sc (.int .i64 ((List.map E5 a).length : Int)) = V.sc (.int .i64 (a.length : Int)),
        (decide ((p1.length : Int) < (a.length : Int))) = true,
        (0 : Int) ≤ (p1.length : Int),
        (List.map E5 a)[(p1.length : Int).toNat]? = some (E5 x1),
        (0 : Int) ≤ (p1.length : Int),
        (List.map E5 b)[(p1.length : Int).toNat]? = some (E5 x2),
        (x1 != x2) = false,
        V.sc (.int .i64 (i64 ((p1.length : Int) + 1))) = V.sc (.int .i64 ((p1 ++ [x1]).length : Int))]) (by kernel_rfl) (cj (len_nm _ _) (cj (rng_lt h2) (cj (by omega) (cj (rng_get _ h2) (cj (by omega) (cj (map_get h4) (cj h5 (cj1 (rng_next h2 h3))))))))) (laws_eqByteS_l0_ok a b h3 t1 (p1 ++ [x1]) (rng_step h2))))
def laws_eqByteS (a : List Int) (b : List Int) : Option (Bool) :=
 if ((a.length : Int) != (b.length : Int)) = true then
  some false
 else
  if (capOk a.length) = true then
   (laws_eqByteS_l0 a b a []).bind fun r1 =>
   Lo.elim r1 (fun s1 =>
    some true) (fun s2 =>
    some false)
  else none
theorem laws_eqByteS_ok (a : List Int) (b : List Int) : Pn (fun y => Fn Tryz.prog 101 [(false, E85 a), (false, E85 b)] (E4 y) []) (laws_eqByteS a b) := by
  unfold laws_eqByteS
  exact
   Pn.ite (fun h1 =>
    Pn.some (Fn.of [.wait 3, .nm 7 (V.sc (.int .i64 (a.length : Int))), .wait 2, .nm 9 (V.sc (.int .i64 (b.length : Int))), .bit true] (p := [V.sc (.int .i64 ((List.map E5 a).length : Int)) = V.sc (.int .i64 (a.length : Int)),
     V.sc (.int .i64 ((List.map E5 b).length : Int)) = V.sc (.int .i64 (b.length : Int)),
     ((a.length : Int) != (b.length : Int)) = true]) (by kernel_rfl) (cj (len_nm _ _) (cj (len_nm _ _) (cj1 h1))))) (fun h1 =>
    Pn.ite (fun h6 =>
     Pn.bind (fun r1 h7 =>
      Pn.lo (fun s1 h8 =>
       Pn.some (Fn.of [.wait 3, .nm 7 (V.sc (.int .i64 (a.length : Int))), .wait 2, .nm 9 (V.sc (.int .i64 (b.length : Int))), .bit false, .wait 1, .mask [0, 1, 5], .ren [], .loop (X.out 0) (st 26 [] [] [])] (p := [V.sc (.int .i64 ((List.map E5 a).length : Int)) = V.sc (.int .i64 (a.length : Int)),
        V.sc (.int .i64 ((List.map E5 b).length : Int)) = V.sc (.int .i64 (b.length : Int)),
        ((a.length : Int) != (b.length : Int)) = false,
        Loop Tryz.prog (sub (codeOf Tryz.prog 101) [1, 1, 0, 1, 0, 0]) (st 26 [(0, V.sl false 5 (List.map E5 a)), (1, V.sl false 5 (List.map E5 b)), (5, V.sc (.int .i64 0))] [] []) (X.out 0) (st 26 [] [] [])]) (by kernel_rfl) (cj (len_nm _ _) (cj (len_nm _ _) (cj h1 (cj1 ((laws_eqByteS_l0_ok a b h6 a [] rfl r1 h7).at h8))))))) (fun s2 h9 =>
       Pn.some (Fn.of [.wait 3, .nm 7 (V.sc (.int .i64 (a.length : Int))), .wait 2, .nm 9 (V.sc (.int .i64 (b.length : Int))), .bit false, .wait 1, .mask [0, 1, 5], .ren [], .loop (X.ret) (st 26 [(4, V.sc (.bool false))] [] [])] (p := [V.sc (.int .i64 ((List.map E5 a).length : Int)) = V.sc (.int .i64 (a.length : Int)),
        V.sc (.int .i64 ((List.map E5 b).length : Int)) = V.sc (.int .i64 (b.length : Int)),
        ((a.length : Int) != (b.length : Int)) = false,
        Loop Tryz.prog (sub (codeOf Tryz.prog 101) [1, 1, 0, 1, 0, 0]) (st 26 [(0, V.sl false 5 (List.map E5 a)), (1, V.sl false 5 (List.map E5 b)), (5, V.sc (.int .i64 0))] [] []) (X.ret) (st 26 [(4, V.sc (.bool false))] [] [])]) (by kernel_rfl) (cj (len_nm _ _) (cj (len_nm _ _) (cj h1 (cj1 ((laws_eqByteS_l0_ok a b h6 a [] rfl r1 h7).at h9))))))))) (fun h6 =>
     Pn.none))
def laws_eqSlot (a : Slot) (b : Slot) : Option (Bool) :=
 if (a.Trace == b.Trace) = true then
  if (a.Mti == b.Mti) = true then
   (laws_eqByteS a.Reply b.Reply).bind fun r1 =>
   if r1 = true then
    some true
   else
    some false
  else
   some false
 else
  some false
theorem laws_eqSlot_ok (a : Slot) (b : Slot) : Pn (fun y => Fn Tryz.prog 72 [(false, E94 a), (false, E94 b)] (E4 y) []) (laws_eqSlot a b) := by
  unfold laws_eqSlot
  exact
   Pn.ite (fun h1 =>
    Pn.ite (fun h2 =>
     Pn.bind (fun r1 h3 =>
      Pn.ite (fun h4 =>
       Pn.some (Fn.of [.bit false, .bit false, .call [] (E4 r1) [], .bit false] (p := [(!(a.Trace == b.Trace)) = false,
        (!(a.Mti == b.Mti)) = false,
        Fn Tryz.prog 101 [(false, E85 a.Reply), (false, E85 b.Reply)] (E4 r1) [],
        (true || ((E4 r1).nv && nvL [])) = true,
        (!r1) = false]) (by kernel_rfl) (cj (nf h1) (cj (nf h2) (cj (laws_eqByteS_ok a.Reply b.Reply r1 h3) (cj rfl (cj1 (nf h4)))))))) (fun h4 =>
       Pn.some (Fn.of [.bit false, .bit false, .call [] (E4 r1) [], .bit true] (p := [(!(a.Trace == b.Trace)) = false,
        (!(a.Mti == b.Mti)) = false,
        Fn Tryz.prog 101 [(false, E85 a.Reply), (false, E85 b.Reply)] (E4 r1) [],
        (true || ((E4 r1).nv && nvL [])) = true,
        (!r1) = true]) (by kernel_rfl) (cj (nf h1) (cj (nf h2) (cj (laws_eqByteS_ok a.Reply b.Reply r1 h3) (cj rfl (cj1 (nt h4)))))))))) (fun h2 =>
     Pn.some (Fn.of [.bit false, .bit true] (p := [(!(a.Trace == b.Trace)) = false,
      (!(a.Mti == b.Mti)) = true]) (by kernel_rfl) (cj (nf h1) (cj1 (nt h2)))))) (fun h1 =>
    Pn.some (Fn.of [.bit true] (p := [(!(a.Trace == b.Trace)) = true]) (by kernel_rfl) (cj1 (nt h1))))
def laws_eqSlotS_l0 (a : List Slot) (b : List Slot) : List Slot → List Slot → Option (Lo Unit Unit)
  | [], p1 =>
   some (.out ())
  | x1 :: t1, p1 =>
   (b[(p1.length : Int).toNat]?).bind fun x2 =>
   (laws_eqSlot x1 x2).bind fun r1 =>
   if r1 = true then
    laws_eqSlotS_l0 a b t1 (p1 ++ [x1])
   else
    some (.ret ())
theorem laws_eqSlotS_l0_ok (a : List Slot) (b : List Slot) (h3 : capOk a.length = true) : ∀ (t1 p1 : List Slot) (_ : a = p1 ++ t1) , Pn (LpO Tryz.prog (sub (codeOf Tryz.prog 34) [1, 1, 0, 1, 0, 0]) (st 27 [(0, V.sl false 94 (List.map E94 a)), (1, V.sl false 94 (List.map E94 b)), (5, V.sc (.int .i64 (p1.length : Int)))] [] []) (fun (y : Lo Unit Unit) => Lo.elim y (fun s => (X.out 0, st 27 [] [] [])) (fun s => (X.ret, st 27 [(4, V.sc (.bool false))] [] [])))) (laws_eqSlotS_l0 a b t1 p1)
  | [], p1, h2 => by
    unfold laws_eqSlotS_l0
    exact
     Pn.some (LpO.out [.wait 3, .nm 13 (V.sc (.int .i64 (a.length : Int))), .bit false, .mask [], .ren []] (p := [V.sc (.int .i64 ((List.map E94 a).length : Int)) = V.sc (.int .i64 (a.length : Int)),
      (decide ((p1.length : Int) < (a.length : Int))) = false]) (by kernel_rfl) (show X.out 0 ≠ X.go from nofun) (cj (len_nm _ _) (cj1 (rng_end h2))))
  | x1 :: t1, p1, h2 => by
    unfold laws_eqSlotS_l0
    exact
     Pn.bind (fun x2 h4 =>
      Pn.bind (fun r1 h5 =>
       Pn.ite (fun h6 =>
        LpO.go [.wait 3, .nm 13 (V.sc (.int .i64 (a.length : Int))), .bit true, .draw [], .el (E94 x1), .el (E94 x2), .call [] (E4 r1) [], .bit false, .wait 3, .mask [0, 1, 5], .ren [], .nm 5 (V.sc (.int .i64 ((p1 ++ [x1]).length : Int)))] (p := [V.sc (.int .i64 ((List.map E94 a).length : Int)) = V.sc (.int .i64 (a.length : Int)),
         (decide ((p1.length : Int) < (a.length : Int))) = true,
         (0 : Int) ≤ (p1.length : Int),
         (List.map E94 a)[(p1.length : Int).toNat]? = some (E94 x1),
         (0 : Int) ≤ (p1.length : Int),
         (List.map E94 b)[(p1.length : Int).toNat]? = some (E94 x2),
         Fn Tryz.prog 72 [(false, E94 x1), (false, E94 x2)] (E4 r1) [],
         (true || ((E4 r1).nv && nvL [])) = true,
         (!r1) = false,
         V.sc (.int .i64 (i64 ((p1.length : Int) + 1))) = V.sc (.int .i64 ((p1 ++ [x1]).length : Int))]) (by kernel_rfl) (cj (len_nm _ _) (cj (rng_lt h2) (cj (by omega) (cj (rng_get _ h2) (cj (by omega) (cj (map_get h4) (cj (laws_eqSlot_ok x1 x2 r1 h5) (cj rfl (cj (nf h6) (cj1 (rng_next h2 h3))))))))))) (laws_eqSlotS_l0_ok a b h3 t1 (p1 ++ [x1]) (rng_step h2))) (fun h6 =>
        Pn.some (LpO.out [.wait 3, .nm 13 (V.sc (.int .i64 (a.length : Int))), .bit true, .draw [], .el (E94 x1), .el (E94 x2), .call [] (E4 r1) [], .bit true, .wait 1, .mask [4], .ren []] (p := [V.sc (.int .i64 ((List.map E94 a).length : Int)) = V.sc (.int .i64 (a.length : Int)),
         (decide ((p1.length : Int) < (a.length : Int))) = true,
         (0 : Int) ≤ (p1.length : Int),
         (List.map E94 a)[(p1.length : Int).toNat]? = some (E94 x1),
         (0 : Int) ≤ (p1.length : Int),
         (List.map E94 b)[(p1.length : Int).toNat]? = some (E94 x2),
         Fn Tryz.prog 72 [(false, E94 x1), (false, E94 x2)] (E4 r1) [],
         (true || ((E4 r1).nv && nvL [])) = true,
         (!r1) = true]) (by kernel_rfl) (show X.ret ≠ X.go from nofun) (cj (len_nm _ _) (cj (rng_lt h2) (cj (by omega) (cj (rng_get _ h2) (cj (by omega) (cj (map_get h4) (cj (laws_eqSlot_ok x1 x2 r1 h5) (cj rfl (cj1 (nt h6))))))))))))))
def laws_eqSlotS (a : List Slot) (b : List Slot) : Option (Bool) :=
 if ((a.length : Int) != (b.length : Int)) = true then
  some false
 else
  if (capOk a.length) = true then
   (laws_eqSlotS_l0 a b a []).bind fun r2 =>
   Lo.elim r2 (fun s1 =>
    some true) (fun s2 =>
    some false)
  else none
theorem laws_eqSlotS_ok (a : List Slot) (b : List Slot) : Pn (fun y => Fn Tryz.prog 34 [(false, E32 a), (false, E32 b)] (E4 y) []) (laws_eqSlotS a b) := by
  unfold laws_eqSlotS
  exact
   Pn.ite (fun h1 =>
    Pn.some (Fn.of [.wait 3, .nm 7 (V.sc (.int .i64 (a.length : Int))), .wait 2, .nm 9 (V.sc (.int .i64 (b.length : Int))), .bit true] (p := [V.sc (.int .i64 ((List.map E94 a).length : Int)) = V.sc (.int .i64 (a.length : Int)),
     V.sc (.int .i64 ((List.map E94 b).length : Int)) = V.sc (.int .i64 (b.length : Int)),
     ((a.length : Int) != (b.length : Int)) = true]) (by kernel_rfl) (cj (len_nm _ _) (cj (len_nm _ _) (cj1 h1))))) (fun h1 =>
    Pn.ite (fun h7 =>
     Pn.bind (fun r2 h8 =>
      Pn.lo (fun s1 h9 =>
       Pn.some (Fn.of [.wait 3, .nm 7 (V.sc (.int .i64 (a.length : Int))), .wait 2, .nm 9 (V.sc (.int .i64 (b.length : Int))), .bit false, .wait 1, .mask [0, 1, 5], .ren [], .loop (X.out 0) (st 27 [] [] [])] (p := [V.sc (.int .i64 ((List.map E94 a).length : Int)) = V.sc (.int .i64 (a.length : Int)),
        V.sc (.int .i64 ((List.map E94 b).length : Int)) = V.sc (.int .i64 (b.length : Int)),
        ((a.length : Int) != (b.length : Int)) = false,
        Loop Tryz.prog (sub (codeOf Tryz.prog 34) [1, 1, 0, 1, 0, 0]) (st 27 [(0, V.sl false 94 (List.map E94 a)), (1, V.sl false 94 (List.map E94 b)), (5, V.sc (.int .i64 0))] [] []) (X.out 0) (st 27 [] [] [])]) (by kernel_rfl) (cj (len_nm _ _) (cj (len_nm _ _) (cj h1 (cj1 ((laws_eqSlotS_l0_ok a b h7 a [] rfl r2 h8).at h9))))))) (fun s2 h10 =>
       Pn.some (Fn.of [.wait 3, .nm 7 (V.sc (.int .i64 (a.length : Int))), .wait 2, .nm 9 (V.sc (.int .i64 (b.length : Int))), .bit false, .wait 1, .mask [0, 1, 5], .ren [], .loop (X.ret) (st 27 [(4, V.sc (.bool false))] [] [])] (p := [V.sc (.int .i64 ((List.map E94 a).length : Int)) = V.sc (.int .i64 (a.length : Int)),
        V.sc (.int .i64 ((List.map E94 b).length : Int)) = V.sc (.int .i64 (b.length : Int)),
        ((a.length : Int) != (b.length : Int)) = false,
        Loop Tryz.prog (sub (codeOf Tryz.prog 34) [1, 1, 0, 1, 0, 0]) (st 27 [(0, V.sl false 94 (List.map E94 a)), (1, V.sl false 94 (List.map E94 b)), (5, V.sc (.int .i64 0))] [] []) (X.ret) (st 27 [(4, V.sc (.bool false))] [] [])]) (by kernel_rfl) (cj (len_nm _ _) (cj (len_nm _ _) (cj h1 (cj1 ((laws_eqSlotS_l0_ok a b h7 a [] rfl r2 h8).at h10))))))))) (fun h7 =>
     Pn.none))
def laws_eqAcct (a : Acct) (b : Acct) : Option (Bool) :=
 if (a.Id == b.Id) = true then
  if (a.Limit != b.Limit) = true then
   some false
  else
   if (a.Posted != b.Posted) = true then
    some false
   else
    if (a.Most != b.Most) = true then
     some false
    else
     if (a.MostSum != b.MostSum) = true then
      some false
     else
      (laws_eqHoldS a.Holds b.Holds).bind fun r1 =>
      if r1 = true then
       (laws_eqRing a.Ring b.Ring).bind fun r2 =>
       if r2 = true then
        (laws_eqSlotS a.Slots b.Slots).bind fun r3 =>
        if r3 = true then
         some true
        else
         some false
       else
        some false
      else
       some false
 else
  some false
theorem laws_eqAcct_ok (a : Acct) (b : Acct) : Pn (fun y => Fn Tryz.prog 10 [(false, E34 a), (false, E34 b)] (E4 y) []) (laws_eqAcct a b) := by
  unfold laws_eqAcct
  exact
   Pn.ite (fun h1 =>
    Pn.ite (fun h2 =>
     Pn.some (Fn.of [.bit false, .bit true] (p := [(!(a.Id == b.Id)) = false,
      (a.Limit != b.Limit) = true]) (by kernel_rfl) (cj (nf h1) (cj1 h2)))) (fun h2 =>
     Pn.ite (fun h3 =>
      Pn.some (Fn.of [.bit false, .bit false, .bit true] (p := [(!(a.Id == b.Id)) = false,
       (a.Limit != b.Limit) = false,
       (a.Posted != b.Posted) = true]) (by kernel_rfl) (cj (nf h1) (cj h2 (cj1 h3))))) (fun h3 =>
      Pn.ite (fun h4 =>
       Pn.some (Fn.of [.bit false, .bit false, .bit false, .bit true] (p := [(!(a.Id == b.Id)) = false,
        (a.Limit != b.Limit) = false,
        (a.Posted != b.Posted) = false,
        (a.Most != b.Most) = true]) (by kernel_rfl) (cj (nf h1) (cj h2 (cj h3 (cj1 h4)))))) (fun h4 =>
       Pn.ite (fun h5 =>
        Pn.some (Fn.of [.bit false, .bit false, .bit false, .bit false, .bit true] (p := [(!(a.Id == b.Id)) = false,
         (a.Limit != b.Limit) = false,
         (a.Posted != b.Posted) = false,
         (a.Most != b.Most) = false,
         (a.MostSum != b.MostSum) = true]) (by kernel_rfl) (cj (nf h1) (cj h2 (cj h3 (cj h4 (cj1 h5))))))) (fun h5 =>
        Pn.bind (fun r1 h6 =>
         Pn.ite (fun h7 =>
          Pn.bind (fun r2 h8 =>
           Pn.ite (fun h9 =>
            Pn.bind (fun r3 h10 =>
             Pn.ite (fun h11 =>
              Pn.some (Fn.of [.bit false, .bit false, .bit false, .bit false, .bit false, .call [] (E4 r1) [], .bit false, .call [] (E4 r2) [], .bit false, .call [] (E4 r3) [], .bit false] (p := [(!(a.Id == b.Id)) = false,
               (a.Limit != b.Limit) = false,
               (a.Posted != b.Posted) = false,
               (a.Most != b.Most) = false,
               (a.MostSum != b.MostSum) = false,
               Fn Tryz.prog 32 [(false, E30 a.Holds), (false, E30 b.Holds)] (E4 r1) [],
               (true || ((E4 r1).nv && nvL [])) = true,
               (!r1) = false,
               Fn Tryz.prog 33 [(false, E31 a.Ring), (false, E31 b.Ring)] (E4 r2) [],
               (true || ((E4 r2).nv && nvL [])) = true,
               (!r2) = false,
               Fn Tryz.prog 34 [(false, E32 a.Slots), (false, E32 b.Slots)] (E4 r3) [],
               (true || ((E4 r3).nv && nvL [])) = true,
               (!r3) = false]) (by kernel_rfl) (cj (nf h1) (cj h2 (cj h3 (cj h4 (cj h5 (cj (laws_eqHoldS_ok a.Holds b.Holds r1 h6) (cj rfl (cj (nf h7) (cj (laws_eqRing_ok a.Ring b.Ring r2 h8) (cj rfl (cj (nf h9) (cj (laws_eqSlotS_ok a.Slots b.Slots r3 h10) (cj rfl (cj1 (nf h11))))))))))))))))) (fun h11 =>
              Pn.some (Fn.of [.bit false, .bit false, .bit false, .bit false, .bit false, .call [] (E4 r1) [], .bit false, .call [] (E4 r2) [], .bit false, .call [] (E4 r3) [], .bit true] (p := [(!(a.Id == b.Id)) = false,
               (a.Limit != b.Limit) = false,
               (a.Posted != b.Posted) = false,
               (a.Most != b.Most) = false,
               (a.MostSum != b.MostSum) = false,
               Fn Tryz.prog 32 [(false, E30 a.Holds), (false, E30 b.Holds)] (E4 r1) [],
               (true || ((E4 r1).nv && nvL [])) = true,
               (!r1) = false,
               Fn Tryz.prog 33 [(false, E31 a.Ring), (false, E31 b.Ring)] (E4 r2) [],
               (true || ((E4 r2).nv && nvL [])) = true,
               (!r2) = false,
               Fn Tryz.prog 34 [(false, E32 a.Slots), (false, E32 b.Slots)] (E4 r3) [],
               (true || ((E4 r3).nv && nvL [])) = true,
               (!r3) = true]) (by kernel_rfl) (cj (nf h1) (cj h2 (cj h3 (cj h4 (cj h5 (cj (laws_eqHoldS_ok a.Holds b.Holds r1 h6) (cj rfl (cj (nf h7) (cj (laws_eqRing_ok a.Ring b.Ring r2 h8) (cj rfl (cj (nf h9) (cj (laws_eqSlotS_ok a.Slots b.Slots r3 h10) (cj rfl (cj1 (nt h11))))))))))))))))))) (fun h9 =>
            Pn.some (Fn.of [.bit false, .bit false, .bit false, .bit false, .bit false, .call [] (E4 r1) [], .bit false, .call [] (E4 r2) [], .bit true] (p := [(!(a.Id == b.Id)) = false,
             (a.Limit != b.Limit) = false,
             (a.Posted != b.Posted) = false,
             (a.Most != b.Most) = false,
             (a.MostSum != b.MostSum) = false,
             Fn Tryz.prog 32 [(false, E30 a.Holds), (false, E30 b.Holds)] (E4 r1) [],
             (true || ((E4 r1).nv && nvL [])) = true,
             (!r1) = false,
             Fn Tryz.prog 33 [(false, E31 a.Ring), (false, E31 b.Ring)] (E4 r2) [],
             (true || ((E4 r2).nv && nvL [])) = true,
             (!r2) = true]) (by kernel_rfl) (cj (nf h1) (cj h2 (cj h3 (cj h4 (cj h5 (cj (laws_eqHoldS_ok a.Holds b.Holds r1 h6) (cj rfl (cj (nf h7) (cj (laws_eqRing_ok a.Ring b.Ring r2 h8) (cj rfl (cj1 (nt h9)))))))))))))))) (fun h7 =>
          Pn.some (Fn.of [.bit false, .bit false, .bit false, .bit false, .bit false, .call [] (E4 r1) [], .bit true] (p := [(!(a.Id == b.Id)) = false,
           (a.Limit != b.Limit) = false,
           (a.Posted != b.Posted) = false,
           (a.Most != b.Most) = false,
           (a.MostSum != b.MostSum) = false,
           Fn Tryz.prog 32 [(false, E30 a.Holds), (false, E30 b.Holds)] (E4 r1) [],
           (true || ((E4 r1).nv && nvL [])) = true,
           (!r1) = true]) (by kernel_rfl) (cj (nf h1) (cj h2 (cj h3 (cj h4 (cj h5 (cj (laws_eqHoldS_ok a.Holds b.Holds r1 h6) (cj rfl (cj1 (nt h7))))))))))))))))) (fun h1 =>
    Pn.some (Fn.of [.bit true] (p := [(!(a.Id == b.Id)) = true]) (by kernel_rfl) (cj1 (nt h1))))
def laws_eqAcctS_l0 (a : List Acct) (b : List Acct) : List Acct → List Acct → Option (Lo Unit Unit)
  | [], p1 =>
   some (.out ())
  | x1 :: t1, p1 =>
   (b[(p1.length : Int).toNat]?).bind fun x2 =>
   (laws_eqAcct x1 x2).bind fun r1 =>
   if r1 = true then
    laws_eqAcctS_l0 a b t1 (p1 ++ [x1])
   else
    some (.ret ())
theorem laws_eqAcctS_l0_ok (a : List Acct) (b : List Acct) (h3 : capOk a.length = true) : ∀ (t1 p1 : List Acct) (_ : a = p1 ++ t1) , Pn (LpO Tryz.prog (sub (codeOf Tryz.prog 52) [1, 1, 0, 1, 0, 0]) (st 27 [(0, V.sl false 34 (List.map E34 a)), (1, V.sl false 34 (List.map E34 b)), (5, V.sc (.int .i64 (p1.length : Int)))] [] []) (fun (y : Lo Unit Unit) => Lo.elim y (fun s => (X.out 0, st 27 [] [] [])) (fun s => (X.ret, st 27 [(4, V.sc (.bool false))] [] [])))) (laws_eqAcctS_l0 a b t1 p1)
  | [], p1, h2 => by
    unfold laws_eqAcctS_l0
    exact
     Pn.some (LpO.out [.wait 3, .nm 13 (V.sc (.int .i64 (a.length : Int))), .bit false, .mask [], .ren []] (p := [V.sc (.int .i64 ((List.map E34 a).length : Int)) = V.sc (.int .i64 (a.length : Int)),
      (decide ((p1.length : Int) < (a.length : Int))) = false]) (by kernel_rfl) (show X.out 0 ≠ X.go from nofun) (cj (len_nm _ _) (cj1 (rng_end h2))))
  | x1 :: t1, p1, h2 => by
    unfold laws_eqAcctS_l0
    exact
     Pn.bind (fun x2 h4 =>
      Pn.bind (fun r1 h5 =>
       Pn.ite (fun h6 =>
        LpO.go [.wait 3, .nm 13 (V.sc (.int .i64 (a.length : Int))), .bit true, .draw [], .el (E34 x1), .el (E34 x2), .call [] (E4 r1) [], .bit false, .wait 3, .mask [0, 1, 5], .ren [], .nm 5 (V.sc (.int .i64 ((p1 ++ [x1]).length : Int)))] (p := [V.sc (.int .i64 ((List.map E34 a).length : Int)) = V.sc (.int .i64 (a.length : Int)),
         (decide ((p1.length : Int) < (a.length : Int))) = true,
         (0 : Int) ≤ (p1.length : Int),
         (List.map E34 a)[(p1.length : Int).toNat]? = some (E34 x1),
         (0 : Int) ≤ (p1.length : Int),
         (List.map E34 b)[(p1.length : Int).toNat]? = some (E34 x2),
         Fn Tryz.prog 10 [(false, E34 x1), (false, E34 x2)] (E4 r1) [],
         (true || ((E4 r1).nv && nvL [])) = true,
         (!r1) = false,
         V.sc (.int .i64 (i64 ((p1.length : Int) + 1))) = V.sc (.int .i64 ((p1 ++ [x1]).length : Int))]) (by kernel_rfl) (cj (len_nm _ _) (cj (rng_lt h2) (cj (by omega) (cj (rng_get _ h2) (cj (by omega) (cj (map_get h4) (cj (laws_eqAcct_ok x1 x2 r1 h5) (cj rfl (cj (nf h6) (cj1 (rng_next h2 h3))))))))))) (laws_eqAcctS_l0_ok a b h3 t1 (p1 ++ [x1]) (rng_step h2))) (fun h6 =>
        Pn.some (LpO.out [.wait 3, .nm 13 (V.sc (.int .i64 (a.length : Int))), .bit true, .draw [], .el (E34 x1), .el (E34 x2), .call [] (E4 r1) [], .bit true, .wait 1, .mask [4], .ren []] (p := [V.sc (.int .i64 ((List.map E34 a).length : Int)) = V.sc (.int .i64 (a.length : Int)),
         (decide ((p1.length : Int) < (a.length : Int))) = true,
         (0 : Int) ≤ (p1.length : Int),
         (List.map E34 a)[(p1.length : Int).toNat]? = some (E34 x1),
         (0 : Int) ≤ (p1.length : Int),
         (List.map E34 b)[(p1.length : Int).toNat]? = some (E34 x2),
         Fn Tryz.prog 10 [(false, E34 x1), (false, E34 x2)] (E4 r1) [],
         (true || ((E4 r1).nv && nvL [])) = true,
         (!r1) = true]) (by kernel_rfl) (show X.ret ≠ X.go from nofun) (cj (len_nm _ _) (cj (rng_lt h2) (cj (by omega) (cj (rng_get _ h2) (cj (by omega) (cj (map_get h4) (cj (laws_eqAcct_ok x1 x2 r1 h5) (cj rfl (cj1 (nt h6))))))))))))))
def laws_eqAcctS (a : List Acct) (b : List Acct) : Option (Bool) :=
 if ((a.length : Int) != (b.length : Int)) = true then
  some false
 else
  if (capOk a.length) = true then
   (laws_eqAcctS_l0 a b a []).bind fun r2 =>
   Lo.elim r2 (fun s1 =>
    some true) (fun s2 =>
    some false)
  else none
theorem laws_eqAcctS_ok (a : List Acct) (b : List Acct) : Pn (fun y => Fn Tryz.prog 52 [(false, E48 a), (false, E48 b)] (E4 y) []) (laws_eqAcctS a b) := by
  unfold laws_eqAcctS
  exact
   Pn.ite (fun h1 =>
    Pn.some (Fn.of [.wait 3, .nm 7 (V.sc (.int .i64 (a.length : Int))), .wait 2, .nm 9 (V.sc (.int .i64 (b.length : Int))), .bit true] (p := [V.sc (.int .i64 ((List.map E34 a).length : Int)) = V.sc (.int .i64 (a.length : Int)),
     V.sc (.int .i64 ((List.map E34 b).length : Int)) = V.sc (.int .i64 (b.length : Int)),
     ((a.length : Int) != (b.length : Int)) = true]) (by kernel_rfl) (cj (len_nm _ _) (cj (len_nm _ _) (cj1 h1))))) (fun h1 =>
    Pn.ite (fun h7 =>
     Pn.bind (fun r2 h8 =>
      Pn.lo (fun s1 h9 =>
       Pn.some (Fn.of [.wait 3, .nm 7 (V.sc (.int .i64 (a.length : Int))), .wait 2, .nm 9 (V.sc (.int .i64 (b.length : Int))), .bit false, .wait 1, .mask [0, 1, 5], .ren [], .loop (X.out 0) (st 27 [] [] [])] (p := [V.sc (.int .i64 ((List.map E34 a).length : Int)) = V.sc (.int .i64 (a.length : Int)),
        V.sc (.int .i64 ((List.map E34 b).length : Int)) = V.sc (.int .i64 (b.length : Int)),
        ((a.length : Int) != (b.length : Int)) = false,
        Loop Tryz.prog (sub (codeOf Tryz.prog 52) [1, 1, 0, 1, 0, 0]) (st 27 [(0, V.sl false 34 (List.map E34 a)), (1, V.sl false 34 (List.map E34 b)), (5, V.sc (.int .i64 0))] [] []) (X.out 0) (st 27 [] [] [])]) (by kernel_rfl) (cj (len_nm _ _) (cj (len_nm _ _) (cj h1 (cj1 ((laws_eqAcctS_l0_ok a b h7 a [] rfl r2 h8).at h9))))))) (fun s2 h10 =>
       Pn.some (Fn.of [.wait 3, .nm 7 (V.sc (.int .i64 (a.length : Int))), .wait 2, .nm 9 (V.sc (.int .i64 (b.length : Int))), .bit false, .wait 1, .mask [0, 1, 5], .ren [], .loop (X.ret) (st 27 [(4, V.sc (.bool false))] [] [])] (p := [V.sc (.int .i64 ((List.map E34 a).length : Int)) = V.sc (.int .i64 (a.length : Int)),
        V.sc (.int .i64 ((List.map E34 b).length : Int)) = V.sc (.int .i64 (b.length : Int)),
        ((a.length : Int) != (b.length : Int)) = false,
        Loop Tryz.prog (sub (codeOf Tryz.prog 52) [1, 1, 0, 1, 0, 0]) (st 27 [(0, V.sl false 34 (List.map E34 a)), (1, V.sl false 34 (List.map E34 b)), (5, V.sc (.int .i64 0))] [] []) (X.ret) (st 27 [(4, V.sc (.bool false))] [] [])]) (by kernel_rfl) (cj (len_nm _ _) (cj (len_nm _ _) (cj h1 (cj1 ((laws_eqAcctS_l0_ok a b h7 a [] rfl r2 h8).at h10))))))))) (fun h7 =>
     Pn.none))
def laws_eqBook (a : Book) (b : Book) : Option (Bool) :=
 (laws_eqAcctS a.Accts b.Accts).bind fun r1 =>
 if r1 = true then
  some true
 else
  some false
theorem laws_eqBook_ok (a : Book) (b : Book) : Pn (fun y => Fn Tryz.prog 19 [(false, E50 a), (false, E50 b)] (E4 y) []) (laws_eqBook a b) := by
  unfold laws_eqBook
  exact
   Pn.bind (fun r1 h1 =>
    Pn.ite (fun h2 =>
     Pn.some (Fn.of [.call [] (E4 r1) [], .bit false] (p := [Fn Tryz.prog 52 [(false, E48 a.Accts), (false, E48 b.Accts)] (E4 r1) [],
      (true || ((E4 r1).nv && nvL [])) = true,
      (!r1) = false]) (by kernel_rfl) (cj (laws_eqAcctS_ok a.Accts b.Accts r1 h1) (cj rfl (cj1 (nf h2)))))) (fun h2 =>
     Pn.some (Fn.of [.call [] (E4 r1) [], .bit true] (p := [Fn Tryz.prog 52 [(false, E48 a.Accts), (false, E48 b.Accts)] (E4 r1) [],
      (true || ((E4 r1).nv && nvL [])) = true,
      (!r1) = true]) (by kernel_rfl) (cj (laws_eqAcctS_ok a.Accts b.Accts r1 h1) (cj rfl (cj1 (nt h2)))))))
def laws_FnExactSeenSame (aA : Book) (aB : Book) (aNow : Int) : Option (Bool) :=
 (laws_szBook aA 1048576).bind fun r1 =>
 if (decide (r1 < 0)) = true then
  some true
 else
  (laws_szBook aB r1).bind fun r2 =>
  if (decide (r2 < 0)) = true then
   some true
  else
   (laws_toBook aA).bind fun r3 =>
   (laws_toBook aB).bind fun r4 =>
   (spec_SeenSame r3 r4 aNow).bind fun r5 =>
   (laws_toBook aA).bind fun r6 =>
   (laws_toBook aB).bind fun r7 =>
   (impl_SeenSame r6 r7 aNow).bind fun r8 =>
   if (r8 == r5) = true then
    (laws_toBook aA).bind fun r9 =>
    (laws_eqBook r6 r9).bind fun r10 =>
    if r10 = true then
     (laws_toBook aB).bind fun r11 =>
     (laws_eqBook r7 r11).bind fun r12 =>
     if r12 = true then
      some true
     else
      some false
    else
     some false
   else
    some false
theorem laws_FnExactSeenSame_ok (aA : Book) (aB : Book) (aNow : Int) : Pn (fun y => Fn Tryz.prog 5 [(false, E45 aA), (false, E45 aB), (false, E3 aNow)] (E4 y) []) (laws_FnExactSeenSame aA aB aNow) := by
  unfold laws_FnExactSeenSame
  exact
   Pn.bind (fun r1 h1 =>
    Pn.ite (fun h2 =>
     Pn.some (Fn.of [.call [] (E3 r1) [], .bit true] (p := [Fn Tryz.prog 15 [(false, E45 aA), (false, E3 1048576)] (E3 r1) [],
      (true || ((E3 r1).nv && nvL [])) = true,
      (decide (r1 < 0)) = true]) (by kernel_rfl) (cj (laws_szBook_ok aA 1048576 r1 h1) (cj rfl (cj1 h2))))) (fun h2 =>
     Pn.bind (fun r2 h3 =>
      Pn.ite (fun h4 =>
       Pn.some (Fn.of [.call [] (E3 r1) [], .bit false, .call [] (E3 r2) [], .bit true] (p := [Fn Tryz.prog 15 [(false, E45 aA), (false, E3 1048576)] (E3 r1) [],
        (true || ((E3 r1).nv && nvL [])) = true,
        (decide (r1 < 0)) = false,
        Fn Tryz.prog 15 [(false, E45 aB), (false, E3 r1)] (E3 r2) [],
        (true || ((E3 r2).nv && nvL [])) = true,
        (decide (r2 < 0)) = true]) (by kernel_rfl) (cj (laws_szBook_ok aA 1048576 r1 h1) (cj rfl (cj h2 (cj (laws_szBook_ok aB r1 r2 h3) (cj rfl (cj1 h4)))))))) (fun h4 =>
       Pn.bind (fun r3 h5 =>
        Pn.bind (fun r4 h6 =>
         Pn.bind (fun r5 h7 =>
          Pn.bind (fun r6 h8 =>
           Pn.bind (fun r7 h9 =>
            Pn.bind (fun r8 h10 =>
             Pn.ite (fun h11 =>
              Pn.bind (fun r9 h12 =>
               Pn.bind (fun r10 h13 =>
                Pn.ite (fun h14 =>
                 Pn.bind (fun r11 h15 =>
                  Pn.bind (fun r12 h16 =>
                   Pn.ite (fun h17 =>
                    Pn.some (Fn.of [.call [] (E3 r1) [], .bit false, .call [] (E3 r2) [], .bit false, .draw [], .call [] (E50 r3) [], .call [] (E50 r4) [], .call [] (E4 r5) [], .call [] (E50 r6) [], .call [] (E50 r7) [], .call [] (E4 r8) [], .bit false, .draw [], .call [] (E50 r9) [], .call [] (E4 r10) [], .bit false, .draw [], .call [] (E50 r11) [], .call [] (E4 r12) [], .bit false] (p := [Fn Tryz.prog 15 [(false, E45 aA), (false, E3 1048576)] (E3 r1) [],
                     (true || ((E3 r1).nv && nvL [])) = true,
                     (decide (r1 < 0)) = false,
                     Fn Tryz.prog 15 [(false, E45 aB), (false, E3 r1)] (E3 r2) [],
                     (true || ((E3 r2).nv && nvL [])) = true,
                     (decide (r2 < 0)) = false,
                     Fn Tryz.prog 17 [(false, E45 aA)] (E50 r3) [],
                     (true || ((E50 r3).nv && nvL [])) = true,
                     Fn Tryz.prog 17 [(false, E45 aB)] (E50 r4) [],
                     (true || ((E50 r4).nv && nvL [])) = true,
                     Fn Tryz.prog 16 [(false, E50 r3), (false, E50 r4), (false, E3 aNow)] (E4 r5) [],
                     (false || ((E4 r5).nv && nvL [])) = true,
                     Fn Tryz.prog 17 [(false, E45 aA)] (E50 r6) [],
                     (true || ((E50 r6).nv && nvL [])) = true,
                     Fn Tryz.prog 17 [(false, E45 aB)] (E50 r7) [],
                     (true || ((E50 r7).nv && nvL [])) = true,
                     Fn Tryz.prog 18 [(false, E50 r6), (false, E50 r7), (false, E3 aNow)] (E4 r8) [],
                     (false || ((E4 r8).nv && nvL [])) = true,
                     (!(r8 == r5)) = false,
                     Fn Tryz.prog 17 [(false, E45 aA)] (E50 r9) [],
                     (true || ((E50 r9).nv && nvL [])) = true,
                     Fn Tryz.prog 19 [(false, E50 r6), (false, E50 r9)] (E4 r10) [],
                     (false || ((E4 r10).nv && nvL [])) = true,
                     (!r10) = false,
                     Fn Tryz.prog 17 [(false, E45 aB)] (E50 r11) [],
                     (true || ((E50 r11).nv && nvL [])) = true,
                     Fn Tryz.prog 19 [(false, E50 r7), (false, E50 r11)] (E4 r12) [],
                     (false || ((E4 r12).nv && nvL [])) = true,
                     (!r12) = false]) (by kernel_rfl) (cj (laws_szBook_ok aA 1048576 r1 h1) (cj rfl (cj h2 (cj (laws_szBook_ok aB r1 r2 h3) (cj rfl (cj h4 (cj (laws_toBook_ok aA r3 h5) (cj rfl (cj (laws_toBook_ok aB r4 h6) (cj rfl (cj (spec_SeenSame_ok r3 r4 aNow r5 h7) (cj (by simp [V.nv, nvL, nvL_all, nv_E4]) (cj (laws_toBook_ok aA r6 h8) (cj rfl (cj (laws_toBook_ok aB r7 h9) (cj rfl (cj (impl_SeenSame_ok r6 r7 aNow r8 h10) (cj (by simp [V.nv, nvL, nvL_all, nv_E4]) (cj (nf h11) (cj (laws_toBook_ok aA r9 h12) (cj rfl (cj (laws_eqBook_ok r6 r9 r10 h13) (cj (by simp [V.nv, nvL, nvL_all, nv_E4]) (cj (nf h14) (cj (laws_toBook_ok aB r11 h15) (cj rfl (cj (laws_eqBook_ok r7 r11 r12 h16) (cj (by simp [V.nv, nvL, nvL_all, nv_E4]) (cj1 (nf h17)))))))))))))))))))))))))))))))) (fun h17 =>
                    Pn.some (Fn.of [.call [] (E3 r1) [], .bit false, .call [] (E3 r2) [], .bit false, .draw [], .call [] (E50 r3) [], .call [] (E50 r4) [], .call [] (E4 r5) [], .call [] (E50 r6) [], .call [] (E50 r7) [], .call [] (E4 r8) [], .bit false, .draw [], .call [] (E50 r9) [], .call [] (E4 r10) [], .bit false, .draw [], .call [] (E50 r11) [], .call [] (E4 r12) [], .bit true] (p := [Fn Tryz.prog 15 [(false, E45 aA), (false, E3 1048576)] (E3 r1) [],
                     (true || ((E3 r1).nv && nvL [])) = true,
                     (decide (r1 < 0)) = false,
                     Fn Tryz.prog 15 [(false, E45 aB), (false, E3 r1)] (E3 r2) [],
                     (true || ((E3 r2).nv && nvL [])) = true,
                     (decide (r2 < 0)) = false,
                     Fn Tryz.prog 17 [(false, E45 aA)] (E50 r3) [],
                     (true || ((E50 r3).nv && nvL [])) = true,
                     Fn Tryz.prog 17 [(false, E45 aB)] (E50 r4) [],
                     (true || ((E50 r4).nv && nvL [])) = true,
                     Fn Tryz.prog 16 [(false, E50 r3), (false, E50 r4), (false, E3 aNow)] (E4 r5) [],
                     (false || ((E4 r5).nv && nvL [])) = true,
                     Fn Tryz.prog 17 [(false, E45 aA)] (E50 r6) [],
                     (true || ((E50 r6).nv && nvL [])) = true,
                     Fn Tryz.prog 17 [(false, E45 aB)] (E50 r7) [],
                     (true || ((E50 r7).nv && nvL [])) = true,
                     Fn Tryz.prog 18 [(false, E50 r6), (false, E50 r7), (false, E3 aNow)] (E4 r8) [],
                     (false || ((E4 r8).nv && nvL [])) = true,
                     (!(r8 == r5)) = false,
                     Fn Tryz.prog 17 [(false, E45 aA)] (E50 r9) [],
                     (true || ((E50 r9).nv && nvL [])) = true,
                     Fn Tryz.prog 19 [(false, E50 r6), (false, E50 r9)] (E4 r10) [],
                     (false || ((E4 r10).nv && nvL [])) = true,
                     (!r10) = false,
                     Fn Tryz.prog 17 [(false, E45 aB)] (E50 r11) [],
                     (true || ((E50 r11).nv && nvL [])) = true,
                     Fn Tryz.prog 19 [(false, E50 r7), (false, E50 r11)] (E4 r12) [],
                     (false || ((E4 r12).nv && nvL [])) = true,
                     (!r12) = true]) (by kernel_rfl) (cj (laws_szBook_ok aA 1048576 r1 h1) (cj rfl (cj h2 (cj (laws_szBook_ok aB r1 r2 h3) (cj rfl (cj h4 (cj (laws_toBook_ok aA r3 h5) (cj rfl (cj (laws_toBook_ok aB r4 h6) (cj rfl (cj (spec_SeenSame_ok r3 r4 aNow r5 h7) (cj (by simp [V.nv, nvL, nvL_all, nv_E4]) (cj (laws_toBook_ok aA r6 h8) (cj rfl (cj (laws_toBook_ok aB r7 h9) (cj rfl (cj (impl_SeenSame_ok r6 r7 aNow r8 h10) (cj (by simp [V.nv, nvL, nvL_all, nv_E4]) (cj (nf h11) (cj (laws_toBook_ok aA r9 h12) (cj rfl (cj (laws_eqBook_ok r6 r9 r10 h13) (cj (by simp [V.nv, nvL, nvL_all, nv_E4]) (cj (nf h14) (cj (laws_toBook_ok aB r11 h15) (cj rfl (cj (laws_eqBook_ok r7 r11 r12 h16) (cj (by simp [V.nv, nvL, nvL_all, nv_E4]) (cj1 (nt h17))))))))))))))))))))))))))))))))))) (fun h14 =>
                 Pn.some (Fn.of [.call [] (E3 r1) [], .bit false, .call [] (E3 r2) [], .bit false, .draw [], .call [] (E50 r3) [], .call [] (E50 r4) [], .call [] (E4 r5) [], .call [] (E50 r6) [], .call [] (E50 r7) [], .call [] (E4 r8) [], .bit false, .draw [], .call [] (E50 r9) [], .call [] (E4 r10) [], .bit true] (p := [Fn Tryz.prog 15 [(false, E45 aA), (false, E3 1048576)] (E3 r1) [],
                  (true || ((E3 r1).nv && nvL [])) = true,
                  (decide (r1 < 0)) = false,
                  Fn Tryz.prog 15 [(false, E45 aB), (false, E3 r1)] (E3 r2) [],
                  (true || ((E3 r2).nv && nvL [])) = true,
                  (decide (r2 < 0)) = false,
                  Fn Tryz.prog 17 [(false, E45 aA)] (E50 r3) [],
                  (true || ((E50 r3).nv && nvL [])) = true,
                  Fn Tryz.prog 17 [(false, E45 aB)] (E50 r4) [],
                  (true || ((E50 r4).nv && nvL [])) = true,
                  Fn Tryz.prog 16 [(false, E50 r3), (false, E50 r4), (false, E3 aNow)] (E4 r5) [],
                  (false || ((E4 r5).nv && nvL [])) = true,
                  Fn Tryz.prog 17 [(false, E45 aA)] (E50 r6) [],
                  (true || ((E50 r6).nv && nvL [])) = true,
                  Fn Tryz.prog 17 [(false, E45 aB)] (E50 r7) [],
                  (true || ((E50 r7).nv && nvL [])) = true,
                  Fn Tryz.prog 18 [(false, E50 r6), (false, E50 r7), (false, E3 aNow)] (E4 r8) [],
                  (false || ((E4 r8).nv && nvL [])) = true,
                  (!(r8 == r5)) = false,
                  Fn Tryz.prog 17 [(false, E45 aA)] (E50 r9) [],
                  (true || ((E50 r9).nv && nvL [])) = true,
                  Fn Tryz.prog 19 [(false, E50 r6), (false, E50 r9)] (E4 r10) [],
                  (false || ((E4 r10).nv && nvL [])) = true,
                  (!r10) = true]) (by kernel_rfl) (cj (laws_szBook_ok aA 1048576 r1 h1) (cj rfl (cj h2 (cj (laws_szBook_ok aB r1 r2 h3) (cj rfl (cj h4 (cj (laws_toBook_ok aA r3 h5) (cj rfl (cj (laws_toBook_ok aB r4 h6) (cj rfl (cj (spec_SeenSame_ok r3 r4 aNow r5 h7) (cj (by simp [V.nv, nvL, nvL_all, nv_E4]) (cj (laws_toBook_ok aA r6 h8) (cj rfl (cj (laws_toBook_ok aB r7 h9) (cj rfl (cj (impl_SeenSame_ok r6 r7 aNow r8 h10) (cj (by simp [V.nv, nvL, nvL_all, nv_E4]) (cj (nf h11) (cj (laws_toBook_ok aA r9 h12) (cj rfl (cj (laws_eqBook_ok r6 r9 r10 h13) (cj (by simp [V.nv, nvL, nvL_all, nv_E4]) (cj1 (nt h14)))))))))))))))))))))))))))))) (fun h11 =>
              Pn.some (Fn.of [.call [] (E3 r1) [], .bit false, .call [] (E3 r2) [], .bit false, .draw [], .call [] (E50 r3) [], .call [] (E50 r4) [], .call [] (E4 r5) [], .call [] (E50 r6) [], .call [] (E50 r7) [], .call [] (E4 r8) [], .bit true] (p := [Fn Tryz.prog 15 [(false, E45 aA), (false, E3 1048576)] (E3 r1) [],
               (true || ((E3 r1).nv && nvL [])) = true,
               (decide (r1 < 0)) = false,
               Fn Tryz.prog 15 [(false, E45 aB), (false, E3 r1)] (E3 r2) [],
               (true || ((E3 r2).nv && nvL [])) = true,
               (decide (r2 < 0)) = false,
               Fn Tryz.prog 17 [(false, E45 aA)] (E50 r3) [],
               (true || ((E50 r3).nv && nvL [])) = true,
               Fn Tryz.prog 17 [(false, E45 aB)] (E50 r4) [],
               (true || ((E50 r4).nv && nvL [])) = true,
               Fn Tryz.prog 16 [(false, E50 r3), (false, E50 r4), (false, E3 aNow)] (E4 r5) [],
               (false || ((E4 r5).nv && nvL [])) = true,
               Fn Tryz.prog 17 [(false, E45 aA)] (E50 r6) [],
               (true || ((E50 r6).nv && nvL [])) = true,
               Fn Tryz.prog 17 [(false, E45 aB)] (E50 r7) [],
               (true || ((E50 r7).nv && nvL [])) = true,
               Fn Tryz.prog 18 [(false, E50 r6), (false, E50 r7), (false, E3 aNow)] (E4 r8) [],
               (false || ((E4 r8).nv && nvL [])) = true,
               (!(r8 == r5)) = true]) (by kernel_rfl) (cj (laws_szBook_ok aA 1048576 r1 h1) (cj rfl (cj h2 (cj (laws_szBook_ok aB r1 r2 h3) (cj rfl (cj h4 (cj (laws_toBook_ok aA r3 h5) (cj rfl (cj (laws_toBook_ok aB r4 h6) (cj rfl (cj (spec_SeenSame_ok r3 r4 aNow r5 h7) (cj (by simp [V.nv, nvL, nvL_all, nv_E4]) (cj (laws_toBook_ok aA r6 h8) (cj rfl (cj (laws_toBook_ok aB r7 h9) (cj rfl (cj (impl_SeenSame_ok r6 r7 aNow r8 h10) (cj (by simp [V.nv, nvL, nvL_all, nv_E4]) (cj1 (nt h11))))))))))))))))))))))))))))))))
end Go.Proofs.YtaaiikopnadkeaaGreatM
