/- Printed by gen.py: functions on plain data, and that the program computes them. No condition. -/
import Derived.Test.YtobmabejfbmmfaaGreatDoorTsG0
namespace Go.Proofs.YtobmabejfbmmfaaGreatDoorM
set_option linter.unusedVariables false
set_option linter.unusedSimpArgs false
open Go.RowKit
set_option maxRecDepth 100000

def impl_HoldIdOk_l0 (s_ : ByteArray) : Nat → Int → Option (Lo Unit Unit)
  | 0, _ => none
  | fuel + 1, v1 =>
   if (decide (v1 < (s_.size : Int))) = true then
   if (decide (0 ≤ v1)) = true then
   if (decide ((v1 : Int) < (s_.size : Int))) = true then
   if (decide ((sAt s_ v1) < 48)) = true then
   if (decide ((sAt s_ v1) < 97)) = true then
   some (.ret ())
   else
   if (decide (122 < (sAt s_ v1))) = true then
   some (.ret ())
   else
   impl_HoldIdOk_l0 s_ fuel (i64 (v1 + 1))
   else
   if (decide (57 < (sAt s_ v1))) = true then
   if (decide ((sAt s_ v1) < 97)) = true then
   some (.ret ())
   else
   if (decide (122 < (sAt s_ v1))) = true then
   some (.ret ())
   else
   impl_HoldIdOk_l0 s_ fuel (i64 (v1 + 1))
   else
   impl_HoldIdOk_l0 s_ fuel (i64 (v1 + 1))
   else none
   else none
   else
   some (.out ())
theorem impl_HoldIdOk_l0_ok (s_ : ByteArray) : ∀ (fuel : Nat) (v1 : Int), Pn (LpO Tryz.prog (sub (codeOf Tryz.prog 115) [1, 0, 1, 0, 0]) (st 35 [(0, V.sc (.string s_)), (5, V.sc (.int .i64 (s_.size : Int))), (6, V.sc (.int .i64 v1))] [] []) (fun (y : Lo Unit Unit) => Lo.elim y (fun s => (X.out 0, st 35 [(0, V.sc (.string s_))] [] [])) (fun s => (X.ret, st 35 [(2, V.sc (.bool false))] [] [])))) (impl_HoldIdOk_l0 s_ fuel v1)
  | 0, _ => Pn.none
  | fuel + 1, v1 => by
    unfold impl_HoldIdOk_l0
    exact
     Pn.ite (fun h1 =>
     Pn.ite (fun h2 =>
     Pn.ite (fun h3 =>
     Pn.ite (fun h4 =>
     Pn.ite (fun h5 =>
     Pn.some (LpO.out [.bit true, .bit true, .bit true, .bit true, .bit true, .bit true, .bit true, .bit true, .bit true, .bit true, .bit true, .bit true, .bit true, .bit true, .bit true, .bit true, .bit true, .bit true, .bit true, .wait 1, .mask [2], .ren []] (p := [(decide (v1 < (s_.size : Int))) = true,
      (0 : Int) ≤ v1,
      (v1 : Int) < s_.size,
      (decide ((sAt s_ v1) < 48)) = true,
      (decide ((sAt s_ v1) < 48)) = true,
      (decide ((sAt s_ v1) < 48)) = true,
      (decide ((sAt s_ v1) < 48)) = true,
      (decide ((sAt s_ v1) < 48)) = true,
      true = true,
      true = true,
      true = true,
      (0 : Int) ≤ v1,
      (v1 : Int) < s_.size,
      true = true,
      true = true,
      (decide ((sAt s_ v1) < 97)) = true,
      (decide ((sAt s_ v1) < 97)) = true,
      (decide ((sAt s_ v1) < 97)) = true,
      (decide ((sAt s_ v1) < 97)) = true,
      true = true,
      (decide ((sAt s_ v1) < 97)) = true,
      true = true,
      true = true]) (by kernel_rfl) (show X.ret ≠ X.go from nofun) (cj h1 (cj (od h2) (cj (od h3) (cj h4 (cj h4 (cj h4 (cj h4 (cj h4 (cj rfl (cj rfl (cj rfl (cj (od h2) (cj (od h3) (cj rfl (cj rfl (cj h5 (cj h5 (cj h5 (cj h5 (cj rfl (cj h5 (cj rfl (cj1 rfl))))))))))))))))))))))))) (fun h5 =>
     Pn.ite (fun h6 =>
     Pn.some (LpO.out [.bit true, .bit true, .bit true, .bit true, .bit true, .bit true, .bit true, .bit true, .bit true, .bit true, .bit true, .bit false, .bit false, .bit false, .bit false, .bit true, .bit false, .bit true, .bit true, .wait 1, .mask [2], .ren []] (p := [(decide (v1 < (s_.size : Int))) = true,
      (0 : Int) ≤ v1,
      (v1 : Int) < s_.size,
      (decide ((sAt s_ v1) < 48)) = true,
      (decide ((sAt s_ v1) < 48)) = true,
      (decide ((sAt s_ v1) < 48)) = true,
      (decide ((sAt s_ v1) < 48)) = true,
      (decide ((sAt s_ v1) < 48)) = true,
      true = true,
      true = true,
      true = true,
      (0 : Int) ≤ v1,
      (v1 : Int) < s_.size,
      true = true,
      true = true,
      (decide ((sAt s_ v1) < 97)) = false,
      (decide ((sAt s_ v1) < 97)) = false,
      (decide ((sAt s_ v1) < 97)) = false,
      (0 : Int) ≤ v1,
      (v1 : Int) < s_.size,
      (decide ((sAt s_ v1) < 97)) = false,
      true = true,
      (decide ((sAt s_ v1) < 97)) = false,
      true = true,
      (decide (122 < (sAt s_ v1))) = true]) (by kernel_rfl) (show X.ret ≠ X.go from nofun) (cj h1 (cj (od h2) (cj (od h3) (cj h4 (cj h4 (cj h4 (cj h4 (cj h4 (cj rfl (cj rfl (cj rfl (cj (od h2) (cj (od h3) (cj rfl (cj rfl (cj h5 (cj h5 (cj h5 (cj (od h2) (cj (od h3) (cj h5 (cj rfl (cj h5 (cj rfl (cj1 h6))))))))))))))))))))))))))) (fun h6 =>
     LpO.go [.bit true, .bit true, .bit true, .bit true, .bit true, .bit true, .bit true, .bit true, .bit true, .bit true, .bit true, .bit false, .bit false, .bit false, .bit false, .bit true, .bit false, .bit true, .bit false, .wait 2, .mask [0, 5, 6], .ren []] (p := [(decide (v1 < (s_.size : Int))) = true,
      (0 : Int) ≤ v1,
      (v1 : Int) < s_.size,
      (decide ((sAt s_ v1) < 48)) = true,
      (decide ((sAt s_ v1) < 48)) = true,
      (decide ((sAt s_ v1) < 48)) = true,
      (decide ((sAt s_ v1) < 48)) = true,
      (decide ((sAt s_ v1) < 48)) = true,
      true = true,
      true = true,
      true = true,
      (0 : Int) ≤ v1,
      (v1 : Int) < s_.size,
      true = true,
      true = true,
      (decide ((sAt s_ v1) < 97)) = false,
      (decide ((sAt s_ v1) < 97)) = false,
      (decide ((sAt s_ v1) < 97)) = false,
      (0 : Int) ≤ v1,
      (v1 : Int) < s_.size,
      (decide ((sAt s_ v1) < 97)) = false,
      true = true,
      (decide ((sAt s_ v1) < 97)) = false,
      true = true,
      (decide (122 < (sAt s_ v1))) = false]) (by kernel_rfl) (cj h1 (cj (od h2) (cj (od h3) (cj h4 (cj h4 (cj h4 (cj h4 (cj h4 (cj rfl (cj rfl (cj rfl (cj (od h2) (cj (od h3) (cj rfl (cj rfl (cj h5 (cj h5 (cj h5 (cj (od h2) (cj (od h3) (cj h5 (cj rfl (cj h5 (cj rfl (cj1 h6))))))))))))))))))))))))) (impl_HoldIdOk_l0_ok s_ fuel (i64 (v1 + 1)))))) (fun h4 =>
     Pn.ite (fun h7 =>
     Pn.ite (fun h8 =>
     Pn.some (LpO.out [.bit true, .bit false, .bit false, .bit false, .bit false, .bit false, .bit true, .bit true, .bit true, .bit true, .bit true, .bit true, .bit true, .bit true, .bit true, .bit true, .bit true, .bit true, .bit true, .wait 1, .mask [2], .ren []] (p := [(decide (v1 < (s_.size : Int))) = true,
      (0 : Int) ≤ v1,
      (v1 : Int) < s_.size,
      (decide ((sAt s_ v1) < 48)) = false,
      (decide ((sAt s_ v1) < 48)) = false,
      (decide ((sAt s_ v1) < 48)) = false,
      (0 : Int) ≤ v1,
      (v1 : Int) < s_.size,
      (decide ((sAt s_ v1) < 48)) = false,
      (decide ((sAt s_ v1) < 48)) = false,
      (decide (57 < (sAt s_ v1))) = true,
      (decide (57 < (sAt s_ v1))) = true,
      (decide (57 < (sAt s_ v1))) = true,
      (0 : Int) ≤ v1,
      (v1 : Int) < s_.size,
      (decide (57 < (sAt s_ v1))) = true,
      (decide (57 < (sAt s_ v1))) = true,
      (decide ((sAt s_ v1) < 97)) = true,
      (decide ((sAt s_ v1) < 97)) = true,
      (decide ((sAt s_ v1) < 97)) = true,
      (decide ((sAt s_ v1) < 97)) = true,
      (decide (57 < (sAt s_ v1))) = true,
      (decide ((sAt s_ v1) < 97)) = true,
      (decide (57 < (sAt s_ v1))) = true,
      true = true]) (by kernel_rfl) (show X.ret ≠ X.go from nofun) (cj h1 (cj (od h2) (cj (od h3) (cj h4 (cj h4 (cj h4 (cj (od h2) (cj (od h3) (cj h4 (cj h4 (cj h7 (cj h7 (cj h7 (cj (od h2) (cj (od h3) (cj h7 (cj h7 (cj h8 (cj h8 (cj h8 (cj h8 (cj h7 (cj h8 (cj h7 (cj1 rfl))))))))))))))))))))))))))) (fun h8 =>
     Pn.ite (fun h9 =>
     Pn.some (LpO.out [.bit true, .bit false, .bit false, .bit false, .bit false, .bit false, .bit true, .bit true, .bit true, .bit true, .bit true, .bit false, .bit false, .bit false, .bit false, .bit true, .bit false, .bit true, .bit true, .wait 1, .mask [2], .ren []] (p := [(decide (v1 < (s_.size : Int))) = true,
      (0 : Int) ≤ v1,
      (v1 : Int) < s_.size,
      (decide ((sAt s_ v1) < 48)) = false,
      (decide ((sAt s_ v1) < 48)) = false,
      (decide ((sAt s_ v1) < 48)) = false,
      (0 : Int) ≤ v1,
      (v1 : Int) < s_.size,
      (decide ((sAt s_ v1) < 48)) = false,
      (decide ((sAt s_ v1) < 48)) = false,
      (decide (57 < (sAt s_ v1))) = true,
      (decide (57 < (sAt s_ v1))) = true,
      (decide (57 < (sAt s_ v1))) = true,
      (0 : Int) ≤ v1,
      (v1 : Int) < s_.size,
      (decide (57 < (sAt s_ v1))) = true,
      (decide (57 < (sAt s_ v1))) = true,
      (decide ((sAt s_ v1) < 97)) = false,
      (decide ((sAt s_ v1) < 97)) = false,
      (decide ((sAt s_ v1) < 97)) = false,
      (0 : Int) ≤ v1,
      (v1 : Int) < s_.size,
      (decide ((sAt s_ v1) < 97)) = false,
      (decide (57 < (sAt s_ v1))) = true,
      (decide ((sAt s_ v1) < 97)) = false,
      (decide (57 < (sAt s_ v1))) = true,
      (decide (122 < (sAt s_ v1))) = true]) (by kernel_rfl) (show X.ret ≠ X.go from nofun) (cj h1 (cj (od h2) (cj (od h3) (cj h4 (cj h4 (cj h4 (cj (od h2) (cj (od h3) (cj h4 (cj h4 (cj h7 (cj h7 (cj h7 (cj (od h2) (cj (od h3) (cj h7 (cj h7 (cj h8 (cj h8 (cj h8 (cj (od h2) (cj (od h3) (cj h8 (cj h7 (cj h8 (cj h7 (cj1 h9))))))))))))))))))))))))))))) (fun h9 =>
     LpO.go [.bit true, .bit false, .bit false, .bit false, .bit false, .bit false, .bit true, .bit true, .bit true, .bit true, .bit true, .bit false, .bit false, .bit false, .bit false, .bit true, .bit false, .bit true, .bit false, .wait 2, .mask [0, 5, 6], .ren []] (p := [(decide (v1 < (s_.size : Int))) = true,
      (0 : Int) ≤ v1,
      (v1 : Int) < s_.size,
      (decide ((sAt s_ v1) < 48)) = false,
      (decide ((sAt s_ v1) < 48)) = false,
      (decide ((sAt s_ v1) < 48)) = false,
      (0 : Int) ≤ v1,
      (v1 : Int) < s_.size,
      (decide ((sAt s_ v1) < 48)) = false,
      (decide ((sAt s_ v1) < 48)) = false,
      (decide (57 < (sAt s_ v1))) = true,
      (decide (57 < (sAt s_ v1))) = true,
      (decide (57 < (sAt s_ v1))) = true,
      (0 : Int) ≤ v1,
      (v1 : Int) < s_.size,
      (decide (57 < (sAt s_ v1))) = true,
      (decide (57 < (sAt s_ v1))) = true,
      (decide ((sAt s_ v1) < 97)) = false,
      (decide ((sAt s_ v1) < 97)) = false,
      (decide ((sAt s_ v1) < 97)) = false,
      (0 : Int) ≤ v1,
      (v1 : Int) < s_.size,
      (decide ((sAt s_ v1) < 97)) = false,
      (decide (57 < (sAt s_ v1))) = true,
      (decide ((sAt s_ v1) < 97)) = false,
      (decide (57 < (sAt s_ v1))) = true,
      (decide (122 < (sAt s_ v1))) = false]) (by kernel_rfl) (cj h1 (cj (od h2) (cj (od h3) (cj h4 (cj h4 (cj h4 (cj (od h2) (cj (od h3) (cj h4 (cj h4 (cj h7 (cj h7 (cj h7 (cj (od h2) (cj (od h3) (cj h7 (cj h7 (cj h8 (cj h8 (cj h8 (cj (od h2) (cj (od h3) (cj h8 (cj h7 (cj h8 (cj h7 (cj1 h9))))))))))))))))))))))))))) (impl_HoldIdOk_l0_ok s_ fuel (i64 (v1 + 1)))))) (fun h7 =>
     LpO.go [.bit true, .bit false, .bit false, .bit false, .bit false, .bit false, .bit false, .bit false, .bit false, .bit false, .bit false, .bit false, .bit false, .bit false, .wait 2, .mask [0, 5, 6], .ren []] (p := [(decide (v1 < (s_.size : Int))) = true,
      (0 : Int) ≤ v1,
      (v1 : Int) < s_.size,
      (decide ((sAt s_ v1) < 48)) = false,
      (decide ((sAt s_ v1) < 48)) = false,
      (decide ((sAt s_ v1) < 48)) = false,
      (0 : Int) ≤ v1,
      (v1 : Int) < s_.size,
      (decide ((sAt s_ v1) < 48)) = false,
      (decide ((sAt s_ v1) < 48)) = false,
      (decide (57 < (sAt s_ v1))) = false,
      (decide (57 < (sAt s_ v1))) = false,
      (decide (57 < (sAt s_ v1))) = false,
      (decide (57 < (sAt s_ v1))) = false,
      (decide (57 < (sAt s_ v1))) = false,
      (decide (57 < (sAt s_ v1))) = false,
      (decide (57 < (sAt s_ v1))) = false,
      false = false]) (by kernel_rfl) (cj h1 (cj (od h2) (cj (od h3) (cj h4 (cj h4 (cj h4 (cj (od h2) (cj (od h3) (cj h4 (cj h4 (cj h7 (cj h7 (cj h7 (cj h7 (cj h7 (cj h7 (cj h7 (cj1 rfl)))))))))))))))))) (impl_HoldIdOk_l0_ok s_ fuel (i64 (v1 + 1)))))) (fun h3 =>
     Pn.none)) (fun h2 =>
     Pn.none)) (fun h1 =>
     Pn.some (LpO.out [.bit false, .mask [0], .ren []] (p := [(decide (v1 < (s_.size : Int))) = false]) (by kernel_rfl) (show X.out 0 ≠ X.go from nofun) (cj1 h1)))
def impl_HoldIdOk (s_ : ByteArray) : Option (Bool) :=
 (impl_HoldIdOk_l0 s_ FUEL 0).bind fun r1 =>
 Lo.elim r1 (fun s1 =>
 (impl_within (s_.size : Int) 1 6).bind fun r2 =>
 some r2) (fun s2 =>
 some false)
theorem impl_HoldIdOk_ok (s_ : ByteArray) : Pn (fun y => Fn Tryz.prog 115 [(false, E9 s_)] (E4 y) []) (impl_HoldIdOk s_) := by
  unfold impl_HoldIdOk
  exact
   Pn.bind (fun r1 h10 =>
   Pn.lo (fun s1 h11 =>
   Pn.bind (fun r2 h13 =>
   Pn.some (Fn.of [.wait 5, .mask [0, 5, 6], .ren [], .loop (X.out 0) (st 35 [(0, V.sc (.string s_))] [] []), .call [] (E4 r2) []] (p := [Loop Tryz.prog (sub (codeOf Tryz.prog 115) [1, 0, 1, 0, 0]) (st 35 [(0, V.sc (.string s_)), (5, V.sc (.int .i64 (s_.size : Int))), (6, V.sc (.int .i64 0))] [] []) (X.out 0) (st 35 [(0, V.sc (.string s_))] [] []),
    Fn Tryz.prog 61 [(false, E3 (s_.size : Int)), (false, E3 1), (false, E3 6)] (E4 r2) [],
    (true || ((E4 r2).nv && nvL [])) = true]) (by kernel_rfl) (cj ((impl_HoldIdOk_l0_ok s_ FUEL 0 r1 h10).at h11 :) (cj (impl_within_ok (s_.size : Int) 1 6 r2 h13) (cj1 rfl)))))) (fun s2 h12 =>
   Pn.some (Fn.of [.wait 5, .mask [0, 5, 6], .ren [], .loop (X.ret) (st 35 [(2, V.sc (.bool false))] [] [])] (p := [Loop Tryz.prog (sub (codeOf Tryz.prog 115) [1, 0, 1, 0, 0]) (st 35 [(0, V.sc (.string s_)), (5, V.sc (.int .i64 (s_.size : Int))), (6, V.sc (.int .i64 0))] [] []) (X.ret) (st 35 [(2, V.sc (.bool false))] [] [])]) (by kernel_rfl) (cj1 ((impl_HoldIdOk_l0_ok s_ FUEL 0 r1 h10).at h12 :)))))
def impl_isTime (n : Int) : Option (Bool) :=
 (impl_within n 0 1000000000).bind fun r1 =>
 some r1
theorem impl_isTime_ok (n : Int) : Pn (fun y => Fn Tryz.prog 94 [(false, E3 n)] (E4 y) []) (impl_isTime n) := by
  unfold impl_isTime
  exact
   Pn.bind (fun r1 h1 =>
   Pn.some (Fn.of [.call [] (E4 r1) []] (p := [Fn Tryz.prog 61 [(false, E3 n), (false, E3 0), (false, E3 1000000000)] (E4 r1) [],
    (true || ((E4 r1).nv && nvL [])) = true]) (by kernel_rfl) (cj (impl_within_ok n 0 1000000000 r1 h1) (cj1 rfl))))
def impl_HoldOk (h_ : Hold) : Option (Bool) :=
 (impl_HoldIdOk h_.Id).bind fun r1 =>
 if r1 = true then
 (impl_within h_.Amount 1 9007199254740992).bind fun r2 =>
 if r2 = true then
 (impl_isTime h_.Due).bind fun r3 =>
 some r3
 else
 some false
 else
 some false
theorem impl_HoldOk_ok (h_ : Hold) : Pn (fun y => Fn Tryz.prog 92 [(false, E61 h_)] (E4 y) []) (impl_HoldOk h_) := by
  unfold impl_HoldOk
  exact
   Pn.bind (fun r1 h1 =>
   Pn.ite (fun h2 =>
   Pn.bind (fun r2 h3 =>
   Pn.ite (fun h4 =>
   Pn.bind (fun r3 h5 =>
   Pn.some (Fn.of [.call [] (E4 r1) [], .bit true, .bit true, .bit true, .call [] (E4 r2) [], .bit true, .bit true, .bit true, .bit true, .call [] (E4 r3) [], .bit true] (p := [Fn Tryz.prog 115 [(false, E9 h_.Id)] (E4 r1) [],
    (true || ((E4 r1).nv && nvL [])) = true,
    r1 = true,
    r1 = true,
    r1 = true,
    Fn Tryz.prog 61 [(false, E3 h_.Amount), (false, E3 1), (false, E3 9007199254740992)] (E4 r2) [],
    (true || ((E4 r2).nv && nvL [])) = true,
    r1 = true,
    r2 = true,
    r2 = true,
    r2 = true,
    Fn Tryz.prog 94 [(false, E3 h_.Due)] (E4 r3) [],
    (true || ((E4 r3).nv && nvL [])) = true,
    r2 = true]) (by kernel_rfl) (cj (impl_HoldIdOk_ok h_.Id r1 h1) (cj rfl (cj h2 (cj h2 (cj h2 (cj (impl_within_ok h_.Amount 1 9007199254740992 r2 h3) (cj rfl (cj h2 (cj h4 (cj h4 (cj h4 (cj (impl_isTime_ok h_.Due r3 h5) (cj rfl (cj1 h4))))))))))))))))) (fun h4 =>
   Pn.some (Fn.of [.call [] (E4 r1) [], .bit true, .bit true, .bit true, .call [] (E4 r2) [], .bit true, .bit false, .bit false, .bit false, .bit false] (p := [Fn Tryz.prog 115 [(false, E9 h_.Id)] (E4 r1) [],
    (true || ((E4 r1).nv && nvL [])) = true,
    r1 = true,
    r1 = true,
    r1 = true,
    Fn Tryz.prog 61 [(false, E3 h_.Amount), (false, E3 1), (false, E3 9007199254740992)] (E4 r2) [],
    (true || ((E4 r2).nv && nvL [])) = true,
    r1 = true,
    r2 = false,
    r2 = false,
    r2 = false,
    r2 = false]) (by kernel_rfl) (cj (impl_HoldIdOk_ok h_.Id r1 h1) (cj rfl (cj h2 (cj h2 (cj h2 (cj (impl_within_ok h_.Amount 1 9007199254740992 r2 h3) (cj rfl (cj h2 (cj h4 (cj h4 (cj h4 (cj1 h4)))))))))))))))) (fun h2 =>
   Pn.some (Fn.of [.call [] (E4 r1) [], .bit false, .bit false, .bit false, .bit false, .bit false, .bit false, .bit false, .bit false] (p := [Fn Tryz.prog 115 [(false, E9 h_.Id)] (E4 r1) [],
    (true || ((E4 r1).nv && nvL [])) = true,
    r1 = false,
    r1 = false,
    r1 = false,
    r1 = false,
    false = false,
    false = false,
    false = false,
    false = false]) (by kernel_rfl) (cj (impl_HoldIdOk_ok h_.Id r1 h1) (cj rfl (cj h2 (cj h2 (cj h2 (cj h2 (cj rfl (cj rfl (cj rfl (cj1 rfl)))))))))))))
def impl_HoldsOk_l0 (l : List Hold) : List Hold → List Hold → Option (Lo Unit Unit)
  | [], p1 =>
   some (.out ())
  | x1 :: t1, p1 =>
   (impl_HoldOk x1).bind fun r1 =>
   if r1 = true then
   if (decide (0 < (p1.length : Int))) = true then
   if (decide (0 ≤ (i64 ((p1.length : Int) - 1)))) = true then
   (l[(i64 ((p1.length : Int) - 1)).toNat]?).bind fun x2 =>
   if (Op.bytesLess x1.Id.toList x2.Id.toList || (x1.Id == x2.Id)) = true then
   some (.ret ())
   else
   impl_HoldsOk_l0 l t1 (p1 ++ [x1])
   else none
   else
   impl_HoldsOk_l0 l t1 (p1 ++ [x1])
   else
   some (.ret ())
theorem impl_HoldsOk_l0_ok (l : List Hold) (h2 : capOk l.length = true) : ∀ (t1 p1 : List Hold) (_ : l = p1 ++ t1) , Pn (LpO Tryz.prog (sub (codeOf Tryz.prog 64) [1, 0, 1, 0, 0]) (st 34 [(0, V.sl false 61 (List.map E61 l)), (5, V.sl false 61 (List.map E61 l)), (6, V.sc (.int .i64 (l.length : Int))), (7, V.sc (.int .i64 (p1.length : Int)))] [] []) (fun (y : Lo Unit Unit) => Lo.elim y (fun s => (X.out 0, st 34 [(0, V.sl false 61 (List.map E61 l))] [] [])) (fun s => (X.ret, st 34 [(2, V.sc (.bool false))] [] [])))) (impl_HoldsOk_l0 l t1 p1)
  | [], p1, h1 => by
    unfold impl_HoldsOk_l0
    exact
     Pn.some (LpO.out [.bit false, .mask [0], .ren []] (p := [(decide ((p1.length : Int) < (l.length : Int))) = false]) (by kernel_rfl) (show X.out 0 ≠ X.go from nofun) (cj1 (rng_end h1)))
  | x1 :: t1, p1, h1 => by
    unfold impl_HoldsOk_l0
    exact
     Pn.bind (fun r1 h3 =>
     Pn.ite (fun h4 =>
     Pn.ite (fun h5 =>
     Pn.ite (fun h6 =>
     Pn.bind (fun x2 h7 =>
     Pn.ite (fun h8 =>
     Pn.some (LpO.out [.bit true, .el (E61 x1), .draw [], .call [] (E4 r1) [], .bit false, .bit false, .bit false, .bit true, .bit true, .bit true, .bit true, .bit true, .bit true, .el (E61 x2), .bit true, .bit true, .bit true, .bit false, .bit true, .bit false, .bit true, .wait 1, .mask [2], .ren []] (p := [(decide ((p1.length : Int) < (l.length : Int))) = true,
      (0 : Int) ≤ (p1.length : Int),
      (List.map E61 l)[(p1.length : Int).toNat]? = some (E61 x1),
      Fn Tryz.prog 92 [(false, E61 x1)] (E4 r1) [],
      (true || ((E4 r1).nv && nvL [])) = true,
      (!r1) = false,
      (!r1) = false,
      (!r1) = false,
      (decide (0 < (p1.length : Int))) = true,
      (decide (0 < (p1.length : Int))) = true,
      (decide (0 < (p1.length : Int))) = true,
      (decide (0 < (p1.length : Int))) = true,
      (decide (0 < (p1.length : Int))) = true,
      (decide (0 < (p1.length : Int))) = true,
      (0 : Int) ≤ (i64 ((p1.length : Int) - 1)),
      (List.map E61 l)[(i64 ((p1.length : Int) - 1)).toNat]? = some (E61 x2),
      (decide (0 < (p1.length : Int))) = true,
      (decide (0 < (p1.length : Int))) = true,
      (decide (0 < (p1.length : Int))) = true,
      (!r1) = false,
      (decide (0 < (p1.length : Int))) = true,
      (!r1) = false,
      (Op.bytesLess x1.Id.toList x2.Id.toList || (x1.Id == x2.Id)) = true]) (by kernel_rfl) (show X.ret ≠ X.go from nofun) (cj (rng_lt h1) (cj (by omega) (cj (rng_get _ h1) (cj (impl_HoldOk_ok x1 r1 h3) (cj rfl (cj (nf h4) (cj (nf h4) (cj (nf h4) (cj h5 (cj h5 (cj h5 (cj h5 (cj h5 (cj h5 (cj (od h6) (cj (map_get h7) (cj h5 (cj h5 (cj h5 (cj (nf h4) (cj h5 (cj (nf h4) (cj1 h8))))))))))))))))))))))))) (fun h8 =>
     LpO.go [.bit true, .el (E61 x1), .draw [], .call [] (E4 r1) [], .bit false, .bit false, .bit false, .bit true, .bit true, .bit true, .bit true, .bit true, .bit true, .el (E61 x2), .bit true, .bit true, .bit true, .bit false, .bit true, .bit false, .bit false, .wait 2, .mask [0, 5, 6, 7], .ren [], .nm 7 (V.sc (.int .i64 ((p1 ++ [x1]).length : Int)))] (p := [(decide ((p1.length : Int) < (l.length : Int))) = true,
      (0 : Int) ≤ (p1.length : Int),
      (List.map E61 l)[(p1.length : Int).toNat]? = some (E61 x1),
      Fn Tryz.prog 92 [(false, E61 x1)] (E4 r1) [],
      (true || ((E4 r1).nv && nvL [])) = true,
      (!r1) = false,
      (!r1) = false,
      (!r1) = false,
      (decide (0 < (p1.length : Int))) = true,
      (decide (0 < (p1.length : Int))) = true,
      (decide (0 < (p1.length : Int))) = true,
      (decide (0 < (p1.length : Int))) = true,
      (decide (0 < (p1.length : Int))) = true,
      (decide (0 < (p1.length : Int))) = true,
      (0 : Int) ≤ (i64 ((p1.length : Int) - 1)),
      (List.map E61 l)[(i64 ((p1.length : Int) - 1)).toNat]? = some (E61 x2),
      (decide (0 < (p1.length : Int))) = true,
      (decide (0 < (p1.length : Int))) = true,
      (decide (0 < (p1.length : Int))) = true,
      (!r1) = false,
      (decide (0 < (p1.length : Int))) = true,
      (!r1) = false,
      (Op.bytesLess x1.Id.toList x2.Id.toList || (x1.Id == x2.Id)) = false,
      V.sc (.int .i64 (i64 ((p1.length : Int) + 1))) = V.sc (.int .i64 ((p1 ++ [x1]).length : Int))]) (by kernel_rfl) (cj (rng_lt h1) (cj (by omega) (cj (rng_get _ h1) (cj (impl_HoldOk_ok x1 r1 h3) (cj rfl (cj (nf h4) (cj (nf h4) (cj (nf h4) (cj h5 (cj h5 (cj h5 (cj h5 (cj h5 (cj h5 (cj (od h6) (cj (map_get h7) (cj h5 (cj h5 (cj h5 (cj (nf h4) (cj h5 (cj (nf h4) (cj h8 (cj1 (rng_next h1 h2))))))))))))))))))))))))) (impl_HoldsOk_l0_ok l h2 t1 (p1 ++ [x1]) (rng_step h1))))) (fun h6 =>
     Pn.none)) (fun h5 =>
     LpO.go [.bit true, .el (E61 x1), .draw [], .call [] (E4 r1) [], .bit false, .bit false, .bit false, .bit false, .bit false, .bit false, .bit false, .bit false, .bit false, .bit false, .bit false, .bit false, .bit false, .bit false, .bit false, .bit false, .wait 2, .mask [0, 5, 6, 7], .ren [], .nm 7 (V.sc (.int .i64 ((p1 ++ [x1]).length : Int)))] (p := [(decide ((p1.length : Int) < (l.length : Int))) = true,
      (0 : Int) ≤ (p1.length : Int),
      (List.map E61 l)[(p1.length : Int).toNat]? = some (E61 x1),
      Fn Tryz.prog 92 [(false, E61 x1)] (E4 r1) [],
      (true || ((E4 r1).nv && nvL [])) = true,
      (!r1) = false,
      (!r1) = false,
      (!r1) = false,
      (decide (0 < (p1.length : Int))) = false,
      (decide (0 < (p1.length : Int))) = false,
      (decide (0 < (p1.length : Int))) = false,
      (decide (0 < (p1.length : Int))) = false,
      (decide (0 < (p1.length : Int))) = false,
      (decide (0 < (p1.length : Int))) = false,
      (decide (0 < (p1.length : Int))) = false,
      (decide (0 < (p1.length : Int))) = false,
      (decide (0 < (p1.length : Int))) = false,
      (!r1) = false,
      (decide (0 < (p1.length : Int))) = false,
      (!r1) = false,
      false = false,
      V.sc (.int .i64 (i64 ((p1.length : Int) + 1))) = V.sc (.int .i64 ((p1 ++ [x1]).length : Int))]) (by kernel_rfl) (cj (rng_lt h1) (cj (by omega) (cj (rng_get _ h1) (cj (impl_HoldOk_ok x1 r1 h3) (cj rfl (cj (nf h4) (cj (nf h4) (cj (nf h4) (cj h5 (cj h5 (cj h5 (cj h5 (cj h5 (cj h5 (cj h5 (cj h5 (cj h5 (cj (nf h4) (cj h5 (cj (nf h4) (cj rfl (cj1 (rng_next h1 h2))))))))))))))))))))))) (impl_HoldsOk_l0_ok l h2 t1 (p1 ++ [x1]) (rng_step h1)))) (fun h4 =>
     Pn.some (LpO.out [.bit true, .el (E61 x1), .draw [], .call [] (E4 r1) [], .bit true, .bit true, .bit true, .bit true, .bit true, .bit true, .wait 1, .mask [2], .ren []] (p := [(decide ((p1.length : Int) < (l.length : Int))) = true,
      (0 : Int) ≤ (p1.length : Int),
      (List.map E61 l)[(p1.length : Int).toNat]? = some (E61 x1),
      Fn Tryz.prog 92 [(false, E61 x1)] (E4 r1) [],
      (true || ((E4 r1).nv && nvL [])) = true,
      (!r1) = true,
      (!r1) = true,
      (!r1) = true,
      (!r1) = true,
      (!r1) = true,
      true = true]) (by kernel_rfl) (show X.ret ≠ X.go from nofun) (cj (rng_lt h1) (cj (by omega) (cj (rng_get _ h1) (cj (impl_HoldOk_ok x1 r1 h3) (cj rfl (cj (nt h4) (cj (nt h4) (cj (nt h4) (cj (nt h4) (cj (nt h4) (cj1 rfl))))))))))))))
def impl_HoldsOk (l : List Hold) : Option (Bool) :=
 if (capOk l.length) = true then
 (impl_HoldsOk_l0 l l []).bind fun r2 =>
 Lo.elim r2 (fun s1 =>
 some (decide ((l.length : Int) ≤ 4))) (fun s2 =>
 some false)
 else none
theorem impl_HoldsOk_ok (l : List Hold) : Pn (fun y => Fn Tryz.prog 64 [(false, E22 l)] (E4 y) []) (impl_HoldsOk l) := by
  unfold impl_HoldsOk
  exact
   Pn.ite (fun h9 =>
   Pn.bind (fun r2 h10 =>
   Pn.lo (fun s1 h11 =>
   Pn.some (Fn.of [.wait 3, .nm 6 (V.sc (.int .i64 (l.length : Int))), .wait 2, .mask [0, 5, 6, 7], .ren [], .loop (X.out 0) (st 34 [(0, V.sl false 61 (List.map E61 l))] [] []), .wait 2, .nm 32 (V.sc (.int .i64 (l.length : Int)))] (p := [V.sc (.int .i64 ((List.map E61 l).length : Int)) = V.sc (.int .i64 (l.length : Int)),
    Loop Tryz.prog (sub (codeOf Tryz.prog 64) [1, 0, 1, 0, 0]) (st 34 [(0, V.sl false 61 (List.map E61 l)), (5, V.sl false 61 (List.map E61 l)), (6, V.sc (.int .i64 (l.length : Int))), (7, V.sc (.int .i64 0))] [] []) (X.out 0) (st 34 [(0, V.sl false 61 (List.map E61 l))] [] []),
    V.sc (.int .i64 ((List.map E61 l).length : Int)) = V.sc (.int .i64 (l.length : Int))]) (by kernel_rfl) (cj (len_nm _ _) (cj ((impl_HoldsOk_l0_ok l h9 l [] rfl r2 h10).at h11 :) (cj1 (len_nm _ _)))))) (fun s2 h12 =>
   Pn.some (Fn.of [.wait 3, .nm 6 (V.sc (.int .i64 (l.length : Int))), .wait 2, .mask [0, 5, 6, 7], .ren [], .loop (X.ret) (st 34 [(2, V.sc (.bool false))] [] [])] (p := [V.sc (.int .i64 ((List.map E61 l).length : Int)) = V.sc (.int .i64 (l.length : Int)),
    Loop Tryz.prog (sub (codeOf Tryz.prog 64) [1, 0, 1, 0, 0]) (st 34 [(0, V.sl false 61 (List.map E61 l)), (5, V.sl false 61 (List.map E61 l)), (6, V.sc (.int .i64 (l.length : Int))), (7, V.sc (.int .i64 0))] [] []) (X.ret) (st 34 [(2, V.sc (.bool false))] [] [])]) (by kernel_rfl) (cj (len_nm _ _) (cj1 ((impl_HoldsOk_l0_ok l h9 l [] rfl r2 h10).at h12 :))))))) (fun h9 =>
   Pn.none)
def slices_Grow_int_nil (n : Int) : Option ((List Int)) :=
 if (decide (n < 0)) = true then none else
 if (decide (0 < (i64 (n - 0)))) = true then
 if (capOk (i64 (n - 0)).toNat) = true then
 some []
 else none
 else
 some []
theorem slices_Grow_int_nil_ok (n : Int) : Pn (fun y => Fn Tryz.prog 116 [(false, V.nl 3), (false, E3 n)] (E23 y) []) (slices_Grow_int_nil n) := by
  unfold slices_Grow_int_nil
  exact
   Pn.ite (fun h1 =>
   Pn.none) (fun h1 =>
   Pn.ite (fun h2 =>
   Pn.ite (fun h3 =>
   Pn.some (Fn.of [.bit false, .bit true, .wait 5, .nb 0 (.row 3 (List.map E3 (List.replicate ((i64 (n - 0)).toNat) 0)) [])] (p := [(decide (n < 0)) = false,
    (decide (0 < (i64 (n - 0)))) = true,
    (0 : Int) ≤ 0,
    (0 : Int) ≤ 0,
    (0 : Int) ≤ 0,
    (0 : Int) < (i64 (n - 0)),
    ((i64 (n - 0)) : Int) ≤ 9223372036854775807,
    (i64 (n - 0)).toNat * 8 ≤ 140737488355328,
    Blk.row 3 (List.replicate ((i64 (n - 0)).toNat) (V.sc (.int .i64 0))) [] = Blk.row 3 (List.map E3 (List.replicate ((i64 (n - 0)).toNat) 0)) [],
    (0 : Int) ≤ 0,
    (0 : Int) ≤ 0,
    (0 : Int) ≤ ((List.map E3 (List.replicate ((i64 (n - 0)).toNat) 0)).length : Int)]) (by kernel_rfl) (cj h1 (cj h2 (cj (by decide) (cj (by decide) (cj (by decide) (cj (od h2) (cj (cap5 h2 h3) (cj (cap2 h3 (by decide)) (cj (nb_rep E3 _ 0) (cj (by decide) (cj (by decide) (cj1 (by rw [List.length_map]; exact (by omega)))))))))))))))) (fun h3 =>
   Pn.none)) (fun h2 =>
   Pn.some (Fn.of [.bit false, .bit false] (p := [(decide (n < 0)) = false,
    (decide (0 < (i64 (n - 0)))) = false]) (by kernel_rfl) (cj h1 (cj1 h2)))))
def slices_Concat_int_l0 (slices : List (List Int)) : List (List Int) → Int → Option (Int)
  | [], v1 =>
   some v1
  | x1 :: t1, v1 =>
   if (decide ((i64 (v1 + (x1.length : Int))) < 0)) = true then none else
   slices_Concat_int_l0 slices t1 (i64 (v1 + (x1.length : Int)))
theorem slices_Concat_int_l0_ok (slices : List (List Int)) (h2 : capOk slices.length = true) : ∀ (t1 p1 : List (List Int)) (_ : slices = p1 ++ t1) (v1 : Int), Pn (LpO Tryz.prog (sub (codeOf Tryz.prog 93) [1, 1, 0, 1, 0, 0]) (st 36 [(0, V.sl false 23 (List.map E23 slices)), (3, V.sc (.int .i64 v1)), (9, V.sl false 23 (List.map E23 slices)), (10, V.sc (.int .i64 (slices.length : Int))), (11, V.sc (.int .i64 (p1.length : Int)))] [] []) (fun (y : Int) => (X.out 0, st 36 [(0, V.sl false 23 (List.map E23 slices)), (3, V.sc (.int .i64 y))] [] []))) (slices_Concat_int_l0 slices t1 v1)
  | [], p1, h1, v1 => by
    unfold slices_Concat_int_l0
    exact
     Pn.some (LpO.out [.bit false, .mask [0, 3], .ren []] (p := [(decide ((p1.length : Int) < (slices.length : Int))) = false]) (by kernel_rfl) (show X.out 0 ≠ X.go from nofun) (cj1 (rng_end h1)))
  | x1 :: t1, p1, h1, v1 => by
    unfold slices_Concat_int_l0
    exact
     Pn.ite (fun h3 =>
     Pn.none) (fun h3 =>
     LpO.go [.bit true, .el (E23 x1), .wait 5, .nm 17 (V.sc (.int .i64 (x1.length : Int))), .bit false, .wait 2, .mask [0, 3, 9, 10, 11], .ren [], .nm 11 (V.sc (.int .i64 ((p1 ++ [x1]).length : Int)))] (p := [(decide ((p1.length : Int) < (slices.length : Int))) = true,
      (0 : Int) ≤ (p1.length : Int),
      (List.map E23 slices)[(p1.length : Int).toNat]? = some (E23 x1),
      V.sc (.int .i64 ((List.map E3 x1).length : Int)) = V.sc (.int .i64 (x1.length : Int)),
      (decide ((i64 (v1 + (x1.length : Int))) < 0)) = false,
      V.sc (.int .i64 (i64 ((p1.length : Int) + 1))) = V.sc (.int .i64 ((p1 ++ [x1]).length : Int))]) (by kernel_rfl) (cj (rng_lt h1) (cj (by omega) (cj (rng_get _ h1) (cj (len_nm _ _) (cj h3 (cj1 (rng_next h1 h2))))))) (slices_Concat_int_l0_ok slices h2 t1 (p1 ++ [x1]) (rng_step h1) (i64 (v1 + (x1.length : Int)))))
def slices_Concat_int_l1 (slices : List (List Int)) : List (List Int) → (List Int) → Option ((List Int))
  | [], v2 =>
   some v2
  | x2 :: t2, v2 =>
   if (capOk (v2.length + x2.length)) = true then
   slices_Concat_int_l1 slices t2 (v2 ++ x2)
   else none
theorem slices_Concat_int_l1_ok (slices : List (List Int)) (h8 : capOk slices.length = true) : ∀ (t2 p2 : List (List Int)) (_ : slices = p2 ++ t2) (v2 : List Int), Pn (LpO Tryz.prog (sub (codeOf Tryz.prog 93) [1, 1, 1, 1, 0, 1, 0, 0]) (st 36 [(6, V.ow 0), (25, V.sl false 23 (List.map E23 slices)), (26, V.sc (.int .i64 (slices.length : Int))), (27, V.sc (.int .i64 (p2.length : Int)))] [Blk.row 3 (List.map E3 v2) []] []) (fun (y : (List Int)) => (X.out 2, st 36 [(6, V.ow 0)] [Blk.row 3 (List.map E3 y) []] []))) (slices_Concat_int_l1 slices t2 v2)
  | [], p2, h7, v2 => by
    unfold slices_Concat_int_l1
    exact
     Pn.some (LpO.out [.bit false, .mask [6], .ren [0]] (p := [(decide ((p2.length : Int) < (slices.length : Int))) = false]) (by kernel_rfl) (show X.out 2 ≠ X.go from nofun) (cj1 (rng_end h7)))
  | x2 :: t2, p2, h7, v2 => by
    unfold slices_Concat_int_l1
    exact
     Pn.ite (fun h9 =>
     LpO.go [.bit true, .el (E23 x2), .cp (List.map E3 x2), .nb 1 (.row 3 (List.map E3 (v2 ++ x2)) []), .wait 4, .mask [6, 25, 26, 27], .ren [1], .nm 27 (V.sc (.int .i64 ((p2 ++ [x2]).length : Int)))] (p := [(decide ((p2.length : Int) < (slices.length : Int))) = true,
      (0 : Int) ≤ (p2.length : Int),
      (List.map E23 slices)[(p2.length : Int).toNat]? = some (E23 x2),
      (List.map E3 x2).map V.vw = (List.map E3 x2),
      (List.map E3 v2).length + (List.map E3 x2).length ≤ 9223372036854775807,
      ((List.map E3 v2).length + (List.map E3 x2).length) * 8 ≤ 140737488355328,
      Blk.row 3 ((List.map E3 v2) ++ (List.map E3 x2)) [] = Blk.row 3 (List.map E3 (v2 ++ x2)) [],
      V.sc (.int .i64 (i64 ((p2.length : Int) + 1))) = V.sc (.int .i64 ((p2 ++ [x2]).length : Int))]) (by kernel_rfl) (cj (rng_lt h7) (cj (by omega) (cj (rng_get _ h7) (cj (vw_id (fun _ => rfl) _) (cj (cap1 (capN (by simp) h9)) (cj (cap2 (capN (by simp) h9) (by decide)) (cj (nb_app E3 v2 x2) (cj1 (rng_next h7 h8))))))))) (slices_Concat_int_l1_ok slices h8 t2 (p2 ++ [x2]) (rng_step h7) (v2 ++ x2))) (fun h9 =>
     Pn.none)
def slices_Concat_int (slices : List (List Int)) : Option ((List Int)) :=
 if (capOk slices.length) = true then
 (slices_Concat_int_l0 slices slices 0).bind fun r1 =>
 (slices_Grow_int_nil r1).bind fun r2 =>
 (slices_Concat_int_l1 slices slices r2).bind fun r3 =>
 some r3
 else none
theorem slices_Concat_int_ok (slices : List (List Int)) : Pn (fun y => Fn Tryz.prog 93 [(false, E112 slices)] (E23 y) []) (slices_Concat_int slices) := by
  unfold slices_Concat_int
  exact
   Pn.ite (fun h4 =>
   Pn.bind (fun r1 h5 =>
   Pn.bind (fun r2 h6 =>
   Pn.bind (fun r3 h10 =>
   Pn.some (Fn.of [.wait 4, .nm 10 (V.sc (.int .i64 (slices.length : Int))), .wait 2, .mask [0, 3, 9, 10, 11], .ren [], .loop (X.out 0) (st 36 [(0, V.sl false 23 (List.map E23 slices)), (3, V.sc (.int .i64 r1))] [] []), .call [] (E23 r2) [], .wait 3, .nm 26 (V.sc (.int .i64 (slices.length : Int))), .wait 2, .mask [6, 25, 26, 27], .ren [0], .loop (X.out 2) (st 36 [(6, V.ow 0)] [Blk.row 3 (List.map E3 r3) []] [])] (p := [V.sc (.int .i64 ((List.map E23 slices).length : Int)) = V.sc (.int .i64 (slices.length : Int)),
    Loop Tryz.prog (sub (codeOf Tryz.prog 93) [1, 1, 0, 1, 0, 0]) (st 36 [(0, V.sl false 23 (List.map E23 slices)), (3, V.sc (.int .i64 0)), (9, V.sl false 23 (List.map E23 slices)), (10, V.sc (.int .i64 (slices.length : Int))), (11, V.sc (.int .i64 0))] [] []) (X.out 0) (st 36 [(0, V.sl false 23 (List.map E23 slices)), (3, V.sc (.int .i64 r1))] [] []),
    Fn Tryz.prog 116 [(false, V.nl 3), (false, E3 r1)] (E23 r2) [],
    (true || ((E23 r2).nv && nvL [])) = true,
    V.sc (.int .i64 ((List.map E23 slices).length : Int)) = V.sc (.int .i64 (slices.length : Int)),
    Loop Tryz.prog (sub (codeOf Tryz.prog 93) [1, 1, 1, 1, 0, 1, 0, 0]) (st 36 [(6, V.ow 0), (25, V.sl false 23 (List.map E23 slices)), (26, V.sc (.int .i64 (slices.length : Int))), (27, V.sc (.int .i64 0))] [Blk.row 3 (List.map E3 r2) []] []) (X.out 2) (st 36 [(6, V.ow 0)] [Blk.row 3 (List.map E3 r3) []] [])]) (by kernel_rfl) (cj (len_nm _ _) (cj (slices_Concat_int_l0_ok slices h4 slices [] rfl 0 r1 h5) (cj (slices_Grow_int_nil_ok r1 r2 h6) (cj rfl (cj (len_nm _ _) (cj1 (slices_Concat_int_l1_ok slices h4 slices [] rfl r2 r3 h10)))))))))))) (fun h4 =>
   Pn.none)
def impl_RingOk_l0 (r_ : Ring) (r1 : (List Int)) : List Int → Option (Lo Unit Unit)
  | [] =>
   some (.out ())
  | x1 :: t1 =>
   (impl_isMoney x1).bind fun r2 =>
   if r2 = true then
   impl_RingOk_l0 r_ r1 t1
   else
   some (.ret ())
theorem impl_RingOk_l0_ok (r_ : Ring) (r1 : (List Int)) (h3 : capOk r1.length = true) : ∀ (t1 p1 : List Int) (_ : r1 = p1 ++ t1) , Pn (LpO Tryz.prog (sub (codeOf Tryz.prog 65) [1, 1, 0, 1, 0, 0]) (st 43 [(1, V.ptr 0 0), (3, V.sc (.int .i64 (r_.Counts.length : Int))), (14, V.ow 1), (15, V.sc (.int .i64 (r1.length : Int))), (16, V.sc (.int .i64 (p1.length : Int)))] [Blk.box 25 [V.sc (.int .i64 r_.Span), V.sc (.int .i64 r_.Head), V.sl false 3 (List.map E3 r_.Counts), V.sl false 3 (List.map E3 r_.Sums)], Blk.row 3 (List.map E3 r1) []] []) (fun (y : Lo Unit Unit) => Lo.elim y (fun s => (X.out 0, st 43 [(1, V.ptr 0 0), (3, V.sc (.int .i64 (r_.Counts.length : Int)))] [Blk.box 25 [V.sc (.int .i64 r_.Span), V.sc (.int .i64 r_.Head), V.sl false 3 (List.map E3 r_.Counts), V.sl false 3 (List.map E3 r_.Sums)]] [])) (fun s => (X.ret, st 43 [(2, V.sc (.bool false))] [] [])))) (impl_RingOk_l0 r_ r1 t1)
  | [], p1, h2 => by
    unfold impl_RingOk_l0
    exact
     Pn.some (LpO.out [.bit false, .mask [1, 3], .ren [0]] (p := [(decide ((p1.length : Int) < (r1.length : Int))) = false]) (by kernel_rfl) (show X.out 0 ≠ X.go from nofun) (cj1 (rng_end h2)))
  | x1 :: t1, p1, h2 => by
    unfold impl_RingOk_l0
    exact
     Pn.bind (fun r2 h4 =>
     Pn.ite (fun h5 =>
     LpO.go [.bit true, .el (E3 x1), .call [] (E4 r2) [], .bit false, .wait 2, .mask [1, 3, 14, 15, 16], .ren [0, 1], .nm 16 (V.sc (.int .i64 ((p1 ++ [x1]).length : Int)))] (p := [(decide ((p1.length : Int) < (r1.length : Int))) = true,
      (0 : Int) ≤ (p1.length : Int),
      ((p1.length : Int) : Int) < ((List.map E3 r1).length : Int),
      look [] ((p1.length : Int).toNat) = none,
      (List.map E3 r1)[(p1.length : Int).toNat]? = some (E3 x1),
      Fn Tryz.prog 34 [(false, E3 x1)] (E4 r2) [],
      (true || ((E4 r2).nv && nvL [])) = true,
      (!r2) = false,
      V.sc (.int .i64 (i64 ((p1.length : Int) + 1))) = V.sc (.int .i64 ((p1 ++ [x1]).length : Int))]) (by kernel_rfl) (cj (rng_lt h2) (cj (by omega) (cj (rng_ltI _ h2) (cj rfl (cj (rng_get _ h2) (cj (impl_isMoney_ok x1 r2 h4) (cj rfl (cj (nf h5) (cj1 (rng_next h2 h3)))))))))) (impl_RingOk_l0_ok r_ r1 h3 t1 (p1 ++ [x1]) (rng_step h2))) (fun h5 =>
     Pn.some (LpO.out [.bit true, .el (E3 x1), .call [] (E4 r2) [], .bit true, .wait 1, .mask [2], .ren []] (p := [(decide ((p1.length : Int) < (r1.length : Int))) = true,
      (0 : Int) ≤ (p1.length : Int),
      ((p1.length : Int) : Int) < ((List.map E3 r1).length : Int),
      look [] ((p1.length : Int).toNat) = none,
      (List.map E3 r1)[(p1.length : Int).toNat]? = some (E3 x1),
      Fn Tryz.prog 34 [(false, E3 x1)] (E4 r2) [],
      (true || ((E4 r2).nv && nvL [])) = true,
      (!r2) = true]) (by kernel_rfl) (show X.ret ≠ X.go from nofun) (cj (rng_lt h2) (cj (by omega) (cj (rng_ltI _ h2) (cj rfl (cj (rng_get _ h2) (cj (impl_isMoney_ok x1 r2 h4) (cj rfl (cj1 (nt h5))))))))))))
def impl_RingOk (r_ : Ring) : Option (Bool) :=
 (slices_Concat_int [r_.Counts, r_.Sums]).bind fun r1 =>
 if (capOk r1.length) = true then
 (impl_RingOk_l0 r_ r1 r1).bind fun r3 =>
 Lo.elim r3 (fun s1 =>
 (impl_within r_.Span 1 1000).bind fun r4 =>
 if r4 = true then
 (impl_within (r_.Counts.length : Int) 1 8).bind fun r5 =>
 if r5 = true then
 if ((r_.Sums.length : Int) == (r_.Counts.length : Int)) = true then
 (impl_isTime r_.Head).bind fun r6 =>
 some r6
 else
 some false
 else
 some false
 else
 some false) (fun s2 =>
 some false)
 else none
theorem impl_RingOk_ok (r_ : Ring) : Pn (fun y => Fn Tryz.prog 65 [(false, E25 r_)] (E4 y) []) (impl_RingOk r_) := by
  unfold impl_RingOk
  exact
   Pn.bind (fun r1 h1 =>
   Pn.ite (fun h6 =>
   Pn.bind (fun r3 h7 =>
   Pn.lo (fun s1 h8 =>
   Pn.bind (fun r4 h10 =>
   Pn.ite (fun h11 =>
   Pn.bind (fun r5 h12 =>
   Pn.ite (fun h13 =>
   Pn.ite (fun h14 =>
   Pn.bind (fun r6 h15 =>
   Pn.some (Fn.of [.wait 5, .nm 8 (V.sc (.int .i64 (r_.Counts.length : Int))), .call [] (E23 r1) [], .wait 1, .nm 15 (V.sc (.int .i64 (r1.length : Int))), .wait 2, .mask [1, 3, 14, 15, 16], .ren [0, 2], .loop (X.out 0) (st 43 [(1, V.ptr 0 0), (3, V.sc (.int .i64 (r_.Counts.length : Int)))] [Blk.box 25 [V.sc (.int .i64 r_.Span), V.sc (.int .i64 r_.Head), V.sl false 3 (List.map E3 r_.Counts), V.sl false 3 (List.map E3 r_.Sums)]] []), .call [] (E4 r4) [], .bit true, .bit true, .call [] (E4 r5) [], .bit true, .bit true, .bit true, .bit true, .nm 34 (V.sc (.int .i64 (r_.Sums.length : Int))), .bit true, .bit true, .bit true, .bit true, .bit true, .bit true, .call [] (E4 r6) [], .bit true] (p := [V.sc (.int .i64 ((List.map E3 r_.Counts).length : Int)) = V.sc (.int .i64 (r_.Counts.length : Int)),
    Fn Tryz.prog 93 [(false, V.sl true 23 [V.sl false 3 (List.map E3 r_.Counts), V.sl false 3 (List.map E3 r_.Sums)])] (E23 r1) [],
    (false || ((E23 r1).nv && nvL [])) = true,
    V.sc (.int .i64 ((List.map E3 r1).length : Int)) = V.sc (.int .i64 (r1.length : Int)),
    Loop Tryz.prog (sub (codeOf Tryz.prog 65) [1, 1, 0, 1, 0, 0]) (st 43 [(1, V.ptr 0 0), (3, V.sc (.int .i64 (r_.Counts.length : Int))), (14, V.ow 1), (15, V.sc (.int .i64 (r1.length : Int))), (16, V.sc (.int .i64 0))] [Blk.box 25 [V.sc (.int .i64 r_.Span), V.sc (.int .i64 r_.Head), V.sl false 3 (List.map E3 r_.Counts), V.sl false 3 (List.map E3 r_.Sums)], Blk.row 3 (List.map E3 r1) []] []) (X.out 0) (st 43 [(1, V.ptr 0 0), (3, V.sc (.int .i64 (r_.Counts.length : Int)))] [Blk.box 25 [V.sc (.int .i64 r_.Span), V.sc (.int .i64 r_.Head), V.sl false 3 (List.map E3 r_.Counts), V.sl false 3 (List.map E3 r_.Sums)]] []),
    Fn Tryz.prog 61 [(false, E3 r_.Span), (false, E3 1), (false, E3 1000)] (E4 r4) [],
    (true || ((E4 r4).nv && nvL [])) = true,
    r4 = true,
    r4 = true,
    Fn Tryz.prog 61 [(false, E3 (r_.Counts.length : Int)), (false, E3 1), (false, E3 8)] (E4 r5) [],
    (true || ((E4 r5).nv && nvL [])) = true,
    r4 = true,
    r5 = true,
    r5 = true,
    r5 = true,
    V.sc (.int .i64 ((List.map E3 r_.Sums).length : Int)) = V.sc (.int .i64 (r_.Sums.length : Int)),
    r5 = true,
    r5 = true,
    r5 = true,
    ((r_.Sums.length : Int) == (r_.Counts.length : Int)) = true,
    ((r_.Sums.length : Int) == (r_.Counts.length : Int)) = true,
    ((r_.Sums.length : Int) == (r_.Counts.length : Int)) = true,
    Fn Tryz.prog 94 [(false, E3 r_.Head)] (E4 r6) [],
    (true || ((E4 r6).nv && nvL [])) = true,
    ((r_.Sums.length : Int) == (r_.Counts.length : Int)) = true]) (by kernel_rfl) (cj (len_nm _ _) (cj (Fn.flag 0 (by kernel_rfl) (slices_Concat_int_ok [r_.Counts, r_.Sums] r1 h1)) (cj (by simp [V.nv, nvL, nvL_all, nv_E3, nv_E23]) (cj (len_nm _ _) (cj ((impl_RingOk_l0_ok r_ r1 h6 r1 [] rfl r3 h7).at h8 :) (cj (impl_within_ok r_.Span 1 1000 r4 h10) (cj rfl (cj h11 (cj h11 (cj (impl_within_ok (r_.Counts.length : Int) 1 8 r5 h12) (cj rfl (cj h11 (cj h13 (cj h13 (cj h13 (cj (len_nm _ _) (cj h13 (cj h13 (cj h13 (cj h14 (cj h14 (cj h14 (cj (impl_isTime_ok r_.Head r6 h15) (cj rfl (cj1 h14)))))))))))))))))))))))))))) (fun h14 =>
   Pn.some (Fn.of [.wait 5, .nm 8 (V.sc (.int .i64 (r_.Counts.length : Int))), .call [] (E23 r1) [], .wait 1, .nm 15 (V.sc (.int .i64 (r1.length : Int))), .wait 2, .mask [1, 3, 14, 15, 16], .ren [0, 2], .loop (X.out 0) (st 43 [(1, V.ptr 0 0), (3, V.sc (.int .i64 (r_.Counts.length : Int)))] [Blk.box 25 [V.sc (.int .i64 r_.Span), V.sc (.int .i64 r_.Head), V.sl false 3 (List.map E3 r_.Counts), V.sl false 3 (List.map E3 r_.Sums)]] []), .call [] (E4 r4) [], .bit true, .bit true, .call [] (E4 r5) [], .bit true, .bit true, .bit true, .bit true, .nm 34 (V.sc (.int .i64 (r_.Sums.length : Int))), .bit true, .bit true, .bit true, .bit false, .bit false, .bit false, .bit false] (p := [V.sc (.int .i64 ((List.map E3 r_.Counts).length : Int)) = V.sc (.int .i64 (r_.Counts.length : Int)),
    Fn Tryz.prog 93 [(false, V.sl true 23 [V.sl false 3 (List.map E3 r_.Counts), V.sl false 3 (List.map E3 r_.Sums)])] (E23 r1) [],
    (false || ((E23 r1).nv && nvL [])) = true,
    V.sc (.int .i64 ((List.map E3 r1).length : Int)) = V.sc (.int .i64 (r1.length : Int)),
    Loop Tryz.prog (sub (codeOf Tryz.prog 65) [1, 1, 0, 1, 0, 0]) (st 43 [(1, V.ptr 0 0), (3, V.sc (.int .i64 (r_.Counts.length : Int))), (14, V.ow 1), (15, V.sc (.int .i64 (r1.length : Int))), (16, V.sc (.int .i64 0))] [Blk.box 25 [V.sc (.int .i64 r_.Span), V.sc (.int .i64 r_.Head), V.sl false 3 (List.map E3 r_.Counts), V.sl false 3 (List.map E3 r_.Sums)], Blk.row 3 (List.map E3 r1) []] []) (X.out 0) (st 43 [(1, V.ptr 0 0), (3, V.sc (.int .i64 (r_.Counts.length : Int)))] [Blk.box 25 [V.sc (.int .i64 r_.Span), V.sc (.int .i64 r_.Head), V.sl false 3 (List.map E3 r_.Counts), V.sl false 3 (List.map E3 r_.Sums)]] []),
    Fn Tryz.prog 61 [(false, E3 r_.Span), (false, E3 1), (false, E3 1000)] (E4 r4) [],
    (true || ((E4 r4).nv && nvL [])) = true,
    r4 = true,
    r4 = true,
    Fn Tryz.prog 61 [(false, E3 (r_.Counts.length : Int)), (false, E3 1), (false, E3 8)] (E4 r5) [],
    (true || ((E4 r5).nv && nvL [])) = true,
    r4 = true,
    r5 = true,
    r5 = true,
    r5 = true,
    V.sc (.int .i64 ((List.map E3 r_.Sums).length : Int)) = V.sc (.int .i64 (r_.Sums.length : Int)),
    r5 = true,
    r5 = true,
    r5 = true,
    ((r_.Sums.length : Int) == (r_.Counts.length : Int)) = false,
    ((r_.Sums.length : Int) == (r_.Counts.length : Int)) = false,
    ((r_.Sums.length : Int) == (r_.Counts.length : Int)) = false,
    ((r_.Sums.length : Int) == (r_.Counts.length : Int)) = false]) (by kernel_rfl) (cj (len_nm _ _) (cj (Fn.flag 0 (by kernel_rfl) (slices_Concat_int_ok [r_.Counts, r_.Sums] r1 h1)) (cj (by simp [V.nv, nvL, nvL_all, nv_E3, nv_E23]) (cj (len_nm _ _) (cj ((impl_RingOk_l0_ok r_ r1 h6 r1 [] rfl r3 h7).at h8 :) (cj (impl_within_ok r_.Span 1 1000 r4 h10) (cj rfl (cj h11 (cj h11 (cj (impl_within_ok (r_.Counts.length : Int) 1 8 r5 h12) (cj rfl (cj h11 (cj h13 (cj h13 (cj h13 (cj (len_nm _ _) (cj h13 (cj h13 (cj h13 (cj h14 (cj h14 (cj h14 (cj1 h14)))))))))))))))))))))))))) (fun h13 =>
   Pn.some (Fn.of [.wait 5, .nm 8 (V.sc (.int .i64 (r_.Counts.length : Int))), .call [] (E23 r1) [], .wait 1, .nm 15 (V.sc (.int .i64 (r1.length : Int))), .wait 2, .mask [1, 3, 14, 15, 16], .ren [0, 2], .loop (X.out 0) (st 43 [(1, V.ptr 0 0), (3, V.sc (.int .i64 (r_.Counts.length : Int)))] [Blk.box 25 [V.sc (.int .i64 r_.Span), V.sc (.int .i64 r_.Head), V.sl false 3 (List.map E3 r_.Counts), V.sl false 3 (List.map E3 r_.Sums)]] []), .call [] (E4 r4) [], .bit true, .bit true, .call [] (E4 r5) [], .bit true, .bit false, .bit false, .bit false, .bit false, .bit false, .bit false, .bit false, .bit false, .bit false, .bit false] (p := [V.sc (.int .i64 ((List.map E3 r_.Counts).length : Int)) = V.sc (.int .i64 (r_.Counts.length : Int)),
    Fn Tryz.prog 93 [(false, V.sl true 23 [V.sl false 3 (List.map E3 r_.Counts), V.sl false 3 (List.map E3 r_.Sums)])] (E23 r1) [],
    (false || ((E23 r1).nv && nvL [])) = true,
    V.sc (.int .i64 ((List.map E3 r1).length : Int)) = V.sc (.int .i64 (r1.length : Int)),
    Loop Tryz.prog (sub (codeOf Tryz.prog 65) [1, 1, 0, 1, 0, 0]) (st 43 [(1, V.ptr 0 0), (3, V.sc (.int .i64 (r_.Counts.length : Int))), (14, V.ow 1), (15, V.sc (.int .i64 (r1.length : Int))), (16, V.sc (.int .i64 0))] [Blk.box 25 [V.sc (.int .i64 r_.Span), V.sc (.int .i64 r_.Head), V.sl false 3 (List.map E3 r_.Counts), V.sl false 3 (List.map E3 r_.Sums)], Blk.row 3 (List.map E3 r1) []] []) (X.out 0) (st 43 [(1, V.ptr 0 0), (3, V.sc (.int .i64 (r_.Counts.length : Int)))] [Blk.box 25 [V.sc (.int .i64 r_.Span), V.sc (.int .i64 r_.Head), V.sl false 3 (List.map E3 r_.Counts), V.sl false 3 (List.map E3 r_.Sums)]] []),
    Fn Tryz.prog 61 [(false, E3 r_.Span), (false, E3 1), (false, E3 1000)] (E4 r4) [],
    (true || ((E4 r4).nv && nvL [])) = true,
    r4 = true,
    r4 = true,
    Fn Tryz.prog 61 [(false, E3 (r_.Counts.length : Int)), (false, E3 1), (false, E3 8)] (E4 r5) [],
    (true || ((E4 r5).nv && nvL [])) = true,
    r4 = true,
    r5 = false,
    r5 = false,
    r5 = false,
    r5 = false,
    r5 = false,
    r5 = false,
    false = false,
    false = false,
    false = false,
    false = false]) (by kernel_rfl) (cj (len_nm _ _) (cj (Fn.flag 0 (by kernel_rfl) (slices_Concat_int_ok [r_.Counts, r_.Sums] r1 h1)) (cj (by simp [V.nv, nvL, nvL_all, nv_E3, nv_E23]) (cj (len_nm _ _) (cj ((impl_RingOk_l0_ok r_ r1 h6 r1 [] rfl r3 h7).at h8 :) (cj (impl_within_ok r_.Span 1 1000 r4 h10) (cj rfl (cj h11 (cj h11 (cj (impl_within_ok (r_.Counts.length : Int) 1 8 r5 h12) (cj rfl (cj h11 (cj h13 (cj h13 (cj h13 (cj h13 (cj h13 (cj h13 (cj rfl (cj rfl (cj rfl (cj1 rfl)))))))))))))))))))))))))) (fun h11 =>
   Pn.some (Fn.of [.wait 5, .nm 8 (V.sc (.int .i64 (r_.Counts.length : Int))), .call [] (E23 r1) [], .wait 1, .nm 15 (V.sc (.int .i64 (r1.length : Int))), .wait 2, .mask [1, 3, 14, 15, 16], .ren [0, 2], .loop (X.out 0) (st 43 [(1, V.ptr 0 0), (3, V.sc (.int .i64 (r_.Counts.length : Int)))] [Blk.box 25 [V.sc (.int .i64 r_.Span), V.sc (.int .i64 r_.Head), V.sl false 3 (List.map E3 r_.Counts), V.sl false 3 (List.map E3 r_.Sums)]] []), .call [] (E4 r4) [], .bit false, .bit false, .bit false, .bit false, .bit false, .bit false, .bit false, .bit false, .bit false, .bit false, .bit false, .bit false, .bit false] (p := [V.sc (.int .i64 ((List.map E3 r_.Counts).length : Int)) = V.sc (.int .i64 (r_.Counts.length : Int)),
    Fn Tryz.prog 93 [(false, V.sl true 23 [V.sl false 3 (List.map E3 r_.Counts), V.sl false 3 (List.map E3 r_.Sums)])] (E23 r1) [],
    (false || ((E23 r1).nv && nvL [])) = true,
    V.sc (.int .i64 ((List.map E3 r1).length : Int)) = V.sc (.int .i64 (r1.length : Int)),
    Loop Tryz.prog (sub (codeOf Tryz.prog 65) [1, 1, 0, 1, 0, 0]) (st 43 [(1, V.ptr 0 0), (3, V.sc (.int .i64 (r_.Counts.length : Int))), (14, V.ow 1), (15, V.sc (.int .i64 (r1.length : Int))), (16, V.sc (.int .i64 0))] [Blk.box 25 [V.sc (.int .i64 r_.Span), V.sc (.int .i64 r_.Head), V.sl false 3 (List.map E3 r_.Counts), V.sl false 3 (List.map E3 r_.Sums)], Blk.row 3 (List.map E3 r1) []] []) (X.out 0) (st 43 [(1, V.ptr 0 0), (3, V.sc (.int .i64 (r_.Counts.length : Int)))] [Blk.box 25 [V.sc (.int .i64 r_.Span), V.sc (.int .i64 r_.Head), V.sl false 3 (List.map E3 r_.Counts), V.sl false 3 (List.map E3 r_.Sums)]] []),
    Fn Tryz.prog 61 [(false, E3 r_.Span), (false, E3 1), (false, E3 1000)] (E4 r4) [],
    (true || ((E4 r4).nv && nvL [])) = true,
    r4 = false,
    r4 = false,
    r4 = false,
    false = false,
    false = false,
    false = false,
    false = false,
    false = false,
    false = false,
    false = false,
    false = false,
    false = false,
    false = false]) (by kernel_rfl) (cj (len_nm _ _) (cj (Fn.flag 0 (by kernel_rfl) (slices_Concat_int_ok [r_.Counts, r_.Sums] r1 h1)) (cj (by simp [V.nv, nvL, nvL_all, nv_E3, nv_E23]) (cj (len_nm _ _) (cj ((impl_RingOk_l0_ok r_ r1 h6 r1 [] rfl r3 h7).at h8 :) (cj (impl_within_ok r_.Span 1 1000 r4 h10) (cj rfl (cj h11 (cj h11 (cj h11 (cj rfl (cj rfl (cj rfl (cj rfl (cj rfl (cj rfl (cj rfl (cj rfl (cj rfl (cj1 rfl)))))))))))))))))))))))) (fun s2 h9 =>
   Pn.some (Fn.of [.wait 5, .nm 8 (V.sc (.int .i64 (r_.Counts.length : Int))), .call [] (E23 r1) [], .wait 1, .nm 15 (V.sc (.int .i64 (r1.length : Int))), .wait 2, .mask [1, 3, 14, 15, 16], .ren [0, 2], .loop (X.ret) (st 43 [(2, V.sc (.bool false))] [] [])] (p := [V.sc (.int .i64 ((List.map E3 r_.Counts).length : Int)) = V.sc (.int .i64 (r_.Counts.length : Int)),
    Fn Tryz.prog 93 [(false, V.sl true 23 [V.sl false 3 (List.map E3 r_.Counts), V.sl false 3 (List.map E3 r_.Sums)])] (E23 r1) [],
    (false || ((E23 r1).nv && nvL [])) = true,
    V.sc (.int .i64 ((List.map E3 r1).length : Int)) = V.sc (.int .i64 (r1.length : Int)),
    Loop Tryz.prog (sub (codeOf Tryz.prog 65) [1, 1, 0, 1, 0, 0]) (st 43 [(1, V.ptr 0 0), (3, V.sc (.int .i64 (r_.Counts.length : Int))), (14, V.ow 1), (15, V.sc (.int .i64 (r1.length : Int))), (16, V.sc (.int .i64 0))] [Blk.box 25 [V.sc (.int .i64 r_.Span), V.sc (.int .i64 r_.Head), V.sl false 3 (List.map E3 r_.Counts), V.sl false 3 (List.map E3 r_.Sums)], Blk.row 3 (List.map E3 r1) []] []) (X.ret) (st 43 [(2, V.sc (.bool false))] [] [])]) (by kernel_rfl) (cj (len_nm _ _) (cj (Fn.flag 0 (by kernel_rfl) (slices_Concat_int_ok [r_.Counts, r_.Sums] r1 h1)) (cj (by simp [V.nv, nvL, nvL_all, nv_E3, nv_E23]) (cj (len_nm _ _) (cj1 ((impl_RingOk_l0_ok r_ r1 h6 r1 [] rfl r3 h7).at h9 :)))))))))) (fun h6 =>
   Pn.none))
def impl_isWide (s_ : ByteArray) (n : Int) : Option (Bool) :=
 (impl_Digits s_).bind fun r1 =>
 if r1 = true then
 some ((s_.size : Int) == n)
 else
 some false
theorem impl_isWide_ok (s_ : ByteArray) (n : Int) : Pn (fun y => Fn Tryz.prog 117 [(false, E9 s_), (false, E3 n)] (E4 y) []) (impl_isWide s_ n) := by
  unfold impl_isWide
  exact
   Pn.bind (fun r1 h1 =>
   Pn.ite (fun h2 =>
   Pn.some (Fn.of [.call [] (E4 r1) [], .bit true, .bit true, .bit true, .bit true, .bit true] (p := [Fn Tryz.prog 113 [(false, E9 s_)] (E4 r1) [],
    (true || ((E4 r1).nv && nvL [])) = true,
    r1 = true,
    r1 = true,
    r1 = true,
    r1 = true,
    r1 = true]) (by kernel_rfl) (cj (impl_Digits_ok s_ r1 h1) (cj rfl (cj h2 (cj h2 (cj h2 (cj h2 (cj1 h2))))))))) (fun h2 =>
   Pn.some (Fn.of [.call [] (E4 r1) [], .bit false, .bit false, .bit false, .bit false, .bit false] (p := [Fn Tryz.prog 113 [(false, E9 s_)] (E4 r1) [],
    (true || ((E4 r1).nv && nvL [])) = true,
    r1 = false,
    r1 = false,
    r1 = false,
    r1 = false,
    r1 = false]) (by kernel_rfl) (cj (impl_Digits_ok s_ r1 h1) (cj rfl (cj h2 (cj h2 (cj h2 (cj h2 (cj1 h2))))))))))
def impl_SlotOk (s_ : Slot) : Option (Bool) :=
 (impl_isWide s_.Trace 6).bind fun r1 =>
 if r1 = true then
 (impl_isWide s_.Mti 4).bind fun r2 =>
 if r2 = true then
 (impl_within (s_.Reply.length : Int) 1 200).bind fun r3 =>
 some r3
 else
 some false
 else
 some false
theorem impl_SlotOk_ok (s_ : Slot) : Pn (fun y => Fn Tryz.prog 95 [(false, E66 s_)] (E4 y) []) (impl_SlotOk s_) := by
  unfold impl_SlotOk
  exact
   Pn.bind (fun r1 h1 =>
   Pn.ite (fun h2 =>
   Pn.bind (fun r2 h3 =>
   Pn.ite (fun h4 =>
   Pn.bind (fun r3 h5 =>
   Pn.some (Fn.of [.call [] (E4 r1) [], .bit true, .bit true, .bit true, .call [] (E4 r2) [], .bit true, .bit true, .bit true, .bit true, .nm 14 (V.sc (.int .i64 (s_.Reply.length : Int))), .bit true, .call [] (E4 r3) [], .bit true] (p := [Fn Tryz.prog 117 [(false, E9 s_.Trace), (false, E3 6)] (E4 r1) [],
    (true || ((E4 r1).nv && nvL [])) = true,
    r1 = true,
    r1 = true,
    r1 = true,
    Fn Tryz.prog 117 [(false, E9 s_.Mti), (false, E3 4)] (E4 r2) [],
    (true || ((E4 r2).nv && nvL [])) = true,
    r1 = true,
    r2 = true,
    r2 = true,
    r2 = true,
    V.sc (.int .i64 ((List.map E5 s_.Reply).length : Int)) = V.sc (.int .i64 (s_.Reply.length : Int)),
    r2 = true,
    Fn Tryz.prog 61 [(false, E3 (s_.Reply.length : Int)), (false, E3 1), (false, E3 200)] (E4 r3) [],
    (true || ((E4 r3).nv && nvL [])) = true,
    r2 = true]) (by kernel_rfl) (cj (impl_isWide_ok s_.Trace 6 r1 h1) (cj rfl (cj h2 (cj h2 (cj h2 (cj (impl_isWide_ok s_.Mti 4 r2 h3) (cj rfl (cj h2 (cj h4 (cj h4 (cj h4 (cj (len_nm _ _) (cj h4 (cj (impl_within_ok (s_.Reply.length : Int) 1 200 r3 h5) (cj rfl (cj1 h4))))))))))))))))))) (fun h4 =>
   Pn.some (Fn.of [.call [] (E4 r1) [], .bit true, .bit true, .bit true, .call [] (E4 r2) [], .bit true, .bit false, .bit false, .bit false, .bit false, .bit false] (p := [Fn Tryz.prog 117 [(false, E9 s_.Trace), (false, E3 6)] (E4 r1) [],
    (true || ((E4 r1).nv && nvL [])) = true,
    r1 = true,
    r1 = true,
    r1 = true,
    Fn Tryz.prog 117 [(false, E9 s_.Mti), (false, E3 4)] (E4 r2) [],
    (true || ((E4 r2).nv && nvL [])) = true,
    r1 = true,
    r2 = false,
    r2 = false,
    r2 = false,
    r2 = false,
    r2 = false]) (by kernel_rfl) (cj (impl_isWide_ok s_.Trace 6 r1 h1) (cj rfl (cj h2 (cj h2 (cj h2 (cj (impl_isWide_ok s_.Mti 4 r2 h3) (cj rfl (cj h2 (cj h4 (cj h4 (cj h4 (cj h4 (cj1 h4))))))))))))))))) (fun h2 =>
   Pn.some (Fn.of [.call [] (E4 r1) [], .bit false, .bit false, .bit false, .bit false, .bit false, .bit false, .bit false, .bit false, .bit false] (p := [Fn Tryz.prog 117 [(false, E9 s_.Trace), (false, E3 6)] (E4 r1) [],
    (true || ((E4 r1).nv && nvL [])) = true,
    r1 = false,
    r1 = false,
    r1 = false,
    r1 = false,
    false = false,
    false = false,
    false = false,
    false = false,
    false = false]) (by kernel_rfl) (cj (impl_isWide_ok s_.Trace 6 r1 h1) (cj rfl (cj h2 (cj h2 (cj h2 (cj h2 (cj rfl (cj rfl (cj rfl (cj rfl (cj1 rfl))))))))))))))
def impl_slotAt_1 (s_ : Slot) (c0_0 : ByteArray) (c1_0 : ByteArray) : Option (Bool) :=
 if (s_.Trace == c0_0) = true then
 some (s_.Mti == c1_0)
 else
 some false
theorem impl_slotAt_1_ok (s_ : Slot) (c0_0 : ByteArray) (c1_0 : ByteArray) : Pn (fun y => Fn Tryz.prog 119 [(false, E66 s_), (false, V.cp [V.sc (.string c0_0)]), (false, V.cp [V.sc (.string c1_0)])] (E4 y) []) (impl_slotAt_1 s_ c0_0 c1_0) := by
  unfold impl_slotAt_1
  exact
   Pn.ite (fun h1 =>
   Pn.some (Fn.of [.bit true, .bit true, .bit true, .bit true, .bit true] (p := [(s_.Trace == c0_0) = true,
    (s_.Trace == c0_0) = true,
    (s_.Trace == c0_0) = true,
    (s_.Trace == c0_0) = true,
    (s_.Trace == c0_0) = true]) (by kernel_rfl) (cj h1 (cj h1 (cj h1 (cj h1 (cj1 h1))))))) (fun h1 =>
   Pn.some (Fn.of [.bit false, .bit false, .bit false, .bit false, .bit false] (p := [(s_.Trace == c0_0) = false,
    (s_.Trace == c0_0) = false,
    (s_.Trace == c0_0) = false,
    (s_.Trace == c0_0) = false,
    (s_.Trace == c0_0) = false]) (by kernel_rfl) (cj h1 (cj h1 (cj h1 (cj h1 (cj1 h1)))))))
def slices_IndexFunc_impl_Slot_impl_slotAt_1_l0 (s_ : List Slot) (f0_0 : ByteArray) (f1_0 : ByteArray) : List Slot → List Slot → Option (Lo Unit Int)
  | [], p1 =>
   some (.out ())
  | x1 :: t1, p1 =>
   (impl_slotAt_1 x1 f0_0 f1_0).bind fun r1 =>
   if r1 = true then
   some (.ret (p1.length : Int))
   else
   slices_IndexFunc_impl_Slot_impl_slotAt_1_l0 s_ f0_0 f1_0 t1 (p1 ++ [x1])
theorem slices_IndexFunc_impl_Slot_impl_slotAt_1_l0_ok (s_ : List Slot) (f0_0 : ByteArray) (f1_0 : ByteArray) (h2 : capOk s_.length = true) : ∀ (t1 p1 : List Slot) (_ : s_ = p1 ++ t1) , Pn (LpO Tryz.prog (sub (codeOf Tryz.prog 118) [1, 0, 1, 0, 0]) (st 19 [(0, V.sl false 66 (List.map E66 s_)), (1, V.fn 119 [V.cp [V.sc (.string f0_0)], V.cp [V.sc (.string f1_0)]]), (7, V.sc (.int .i64 (s_.length : Int))), (8, V.sc (.int .i64 (p1.length : Int)))] [] []) (fun (y : Lo Unit Int) => Lo.elim y (fun s => (X.out 0, st 19 [] [] [])) (fun s => (X.ret, st 19 [(4, V.sc (.int .i64 s))] [] [])))) (slices_IndexFunc_impl_Slot_impl_slotAt_1_l0 s_ f0_0 f1_0 t1 p1)
  | [], p1, h1 => by
    unfold slices_IndexFunc_impl_Slot_impl_slotAt_1_l0
    exact
     Pn.some (LpO.out [.bit false, .mask [], .ren []] (p := [(decide ((p1.length : Int) < (s_.length : Int))) = false]) (by kernel_rfl) (show X.out 0 ≠ X.go from nofun) (cj1 (rng_end h1)))
  | x1 :: t1, p1, h1 => by
    unfold slices_IndexFunc_impl_Slot_impl_slotAt_1_l0
    exact
     Pn.bind (fun r1 h3 =>
     Pn.ite (fun h4 =>
     Pn.some (LpO.out [.bit true, .el (E66 x1), .call [] (E4 r1) [], .bit true, .wait 2, .mask [4], .ren []] (p := [(decide ((p1.length : Int) < (s_.length : Int))) = true,
      (0 : Int) ≤ (p1.length : Int),
      (List.map E66 s_)[(p1.length : Int).toNat]? = some (E66 x1),
      Fn Tryz.prog 119 [(false, E66 x1), (false, V.cp [V.sc (.string f0_0)]), (false, V.cp [V.sc (.string f1_0)])] (E4 r1) [],
      (true || ((E4 r1).nv && nvL [])) = true,
      r1 = true]) (by kernel_rfl) (show X.ret ≠ X.go from nofun) (cj (rng_lt h1) (cj (by omega) (cj (rng_get _ h1) (cj (impl_slotAt_1_ok x1 f0_0 f1_0 r1 h3) (cj rfl (cj1 h4)))))))) (fun h4 =>
     LpO.go [.bit true, .el (E66 x1), .call [] (E4 r1) [], .bit false, .wait 2, .mask [0, 1, 7, 8], .ren [], .nm 8 (V.sc (.int .i64 ((p1 ++ [x1]).length : Int)))] (p := [(decide ((p1.length : Int) < (s_.length : Int))) = true,
      (0 : Int) ≤ (p1.length : Int),
      (List.map E66 s_)[(p1.length : Int).toNat]? = some (E66 x1),
      Fn Tryz.prog 119 [(false, E66 x1), (false, V.cp [V.sc (.string f0_0)]), (false, V.cp [V.sc (.string f1_0)])] (E4 r1) [],
      (true || ((E4 r1).nv && nvL [])) = true,
      r1 = false,
      V.sc (.int .i64 (i64 ((p1.length : Int) + 1))) = V.sc (.int .i64 ((p1 ++ [x1]).length : Int))]) (by kernel_rfl) (cj (rng_lt h1) (cj (by omega) (cj (rng_get _ h1) (cj (impl_slotAt_1_ok x1 f0_0 f1_0 r1 h3) (cj rfl (cj h4 (cj1 (rng_next h1 h2)))))))) (slices_IndexFunc_impl_Slot_impl_slotAt_1_l0_ok s_ f0_0 f1_0 h2 t1 (p1 ++ [x1]) (rng_step h1))))
def slices_IndexFunc_impl_Slot_impl_slotAt_1 (s_ : List Slot) (f0_0 : ByteArray) (f1_0 : ByteArray) : Option (Int) :=
 if (capOk s_.length) = true then
 (slices_IndexFunc_impl_Slot_impl_slotAt_1_l0 s_ f0_0 f1_0 s_ []).bind fun r2 =>
 Lo.elim r2 (fun s1 =>
 some (-1)) (fun s2 =>
 some s2)
 else none
theorem slices_IndexFunc_impl_Slot_impl_slotAt_1_ok (s_ : List Slot) (f0_0 : ByteArray) (f1_0 : ByteArray) : Pn (fun y => Fn Tryz.prog 118 [(false, E26 s_), (false, V.fn 119 [V.cp [V.sc (.string f0_0)], V.cp [V.sc (.string f1_0)]])] (E3 y) []) (slices_IndexFunc_impl_Slot_impl_slotAt_1 s_ f0_0 f1_0) := by
  unfold slices_IndexFunc_impl_Slot_impl_slotAt_1
  exact
   Pn.ite (fun h5 =>
   Pn.bind (fun r2 h6 =>
   Pn.lo (fun s1 h7 =>
   Pn.some (Fn.of [.wait 3, .nm 7 (V.sc (.int .i64 (s_.length : Int))), .wait 2, .mask [0, 1, 7, 8], .ren [], .loop (X.out 0) (st 19 [] [] [])] (p := [V.sc (.int .i64 ((List.map E66 s_).length : Int)) = V.sc (.int .i64 (s_.length : Int)),
    Loop Tryz.prog (sub (codeOf Tryz.prog 118) [1, 0, 1, 0, 0]) (st 19 [(0, V.sl false 66 (List.map E66 s_)), (1, V.fn 119 [V.cp [V.sc (.string f0_0)], V.cp [V.sc (.string f1_0)]]), (7, V.sc (.int .i64 (s_.length : Int))), (8, V.sc (.int .i64 0))] [] []) (X.out 0) (st 19 [] [] [])]) (by kernel_rfl) (cj (len_nm _ _) (cj1 ((slices_IndexFunc_impl_Slot_impl_slotAt_1_l0_ok s_ f0_0 f1_0 h5 s_ [] rfl r2 h6).at h7 :))))) (fun s2 h8 =>
   Pn.some (Fn.of [.wait 3, .nm 7 (V.sc (.int .i64 (s_.length : Int))), .wait 2, .mask [0, 1, 7, 8], .ren [], .loop (X.ret) (st 19 [(4, V.sc (.int .i64 s2))] [] [])] (p := [V.sc (.int .i64 ((List.map E66 s_).length : Int)) = V.sc (.int .i64 (s_.length : Int)),
    Loop Tryz.prog (sub (codeOf Tryz.prog 118) [1, 0, 1, 0, 0]) (st 19 [(0, V.sl false 66 (List.map E66 s_)), (1, V.fn 119 [V.cp [V.sc (.string f0_0)], V.cp [V.sc (.string f1_0)]]), (7, V.sc (.int .i64 (s_.length : Int))), (8, V.sc (.int .i64 0))] [] []) (X.ret) (st 19 [(4, V.sc (.int .i64 s2))] [] [])]) (by kernel_rfl) (cj (len_nm _ _) (cj1 ((slices_IndexFunc_impl_Slot_impl_slotAt_1_l0_ok s_ f0_0 f1_0 h5 s_ [] rfl r2 h6).at h8 :))))))) (fun h5 =>
   Pn.none)
def impl_slotAt (l : List Slot) (trace : ByteArray) (mti : ByteArray) : Option (Int) :=
 (slices_IndexFunc_impl_Slot_impl_slotAt_1 l trace mti).bind fun r1 =>
 some r1
theorem impl_slotAt_ok (l : List Slot) (trace : ByteArray) (mti : ByteArray) : Pn (fun y => Fn Tryz.prog 96 [(false, E26 l), (false, E9 trace), (false, E9 mti)] (E3 y) []) (impl_slotAt l trace mti) := by
  unfold impl_slotAt
  exact
   Pn.bind (fun r1 h1 =>
   Pn.some (Fn.of [.call [] (E3 r1) []] (p := [Fn Tryz.prog 118 [(false, E26 l), (false, V.fn 119 [V.cp [V.sc (.string trace)], V.cp [V.sc (.string mti)]])] (E3 r1) [],
    (false || ((E3 r1).nv && nvL [])) = true]) (by kernel_rfl) (cj (slices_IndexFunc_impl_Slot_impl_slotAt_1_ok l trace mti r1 h1) (cj1 (by simp [V.nv, nvL, nvL_all, nv_E3])))))
def impl_SlotsOk_l0 (l : List Slot) : List Slot → List Slot → Option (Lo Unit Unit)
  | [], p1 =>
   some (.out ())
  | x1 :: t1, p1 =>
   (impl_SlotOk x1).bind fun r1 =>
   if r1 = true then
   (impl_slotAt l x1.Trace x1.Mti).bind fun r2 =>
   if (r2 != (p1.length : Int)) = true then
   some (.ret ())
   else
   impl_SlotsOk_l0 l t1 (p1 ++ [x1])
   else
   some (.ret ())
theorem impl_SlotsOk_l0_ok (l : List Slot) (h2 : capOk l.length = true) : ∀ (t1 p1 : List Slot) (_ : l = p1 ++ t1) , Pn (LpO Tryz.prog (sub (codeOf Tryz.prog 66) [1, 0, 1, 0, 0]) (st 29 [(0, V.sl false 66 (List.map E66 l)), (5, V.sl false 66 (List.map E66 l)), (6, V.sc (.int .i64 (l.length : Int))), (7, V.sc (.int .i64 (p1.length : Int)))] [] []) (fun (y : Lo Unit Unit) => Lo.elim y (fun s => (X.out 0, st 29 [(0, V.sl false 66 (List.map E66 l))] [] [])) (fun s => (X.ret, st 29 [(2, V.sc (.bool false))] [] [])))) (impl_SlotsOk_l0 l t1 p1)
  | [], p1, h1 => by
    unfold impl_SlotsOk_l0
    exact
     Pn.some (LpO.out [.bit false, .mask [0], .ren []] (p := [(decide ((p1.length : Int) < (l.length : Int))) = false]) (by kernel_rfl) (show X.out 0 ≠ X.go from nofun) (cj1 (rng_end h1)))
  | x1 :: t1, p1, h1 => by
    unfold impl_SlotsOk_l0
    exact
     Pn.bind (fun r1 h3 =>
     Pn.ite (fun h4 =>
     Pn.bind (fun r2 h5 =>
     Pn.ite (fun h6 =>
     Pn.some (LpO.out [.bit true, .el (E66 x1), .call [] (E4 r1) [], .bit false, .bit false, .bit false, .bit false, .bit false, .bit false, .call [] (E3 r2) [], .bit false, .bit false, .bit false, .bit true, .wait 1, .mask [2], .ren []] (p := [(decide ((p1.length : Int) < (l.length : Int))) = true,
      (0 : Int) ≤ (p1.length : Int),
      (List.map E66 l)[(p1.length : Int).toNat]? = some (E66 x1),
      Fn Tryz.prog 95 [(false, E66 x1)] (E4 r1) [],
      (true || ((E4 r1).nv && nvL [])) = true,
      (!r1) = false,
      (!r1) = false,
      (!r1) = false,
      (!r1) = false,
      (!r1) = false,
      (!r1) = false,
      Fn Tryz.prog 96 [(false, E26 l), (false, E9 x1.Trace), (false, E9 x1.Mti)] (E3 r2) [],
      (true || ((E3 r2).nv && nvL [])) = true,
      (!r1) = false,
      (!r1) = false,
      (!r1) = false,
      (r2 != (p1.length : Int)) = true]) (by kernel_rfl) (show X.ret ≠ X.go from nofun) (cj (rng_lt h1) (cj (by omega) (cj (rng_get _ h1) (cj (impl_SlotOk_ok x1 r1 h3) (cj rfl (cj (nf h4) (cj (nf h4) (cj (nf h4) (cj (nf h4) (cj (nf h4) (cj (nf h4) (cj (impl_slotAt_ok l x1.Trace x1.Mti r2 h5) (cj rfl (cj (nf h4) (cj (nf h4) (cj (nf h4) (cj1 h6))))))))))))))))))) (fun h6 =>
     LpO.go [.bit true, .el (E66 x1), .call [] (E4 r1) [], .bit false, .bit false, .bit false, .bit false, .bit false, .bit false, .call [] (E3 r2) [], .bit false, .bit false, .bit false, .bit false, .wait 2, .mask [0, 5, 6, 7], .ren [], .nm 7 (V.sc (.int .i64 ((p1 ++ [x1]).length : Int)))] (p := [(decide ((p1.length : Int) < (l.length : Int))) = true,
      (0 : Int) ≤ (p1.length : Int),
      (List.map E66 l)[(p1.length : Int).toNat]? = some (E66 x1),
      Fn Tryz.prog 95 [(false, E66 x1)] (E4 r1) [],
      (true || ((E4 r1).nv && nvL [])) = true,
      (!r1) = false,
      (!r1) = false,
      (!r1) = false,
      (!r1) = false,
      (!r1) = false,
      (!r1) = false,
      Fn Tryz.prog 96 [(false, E26 l), (false, E9 x1.Trace), (false, E9 x1.Mti)] (E3 r2) [],
      (true || ((E3 r2).nv && nvL [])) = true,
      (!r1) = false,
      (!r1) = false,
      (!r1) = false,
      (r2 != (p1.length : Int)) = false,
      V.sc (.int .i64 (i64 ((p1.length : Int) + 1))) = V.sc (.int .i64 ((p1 ++ [x1]).length : Int))]) (by kernel_rfl) (cj (rng_lt h1) (cj (by omega) (cj (rng_get _ h1) (cj (impl_SlotOk_ok x1 r1 h3) (cj rfl (cj (nf h4) (cj (nf h4) (cj (nf h4) (cj (nf h4) (cj (nf h4) (cj (nf h4) (cj (impl_slotAt_ok l x1.Trace x1.Mti r2 h5) (cj rfl (cj (nf h4) (cj (nf h4) (cj (nf h4) (cj h6 (cj1 (rng_next h1 h2))))))))))))))))))) (impl_SlotsOk_l0_ok l h2 t1 (p1 ++ [x1]) (rng_step h1))))) (fun h4 =>
     Pn.some (LpO.out [.bit true, .el (E66 x1), .call [] (E4 r1) [], .bit true, .bit true, .bit true, .bit true, .bit true, .bit true, .bit true, .bit true, .bit true, .bit true, .wait 1, .mask [2], .ren []] (p := [(decide ((p1.length : Int) < (l.length : Int))) = true,
      (0 : Int) ≤ (p1.length : Int),
      (List.map E66 l)[(p1.length : Int).toNat]? = some (E66 x1),
      Fn Tryz.prog 95 [(false, E66 x1)] (E4 r1) [],
      (true || ((E4 r1).nv && nvL [])) = true,
      (!r1) = true,
      (!r1) = true,
      (!r1) = true,
      (!r1) = true,
      (!r1) = true,
      (!r1) = true,
      (!r1) = true,
      (!r1) = true,
      (!r1) = true,
      true = true]) (by kernel_rfl) (show X.ret ≠ X.go from nofun) (cj (rng_lt h1) (cj (by omega) (cj (rng_get _ h1) (cj (impl_SlotOk_ok x1 r1 h3) (cj rfl (cj (nt h4) (cj (nt h4) (cj (nt h4) (cj (nt h4) (cj (nt h4) (cj (nt h4) (cj (nt h4) (cj (nt h4) (cj (nt h4) (cj1 rfl))))))))))))))))))
def impl_SlotsOk (l : List Slot) : Option (Bool) :=
 if (capOk l.length) = true then
 (impl_SlotsOk_l0 l l []).bind fun r3 =>
 Lo.elim r3 (fun s1 =>
 some (decide ((l.length : Int) ≤ 6))) (fun s2 =>
 some false)
 else none
theorem impl_SlotsOk_ok (l : List Slot) : Pn (fun y => Fn Tryz.prog 66 [(false, E26 l)] (E4 y) []) (impl_SlotsOk l) := by
  unfold impl_SlotsOk
  exact
   Pn.ite (fun h7 =>
   Pn.bind (fun r3 h8 =>
   Pn.lo (fun s1 h9 =>
   Pn.some (Fn.of [.wait 3, .nm 6 (V.sc (.int .i64 (l.length : Int))), .wait 2, .mask [0, 5, 6, 7], .ren [], .loop (X.out 0) (st 29 [(0, V.sl false 66 (List.map E66 l))] [] []), .wait 2, .nm 27 (V.sc (.int .i64 (l.length : Int)))] (p := [V.sc (.int .i64 ((List.map E66 l).length : Int)) = V.sc (.int .i64 (l.length : Int)),
    Loop Tryz.prog (sub (codeOf Tryz.prog 66) [1, 0, 1, 0, 0]) (st 29 [(0, V.sl false 66 (List.map E66 l)), (5, V.sl false 66 (List.map E66 l)), (6, V.sc (.int .i64 (l.length : Int))), (7, V.sc (.int .i64 0))] [] []) (X.out 0) (st 29 [(0, V.sl false 66 (List.map E66 l))] [] []),
    V.sc (.int .i64 ((List.map E66 l).length : Int)) = V.sc (.int .i64 (l.length : Int))]) (by kernel_rfl) (cj (len_nm _ _) (cj ((impl_SlotsOk_l0_ok l h7 l [] rfl r3 h8).at h9 :) (cj1 (len_nm _ _)))))) (fun s2 h10 =>
   Pn.some (Fn.of [.wait 3, .nm 6 (V.sc (.int .i64 (l.length : Int))), .wait 2, .mask [0, 5, 6, 7], .ren [], .loop (X.ret) (st 29 [(2, V.sc (.bool false))] [] [])] (p := [V.sc (.int .i64 ((List.map E66 l).length : Int)) = V.sc (.int .i64 (l.length : Int)),
    Loop Tryz.prog (sub (codeOf Tryz.prog 66) [1, 0, 1, 0, 0]) (st 29 [(0, V.sl false 66 (List.map E66 l)), (5, V.sl false 66 (List.map E66 l)), (6, V.sc (.int .i64 (l.length : Int))), (7, V.sc (.int .i64 0))] [] []) (X.ret) (st 29 [(2, V.sc (.bool false))] [] [])]) (by kernel_rfl) (cj (len_nm _ _) (cj1 ((impl_SlotsOk_l0_ok l h7 l [] rfl r3 h8).at h10 :))))))) (fun h7 =>
   Pn.none)
def impl_AddSat (a : Int) (b : Int) : Option (Int) :=
 if (decide ((i64 (4611686018427387904 - (imax 0 (imin b 4611686018427387904)))) < (imax 0 (imin a 4611686018427387904)))) = true then
 some 4611686018427387904
 else
 some (i64 ((imax 0 (imin a 4611686018427387904)) + (imax 0 (imin b 4611686018427387904))))
theorem impl_AddSat_ok (a : Int) (b : Int) : Pn (fun y => Fn Tryz.prog 67 [(false, E3 a), (false, E3 b)] (E3 y) []) (impl_AddSat a b) := by
  unfold impl_AddSat
  exact
   Pn.ite (fun h1 =>
   Pn.some (Fn.of [.bit true] (p := [(decide ((i64 (4611686018427387904 - (imax 0 (imin b 4611686018427387904)))) < (imax 0 (imin a 4611686018427387904)))) = true]) (by kernel_rfl) (cj1 h1))) (fun h1 =>
   Pn.some (Fn.of [.bit false] (p := [(decide ((i64 (4611686018427387904 - (imax 0 (imin b 4611686018427387904)))) < (imax 0 (imin a 4611686018427387904)))) = false]) (by kernel_rfl) (cj1 h1)))
def impl_Stored_l0 (l : List Hold) : List Hold → Int → Option (Int)
  | [], v1 =>
   some v1
  | x1 :: t1, v1 =>
   (impl_AddSat v1 x1.Amount).bind fun r1 =>
   impl_Stored_l0 l t1 r1
theorem impl_Stored_l0_ok (l : List Hold) (h2 : capOk l.length = true) : ∀ (t1 p1 : List Hold) (_ : l = p1 ++ t1) (v1 : Int), Pn (LpO Tryz.prog (sub (codeOf Tryz.prog 68) [1, 1, 0, 1, 0, 0]) (st 18 [(3, V.sc (.int .i64 v1)), (6, V.sl false 61 (List.map E61 l)), (7, V.sc (.int .i64 (l.length : Int))), (8, V.sc (.int .i64 (p1.length : Int)))] [] []) (fun (y : Int) => (X.out 0, st 18 [(3, V.sc (.int .i64 y))] [] []))) (impl_Stored_l0 l t1 v1)
  | [], p1, h1, v1 => by
    unfold impl_Stored_l0
    exact
     Pn.some (LpO.out [.bit false, .mask [3], .ren []] (p := [(decide ((p1.length : Int) < (l.length : Int))) = false]) (by kernel_rfl) (show X.out 0 ≠ X.go from nofun) (cj1 (rng_end h1)))
  | x1 :: t1, p1, h1, v1 => by
    unfold impl_Stored_l0
    exact
     Pn.bind (fun r1 h3 =>
     LpO.go [.bit true, .el (E61 x1), .call [] (E3 r1) [], .wait 4, .mask [3, 6, 7, 8], .ren [], .nm 8 (V.sc (.int .i64 ((p1 ++ [x1]).length : Int)))] (p := [(decide ((p1.length : Int) < (l.length : Int))) = true,
      (0 : Int) ≤ (p1.length : Int),
      (List.map E61 l)[(p1.length : Int).toNat]? = some (E61 x1),
      Fn Tryz.prog 67 [(false, E3 v1), (false, E3 x1.Amount)] (E3 r1) [],
      (true || ((E3 r1).nv && nvL [])) = true,
      V.sc (.int .i64 (i64 ((p1.length : Int) + 1))) = V.sc (.int .i64 ((p1 ++ [x1]).length : Int))]) (by kernel_rfl) (cj (rng_lt h1) (cj (by omega) (cj (rng_get _ h1) (cj (impl_AddSat_ok v1 x1.Amount r1 h3) (cj rfl (cj1 (rng_next h1 h2))))))) (impl_Stored_l0_ok l h2 t1 (p1 ++ [x1]) (rng_step h1) r1))
def impl_Stored (l : List Hold) : Option (Int) :=
 if (capOk l.length) = true then
 (impl_Stored_l0 l l 0).bind fun r2 =>
 some r2
 else none
theorem impl_Stored_ok (l : List Hold) : Pn (fun y => Fn Tryz.prog 68 [(false, E22 l)] (E3 y) []) (impl_Stored l) := by
  unfold impl_Stored
  exact
   Pn.ite (fun h4 =>
   Pn.bind (fun r2 h5 =>
   Pn.some (Fn.of [.wait 4, .nm 7 (V.sc (.int .i64 (l.length : Int))), .wait 2, .mask [3, 6, 7, 8], .ren [], .loop (X.out 0) (st 18 [(3, V.sc (.int .i64 r2))] [] [])] (p := [V.sc (.int .i64 ((List.map E61 l).length : Int)) = V.sc (.int .i64 (l.length : Int)),
    Loop Tryz.prog (sub (codeOf Tryz.prog 68) [1, 1, 0, 1, 0, 0]) (st 18 [(3, V.sc (.int .i64 0)), (6, V.sl false 61 (List.map E61 l)), (7, V.sc (.int .i64 (l.length : Int))), (8, V.sc (.int .i64 0))] [] []) (X.out 0) (st 18 [(3, V.sc (.int .i64 r2))] [] [])]) (by kernel_rfl) (cj (len_nm _ _) (cj1 (impl_Stored_l0_ok l h4 l [] rfl 0 r2 h5)))))) (fun h4 =>
   Pn.none)
def impl_AcctOk (a : Acct) : Option (Bool) :=
 (impl_AcctIdOk a.Id).bind fun r1 =>
 if r1 = true then
 (impl_within a.Limit 0 9007199254740992).bind fun r2 =>
 if r2 = true then
 (impl_within a.Most 0 1000).bind fun r3 =>
 if r3 = true then
 (impl_within a.MostSum 0 9007199254740992).bind fun r4 =>
 if r4 = true then
 (impl_isMoney a.Posted).bind fun r5 =>
 if r5 = true then
 (impl_HoldsOk a.Holds).bind fun r6 =>
 if r6 = true then
 (impl_RingOk a.Ring).bind fun r7 =>
 if r7 = true then
 (impl_SlotsOk a.Slots).bind fun r8 =>
 if r8 = true then
 (impl_Stored a.Holds).bind fun r9 =>
 (impl_AddSat a.Posted r9).bind fun r10 =>
 some (decide (r10 ≤ a.Limit))
 else
 some false
 else
 some false
 else
 some false
 else
 some false
 else
 some false
 else
 some false
 else
 some false
 else
 some false
theorem impl_AcctOk_ok (a : Acct) : Pn (fun y => Fn Tryz.prog 37 [(false, E28 a)] (E4 y) []) (impl_AcctOk a) := by
  unfold impl_AcctOk
  exact
   Pn.bind (fun r1 h1 =>
   Pn.ite (fun h2 =>
   Pn.bind (fun r2 h3 =>
   Pn.ite (fun h4 =>
   Pn.bind (fun r3 h5 =>
   Pn.ite (fun h6 =>
   Pn.bind (fun r4 h7 =>
   Pn.ite (fun h8 =>
   Pn.bind (fun r5 h9 =>
   Pn.ite (fun h10 =>
   Pn.bind (fun r6 h11 =>
   Pn.ite (fun h12 =>
   Pn.bind (fun r7 h13 =>
   Pn.ite (fun h14 =>
   Pn.bind (fun r8 h15 =>
   Pn.ite (fun h16 =>
   Pn.bind (fun r9 h17 =>
   Pn.bind (fun r10 h18 =>
   Pn.some (Fn.of [.draw [], .call [] (E4 r1) [], .bit true, .bit true, .bit true, .call [] (E4 r2) [], .bit true, .bit true, .bit true, .bit true, .call [] (E4 r3) [], .bit true, .bit true, .bit true, .bit true, .call [] (E4 r4) [], .bit true, .bit true, .bit true, .bit true, .call [] (E4 r5) [], .bit true, .bit true, .bit true, .bit true, .call [] (E4 r6) [], .bit true, .bit true, .bit true, .bit true, .call [] (E4 r7) [], .bit true, .bit true, .bit true, .bit true, .call [] (E4 r8) [], .bit true, .bit true, .bit true, .bit true, .bit true, .bit true, .bit true, .bit true, .call [] (E3 r9) [], .bit true, .call [] (E3 r10) [], .bit true, .bit true] (p := [Fn Tryz.prog 63 [(false, E9 a.Id)] (E4 r1) [],
    (true || ((E4 r1).nv && nvL [])) = true,
    r1 = true,
    r1 = true,
    r1 = true,
    Fn Tryz.prog 61 [(false, E3 a.Limit), (false, E3 0), (false, E3 9007199254740992)] (E4 r2) [],
    (true || ((E4 r2).nv && nvL [])) = true,
    r1 = true,
    r2 = true,
    r2 = true,
    r2 = true,
    Fn Tryz.prog 61 [(false, E3 a.Most), (false, E3 0), (false, E3 1000)] (E4 r3) [],
    (true || ((E4 r3).nv && nvL [])) = true,
    r2 = true,
    r3 = true,
    r3 = true,
    r3 = true,
    Fn Tryz.prog 61 [(false, E3 a.MostSum), (false, E3 0), (false, E3 9007199254740992)] (E4 r4) [],
    (true || ((E4 r4).nv && nvL [])) = true,
    r3 = true,
    r4 = true,
    r4 = true,
    r4 = true,
    Fn Tryz.prog 34 [(false, E3 a.Posted)] (E4 r5) [],
    (true || ((E4 r5).nv && nvL [])) = true,
    r4 = true,
    r5 = true,
    r5 = true,
    r5 = true,
    Fn Tryz.prog 64 [(false, E22 a.Holds)] (E4 r6) [],
    (true || ((E4 r6).nv && nvL [])) = true,
    r5 = true,
    r6 = true,
    r6 = true,
    r6 = true,
    Fn Tryz.prog 65 [(false, E25 a.Ring)] (E4 r7) [],
    (true || ((E4 r7).nv && nvL [])) = true,
    r6 = true,
    r7 = true,
    r7 = true,
    r7 = true,
    Fn Tryz.prog 66 [(false, E26 a.Slots)] (E4 r8) [],
    (true || ((E4 r8).nv && nvL [])) = true,
    r7 = true,
    r8 = true,
    r8 = true,
    r8 = true,
    r8 = true,
    r8 = true,
    r8 = true,
    r8 = true,
    Fn Tryz.prog 68 [(false, E22 a.Holds)] (E3 r9) [],
    (true || ((E3 r9).nv && nvL [])) = true,
    r8 = true,
    Fn Tryz.prog 67 [(false, E3 a.Posted), (false, E3 r9)] (E3 r10) [],
    (true || ((E3 r10).nv && nvL [])) = true,
    r8 = true,
    r8 = true]) (by kernel_rfl) (cj (impl_AcctIdOk_ok a.Id r1 h1) (cj rfl (cj h2 (cj h2 (cj h2 (cj (impl_within_ok a.Limit 0 9007199254740992 r2 h3) (cj rfl (cj h2 (cj h4 (cj h4 (cj h4 (cj (impl_within_ok a.Most 0 1000 r3 h5) (cj rfl (cj h4 (cj h6 (cj h6 (cj h6 (cj (impl_within_ok a.MostSum 0 9007199254740992 r4 h7) (cj rfl (cj h6 (cj h8 (cj h8 (cj h8 (cj (impl_isMoney_ok a.Posted r5 h9) (cj rfl (cj h8 (cj h10 (cj h10 (cj h10 (cj (impl_HoldsOk_ok a.Holds r6 h11) (cj rfl (cj h10 (cj h12 (cj h12 (cj h12 (cj (impl_RingOk_ok a.Ring r7 h13) (cj rfl (cj h12 (cj h14 (cj h14 (cj h14 (cj (impl_SlotsOk_ok a.Slots r8 h15) (cj rfl (cj h14 (cj h16 (cj h16 (cj h16 (cj h16 (cj h16 (cj h16 (cj h16 (cj (impl_Stored_ok a.Holds r9 h17) (cj rfl (cj h16 (cj (impl_AddSat_ok a.Posted r9 r10 h18) (cj rfl (cj h16 (cj1 h16)))))))))))))))))))))))))))))))))))))))))))))))))))))))))))))) (fun h16 =>
   Pn.some (Fn.of [.draw [], .call [] (E4 r1) [], .bit true, .bit true, .bit true, .call [] (E4 r2) [], .bit true, .bit true, .bit true, .bit true, .call [] (E4 r3) [], .bit true, .bit true, .bit true, .bit true, .call [] (E4 r4) [], .bit true, .bit true, .bit true, .bit true, .call [] (E4 r5) [], .bit true, .bit true, .bit true, .bit true, .call [] (E4 r6) [], .bit true, .bit true, .bit true, .bit true, .call [] (E4 r7) [], .bit true, .bit true, .bit true, .bit true, .call [] (E4 r8) [], .bit true, .bit false, .bit false, .bit false, .bit false, .bit false, .bit false, .bit false, .bit false, .bit false, .bit false] (p := [Fn Tryz.prog 63 [(false, E9 a.Id)] (E4 r1) [],
    (true || ((E4 r1).nv && nvL [])) = true,
    r1 = true,
    r1 = true,
    r1 = true,
    Fn Tryz.prog 61 [(false, E3 a.Limit), (false, E3 0), (false, E3 9007199254740992)] (E4 r2) [],
    (true || ((E4 r2).nv && nvL [])) = true,
    r1 = true,
    r2 = true,
    r2 = true,
    r2 = true,
    Fn Tryz.prog 61 [(false, E3 a.Most), (false, E3 0), (false, E3 1000)] (E4 r3) [],
    (true || ((E4 r3).nv && nvL [])) = true,
    r2 = true,
    r3 = true,
    r3 = true,
    r3 = true,
    Fn Tryz.prog 61 [(false, E3 a.MostSum), (false, E3 0), (false, E3 9007199254740992)] (E4 r4) [],
    (true || ((E4 r4).nv && nvL [])) = true,
    r3 = true,
    r4 = true,
    r4 = true,
    r4 = true,
    Fn Tryz.prog 34 [(false, E3 a.Posted)] (E4 r5) [],
    (true || ((E4 r5).nv && nvL [])) = true,
    r4 = true,
    r5 = true,
    r5 = true,
    r5 = true,
    Fn Tryz.prog 64 [(false, E22 a.Holds)] (E4 r6) [],
    (true || ((E4 r6).nv && nvL [])) = true,
    r5 = true,
    r6 = true,
    r6 = true,
    r6 = true,
    Fn Tryz.prog 65 [(false, E25 a.Ring)] (E4 r7) [],
    (true || ((E4 r7).nv && nvL [])) = true,
    r6 = true,
    r7 = true,
    r7 = true,
    r7 = true,
    Fn Tryz.prog 66 [(false, E26 a.Slots)] (E4 r8) [],
    (true || ((E4 r8).nv && nvL [])) = true,
    r7 = true,
    r8 = false,
    r8 = false,
    r8 = false,
    r8 = false,
    r8 = false,
    r8 = false,
    r8 = false,
    r8 = false,
    r8 = false,
    r8 = false]) (by kernel_rfl) (cj (impl_AcctIdOk_ok a.Id r1 h1) (cj rfl (cj h2 (cj h2 (cj h2 (cj (impl_within_ok a.Limit 0 9007199254740992 r2 h3) (cj rfl (cj h2 (cj h4 (cj h4 (cj h4 (cj (impl_within_ok a.Most 0 1000 r3 h5) (cj rfl (cj h4 (cj h6 (cj h6 (cj h6 (cj (impl_within_ok a.MostSum 0 9007199254740992 r4 h7) (cj rfl (cj h6 (cj h8 (cj h8 (cj h8 (cj (impl_isMoney_ok a.Posted r5 h9) (cj rfl (cj h8 (cj h10 (cj h10 (cj h10 (cj (impl_HoldsOk_ok a.Holds r6 h11) (cj rfl (cj h10 (cj h12 (cj h12 (cj h12 (cj (impl_RingOk_ok a.Ring r7 h13) (cj rfl (cj h12 (cj h14 (cj h14 (cj h14 (cj (impl_SlotsOk_ok a.Slots r8 h15) (cj rfl (cj h14 (cj h16 (cj h16 (cj h16 (cj h16 (cj h16 (cj h16 (cj h16 (cj h16 (cj h16 (cj1 h16)))))))))))))))))))))))))))))))))))))))))))))))))))))))))) (fun h14 =>
   Pn.some (Fn.of [.draw [], .call [] (E4 r1) [], .bit true, .bit true, .bit true, .call [] (E4 r2) [], .bit true, .bit true, .bit true, .bit true, .call [] (E4 r3) [], .bit true, .bit true, .bit true, .bit true, .call [] (E4 r4) [], .bit true, .bit true, .bit true, .bit true, .call [] (E4 r5) [], .bit true, .bit true, .bit true, .bit true, .call [] (E4 r6) [], .bit true, .bit true, .bit true, .bit true, .call [] (E4 r7) [], .bit true, .bit false, .bit false, .bit false, .bit false, .bit false, .bit false, .bit false, .bit false, .bit false, .bit false, .bit false, .bit false, .bit false, .bit false] (p := [Fn Tryz.prog 63 [(false, E9 a.Id)] (E4 r1) [],
    (true || ((E4 r1).nv && nvL [])) = true,
    r1 = true,
    r1 = true,
    r1 = true,
    Fn Tryz.prog 61 [(false, E3 a.Limit), (false, E3 0), (false, E3 9007199254740992)] (E4 r2) [],
    (true || ((E4 r2).nv && nvL [])) = true,
    r1 = true,
    r2 = true,
    r2 = true,
    r2 = true,
    Fn Tryz.prog 61 [(false, E3 a.Most), (false, E3 0), (false, E3 1000)] (E4 r3) [],
    (true || ((E4 r3).nv && nvL [])) = true,
    r2 = true,
    r3 = true,
    r3 = true,
    r3 = true,
    Fn Tryz.prog 61 [(false, E3 a.MostSum), (false, E3 0), (false, E3 9007199254740992)] (E4 r4) [],
    (true || ((E4 r4).nv && nvL [])) = true,
    r3 = true,
    r4 = true,
    r4 = true,
    r4 = true,
    Fn Tryz.prog 34 [(false, E3 a.Posted)] (E4 r5) [],
    (true || ((E4 r5).nv && nvL [])) = true,
    r4 = true,
    r5 = true,
    r5 = true,
    r5 = true,
    Fn Tryz.prog 64 [(false, E22 a.Holds)] (E4 r6) [],
    (true || ((E4 r6).nv && nvL [])) = true,
    r5 = true,
    r6 = true,
    r6 = true,
    r6 = true,
    Fn Tryz.prog 65 [(false, E25 a.Ring)] (E4 r7) [],
    (true || ((E4 r7).nv && nvL [])) = true,
    r6 = true,
    r7 = false,
    r7 = false,
    r7 = false,
    r7 = false,
    false = false,
    false = false,
    false = false,
    false = false,
    false = false,
    false = false,
    false = false,
    false = false,
    false = false,
    false = false]) (by kernel_rfl) (cj (impl_AcctIdOk_ok a.Id r1 h1) (cj rfl (cj h2 (cj h2 (cj h2 (cj (impl_within_ok a.Limit 0 9007199254740992 r2 h3) (cj rfl (cj h2 (cj h4 (cj h4 (cj h4 (cj (impl_within_ok a.Most 0 1000 r3 h5) (cj rfl (cj h4 (cj h6 (cj h6 (cj h6 (cj (impl_within_ok a.MostSum 0 9007199254740992 r4 h7) (cj rfl (cj h6 (cj h8 (cj h8 (cj h8 (cj (impl_isMoney_ok a.Posted r5 h9) (cj rfl (cj h8 (cj h10 (cj h10 (cj h10 (cj (impl_HoldsOk_ok a.Holds r6 h11) (cj rfl (cj h10 (cj h12 (cj h12 (cj h12 (cj (impl_RingOk_ok a.Ring r7 h13) (cj rfl (cj h12 (cj h14 (cj h14 (cj h14 (cj h14 (cj rfl (cj rfl (cj rfl (cj rfl (cj rfl (cj rfl (cj rfl (cj rfl (cj rfl (cj1 rfl)))))))))))))))))))))))))))))))))))))))))))))))))))))))) (fun h12 =>
   Pn.some (Fn.of [.draw [], .call [] (E4 r1) [], .bit true, .bit true, .bit true, .call [] (E4 r2) [], .bit true, .bit true, .bit true, .bit true, .call [] (E4 r3) [], .bit true, .bit true, .bit true, .bit true, .call [] (E4 r4) [], .bit true, .bit true, .bit true, .bit true, .call [] (E4 r5) [], .bit true, .bit true, .bit true, .bit true, .call [] (E4 r6) [], .bit true, .bit false, .bit false, .bit false, .bit false, .bit false, .bit false, .bit false, .bit false, .bit false, .bit false, .bit false, .bit false, .bit false, .bit false, .bit false, .bit false, .bit false, .bit false] (p := [Fn Tryz.prog 63 [(false, E9 a.Id)] (E4 r1) [],
    (true || ((E4 r1).nv && nvL [])) = true,
    r1 = true,
    r1 = true,
    r1 = true,
    Fn Tryz.prog 61 [(false, E3 a.Limit), (false, E3 0), (false, E3 9007199254740992)] (E4 r2) [],
    (true || ((E4 r2).nv && nvL [])) = true,
    r1 = true,
    r2 = true,
    r2 = true,
    r2 = true,
    Fn Tryz.prog 61 [(false, E3 a.Most), (false, E3 0), (false, E3 1000)] (E4 r3) [],
    (true || ((E4 r3).nv && nvL [])) = true,
    r2 = true,
    r3 = true,
    r3 = true,
    r3 = true,
    Fn Tryz.prog 61 [(false, E3 a.MostSum), (false, E3 0), (false, E3 9007199254740992)] (E4 r4) [],
    (true || ((E4 r4).nv && nvL [])) = true,
    r3 = true,
    r4 = true,
    r4 = true,
    r4 = true,
    Fn Tryz.prog 34 [(false, E3 a.Posted)] (E4 r5) [],
    (true || ((E4 r5).nv && nvL [])) = true,
    r4 = true,
    r5 = true,
    r5 = true,
    r5 = true,
    Fn Tryz.prog 64 [(false, E22 a.Holds)] (E4 r6) [],
    (true || ((E4 r6).nv && nvL [])) = true,
    r5 = true,
    r6 = false,
    r6 = false,
    r6 = false,
    r6 = false,
    false = false,
    false = false,
    false = false,
    false = false,
    false = false,
    false = false,
    false = false,
    false = false,
    false = false,
    false = false,
    false = false,
    false = false,
    false = false,
    false = false]) (by kernel_rfl) (cj (impl_AcctIdOk_ok a.Id r1 h1) (cj rfl (cj h2 (cj h2 (cj h2 (cj (impl_within_ok a.Limit 0 9007199254740992 r2 h3) (cj rfl (cj h2 (cj h4 (cj h4 (cj h4 (cj (impl_within_ok a.Most 0 1000 r3 h5) (cj rfl (cj h4 (cj h6 (cj h6 (cj h6 (cj (impl_within_ok a.MostSum 0 9007199254740992 r4 h7) (cj rfl (cj h6 (cj h8 (cj h8 (cj h8 (cj (impl_isMoney_ok a.Posted r5 h9) (cj rfl (cj h8 (cj h10 (cj h10 (cj h10 (cj (impl_HoldsOk_ok a.Holds r6 h11) (cj rfl (cj h10 (cj h12 (cj h12 (cj h12 (cj h12 (cj rfl (cj rfl (cj rfl (cj rfl (cj rfl (cj rfl (cj rfl (cj rfl (cj rfl (cj rfl (cj rfl (cj rfl (cj rfl (cj1 rfl)))))))))))))))))))))))))))))))))))))))))))))))))))))) (fun h10 =>
   Pn.some (Fn.of [.draw [], .call [] (E4 r1) [], .bit true, .bit true, .bit true, .call [] (E4 r2) [], .bit true, .bit true, .bit true, .bit true, .call [] (E4 r3) [], .bit true, .bit true, .bit true, .bit true, .call [] (E4 r4) [], .bit true, .bit true, .bit true, .bit true, .call [] (E4 r5) [], .bit true, .bit false, .bit false, .bit false, .bit false, .bit false, .bit false, .bit false, .bit false, .bit false, .bit false, .bit false, .bit false, .bit false, .bit false, .bit false, .bit false, .bit false, .bit false, .bit false, .bit false, .bit false, .bit false] (p := [Fn Tryz.prog 63 [(false, E9 a.Id)] (E4 r1) [],
    (true || ((E4 r1).nv && nvL [])) = true,
    r1 = true,
    r1 = true,
    r1 = true,
    Fn Tryz.prog 61 [(false, E3 a.Limit), (false, E3 0), (false, E3 9007199254740992)] (E4 r2) [],
    (true || ((E4 r2).nv && nvL [])) = true,
    r1 = true,
    r2 = true,
    r2 = true,
    r2 = true,
    Fn Tryz.prog 61 [(false, E3 a.Most), (false, E3 0), (false, E3 1000)] (E4 r3) [],
    (true || ((E4 r3).nv && nvL [])) = true,
    r2 = true,
    r3 = true,
    r3 = true,
    r3 = true,
    Fn Tryz.prog 61 [(false, E3 a.MostSum), (false, E3 0), (false, E3 9007199254740992)] (E4 r4) [],
    (true || ((E4 r4).nv && nvL [])) = true,
    r3 = true,
    r4 = true,
    r4 = true,
    r4 = true,
    Fn Tryz.prog 34 [(false, E3 a.Posted)] (E4 r5) [],
    (true || ((E4 r5).nv && nvL [])) = true,
    r4 = true,
    r5 = false,
    r5 = false,
    r5 = false,
    r5 = false,
    false = false,
    false = false,
    false = false,
    false = false,
    false = false,
    false = false,
    false = false,
    false = false,
    false = false,
    false = false,
    false = false,
    false = false,
    false = false,
    false = false,
    false = false,
    false = false,
    false = false,
    false = false]) (by kernel_rfl) (cj (impl_AcctIdOk_ok a.Id r1 h1) (cj rfl (cj h2 (cj h2 (cj h2 (cj (impl_within_ok a.Limit 0 9007199254740992 r2 h3) (cj rfl (cj h2 (cj h4 (cj h4 (cj h4 (cj (impl_within_ok a.Most 0 1000 r3 h5) (cj rfl (cj h4 (cj h6 (cj h6 (cj h6 (cj (impl_within_ok a.MostSum 0 9007199254740992 r4 h7) (cj rfl (cj h6 (cj h8 (cj h8 (cj h8 (cj (impl_isMoney_ok a.Posted r5 h9) (cj rfl (cj h8 (cj h10 (cj h10 (cj h10 (cj h10 (cj rfl (cj rfl (cj rfl (cj rfl (cj rfl (cj rfl (cj rfl (cj rfl (cj rfl (cj rfl (cj rfl (cj rfl (cj rfl (cj rfl (cj rfl (cj rfl (cj rfl (cj1 rfl)))))))))))))))))))))))))))))))))))))))))))))))))))) (fun h8 =>
   Pn.some (Fn.of [.draw [], .call [] (E4 r1) [], .bit true, .bit true, .bit true, .call [] (E4 r2) [], .bit true, .bit true, .bit true, .bit true, .call [] (E4 r3) [], .bit true, .bit true, .bit true, .bit true, .call [] (E4 r4) [], .bit true, .bit false, .bit false, .bit false, .bit false, .bit false, .bit false, .bit false, .bit false, .bit false, .bit false, .bit false, .bit false, .bit false, .bit false, .bit false, .bit false, .bit false, .bit false, .bit false, .bit false, .bit false, .bit false, .bit false, .bit false, .bit false, .bit false] (p := [Fn Tryz.prog 63 [(false, E9 a.Id)] (E4 r1) [],
    (true || ((E4 r1).nv && nvL [])) = true,
    r1 = true,
    r1 = true,
    r1 = true,
    Fn Tryz.prog 61 [(false, E3 a.Limit), (false, E3 0), (false, E3 9007199254740992)] (E4 r2) [],
    (true || ((E4 r2).nv && nvL [])) = true,
    r1 = true,
    r2 = true,
    r2 = true,
    r2 = true,
    Fn Tryz.prog 61 [(false, E3 a.Most), (false, E3 0), (false, E3 1000)] (E4 r3) [],
    (true || ((E4 r3).nv && nvL [])) = true,
    r2 = true,
    r3 = true,
    r3 = true,
    r3 = true,
    Fn Tryz.prog 61 [(false, E3 a.MostSum), (false, E3 0), (false, E3 9007199254740992)] (E4 r4) [],
    (true || ((E4 r4).nv && nvL [])) = true,
    r3 = true,
    r4 = false,
    r4 = false,
    r4 = false,
    r4 = false,
    false = false,
    false = false,
    false = false,
    false = false,
    false = false,
    false = false,
    false = false,
    false = false,
    false = false,
    false = false,
    false = false,
    false = false,
    false = false,
    false = false,
    false = false,
    false = false,
    false = false,
    false = false,
    false = false,
    false = false,
    false = false,
    false = false]) (by kernel_rfl) (cj (impl_AcctIdOk_ok a.Id r1 h1) (cj rfl (cj h2 (cj h2 (cj h2 (cj (impl_within_ok a.Limit 0 9007199254740992 r2 h3) (cj rfl (cj h2 (cj h4 (cj h4 (cj h4 (cj (impl_within_ok a.Most 0 1000 r3 h5) (cj rfl (cj h4 (cj h6 (cj h6 (cj h6 (cj (impl_within_ok a.MostSum 0 9007199254740992 r4 h7) (cj rfl (cj h6 (cj h8 (cj h8 (cj h8 (cj h8 (cj rfl (cj rfl (cj rfl (cj rfl (cj rfl (cj rfl (cj rfl (cj rfl (cj rfl (cj rfl (cj rfl (cj rfl (cj rfl (cj rfl (cj rfl (cj rfl (cj rfl (cj rfl (cj rfl (cj rfl (cj rfl (cj1 rfl)))))))))))))))))))))))))))))))))))))))))))))))))) (fun h6 =>
   Pn.some (Fn.of [.draw [], .call [] (E4 r1) [], .bit true, .bit true, .bit true, .call [] (E4 r2) [], .bit true, .bit true, .bit true, .bit true, .call [] (E4 r3) [], .bit true, .bit false, .bit false, .bit false, .bit false, .bit false, .bit false, .bit false, .bit false, .bit false, .bit false, .bit false, .bit false, .bit false, .bit false, .bit false, .bit false, .bit false, .bit false, .bit false, .bit false, .bit false, .bit false, .bit false, .bit false, .bit false, .bit false, .bit false, .bit false, .bit false, .bit false] (p := [Fn Tryz.prog 63 [(false, E9 a.Id)] (E4 r1) [],
    (true || ((E4 r1).nv && nvL [])) = true,
    r1 = true,
    r1 = true,
    r1 = true,
    Fn Tryz.prog 61 [(false, E3 a.Limit), (false, E3 0), (false, E3 9007199254740992)] (E4 r2) [],
    (true || ((E4 r2).nv && nvL [])) = true,
    r1 = true,
    r2 = true,
    r2 = true,
    r2 = true,
    Fn Tryz.prog 61 [(false, E3 a.Most), (false, E3 0), (false, E3 1000)] (E4 r3) [],
    (true || ((E4 r3).nv && nvL [])) = true,
    r2 = true,
    r3 = false,
    r3 = false,
    r3 = false,
    r3 = false,
    false = false,
    false = false,
    false = false,
    false = false,
    false = false,
    false = false,
    false = false,
    false = false,
    false = false,
    false = false,
    false = false,
    false = false,
    false = false,
    false = false,
    false = false,
    false = false,
    false = false,
    false = false,
    false = false,
    false = false,
    false = false,
    false = false,
    false = false,
    false = false,
    false = false,
    false = false]) (by kernel_rfl) (cj (impl_AcctIdOk_ok a.Id r1 h1) (cj rfl (cj h2 (cj h2 (cj h2 (cj (impl_within_ok a.Limit 0 9007199254740992 r2 h3) (cj rfl (cj h2 (cj h4 (cj h4 (cj h4 (cj (impl_within_ok a.Most 0 1000 r3 h5) (cj rfl (cj h4 (cj h6 (cj h6 (cj h6 (cj h6 (cj rfl (cj rfl (cj rfl (cj rfl (cj rfl (cj rfl (cj rfl (cj rfl (cj rfl (cj rfl (cj rfl (cj rfl (cj rfl (cj rfl (cj rfl (cj rfl (cj rfl (cj rfl (cj rfl (cj rfl (cj rfl (cj rfl (cj rfl (cj rfl (cj rfl (cj1 rfl)))))))))))))))))))))))))))))))))))))))))))))))) (fun h4 =>
   Pn.some (Fn.of [.draw [], .call [] (E4 r1) [], .bit true, .bit true, .bit true, .call [] (E4 r2) [], .bit true, .bit false, .bit false, .bit false, .bit false, .bit false, .bit false, .bit false, .bit false, .bit false, .bit false, .bit false, .bit false, .bit false, .bit false, .bit false, .bit false, .bit false, .bit false, .bit false, .bit false, .bit false, .bit false, .bit false, .bit false, .bit false, .bit false, .bit false, .bit false, .bit false, .bit false, .bit false, .bit false, .bit false, .bit false] (p := [Fn Tryz.prog 63 [(false, E9 a.Id)] (E4 r1) [],
    (true || ((E4 r1).nv && nvL [])) = true,
    r1 = true,
    r1 = true,
    r1 = true,
    Fn Tryz.prog 61 [(false, E3 a.Limit), (false, E3 0), (false, E3 9007199254740992)] (E4 r2) [],
    (true || ((E4 r2).nv && nvL [])) = true,
    r1 = true,
    r2 = false,
    r2 = false,
    r2 = false,
    r2 = false,
    false = false,
    false = false,
    false = false,
    false = false,
    false = false,
    false = false,
    false = false,
    false = false,
    false = false,
    false = false,
    false = false,
    false = false,
    false = false,
    false = false,
    false = false,
    false = false,
    false = false,
    false = false,
    false = false,
    false = false,
    false = false,
    false = false,
    false = false,
    false = false,
    false = false,
    false = false,
    false = false,
    false = false,
    false = false,
    false = false]) (by kernel_rfl) (cj (impl_AcctIdOk_ok a.Id r1 h1) (cj rfl (cj h2 (cj h2 (cj h2 (cj (impl_within_ok a.Limit 0 9007199254740992 r2 h3) (cj rfl (cj h2 (cj h4 (cj h4 (cj h4 (cj h4 (cj rfl (cj rfl (cj rfl (cj rfl (cj rfl (cj rfl (cj rfl (cj rfl (cj rfl (cj rfl (cj rfl (cj rfl (cj rfl (cj rfl (cj rfl (cj rfl (cj rfl (cj rfl (cj rfl (cj rfl (cj rfl (cj rfl (cj rfl (cj rfl (cj rfl (cj rfl (cj rfl (cj rfl (cj rfl (cj1 rfl)))))))))))))))))))))))))))))))))))))))))))))) (fun h2 =>
   Pn.some (Fn.of [.draw [], .call [] (E4 r1) [], .bit false, .bit false, .bit false, .bit false, .bit false, .bit false, .bit false, .bit false, .bit false, .bit false, .bit false, .bit false, .bit false, .bit false, .bit false, .bit false, .bit false, .bit false, .bit false, .bit false, .bit false, .bit false, .bit false, .bit false, .bit false, .bit false, .bit false, .bit false, .bit false, .bit false, .bit false, .bit false, .bit false, .bit false, .bit false, .bit false, .bit false, .bit false] (p := [Fn Tryz.prog 63 [(false, E9 a.Id)] (E4 r1) [],
    (true || ((E4 r1).nv && nvL [])) = true,
    r1 = false,
    r1 = false,
    r1 = false,
    r1 = false,
    false = false,
    false = false,
    false = false,
    false = false,
    false = false,
    false = false,
    false = false,
    false = false,
    false = false,
    false = false,
    false = false,
    false = false,
    false = false,
    false = false,
    false = false,
    false = false,
    false = false,
    false = false,
    false = false,
    false = false,
    false = false,
    false = false,
    false = false,
    false = false,
    false = false,
    false = false,
    false = false,
    false = false,
    false = false,
    false = false,
    false = false,
    false = false,
    false = false,
    false = false]) (by kernel_rfl) (cj (impl_AcctIdOk_ok a.Id r1 h1) (cj rfl (cj h2 (cj h2 (cj h2 (cj h2 (cj rfl (cj rfl (cj rfl (cj rfl (cj rfl (cj rfl (cj rfl (cj rfl (cj rfl (cj rfl (cj rfl (cj rfl (cj rfl (cj rfl (cj rfl (cj rfl (cj rfl (cj rfl (cj rfl (cj rfl (cj rfl (cj rfl (cj rfl (cj rfl (cj rfl (cj rfl (cj rfl (cj rfl (cj rfl (cj rfl (cj rfl (cj rfl (cj rfl (cj1 rfl)))))))))))))))))))))))))))))))))))))))))))
def impl_AcctNew (id : ByteArray) (limit : Int) (most : Int) (mostSum : Int) (buckets : Int) (span : Int) : Option (Acct × Bool) :=
 (impl_RingNew buckets span).bind fun r1 =>
 (impl_AcctOk (Acct.mk id limit 0 most mostSum [] r1.1 [])).bind fun r2 =>
 if r2 = true then
 some ((Acct.mk id limit 0 most mostSum [] r1.1 []), true)
 else
 some ((Acct.mk ByteArray.empty 0 0 0 0 [] (Ring.mk 0 0 [] []) []), false)
theorem impl_AcctNew_ok (id : ByteArray) (limit : Int) (most : Int) (mostSum : Int) (buckets : Int) (span : Int) : Pn (fun y => Fn Tryz.prog 15 [(false, E9 id), (false, E3 limit), (false, E3 most), (false, E3 mostSum), (false, E3 buckets), (false, E3 span)] (V.tup [E28 y.1, E4 y.2]) []) (impl_AcctNew id limit most mostSum buckets span) := by
  unfold impl_AcctNew
  exact
   Pn.bind (fun r1 h1 =>
   Pn.bind (fun r2 h2 =>
   Pn.ite (fun h3 =>
   Pn.some (Fn.of [.call [] (V.tup [E25 r1.1, E4 r1.2]) [], .call [] (E4 r2) [], .bit false] (p := [Fn Tryz.prog 36 [(false, E3 buckets), (false, E3 span)] (V.tup [E25 r1.1, E4 r1.2]) [],
    (true || ((V.tup [E25 r1.1, E4 r1.2]).nv && nvL [])) = true,
    Fn Tryz.prog 37 [(false, V.agg [V.sc (.string id), V.sc (.int .i64 limit), V.sc (.int .i64 0), V.sc (.int .i64 most), V.sc (.int .i64 mostSum), V.nl 61, V.sc (.int .i64 r1.1.Span), V.sc (.int .i64 r1.1.Head), V.sl true 3 (List.map E3 r1.1.Counts), V.sl true 3 (List.map E3 r1.1.Sums), V.nl 66])] (E4 r2) [],
    (false || ((E4 r2).nv && nvL [])) = true,
    (!r2) = false]) (by kernel_rfl) (cj (impl_RingNew_ok buckets span r1 h1) (cj rfl (cj (Fn.nil [61, 66] (by kernel_rfl) (by kernel_rfl) (impl_AcctOk_ok (Acct.mk id limit 0 most mostSum [] r1.1 []) r2 h2)) (cj (by simp [V.nv, nvL, nvL_all, nv_E4]) (cj1 (nf h3)))))))) (fun h3 =>
   Pn.some (Fn.of [.call [] (V.tup [E25 r1.1, E4 r1.2]) [], .call [] (E4 r2) [], .bit true] (p := [Fn Tryz.prog 36 [(false, E3 buckets), (false, E3 span)] (V.tup [E25 r1.1, E4 r1.2]) [],
    (true || ((V.tup [E25 r1.1, E4 r1.2]).nv && nvL [])) = true,
    Fn Tryz.prog 37 [(false, V.agg [V.sc (.string id), V.sc (.int .i64 limit), V.sc (.int .i64 0), V.sc (.int .i64 most), V.sc (.int .i64 mostSum), V.nl 61, V.sc (.int .i64 r1.1.Span), V.sc (.int .i64 r1.1.Head), V.sl true 3 (List.map E3 r1.1.Counts), V.sl true 3 (List.map E3 r1.1.Sums), V.nl 66])] (E4 r2) [],
    (false || ((E4 r2).nv && nvL [])) = true,
    (!r2) = true]) (by kernel_rfl) (cj (impl_RingNew_ok buckets span r1 h1) (cj rfl (cj (Fn.nil [61, 66] (by kernel_rfl) (by kernel_rfl) (impl_AcctOk_ok (Acct.mk id limit 0 most mostSum [] r1.1 []) r2 h2)) (cj (by simp [V.nv, nvL, nvL_all, nv_E4]) (cj1 (nt h3))))))))))
def slices_Equal_impl_Hold_l0 (s1_ : List Hold) (s2_ : List Hold) : List Hold → List Hold → Option (Lo Unit Unit)
  | [], p1 =>
   some (.out ())
  | x1 :: t1, p1 =>
   (s2_[(p1.length : Int).toNat]?).bind fun x2 =>
   if ((x1.Id == x2.Id) && ((x1.Amount == x2.Amount) && ((x1.Due == x2.Due) && true))) = true then
   slices_Equal_impl_Hold_l0 s1_ s2_ t1 (p1 ++ [x1])
   else
   some (.ret ())
theorem slices_Equal_impl_Hold_l0_ok (s1_ : List Hold) (s2_ : List Hold) (h3 : capOk s1_.length = true) : ∀ (t1 p1 : List Hold) (_ : s1_ = p1 ++ t1) , Pn (LpO Tryz.prog (sub (codeOf Tryz.prog 69) [1, 1, 0, 1, 0, 0]) (st 26 [(0, V.sl false 61 (List.map E61 s1_)), (1, V.sl false 61 (List.map E61 s2_)), (12, V.sc (.int .i64 (s1_.length : Int))), (13, V.sc (.int .i64 (p1.length : Int)))] [] []) (fun (y : Lo Unit Unit) => Lo.elim y (fun s => (X.out 0, st 26 [] [] [])) (fun s => (X.ret, st 26 [(4, V.sc (.bool false))] [] [])))) (slices_Equal_impl_Hold_l0 s1_ s2_ t1 p1)
  | [], p1, h2 => by
    unfold slices_Equal_impl_Hold_l0
    exact
     Pn.some (LpO.out [.bit false, .mask [], .ren []] (p := [(decide ((p1.length : Int) < (s1_.length : Int))) = false]) (by kernel_rfl) (show X.out 0 ≠ X.go from nofun) (cj1 (rng_end h2)))
  | x1 :: t1, p1, h2 => by
    unfold slices_Equal_impl_Hold_l0
    exact
     Pn.bind (fun x2 h4 =>
     Pn.ite (fun h5 =>
     LpO.go [.bit true, .draw [], .el (E61 x1), .el (E61 x2), .bit false, .wait 2, .mask [0, 1, 12, 13], .ren [], .nm 13 (V.sc (.int .i64 ((p1 ++ [x1]).length : Int)))] (p := [(decide ((p1.length : Int) < (s1_.length : Int))) = true,
      (0 : Int) ≤ (p1.length : Int),
      (List.map E61 s1_)[(p1.length : Int).toNat]? = some (E61 x1),
      (0 : Int) ≤ (p1.length : Int),
      (List.map E61 s2_)[(p1.length : Int).toNat]? = some (E61 x2),
      (!((x1.Id == x2.Id) && ((x1.Amount == x2.Amount) && ((x1.Due == x2.Due) && true)))) = false,
      V.sc (.int .i64 (i64 ((p1.length : Int) + 1))) = V.sc (.int .i64 ((p1 ++ [x1]).length : Int))]) (by kernel_rfl) (cj (rng_lt h2) (cj (by omega) (cj (rng_get _ h2) (cj (by omega) (cj (map_get h4) (cj (nf h5) (cj1 (rng_next h2 h3)))))))) (slices_Equal_impl_Hold_l0_ok s1_ s2_ h3 t1 (p1 ++ [x1]) (rng_step h2))) (fun h5 =>
     Pn.some (LpO.out [.bit true, .draw [], .el (E61 x1), .el (E61 x2), .bit true, .wait 1, .mask [4], .ren []] (p := [(decide ((p1.length : Int) < (s1_.length : Int))) = true,
      (0 : Int) ≤ (p1.length : Int),
      (List.map E61 s1_)[(p1.length : Int).toNat]? = some (E61 x1),
      (0 : Int) ≤ (p1.length : Int),
      (List.map E61 s2_)[(p1.length : Int).toNat]? = some (E61 x2),
      (!((x1.Id == x2.Id) && ((x1.Amount == x2.Amount) && ((x1.Due == x2.Due) && true)))) = true]) (by kernel_rfl) (show X.ret ≠ X.go from nofun) (cj (rng_lt h2) (cj (by omega) (cj (rng_get _ h2) (cj (by omega) (cj (map_get h4) (cj1 (nt h5))))))))))
def slices_Equal_impl_Hold (s1_ : List Hold) (s2_ : List Hold) : Option (Bool) :=
 if ((s1_.length : Int) != (s2_.length : Int)) = true then
 some false
 else
 if (capOk s1_.length) = true then
 (slices_Equal_impl_Hold_l0 s1_ s2_ s1_ []).bind fun r1 =>
 Lo.elim r1 (fun s1 =>
 some true) (fun s2 =>
 some false)
 else none
theorem slices_Equal_impl_Hold_ok (s1_ : List Hold) (s2_ : List Hold) : Pn (fun y => Fn Tryz.prog 69 [(false, E22 s1_), (false, E22 s2_)] (E4 y) []) (slices_Equal_impl_Hold s1_ s2_) := by
  unfold slices_Equal_impl_Hold
  exact
   Pn.ite (fun h1 =>
   Pn.some (Fn.of [.wait 3, .nm 7 (V.sc (.int .i64 (s1_.length : Int))), .wait 2, .nm 9 (V.sc (.int .i64 (s2_.length : Int))), .bit true] (p := [V.sc (.int .i64 ((List.map E61 s1_).length : Int)) = V.sc (.int .i64 (s1_.length : Int)),
    V.sc (.int .i64 ((List.map E61 s2_).length : Int)) = V.sc (.int .i64 (s2_.length : Int)),
    ((s1_.length : Int) != (s2_.length : Int)) = true]) (by kernel_rfl) (cj (len_nm _ _) (cj (len_nm _ _) (cj1 h1))))) (fun h1 =>
   Pn.ite (fun h6 =>
   Pn.bind (fun r1 h7 =>
   Pn.lo (fun s1 h8 =>
   Pn.some (Fn.of [.wait 3, .nm 7 (V.sc (.int .i64 (s1_.length : Int))), .wait 2, .nm 9 (V.sc (.int .i64 (s2_.length : Int))), .bit false, .wait 1, .nm 12 (V.sc (.int .i64 (s1_.length : Int))), .wait 2, .mask [0, 1, 12, 13], .ren [], .loop (X.out 0) (st 26 [] [] [])] (p := [V.sc (.int .i64 ((List.map E61 s1_).length : Int)) = V.sc (.int .i64 (s1_.length : Int)),
    V.sc (.int .i64 ((List.map E61 s2_).length : Int)) = V.sc (.int .i64 (s2_.length : Int)),
    ((s1_.length : Int) != (s2_.length : Int)) = false,
    V.sc (.int .i64 ((List.map E61 s1_).length : Int)) = V.sc (.int .i64 (s1_.length : Int)),
    Loop Tryz.prog (sub (codeOf Tryz.prog 69) [1, 1, 0, 1, 0, 0]) (st 26 [(0, V.sl false 61 (List.map E61 s1_)), (1, V.sl false 61 (List.map E61 s2_)), (12, V.sc (.int .i64 (s1_.length : Int))), (13, V.sc (.int .i64 0))] [] []) (X.out 0) (st 26 [] [] [])]) (by kernel_rfl) (cj (len_nm _ _) (cj (len_nm _ _) (cj h1 (cj (len_nm _ _) (cj1 ((slices_Equal_impl_Hold_l0_ok s1_ s2_ h6 s1_ [] rfl r1 h7).at h8 :)))))))) (fun s2 h9 =>
   Pn.some (Fn.of [.wait 3, .nm 7 (V.sc (.int .i64 (s1_.length : Int))), .wait 2, .nm 9 (V.sc (.int .i64 (s2_.length : Int))), .bit false, .wait 1, .nm 12 (V.sc (.int .i64 (s1_.length : Int))), .wait 2, .mask [0, 1, 12, 13], .ren [], .loop (X.ret) (st 26 [(4, V.sc (.bool false))] [] [])] (p := [V.sc (.int .i64 ((List.map E61 s1_).length : Int)) = V.sc (.int .i64 (s1_.length : Int)),
    V.sc (.int .i64 ((List.map E61 s2_).length : Int)) = V.sc (.int .i64 (s2_.length : Int)),
    ((s1_.length : Int) != (s2_.length : Int)) = false,
    V.sc (.int .i64 ((List.map E61 s1_).length : Int)) = V.sc (.int .i64 (s1_.length : Int)),
    Loop Tryz.prog (sub (codeOf Tryz.prog 69) [1, 1, 0, 1, 0, 0]) (st 26 [(0, V.sl false 61 (List.map E61 s1_)), (1, V.sl false 61 (List.map E61 s2_)), (12, V.sc (.int .i64 (s1_.length : Int))), (13, V.sc (.int .i64 0))] [] []) (X.ret) (st 26 [(4, V.sc (.bool false))] [] [])]) (by kernel_rfl) (cj (len_nm _ _) (cj (len_nm _ _) (cj h1 (cj (len_nm _ _) (cj1 ((slices_Equal_impl_Hold_l0_ok s1_ s2_ h6 s1_ [] rfl r1 h7).at h9 :)))))))))) (fun h6 =>
   Pn.none))
def slices_Equal_int_l0 (s1_ : List Int) (s2_ : List Int) : List Int → List Int → Option (Lo Unit Unit)
  | [], p1 =>
   some (.out ())
  | x1 :: t1, p1 =>
   (s2_[(p1.length : Int).toNat]?).bind fun x2 =>
   if (x1 != x2) = true then
   some (.ret ())
   else
   slices_Equal_int_l0 s1_ s2_ t1 (p1 ++ [x1])
theorem slices_Equal_int_l0_ok (s1_ : List Int) (s2_ : List Int) (h3 : capOk s1_.length = true) : ∀ (t1 p1 : List Int) (_ : s1_ = p1 ++ t1) , Pn (LpO Tryz.prog (sub (codeOf Tryz.prog 97) [1, 1, 0, 1, 0, 0]) (st 26 [(0, V.sl false 3 (List.map E3 s1_)), (1, V.sl false 3 (List.map E3 s2_)), (12, V.sc (.int .i64 (s1_.length : Int))), (13, V.sc (.int .i64 (p1.length : Int)))] [] []) (fun (y : Lo Unit Unit) => Lo.elim y (fun s => (X.out 0, st 26 [] [] [])) (fun s => (X.ret, st 26 [(4, V.sc (.bool false))] [] [])))) (slices_Equal_int_l0 s1_ s2_ t1 p1)
  | [], p1, h2 => by
    unfold slices_Equal_int_l0
    exact
     Pn.some (LpO.out [.bit false, .mask [], .ren []] (p := [(decide ((p1.length : Int) < (s1_.length : Int))) = false]) (by kernel_rfl) (show X.out 0 ≠ X.go from nofun) (cj1 (rng_end h2)))
  | x1 :: t1, p1, h2 => by
    unfold slices_Equal_int_l0
    exact
     Pn.bind (fun x2 h4 =>
     Pn.ite (fun h5 =>
     Pn.some (LpO.out [.bit true, .draw [], .el (E3 x1), .el (E3 x2), .bit true, .wait 1, .mask [4], .ren []] (p := [(decide ((p1.length : Int) < (s1_.length : Int))) = true,
      (0 : Int) ≤ (p1.length : Int),
      (List.map E3 s1_)[(p1.length : Int).toNat]? = some (E3 x1),
      (0 : Int) ≤ (p1.length : Int),
      (List.map E3 s2_)[(p1.length : Int).toNat]? = some (E3 x2),
      (x1 != x2) = true]) (by kernel_rfl) (show X.ret ≠ X.go from nofun) (cj (rng_lt h2) (cj (by omega) (cj (rng_get _ h2) (cj (by omega) (cj (map_get h4) (cj1 h5)))))))) (fun h5 =>
     LpO.go [.bit true, .draw [], .el (E3 x1), .el (E3 x2), .bit false, .wait 2, .mask [0, 1, 12, 13], .ren [], .nm 13 (V.sc (.int .i64 ((p1 ++ [x1]).length : Int)))] (p := [(decide ((p1.length : Int) < (s1_.length : Int))) = true,
      (0 : Int) ≤ (p1.length : Int),
      (List.map E3 s1_)[(p1.length : Int).toNat]? = some (E3 x1),
      (0 : Int) ≤ (p1.length : Int),
      (List.map E3 s2_)[(p1.length : Int).toNat]? = some (E3 x2),
      (x1 != x2) = false,
      V.sc (.int .i64 (i64 ((p1.length : Int) + 1))) = V.sc (.int .i64 ((p1 ++ [x1]).length : Int))]) (by kernel_rfl) (cj (rng_lt h2) (cj (by omega) (cj (rng_get _ h2) (cj (by omega) (cj (map_get h4) (cj h5 (cj1 (rng_next h2 h3)))))))) (slices_Equal_int_l0_ok s1_ s2_ h3 t1 (p1 ++ [x1]) (rng_step h2))))
def slices_Equal_int (s1_ : List Int) (s2_ : List Int) : Option (Bool) :=
 if ((s1_.length : Int) != (s2_.length : Int)) = true then
 some false
 else
 if (capOk s1_.length) = true then
 (slices_Equal_int_l0 s1_ s2_ s1_ []).bind fun r1 =>
 Lo.elim r1 (fun s1 =>
 some true) (fun s2 =>
 some false)
 else none
theorem slices_Equal_int_ok (s1_ : List Int) (s2_ : List Int) : Pn (fun y => Fn Tryz.prog 97 [(false, E23 s1_), (false, E23 s2_)] (E4 y) []) (slices_Equal_int s1_ s2_) := by
  unfold slices_Equal_int
  exact
   Pn.ite (fun h1 =>
   Pn.some (Fn.of [.wait 3, .nm 7 (V.sc (.int .i64 (s1_.length : Int))), .wait 2, .nm 9 (V.sc (.int .i64 (s2_.length : Int))), .bit true] (p := [V.sc (.int .i64 ((List.map E3 s1_).length : Int)) = V.sc (.int .i64 (s1_.length : Int)),
    V.sc (.int .i64 ((List.map E3 s2_).length : Int)) = V.sc (.int .i64 (s2_.length : Int)),
    ((s1_.length : Int) != (s2_.length : Int)) = true]) (by kernel_rfl) (cj (len_nm _ _) (cj (len_nm _ _) (cj1 h1))))) (fun h1 =>
   Pn.ite (fun h6 =>
   Pn.bind (fun r1 h7 =>
   Pn.lo (fun s1 h8 =>
   Pn.some (Fn.of [.wait 3, .nm 7 (V.sc (.int .i64 (s1_.length : Int))), .wait 2, .nm 9 (V.sc (.int .i64 (s2_.length : Int))), .bit false, .wait 1, .nm 12 (V.sc (.int .i64 (s1_.length : Int))), .wait 2, .mask [0, 1, 12, 13], .ren [], .loop (X.out 0) (st 26 [] [] [])] (p := [V.sc (.int .i64 ((List.map E3 s1_).length : Int)) = V.sc (.int .i64 (s1_.length : Int)),
    V.sc (.int .i64 ((List.map E3 s2_).length : Int)) = V.sc (.int .i64 (s2_.length : Int)),
    ((s1_.length : Int) != (s2_.length : Int)) = false,
    V.sc (.int .i64 ((List.map E3 s1_).length : Int)) = V.sc (.int .i64 (s1_.length : Int)),
    Loop Tryz.prog (sub (codeOf Tryz.prog 97) [1, 1, 0, 1, 0, 0]) (st 26 [(0, V.sl false 3 (List.map E3 s1_)), (1, V.sl false 3 (List.map E3 s2_)), (12, V.sc (.int .i64 (s1_.length : Int))), (13, V.sc (.int .i64 0))] [] []) (X.out 0) (st 26 [] [] [])]) (by kernel_rfl) (cj (len_nm _ _) (cj (len_nm _ _) (cj h1 (cj (len_nm _ _) (cj1 ((slices_Equal_int_l0_ok s1_ s2_ h6 s1_ [] rfl r1 h7).at h8 :)))))))) (fun s2 h9 =>
   Pn.some (Fn.of [.wait 3, .nm 7 (V.sc (.int .i64 (s1_.length : Int))), .wait 2, .nm 9 (V.sc (.int .i64 (s2_.length : Int))), .bit false, .wait 1, .nm 12 (V.sc (.int .i64 (s1_.length : Int))), .wait 2, .mask [0, 1, 12, 13], .ren [], .loop (X.ret) (st 26 [(4, V.sc (.bool false))] [] [])] (p := [V.sc (.int .i64 ((List.map E3 s1_).length : Int)) = V.sc (.int .i64 (s1_.length : Int)),
    V.sc (.int .i64 ((List.map E3 s2_).length : Int)) = V.sc (.int .i64 (s2_.length : Int)),
    ((s1_.length : Int) != (s2_.length : Int)) = false,
    V.sc (.int .i64 ((List.map E3 s1_).length : Int)) = V.sc (.int .i64 (s1_.length : Int)),
    Loop Tryz.prog (sub (codeOf Tryz.prog 97) [1, 1, 0, 1, 0, 0]) (st 26 [(0, V.sl false 3 (List.map E3 s1_)), (1, V.sl false 3 (List.map E3 s2_)), (12, V.sc (.int .i64 (s1_.length : Int))), (13, V.sc (.int .i64 0))] [] []) (X.ret) (st 26 [(4, V.sc (.bool false))] [] [])]) (by kernel_rfl) (cj (len_nm _ _) (cj (len_nm _ _) (cj h1 (cj (len_nm _ _) (cj1 ((slices_Equal_int_l0_ok s1_ s2_ h6 s1_ [] rfl r1 h7).at h9 :)))))))))) (fun h6 =>
   Pn.none))
def impl_ringSame (a : Ring) (b : Ring) : Option (Bool) :=
 if (a.Span == b.Span) = true then
 if (a.Head == b.Head) = true then
 (slices_Equal_int a.Counts b.Counts).bind fun r1 =>
 if r1 = true then
 (slices_Equal_int a.Sums b.Sums).bind fun r2 =>
 some r2
 else
 some false
 else
 some false
 else
 some false
theorem impl_ringSame_ok (a : Ring) (b : Ring) : Pn (fun y => Fn Tryz.prog 70 [(false, E25 a), (false, E25 b)] (E4 y) []) (impl_ringSame a b) := by
  unfold impl_ringSame
  exact
   Pn.ite (fun h1 =>
   Pn.ite (fun h2 =>
   Pn.bind (fun r1 h3 =>
   Pn.ite (fun h4 =>
   Pn.bind (fun r2 h5 =>
   Pn.some (Fn.of [.bit true, .bit true, .bit true, .bit true, .bit true, .bit true, .bit true, .bit true, .bit true, .bit true, .bit true, .call [] (E4 r1) [], .bit true, .bit true, .bit true, .bit true, .bit true, .bit true, .call [] (E4 r2) [], .bit true] (p := [(a.Span == b.Span) = true,
    (a.Span == b.Span) = true,
    (a.Span == b.Span) = true,
    (a.Span == b.Span) = true,
    (a.Span == b.Span) = true,
    (a.Span == b.Span) = true,
    (a.Head == b.Head) = true,
    (a.Head == b.Head) = true,
    (a.Head == b.Head) = true,
    (a.Head == b.Head) = true,
    (a.Head == b.Head) = true,
    Fn Tryz.prog 97 [(false, E23 a.Counts), (false, E23 b.Counts)] (E4 r1) [],
    (true || ((E4 r1).nv && nvL [])) = true,
    (a.Head == b.Head) = true,
    r1 = true,
    r1 = true,
    r1 = true,
    r1 = true,
    r1 = true,
    Fn Tryz.prog 97 [(false, E23 a.Sums), (false, E23 b.Sums)] (E4 r2) [],
    (true || ((E4 r2).nv && nvL [])) = true,
    r1 = true]) (by kernel_rfl) (cj h1 (cj h1 (cj h1 (cj h1 (cj h1 (cj h1 (cj h2 (cj h2 (cj h2 (cj h2 (cj h2 (cj (slices_Equal_int_ok a.Counts b.Counts r1 h3) (cj rfl (cj h2 (cj h4 (cj h4 (cj h4 (cj h4 (cj h4 (cj (slices_Equal_int_ok a.Sums b.Sums r2 h5) (cj rfl (cj1 h4))))))))))))))))))))))))) (fun h4 =>
   Pn.some (Fn.of [.bit true, .bit true, .bit true, .bit true, .bit true, .bit true, .bit true, .bit true, .bit true, .bit true, .bit true, .call [] (E4 r1) [], .bit true, .bit false, .bit false, .bit false, .bit false, .bit false, .bit false] (p := [(a.Span == b.Span) = true,
    (a.Span == b.Span) = true,
    (a.Span == b.Span) = true,
    (a.Span == b.Span) = true,
    (a.Span == b.Span) = true,
    (a.Span == b.Span) = true,
    (a.Head == b.Head) = true,
    (a.Head == b.Head) = true,
    (a.Head == b.Head) = true,
    (a.Head == b.Head) = true,
    (a.Head == b.Head) = true,
    Fn Tryz.prog 97 [(false, E23 a.Counts), (false, E23 b.Counts)] (E4 r1) [],
    (true || ((E4 r1).nv && nvL [])) = true,
    (a.Head == b.Head) = true,
    r1 = false,
    r1 = false,
    r1 = false,
    r1 = false,
    r1 = false,
    r1 = false]) (by kernel_rfl) (cj h1 (cj h1 (cj h1 (cj h1 (cj h1 (cj h1 (cj h2 (cj h2 (cj h2 (cj h2 (cj h2 (cj (slices_Equal_int_ok a.Counts b.Counts r1 h3) (cj rfl (cj h2 (cj h4 (cj h4 (cj h4 (cj h4 (cj h4 (cj1 h4)))))))))))))))))))))))) (fun h2 =>
   Pn.some (Fn.of [.bit true, .bit true, .bit true, .bit true, .bit true, .bit true, .bit false, .bit false, .bit false, .bit false, .bit false, .bit false, .bit false, .bit false, .bit false, .bit false, .bit false, .bit false] (p := [(a.Span == b.Span) = true,
    (a.Span == b.Span) = true,
    (a.Span == b.Span) = true,
    (a.Span == b.Span) = true,
    (a.Span == b.Span) = true,
    (a.Span == b.Span) = true,
    (a.Head == b.Head) = false,
    (a.Head == b.Head) = false,
    (a.Head == b.Head) = false,
    (a.Head == b.Head) = false,
    (a.Head == b.Head) = false,
    (a.Head == b.Head) = false,
    false = false,
    false = false,
    false = false,
    false = false,
    false = false,
    false = false]) (by kernel_rfl) (cj h1 (cj h1 (cj h1 (cj h1 (cj h1 (cj h1 (cj h2 (cj h2 (cj h2 (cj h2 (cj h2 (cj h2 (cj rfl (cj rfl (cj rfl (cj rfl (cj rfl (cj1 rfl))))))))))))))))))))) (fun h1 =>
   Pn.some (Fn.of [.bit false, .bit false, .bit false, .bit false, .bit false, .bit false, .bit false, .bit false, .bit false, .bit false, .bit false, .bit false, .bit false, .bit false, .bit false, .bit false, .bit false, .bit false] (p := [(a.Span == b.Span) = false,
    (a.Span == b.Span) = false,
    (a.Span == b.Span) = false,
    (a.Span == b.Span) = false,
    (a.Span == b.Span) = false,
    (a.Span == b.Span) = false,
    false = false,
    false = false,
    false = false,
    false = false,
    false = false,
    false = false,
    false = false,
    false = false,
    false = false,
    false = false,
    false = false,
    false = false]) (by kernel_rfl) (cj h1 (cj h1 (cj h1 (cj h1 (cj h1 (cj h1 (cj rfl (cj rfl (cj rfl (cj rfl (cj rfl (cj rfl (cj rfl (cj rfl (cj rfl (cj rfl (cj rfl (cj1 rfl))))))))))))))))))))
def slices_Equal_byte_l0 (s1_ : List Int) (s2_ : List Int) : List Int → List Int → Option (Lo Unit Unit)
  | [], p1 =>
   some (.out ())
  | x1 :: t1, p1 =>
   (s2_[(p1.length : Int).toNat]?).bind fun x2 =>
   if (x1 != x2) = true then
   some (.ret ())
   else
   slices_Equal_byte_l0 s1_ s2_ t1 (p1 ++ [x1])
theorem slices_Equal_byte_l0_ok (s1_ : List Int) (s2_ : List Int) (h3 : capOk s1_.length = true) : ∀ (t1 p1 : List Int) (_ : s1_ = p1 ++ t1) , Pn (LpO Tryz.prog (sub (codeOf Tryz.prog 100) [1, 1, 0, 1, 0, 0]) (st 26 [(0, V.sl false 5 (List.map E5 s1_)), (1, V.sl false 5 (List.map E5 s2_)), (12, V.sc (.int .i64 (s1_.length : Int))), (13, V.sc (.int .i64 (p1.length : Int)))] [] []) (fun (y : Lo Unit Unit) => Lo.elim y (fun s => (X.out 0, st 26 [] [] [])) (fun s => (X.ret, st 26 [(4, V.sc (.bool false))] [] [])))) (slices_Equal_byte_l0 s1_ s2_ t1 p1)
  | [], p1, h2 => by
    unfold slices_Equal_byte_l0
    exact
     Pn.some (LpO.out [.bit false, .mask [], .ren []] (p := [(decide ((p1.length : Int) < (s1_.length : Int))) = false]) (by kernel_rfl) (show X.out 0 ≠ X.go from nofun) (cj1 (rng_end h2)))
  | x1 :: t1, p1, h2 => by
    unfold slices_Equal_byte_l0
    exact
     Pn.bind (fun x2 h4 =>
     Pn.ite (fun h5 =>
     Pn.some (LpO.out [.bit true, .draw [], .el (E5 x1), .el (E5 x2), .bit true, .wait 1, .mask [4], .ren []] (p := [(decide ((p1.length : Int) < (s1_.length : Int))) = true,
      (0 : Int) ≤ (p1.length : Int),
      (List.map E5 s1_)[(p1.length : Int).toNat]? = some (E5 x1),
      (0 : Int) ≤ (p1.length : Int),
      (List.map E5 s2_)[(p1.length : Int).toNat]? = some (E5 x2),
      (x1 != x2) = true]) (by kernel_rfl) (show X.ret ≠ X.go from nofun) (cj (rng_lt h2) (cj (by omega) (cj (rng_get _ h2) (cj (by omega) (cj (map_get h4) (cj1 h5)))))))) (fun h5 =>
     LpO.go [.bit true, .draw [], .el (E5 x1), .el (E5 x2), .bit false, .wait 2, .mask [0, 1, 12, 13], .ren [], .nm 13 (V.sc (.int .i64 ((p1 ++ [x1]).length : Int)))] (p := [(decide ((p1.length : Int) < (s1_.length : Int))) = true,
      (0 : Int) ≤ (p1.length : Int),
      (List.map E5 s1_)[(p1.length : Int).toNat]? = some (E5 x1),
      (0 : Int) ≤ (p1.length : Int),
      (List.map E5 s2_)[(p1.length : Int).toNat]? = some (E5 x2),
      (x1 != x2) = false,
      V.sc (.int .i64 (i64 ((p1.length : Int) + 1))) = V.sc (.int .i64 ((p1 ++ [x1]).length : Int))]) (by kernel_rfl) (cj (rng_lt h2) (cj (by omega) (cj (rng_get _ h2) (cj (by omega) (cj (map_get h4) (cj h5 (cj1 (rng_next h2 h3)))))))) (slices_Equal_byte_l0_ok s1_ s2_ h3 t1 (p1 ++ [x1]) (rng_step h2))))
def slices_Equal_byte (s1_ : List Int) (s2_ : List Int) : Option (Bool) :=
 if ((s1_.length : Int) != (s2_.length : Int)) = true then
 some false
 else
 if (capOk s1_.length) = true then
 (slices_Equal_byte_l0 s1_ s2_ s1_ []).bind fun r1 =>
 Lo.elim r1 (fun s1 =>
 some true) (fun s2 =>
 some false)
 else none
theorem slices_Equal_byte_ok (s1_ : List Int) (s2_ : List Int) : Pn (fun y => Fn Tryz.prog 100 [(false, E64 s1_), (false, E64 s2_)] (E4 y) []) (slices_Equal_byte s1_ s2_) := by
  unfold slices_Equal_byte
  exact
   Pn.ite (fun h1 =>
   Pn.some (Fn.of [.wait 3, .nm 7 (V.sc (.int .i64 (s1_.length : Int))), .wait 2, .nm 9 (V.sc (.int .i64 (s2_.length : Int))), .bit true] (p := [V.sc (.int .i64 ((List.map E5 s1_).length : Int)) = V.sc (.int .i64 (s1_.length : Int)),
    V.sc (.int .i64 ((List.map E5 s2_).length : Int)) = V.sc (.int .i64 (s2_.length : Int)),
    ((s1_.length : Int) != (s2_.length : Int)) = true]) (by kernel_rfl) (cj (len_nm _ _) (cj (len_nm _ _) (cj1 h1))))) (fun h1 =>
   Pn.ite (fun h6 =>
   Pn.bind (fun r1 h7 =>
   Pn.lo (fun s1 h8 =>
   Pn.some (Fn.of [.wait 3, .nm 7 (V.sc (.int .i64 (s1_.length : Int))), .wait 2, .nm 9 (V.sc (.int .i64 (s2_.length : Int))), .bit false, .wait 1, .nm 12 (V.sc (.int .i64 (s1_.length : Int))), .wait 2, .mask [0, 1, 12, 13], .ren [], .loop (X.out 0) (st 26 [] [] [])] (p := [V.sc (.int .i64 ((List.map E5 s1_).length : Int)) = V.sc (.int .i64 (s1_.length : Int)),
    V.sc (.int .i64 ((List.map E5 s2_).length : Int)) = V.sc (.int .i64 (s2_.length : Int)),
    ((s1_.length : Int) != (s2_.length : Int)) = false,
    V.sc (.int .i64 ((List.map E5 s1_).length : Int)) = V.sc (.int .i64 (s1_.length : Int)),
    Loop Tryz.prog (sub (codeOf Tryz.prog 100) [1, 1, 0, 1, 0, 0]) (st 26 [(0, V.sl false 5 (List.map E5 s1_)), (1, V.sl false 5 (List.map E5 s2_)), (12, V.sc (.int .i64 (s1_.length : Int))), (13, V.sc (.int .i64 0))] [] []) (X.out 0) (st 26 [] [] [])]) (by kernel_rfl) (cj (len_nm _ _) (cj (len_nm _ _) (cj h1 (cj (len_nm _ _) (cj1 ((slices_Equal_byte_l0_ok s1_ s2_ h6 s1_ [] rfl r1 h7).at h8 :)))))))) (fun s2 h9 =>
   Pn.some (Fn.of [.wait 3, .nm 7 (V.sc (.int .i64 (s1_.length : Int))), .wait 2, .nm 9 (V.sc (.int .i64 (s2_.length : Int))), .bit false, .wait 1, .nm 12 (V.sc (.int .i64 (s1_.length : Int))), .wait 2, .mask [0, 1, 12, 13], .ren [], .loop (X.ret) (st 26 [(4, V.sc (.bool false))] [] [])] (p := [V.sc (.int .i64 ((List.map E5 s1_).length : Int)) = V.sc (.int .i64 (s1_.length : Int)),
    V.sc (.int .i64 ((List.map E5 s2_).length : Int)) = V.sc (.int .i64 (s2_.length : Int)),
    ((s1_.length : Int) != (s2_.length : Int)) = false,
    V.sc (.int .i64 ((List.map E5 s1_).length : Int)) = V.sc (.int .i64 (s1_.length : Int)),
    Loop Tryz.prog (sub (codeOf Tryz.prog 100) [1, 1, 0, 1, 0, 0]) (st 26 [(0, V.sl false 5 (List.map E5 s1_)), (1, V.sl false 5 (List.map E5 s2_)), (12, V.sc (.int .i64 (s1_.length : Int))), (13, V.sc (.int .i64 0))] [] []) (X.ret) (st 26 [(4, V.sc (.bool false))] [] [])]) (by kernel_rfl) (cj (len_nm _ _) (cj (len_nm _ _) (cj h1 (cj (len_nm _ _) (cj1 ((slices_Equal_byte_l0_ok s1_ s2_ h6 s1_ [] rfl r1 h7).at h9 :)))))))))) (fun h6 =>
   Pn.none))
def impl_SlotsSame_1 (x_ : Slot) (y_ : Slot) : Option (Bool) :=
 if (x_.Trace == y_.Trace) = true then
 if (x_.Mti == y_.Mti) = true then
 (slices_Equal_byte x_.Reply y_.Reply).bind fun r1 =>
 some r1
 else
 some false
 else
 some false
theorem impl_SlotsSame_1_ok (x_ : Slot) (y_ : Slot) : Pn (fun y => Fn Tryz.prog 99 [(false, E66 x_), (false, E66 y_)] (E4 y) []) (impl_SlotsSame_1 x_ y_) := by
  unfold impl_SlotsSame_1
  exact
   Pn.ite (fun h1 =>
   Pn.ite (fun h2 =>
   Pn.bind (fun r1 h3 =>
   Pn.some (Fn.of [.bit true, .bit true, .bit true, .bit true, .bit true, .bit true, .bit true, .bit true, .bit true, .bit true, .bit true, .call [] (E4 r1) [], .bit true] (p := [(x_.Trace == y_.Trace) = true,
    (x_.Trace == y_.Trace) = true,
    (x_.Trace == y_.Trace) = true,
    (x_.Trace == y_.Trace) = true,
    (x_.Trace == y_.Trace) = true,
    (x_.Trace == y_.Trace) = true,
    (x_.Mti == y_.Mti) = true,
    (x_.Mti == y_.Mti) = true,
    (x_.Mti == y_.Mti) = true,
    (x_.Mti == y_.Mti) = true,
    (x_.Mti == y_.Mti) = true,
    Fn Tryz.prog 100 [(false, E64 x_.Reply), (false, E64 y_.Reply)] (E4 r1) [],
    (true || ((E4 r1).nv && nvL [])) = true,
    (x_.Mti == y_.Mti) = true]) (by kernel_rfl) (cj h1 (cj h1 (cj h1 (cj h1 (cj h1 (cj h1 (cj h2 (cj h2 (cj h2 (cj h2 (cj h2 (cj (slices_Equal_byte_ok x_.Reply y_.Reply r1 h3) (cj rfl (cj1 h2))))))))))))))))) (fun h2 =>
   Pn.some (Fn.of [.bit true, .bit true, .bit true, .bit true, .bit true, .bit true, .bit false, .bit false, .bit false, .bit false, .bit false, .bit false] (p := [(x_.Trace == y_.Trace) = true,
    (x_.Trace == y_.Trace) = true,
    (x_.Trace == y_.Trace) = true,
    (x_.Trace == y_.Trace) = true,
    (x_.Trace == y_.Trace) = true,
    (x_.Trace == y_.Trace) = true,
    (x_.Mti == y_.Mti) = false,
    (x_.Mti == y_.Mti) = false,
    (x_.Mti == y_.Mti) = false,
    (x_.Mti == y_.Mti) = false,
    (x_.Mti == y_.Mti) = false,
    (x_.Mti == y_.Mti) = false]) (by kernel_rfl) (cj h1 (cj h1 (cj h1 (cj h1 (cj h1 (cj h1 (cj h2 (cj h2 (cj h2 (cj h2 (cj h2 (cj1 h2))))))))))))))) (fun h1 =>
   Pn.some (Fn.of [.bit false, .bit false, .bit false, .bit false, .bit false, .bit false, .bit false, .bit false, .bit false, .bit false, .bit false, .bit false] (p := [(x_.Trace == y_.Trace) = false,
    (x_.Trace == y_.Trace) = false,
    (x_.Trace == y_.Trace) = false,
    (x_.Trace == y_.Trace) = false,
    (x_.Trace == y_.Trace) = false,
    (x_.Trace == y_.Trace) = false,
    false = false,
    false = false,
    false = false,
    false = false,
    false = false,
    false = false]) (by kernel_rfl) (cj h1 (cj h1 (cj h1 (cj h1 (cj h1 (cj h1 (cj rfl (cj rfl (cj rfl (cj rfl (cj rfl (cj1 rfl))))))))))))))
def slices_EqualFunc_impl_Slot_impl_SlotsSame_1_l0 (s1_ : List Slot) (s2_ : List Slot) : List Slot → List Slot → Option (Lo Unit Unit)
  | [], p1 =>
   some (.out ())
  | x1 :: t1, p1 =>
   (s2_[(p1.length : Int).toNat]?).bind fun x2 =>
   (impl_SlotsSame_1 x1 x2).bind fun r1 =>
   if r1 = true then
   slices_EqualFunc_impl_Slot_impl_SlotsSame_1_l0 s1_ s2_ t1 (p1 ++ [x1])
   else
   some (.ret ())
theorem slices_EqualFunc_impl_Slot_impl_SlotsSame_1_l0_ok (s1_ : List Slot) (s2_ : List Slot) (h3 : capOk s1_.length = true) : ∀ (t1 p1 : List Slot) (_ : s1_ = p1 ++ t1) , Pn (LpO Tryz.prog (sub (codeOf Tryz.prog 98) [1, 1, 0, 1, 0, 0]) (st 32 [(1, V.sl false 66 (List.map E66 s2_)), (2, V.fn 99 []), (15, V.sl false 66 (List.map E66 s1_)), (16, V.sc (.int .i64 (s1_.length : Int))), (17, V.sc (.int .i64 (p1.length : Int)))] [] []) (fun (y : Lo Unit Unit) => Lo.elim y (fun s => (X.out 0, st 32 [] [] [])) (fun s => (X.ret, st 32 [(6, V.sc (.bool false))] [] [])))) (slices_EqualFunc_impl_Slot_impl_SlotsSame_1_l0 s1_ s2_ t1 p1)
  | [], p1, h2 => by
    unfold slices_EqualFunc_impl_Slot_impl_SlotsSame_1_l0
    exact
     Pn.some (LpO.out [.bit false, .mask [], .ren []] (p := [(decide ((p1.length : Int) < (s1_.length : Int))) = false]) (by kernel_rfl) (show X.out 0 ≠ X.go from nofun) (cj1 (rng_end h2)))
  | x1 :: t1, p1, h2 => by
    unfold slices_EqualFunc_impl_Slot_impl_SlotsSame_1_l0
    exact
     Pn.bind (fun x2 h4 =>
     Pn.bind (fun r1 h5 =>
     Pn.ite (fun h6 =>
     LpO.go [.bit true, .el (E66 x1), .el (E66 x2), .call [] (E4 r1) [], .bit false, .wait 2, .mask [1, 2, 15, 16, 17], .ren [], .nm 17 (V.sc (.int .i64 ((p1 ++ [x1]).length : Int)))] (p := [(decide ((p1.length : Int) < (s1_.length : Int))) = true,
      (0 : Int) ≤ (p1.length : Int),
      (List.map E66 s1_)[(p1.length : Int).toNat]? = some (E66 x1),
      (0 : Int) ≤ (p1.length : Int),
      (List.map E66 s2_)[(p1.length : Int).toNat]? = some (E66 x2),
      Fn Tryz.prog 99 [(false, E66 x1), (false, E66 x2)] (E4 r1) [],
      (true || ((E4 r1).nv && nvL [])) = true,
      (!r1) = false,
      V.sc (.int .i64 (i64 ((p1.length : Int) + 1))) = V.sc (.int .i64 ((p1 ++ [x1]).length : Int))]) (by kernel_rfl) (cj (rng_lt h2) (cj (by omega) (cj (rng_get _ h2) (cj (by omega) (cj (map_get h4) (cj (impl_SlotsSame_1_ok x1 x2 r1 h5) (cj rfl (cj (nf h6) (cj1 (rng_next h2 h3)))))))))) (slices_EqualFunc_impl_Slot_impl_SlotsSame_1_l0_ok s1_ s2_ h3 t1 (p1 ++ [x1]) (rng_step h2))) (fun h6 =>
     Pn.some (LpO.out [.bit true, .el (E66 x1), .el (E66 x2), .call [] (E4 r1) [], .bit true, .wait 1, .mask [6], .ren []] (p := [(decide ((p1.length : Int) < (s1_.length : Int))) = true,
      (0 : Int) ≤ (p1.length : Int),
      (List.map E66 s1_)[(p1.length : Int).toNat]? = some (E66 x1),
      (0 : Int) ≤ (p1.length : Int),
      (List.map E66 s2_)[(p1.length : Int).toNat]? = some (E66 x2),
      Fn Tryz.prog 99 [(false, E66 x1), (false, E66 x2)] (E4 r1) [],
      (true || ((E4 r1).nv && nvL [])) = true,
      (!r1) = true]) (by kernel_rfl) (show X.ret ≠ X.go from nofun) (cj (rng_lt h2) (cj (by omega) (cj (rng_get _ h2) (cj (by omega) (cj (map_get h4) (cj (impl_SlotsSame_1_ok x1 x2 r1 h5) (cj rfl (cj1 (nt h6)))))))))))))
def slices_EqualFunc_impl_Slot_impl_SlotsSame_1 (s1_ : List Slot) (s2_ : List Slot) : Option (Bool) :=
 if ((s1_.length : Int) != (s2_.length : Int)) = true then
 some false
 else
 if (capOk s1_.length) = true then
 (slices_EqualFunc_impl_Slot_impl_SlotsSame_1_l0 s1_ s2_ s1_ []).bind fun r2 =>
 Lo.elim r2 (fun s1 =>
 some true) (fun s2 =>
 some false)
 else none
theorem slices_EqualFunc_impl_Slot_impl_SlotsSame_1_ok (s1_ : List Slot) (s2_ : List Slot) : Pn (fun y => Fn Tryz.prog 98 [(false, E26 s1_), (false, E26 s2_), (false, V.fn 99 [])] (E4 y) []) (slices_EqualFunc_impl_Slot_impl_SlotsSame_1 s1_ s2_) := by
  unfold slices_EqualFunc_impl_Slot_impl_SlotsSame_1
  exact
   Pn.ite (fun h1 =>
   Pn.some (Fn.of [.wait 3, .nm 11 (V.sc (.int .i64 (s1_.length : Int))), .wait 2, .nm 13 (V.sc (.int .i64 (s2_.length : Int))), .bit true] (p := [V.sc (.int .i64 ((List.map E66 s1_).length : Int)) = V.sc (.int .i64 (s1_.length : Int)),
    V.sc (.int .i64 ((List.map E66 s2_).length : Int)) = V.sc (.int .i64 (s2_.length : Int)),
    ((s1_.length : Int) != (s2_.length : Int)) = true]) (by kernel_rfl) (cj (len_nm _ _) (cj (len_nm _ _) (cj1 h1))))) (fun h1 =>
   Pn.ite (fun h7 =>
   Pn.bind (fun r2 h8 =>
   Pn.lo (fun s1 h9 =>
   Pn.some (Fn.of [.wait 3, .nm 11 (V.sc (.int .i64 (s1_.length : Int))), .wait 2, .nm 13 (V.sc (.int .i64 (s2_.length : Int))), .bit false, .wait 1, .nm 16 (V.sc (.int .i64 (s1_.length : Int))), .wait 2, .mask [1, 2, 15, 16, 17], .ren [], .loop (X.out 0) (st 32 [] [] [])] (p := [V.sc (.int .i64 ((List.map E66 s1_).length : Int)) = V.sc (.int .i64 (s1_.length : Int)),
    V.sc (.int .i64 ((List.map E66 s2_).length : Int)) = V.sc (.int .i64 (s2_.length : Int)),
    ((s1_.length : Int) != (s2_.length : Int)) = false,
    V.sc (.int .i64 ((List.map E66 s1_).length : Int)) = V.sc (.int .i64 (s1_.length : Int)),
    Loop Tryz.prog (sub (codeOf Tryz.prog 98) [1, 1, 0, 1, 0, 0]) (st 32 [(1, V.sl false 66 (List.map E66 s2_)), (2, V.fn 99 []), (15, V.sl false 66 (List.map E66 s1_)), (16, V.sc (.int .i64 (s1_.length : Int))), (17, V.sc (.int .i64 0))] [] []) (X.out 0) (st 32 [] [] [])]) (by kernel_rfl) (cj (len_nm _ _) (cj (len_nm _ _) (cj h1 (cj (len_nm _ _) (cj1 ((slices_EqualFunc_impl_Slot_impl_SlotsSame_1_l0_ok s1_ s2_ h7 s1_ [] rfl r2 h8).at h9 :)))))))) (fun s2 h10 =>
   Pn.some (Fn.of [.wait 3, .nm 11 (V.sc (.int .i64 (s1_.length : Int))), .wait 2, .nm 13 (V.sc (.int .i64 (s2_.length : Int))), .bit false, .wait 1, .nm 16 (V.sc (.int .i64 (s1_.length : Int))), .wait 2, .mask [1, 2, 15, 16, 17], .ren [], .loop (X.ret) (st 32 [(6, V.sc (.bool false))] [] [])] (p := [V.sc (.int .i64 ((List.map E66 s1_).length : Int)) = V.sc (.int .i64 (s1_.length : Int)),
    V.sc (.int .i64 ((List.map E66 s2_).length : Int)) = V.sc (.int .i64 (s2_.length : Int)),
    ((s1_.length : Int) != (s2_.length : Int)) = false,
    V.sc (.int .i64 ((List.map E66 s1_).length : Int)) = V.sc (.int .i64 (s1_.length : Int)),
    Loop Tryz.prog (sub (codeOf Tryz.prog 98) [1, 1, 0, 1, 0, 0]) (st 32 [(1, V.sl false 66 (List.map E66 s2_)), (2, V.fn 99 []), (15, V.sl false 66 (List.map E66 s1_)), (16, V.sc (.int .i64 (s1_.length : Int))), (17, V.sc (.int .i64 0))] [] []) (X.ret) (st 32 [(6, V.sc (.bool false))] [] [])]) (by kernel_rfl) (cj (len_nm _ _) (cj (len_nm _ _) (cj h1 (cj (len_nm _ _) (cj1 ((slices_EqualFunc_impl_Slot_impl_SlotsSame_1_l0_ok s1_ s2_ h7 s1_ [] rfl r2 h8).at h10 :)))))))))) (fun h7 =>
   Pn.none))
def impl_SlotsSame (a : List Slot) (b : List Slot) : Option (Bool) :=
 (slices_EqualFunc_impl_Slot_impl_SlotsSame_1 a b).bind fun r1 =>
 some r1
theorem impl_SlotsSame_ok (a : List Slot) (b : List Slot) : Pn (fun y => Fn Tryz.prog 71 [(false, E26 a), (false, E26 b)] (E4 y) []) (impl_SlotsSame a b) := by
  unfold impl_SlotsSame
  exact
   Pn.bind (fun r1 h1 =>
   Pn.some (Fn.of [.call [] (E4 r1) []] (p := [Fn Tryz.prog 98 [(false, E26 a), (false, E26 b), (false, V.fn 99 [])] (E4 r1) [],
    (true || ((E4 r1).nv && nvL [])) = true]) (by kernel_rfl) (cj (slices_EqualFunc_impl_Slot_impl_SlotsSame_1_ok a b r1 h1) (cj1 rfl))))
def impl_AcctSame (a : Acct) (b : Acct) : Option (Bool) :=
 if (a.Id == b.Id) = true then
 if (a.Limit == b.Limit) = true then
 if (a.Posted == b.Posted) = true then
 if (a.Most == b.Most) = true then
 if (a.MostSum == b.MostSum) = true then
 (slices_Equal_impl_Hold a.Holds b.Holds).bind fun r1 =>
 if r1 = true then
 (impl_ringSame a.Ring b.Ring).bind fun r2 =>
 if r2 = true then
 (impl_SlotsSame a.Slots b.Slots).bind fun r3 =>
 some r3
 else
 some false
 else
 some false
 else
 some false
 else
 some false
 else
 some false
 else
 some false
 else
 some false
theorem impl_AcctSame_ok (a : Acct) (b : Acct) : Pn (fun y => Fn Tryz.prog 38 [(false, E28 a), (false, E28 b)] (E4 y) []) (impl_AcctSame a b) := by
  unfold impl_AcctSame
  exact
   Pn.ite (fun h1 =>
   Pn.ite (fun h2 =>
   Pn.ite (fun h3 =>
   Pn.ite (fun h4 =>
   Pn.ite (fun h5 =>
   Pn.bind (fun r1 h6 =>
   Pn.ite (fun h7 =>
   Pn.bind (fun r2 h8 =>
   Pn.ite (fun h9 =>
   Pn.bind (fun r3 h10 =>
   Pn.some (Fn.of [.bit true, .bit true, .bit true, .bit true, .bit true, .bit true, .bit true, .bit true, .bit true, .bit true, .bit true, .bit true, .bit true, .bit true, .bit true, .bit true, .bit true, .bit true, .bit true, .bit true, .bit true, .bit true, .bit true, .bit true, .bit true, .bit true, .bit true, .bit true, .bit true, .call [] (E4 r1) [], .bit true, .bit true, .bit true, .bit true, .bit true, .bit true, .call [] (E4 r2) [], .bit true, .bit true, .bit true, .bit true, .bit true, .bit true, .call [] (E4 r3) [], .bit true] (p := [(a.Id == b.Id) = true,
    (a.Id == b.Id) = true,
    (a.Id == b.Id) = true,
    (a.Id == b.Id) = true,
    (a.Id == b.Id) = true,
    (a.Id == b.Id) = true,
    (a.Limit == b.Limit) = true,
    (a.Limit == b.Limit) = true,
    (a.Limit == b.Limit) = true,
    (a.Limit == b.Limit) = true,
    (a.Limit == b.Limit) = true,
    (a.Limit == b.Limit) = true,
    (a.Posted == b.Posted) = true,
    (a.Posted == b.Posted) = true,
    (a.Posted == b.Posted) = true,
    (a.Posted == b.Posted) = true,
    (a.Posted == b.Posted) = true,
    (a.Posted == b.Posted) = true,
    (a.Most == b.Most) = true,
    (a.Most == b.Most) = true,
    (a.Most == b.Most) = true,
    (a.Most == b.Most) = true,
    (a.Most == b.Most) = true,
    (a.Most == b.Most) = true,
    (a.MostSum == b.MostSum) = true,
    (a.MostSum == b.MostSum) = true,
    (a.MostSum == b.MostSum) = true,
    (a.MostSum == b.MostSum) = true,
    (a.MostSum == b.MostSum) = true,
    Fn Tryz.prog 69 [(false, E22 a.Holds), (false, E22 b.Holds)] (E4 r1) [],
    (true || ((E4 r1).nv && nvL [])) = true,
    (a.MostSum == b.MostSum) = true,
    r1 = true,
    r1 = true,
    r1 = true,
    r1 = true,
    r1 = true,
    Fn Tryz.prog 70 [(false, E25 a.Ring), (false, E25 b.Ring)] (E4 r2) [],
    (true || ((E4 r2).nv && nvL [])) = true,
    r1 = true,
    r2 = true,
    r2 = true,
    r2 = true,
    r2 = true,
    r2 = true,
    Fn Tryz.prog 71 [(false, E26 a.Slots), (false, E26 b.Slots)] (E4 r3) [],
    (true || ((E4 r3).nv && nvL [])) = true,
    r2 = true]) (by kernel_rfl) (cj h1 (cj h1 (cj h1 (cj h1 (cj h1 (cj h1 (cj h2 (cj h2 (cj h2 (cj h2 (cj h2 (cj h2 (cj h3 (cj h3 (cj h3 (cj h3 (cj h3 (cj h3 (cj h4 (cj h4 (cj h4 (cj h4 (cj h4 (cj h4 (cj h5 (cj h5 (cj h5 (cj h5 (cj h5 (cj (slices_Equal_impl_Hold_ok a.Holds b.Holds r1 h6) (cj rfl (cj h5 (cj h7 (cj h7 (cj h7 (cj h7 (cj h7 (cj (impl_ringSame_ok a.Ring b.Ring r2 h8) (cj rfl (cj h7 (cj h9 (cj h9 (cj h9 (cj h9 (cj h9 (cj (impl_SlotsSame_ok a.Slots b.Slots r3 h10) (cj rfl (cj1 h9))))))))))))))))))))))))))))))))))))))))))))))))))) (fun h9 =>
   Pn.some (Fn.of [.bit true, .bit true, .bit true, .bit true, .bit true, .bit true, .bit true, .bit true, .bit true, .bit true, .bit true, .bit true, .bit true, .bit true, .bit true, .bit true, .bit true, .bit true, .bit true, .bit true, .bit true, .bit true, .bit true, .bit true, .bit true, .bit true, .bit true, .bit true, .bit true, .call [] (E4 r1) [], .bit true, .bit true, .bit true, .bit true, .bit true, .bit true, .call [] (E4 r2) [], .bit true, .bit false, .bit false, .bit false, .bit false, .bit false, .bit false] (p := [(a.Id == b.Id) = true,
    (a.Id == b.Id) = true,
    (a.Id == b.Id) = true,
    (a.Id == b.Id) = true,
    (a.Id == b.Id) = true,
    (a.Id == b.Id) = true,
    (a.Limit == b.Limit) = true,
    (a.Limit == b.Limit) = true,
    (a.Limit == b.Limit) = true,
    (a.Limit == b.Limit) = true,
    (a.Limit == b.Limit) = true,
    (a.Limit == b.Limit) = true,
    (a.Posted == b.Posted) = true,
    (a.Posted == b.Posted) = true,
    (a.Posted == b.Posted) = true,
    (a.Posted == b.Posted) = true,
    (a.Posted == b.Posted) = true,
    (a.Posted == b.Posted) = true,
    (a.Most == b.Most) = true,
    (a.Most == b.Most) = true,
    (a.Most == b.Most) = true,
    (a.Most == b.Most) = true,
    (a.Most == b.Most) = true,
    (a.Most == b.Most) = true,
    (a.MostSum == b.MostSum) = true,
    (a.MostSum == b.MostSum) = true,
    (a.MostSum == b.MostSum) = true,
    (a.MostSum == b.MostSum) = true,
    (a.MostSum == b.MostSum) = true,
    Fn Tryz.prog 69 [(false, E22 a.Holds), (false, E22 b.Holds)] (E4 r1) [],
    (true || ((E4 r1).nv && nvL [])) = true,
    (a.MostSum == b.MostSum) = true,
    r1 = true,
    r1 = true,
    r1 = true,
    r1 = true,
    r1 = true,
    Fn Tryz.prog 70 [(false, E25 a.Ring), (false, E25 b.Ring)] (E4 r2) [],
    (true || ((E4 r2).nv && nvL [])) = true,
    r1 = true,
    r2 = false,
    r2 = false,
    r2 = false,
    r2 = false,
    r2 = false,
    r2 = false]) (by kernel_rfl) (cj h1 (cj h1 (cj h1 (cj h1 (cj h1 (cj h1 (cj h2 (cj h2 (cj h2 (cj h2 (cj h2 (cj h2 (cj h3 (cj h3 (cj h3 (cj h3 (cj h3 (cj h3 (cj h4 (cj h4 (cj h4 (cj h4 (cj h4 (cj h4 (cj h5 (cj h5 (cj h5 (cj h5 (cj h5 (cj (slices_Equal_impl_Hold_ok a.Holds b.Holds r1 h6) (cj rfl (cj h5 (cj h7 (cj h7 (cj h7 (cj h7 (cj h7 (cj (impl_ringSame_ok a.Ring b.Ring r2 h8) (cj rfl (cj h7 (cj h9 (cj h9 (cj h9 (cj h9 (cj h9 (cj1 h9)))))))))))))))))))))))))))))))))))))))))))))))))) (fun h7 =>
   Pn.some (Fn.of [.bit true, .bit true, .bit true, .bit true, .bit true, .bit true, .bit true, .bit true, .bit true, .bit true, .bit true, .bit true, .bit true, .bit true, .bit true, .bit true, .bit true, .bit true, .bit true, .bit true, .bit true, .bit true, .bit true, .bit true, .bit true, .bit true, .bit true, .bit true, .bit true, .call [] (E4 r1) [], .bit true, .bit false, .bit false, .bit false, .bit false, .bit false, .bit false, .bit false, .bit false, .bit false, .bit false, .bit false, .bit false] (p := [(a.Id == b.Id) = true,
    (a.Id == b.Id) = true,
    (a.Id == b.Id) = true,
    (a.Id == b.Id) = true,
    (a.Id == b.Id) = true,
    (a.Id == b.Id) = true,
    (a.Limit == b.Limit) = true,
    (a.Limit == b.Limit) = true,
    (a.Limit == b.Limit) = true,
    (a.Limit == b.Limit) = true,
    (a.Limit == b.Limit) = true,
    (a.Limit == b.Limit) = true,
    (a.Posted == b.Posted) = true,
    (a.Posted == b.Posted) = true,
    (a.Posted == b.Posted) = true,
    (a.Posted == b.Posted) = true,
    (a.Posted == b.Posted) = true,
    (a.Posted == b.Posted) = true,
    (a.Most == b.Most) = true,
    (a.Most == b.Most) = true,
    (a.Most == b.Most) = true,
    (a.Most == b.Most) = true,
    (a.Most == b.Most) = true,
    (a.Most == b.Most) = true,
    (a.MostSum == b.MostSum) = true,
    (a.MostSum == b.MostSum) = true,
    (a.MostSum == b.MostSum) = true,
    (a.MostSum == b.MostSum) = true,
    (a.MostSum == b.MostSum) = true,
    Fn Tryz.prog 69 [(false, E22 a.Holds), (false, E22 b.Holds)] (E4 r1) [],
    (true || ((E4 r1).nv && nvL [])) = true,
    (a.MostSum == b.MostSum) = true,
    r1 = false,
    r1 = false,
    r1 = false,
    r1 = false,
    r1 = false,
    r1 = false,
    false = false,
    false = false,
    false = false,
    false = false,
    false = false,
    false = false]) (by kernel_rfl) (cj h1 (cj h1 (cj h1 (cj h1 (cj h1 (cj h1 (cj h2 (cj h2 (cj h2 (cj h2 (cj h2 (cj h2 (cj h3 (cj h3 (cj h3 (cj h3 (cj h3 (cj h3 (cj h4 (cj h4 (cj h4 (cj h4 (cj h4 (cj h4 (cj h5 (cj h5 (cj h5 (cj h5 (cj h5 (cj (slices_Equal_impl_Hold_ok a.Holds b.Holds r1 h6) (cj rfl (cj h5 (cj h7 (cj h7 (cj h7 (cj h7 (cj h7 (cj h7 (cj rfl (cj rfl (cj rfl (cj rfl (cj rfl (cj1 rfl)))))))))))))))))))))))))))))))))))))))))))))))) (fun h5 =>
   Pn.some (Fn.of [.bit true, .bit true, .bit true, .bit true, .bit true, .bit true, .bit true, .bit true, .bit true, .bit true, .bit true, .bit true, .bit true, .bit true, .bit true, .bit true, .bit true, .bit true, .bit true, .bit true, .bit true, .bit true, .bit true, .bit true, .bit false, .bit false, .bit false, .bit false, .bit false, .bit false, .bit false, .bit false, .bit false, .bit false, .bit false, .bit false, .bit false, .bit false, .bit false, .bit false, .bit false, .bit false] (p := [(a.Id == b.Id) = true,
    (a.Id == b.Id) = true,
    (a.Id == b.Id) = true,
    (a.Id == b.Id) = true,
    (a.Id == b.Id) = true,
    (a.Id == b.Id) = true,
    (a.Limit == b.Limit) = true,
    (a.Limit == b.Limit) = true,
    (a.Limit == b.Limit) = true,
    (a.Limit == b.Limit) = true,
    (a.Limit == b.Limit) = true,
    (a.Limit == b.Limit) = true,
    (a.Posted == b.Posted) = true,
    (a.Posted == b.Posted) = true,
    (a.Posted == b.Posted) = true,
    (a.Posted == b.Posted) = true,
    (a.Posted == b.Posted) = true,
    (a.Posted == b.Posted) = true,
    (a.Most == b.Most) = true,
    (a.Most == b.Most) = true,
    (a.Most == b.Most) = true,
    (a.Most == b.Most) = true,
    (a.Most == b.Most) = true,
    (a.Most == b.Most) = true,
    (a.MostSum == b.MostSum) = false,
    (a.MostSum == b.MostSum) = false,
    (a.MostSum == b.MostSum) = false,
    (a.MostSum == b.MostSum) = false,
    (a.MostSum == b.MostSum) = false,
    (a.MostSum == b.MostSum) = false,
    false = false,
    false = false,
    false = false,
    false = false,
    false = false,
    false = false,
    false = false,
    false = false,
    false = false,
    false = false,
    false = false,
    false = false]) (by kernel_rfl) (cj h1 (cj h1 (cj h1 (cj h1 (cj h1 (cj h1 (cj h2 (cj h2 (cj h2 (cj h2 (cj h2 (cj h2 (cj h3 (cj h3 (cj h3 (cj h3 (cj h3 (cj h3 (cj h4 (cj h4 (cj h4 (cj h4 (cj h4 (cj h4 (cj h5 (cj h5 (cj h5 (cj h5 (cj h5 (cj h5 (cj rfl (cj rfl (cj rfl (cj rfl (cj rfl (cj rfl (cj rfl (cj rfl (cj rfl (cj rfl (cj rfl (cj1 rfl))))))))))))))))))))))))))))))))))))))))))))) (fun h4 =>
   Pn.some (Fn.of [.bit true, .bit true, .bit true, .bit true, .bit true, .bit true, .bit true, .bit true, .bit true, .bit true, .bit true, .bit true, .bit true, .bit true, .bit true, .bit true, .bit true, .bit true, .bit false, .bit false, .bit false, .bit false, .bit false, .bit false, .bit false, .bit false, .bit false, .bit false, .bit false, .bit false, .bit false, .bit false, .bit false, .bit false, .bit false, .bit false, .bit false, .bit false, .bit false, .bit false, .bit false, .bit false] (p := [(a.Id == b.Id) = true,
    (a.Id == b.Id) = true,
    (a.Id == b.Id) = true,
    (a.Id == b.Id) = true,
    (a.Id == b.Id) = true,
    (a.Id == b.Id) = true,
    (a.Limit == b.Limit) = true,
    (a.Limit == b.Limit) = true,
    (a.Limit == b.Limit) = true,
    (a.Limit == b.Limit) = true,
    (a.Limit == b.Limit) = true,
    (a.Limit == b.Limit) = true,
    (a.Posted == b.Posted) = true,
    (a.Posted == b.Posted) = true,
    (a.Posted == b.Posted) = true,
    (a.Posted == b.Posted) = true,
    (a.Posted == b.Posted) = true,
    (a.Posted == b.Posted) = true,
    (a.Most == b.Most) = false,
    (a.Most == b.Most) = false,
    (a.Most == b.Most) = false,
    (a.Most == b.Most) = false,
    (a.Most == b.Most) = false,
    (a.Most == b.Most) = false,
    false = false,
    false = false,
    false = false,
    false = false,
    false = false,
    false = false,
    false = false,
    false = false,
    false = false,
    false = false,
    false = false,
    false = false,
    false = false,
    false = false,
    false = false,
    false = false,
    false = false,
    false = false]) (by kernel_rfl) (cj h1 (cj h1 (cj h1 (cj h1 (cj h1 (cj h1 (cj h2 (cj h2 (cj h2 (cj h2 (cj h2 (cj h2 (cj h3 (cj h3 (cj h3 (cj h3 (cj h3 (cj h3 (cj h4 (cj h4 (cj h4 (cj h4 (cj h4 (cj h4 (cj rfl (cj rfl (cj rfl (cj rfl (cj rfl (cj rfl (cj rfl (cj rfl (cj rfl (cj rfl (cj rfl (cj rfl (cj rfl (cj rfl (cj rfl (cj rfl (cj rfl (cj1 rfl))))))))))))))))))))))))))))))))))))))))))))) (fun h3 =>
   Pn.some (Fn.of [.bit true, .bit true, .bit true, .bit true, .bit true, .bit true, .bit true, .bit true, .bit true, .bit true, .bit true, .bit true, .bit false, .bit false, .bit false, .bit false, .bit false, .bit false, .bit false, .bit false, .bit false, .bit false, .bit false, .bit false, .bit false, .bit false, .bit false, .bit false, .bit false, .bit false, .bit false, .bit false, .bit false, .bit false, .bit false, .bit false, .bit false, .bit false, .bit false, .bit false, .bit false, .bit false] (p := [(a.Id == b.Id) = true,
    (a.Id == b.Id) = true,
    (a.Id == b.Id) = true,
    (a.Id == b.Id) = true,
    (a.Id == b.Id) = true,
    (a.Id == b.Id) = true,
    (a.Limit == b.Limit) = true,
    (a.Limit == b.Limit) = true,
    (a.Limit == b.Limit) = true,
    (a.Limit == b.Limit) = true,
    (a.Limit == b.Limit) = true,
    (a.Limit == b.Limit) = true,
    (a.Posted == b.Posted) = false,
    (a.Posted == b.Posted) = false,
    (a.Posted == b.Posted) = false,
    (a.Posted == b.Posted) = false,
    (a.Posted == b.Posted) = false,
    (a.Posted == b.Posted) = false,
    false = false,
    false = false,
    false = false,
    false = false,
    false = false,
    false = false,
    false = false,
    false = false,
    false = false,
    false = false,
    false = false,
    false = false,
    false = false,
    false = false,
    false = false,
    false = false,
    false = false,
    false = false,
    false = false,
    false = false,
    false = false,
    false = false,
    false = false,
    false = false]) (by kernel_rfl) (cj h1 (cj h1 (cj h1 (cj h1 (cj h1 (cj h1 (cj h2 (cj h2 (cj h2 (cj h2 (cj h2 (cj h2 (cj h3 (cj h3 (cj h3 (cj h3 (cj h3 (cj h3 (cj rfl (cj rfl (cj rfl (cj rfl (cj rfl (cj rfl (cj rfl (cj rfl (cj rfl (cj rfl (cj rfl (cj rfl (cj rfl (cj rfl (cj rfl (cj rfl (cj rfl (cj rfl (cj rfl (cj rfl (cj rfl (cj rfl (cj rfl (cj1 rfl))))))))))))))))))))))))))))))))))))))))))))) (fun h2 =>
   Pn.some (Fn.of [.bit true, .bit true, .bit true, .bit true, .bit true, .bit true, .bit false, .bit false, .bit false, .bit false, .bit false, .bit false, .bit false, .bit false, .bit false, .bit false, .bit false, .bit false, .bit false, .bit false, .bit false, .bit false, .bit false, .bit false, .bit false, .bit false, .bit false, .bit false, .bit false, .bit false, .bit false, .bit false, .bit false, .bit false, .bit false, .bit false, .bit false, .bit false, .bit false, .bit false, .bit false, .bit false] (p := [(a.Id == b.Id) = true,
    (a.Id == b.Id) = true,
    (a.Id == b.Id) = true,
    (a.Id == b.Id) = true,
    (a.Id == b.Id) = true,
    (a.Id == b.Id) = true,
    (a.Limit == b.Limit) = false,
    (a.Limit == b.Limit) = false,
    (a.Limit == b.Limit) = false,
    (a.Limit == b.Limit) = false,
    (a.Limit == b.Limit) = false,
    (a.Limit == b.Limit) = false,
    false = false,
    false = false,
    false = false,
    false = false,
    false = false,
    false = false,
    false = false,
    false = false,
    false = false,
    false = false,
    false = false,
    false = false,
    false = false,
    false = false,
    false = false,
    false = false,
    false = false,
    false = false,
    false = false,
    false = false,
    false = false,
    false = false,
    false = false,
    false = false,
    false = false,
    false = false,
    false = false,
    false = false,
    false = false,
    false = false]) (by kernel_rfl) (cj h1 (cj h1 (cj h1 (cj h1 (cj h1 (cj h1 (cj h2 (cj h2 (cj h2 (cj h2 (cj h2 (cj h2 (cj rfl (cj rfl (cj rfl (cj rfl (cj rfl (cj rfl (cj rfl (cj rfl (cj rfl (cj rfl (cj rfl (cj rfl (cj rfl (cj rfl (cj rfl (cj rfl (cj rfl (cj rfl (cj rfl (cj rfl (cj rfl (cj rfl (cj rfl (cj rfl (cj rfl (cj rfl (cj rfl (cj rfl (cj rfl (cj1 rfl))))))))))))))))))))))))))))))))))))))))))))) (fun h1 =>
   Pn.some (Fn.of [.bit false, .bit false, .bit false, .bit false, .bit false, .bit false, .bit false, .bit false, .bit false, .bit false, .bit false, .bit false, .bit false, .bit false, .bit false, .bit false, .bit false, .bit false, .bit false, .bit false, .bit false, .bit false, .bit false, .bit false, .bit false, .bit false, .bit false, .bit false, .bit false, .bit false, .bit false, .bit false, .bit false, .bit false, .bit false, .bit false, .bit false, .bit false, .bit false, .bit false, .bit false, .bit false] (p := [(a.Id == b.Id) = false,
    (a.Id == b.Id) = false,
    (a.Id == b.Id) = false,
    (a.Id == b.Id) = false,
    (a.Id == b.Id) = false,
    (a.Id == b.Id) = false,
    false = false,
    false = false,
    false = false,
    false = false,
    false = false,
    false = false,
    false = false,
    false = false,
    false = false,
    false = false,
    false = false,
    false = false,
    false = false,
    false = false,
    false = false,
    false = false,
    false = false,
    false = false,
    false = false,
    false = false,
    false = false,
    false = false,
    false = false,
    false = false,
    false = false,
    false = false,
    false = false,
    false = false,
    false = false,
    false = false,
    false = false,
    false = false,
    false = false,
    false = false,
    false = false,
    false = false]) (by kernel_rfl) (cj h1 (cj h1 (cj h1 (cj h1 (cj h1 (cj h1 (cj rfl (cj rfl (cj rfl (cj rfl (cj rfl (cj rfl (cj rfl (cj rfl (cj rfl (cj rfl (cj rfl (cj rfl (cj rfl (cj rfl (cj rfl (cj rfl (cj rfl (cj rfl (cj rfl (cj rfl (cj rfl (cj rfl (cj rfl (cj rfl (cj rfl (cj rfl (cj rfl (cj rfl (cj rfl (cj rfl (cj rfl (cj rfl (cj rfl (cj rfl (cj rfl (cj1 rfl))))))))))))))))))))))))))))))))))))))))))))
def strings_Join (o : List ByteArray) (o_ : ByteArray) : Option ByteArray := if (decide (o.length ≤ 140737488355328) && decide ((joined o o_).size ≤ 140737488355328)) = true then some (joined o o_) else none
theorem strings_Join_ok (o : List ByteArray) (o_ : ByteArray) : Pn (fun y => Fn Tryz.prog 39 [(false, E34 o), (false, E9 o_)] (E9 y) []) (strings_Join o o_) := by
  unfold strings_Join
  exact Pn.ite (fun h => Pn.some (by
    simp only [Bool.and_eq_true, decide_eq_true_eq] at h
    exact Fn.join (by kernel_rfl) (fun a c s w => Go.Proofs.Any.strings_Join_none Tryz.lays156 Tryz.Builder_Extra_156 a c s w) (fun bk o c xs s w h1 h2 h3 h4 h5 => Go.Proofs.Any.strings_Join Tryz.lays156 Tryz.Builder_Extra_156 bk o c xs s w h1 h2 h3 h4 h5) o o_ h.1 h.2)) (fun _ => Pn.none)
def impl_SetupText (a : Acct) : Option (ByteArray) :=
 (impl_AcctNew a.Id a.Limit a.Most a.MostSum (a.Ring.Counts.length : Int) a.Ring.Span).bind fun r1 =>
 if r1.2 = true then
 (impl_AcctSame a r1.1).bind fun r2 =>
 if r2 = true then
 (impl_NumText a.Limit).bind fun r3 =>
 (impl_NumText a.Most).bind fun r4 =>
 (impl_NumText a.MostSum).bind fun r5 =>
 (impl_NumText (a.Ring.Counts.length : Int)).bind fun r6 =>
 (impl_NumText a.Ring.Span).bind fun r7 =>
 (strings_Join [bs [97, 99, 99, 111, 117, 110, 116], a.Id, r3, r4, r5, r6, r7] (bs [32])).bind fun r8 =>
 some r8
 else
 some (bs [])
 else
 some (bs [])
theorem impl_SetupText_ok (a : Acct) : Pn (fun y => Fn Tryz.prog 16 [(false, E28 a)] (E9 y) []) (impl_SetupText a) := by
  unfold impl_SetupText
  exact
   Pn.bind (fun r1 h1 =>
   Pn.ite (fun h2 =>
   Pn.bind (fun r2 h3 =>
   Pn.ite (fun h4 =>
   Pn.bind (fun r3 h5 =>
   Pn.bind (fun r4 h6 =>
   Pn.bind (fun r5 h7 =>
   Pn.bind (fun r6 h8 =>
   Pn.bind (fun r7 h9 =>
   Pn.bind (fun r8 h10 =>
   Pn.some (Fn.of [.wait 14, .nm 17 (V.sc (.int .i64 (a.Ring.Counts.length : Int))), .call [] (V.tup [E28 r1.1, E4 r1.2]) [], .bit false, .bit false, .bit false, .call [] (E4 r2) [], .bit false, .bit false, .bit false, .draw [], .wait 11, .nm 46 (V.sc (.int .i64 (a.Ring.Counts.length : Int))), .call [] (E9 r3) [], .call [] (E9 r4) [], .call [] (E9 r5) [], .call [] (E9 r6) [], .call [] (E9 r7) [], .call [] (E9 r8) []] (p := [V.sc (.int .i64 ((List.map E3 a.Ring.Counts).length : Int)) = V.sc (.int .i64 (a.Ring.Counts.length : Int)),
    Fn Tryz.prog 15 [(false, E9 a.Id), (false, E3 a.Limit), (false, E3 a.Most), (false, E3 a.MostSum), (false, E3 (a.Ring.Counts.length : Int)), (false, E3 a.Ring.Span)] (V.tup [E28 r1.1, E4 r1.2]) [],
    (true || ((V.tup [E28 r1.1, E4 r1.2]).nv && nvL [])) = true,
    (!r1.2) = false,
    (!r1.2) = false,
    (!r1.2) = false,
    Fn Tryz.prog 38 [(false, E28 a), (false, E28 r1.1)] (E4 r2) [],
    (false || ((E4 r2).nv && nvL [])) = true,
    (!r1.2) = false,
    (!r1.2) = false,
    (!r2) = false,
    V.sc (.int .i64 ((List.map E3 a.Ring.Counts).length : Int)) = V.sc (.int .i64 (a.Ring.Counts.length : Int)),
    Fn Tryz.prog 35 [(false, E3 a.Limit)] (E9 r3) [],
    (true || ((E9 r3).nv && nvL [])) = true,
    Fn Tryz.prog 35 [(false, E3 a.Most)] (E9 r4) [],
    (true || ((E9 r4).nv && nvL [])) = true,
    Fn Tryz.prog 35 [(false, E3 a.MostSum)] (E9 r5) [],
    (true || ((E9 r5).nv && nvL [])) = true,
    Fn Tryz.prog 35 [(false, E3 (a.Ring.Counts.length : Int))] (E9 r6) [],
    (true || ((E9 r6).nv && nvL [])) = true,
    Fn Tryz.prog 35 [(false, E3 a.Ring.Span)] (E9 r7) [],
    (true || ((E9 r7).nv && nvL [])) = true,
    Fn Tryz.prog 39 [(false, E34 [bs [97, 99, 99, 111, 117, 110, 116], a.Id, r3, r4, r5, r6, r7]), (false, E9 (bs [32]))] (E9 r8) [],
    (false || ((E9 r8).nv && nvL [])) = true]) (by kernel_rfl) (cj (len_nm _ _) (cj (impl_AcctNew_ok a.Id a.Limit a.Most a.MostSum (a.Ring.Counts.length : Int) a.Ring.Span r1 h1) (cj rfl (cj (nf h2) (cj (nf h2) (cj (nf h2) (cj (impl_AcctSame_ok a r1.1 r2 h3) (cj (by simp [V.nv, nvL, nvL_all, nv_E4]) (cj (nf h2) (cj (nf h2) (cj (nf h4) (cj (len_nm _ _) (cj (impl_NumText_ok a.Limit r3 h5) (cj rfl (cj (impl_NumText_ok a.Most r4 h6) (cj rfl (cj (impl_NumText_ok a.MostSum r5 h7) (cj rfl (cj (impl_NumText_ok (a.Ring.Counts.length : Int) r6 h8) (cj rfl (cj (impl_NumText_ok a.Ring.Span r7 h9) (cj rfl (cj (strings_Join_ok [bs [97, 99, 99, 111, 117, 110, 116], a.Id, r3, r4, r5, r6, r7] (bs [32]) r8 h10) (cj1 (by simp [V.nv, nvL, nvL_all, nv_E9]))))))))))))))))))))))))))))))))) (fun h4 =>
   Pn.some (Fn.of [.wait 14, .nm 17 (V.sc (.int .i64 (a.Ring.Counts.length : Int))), .call [] (V.tup [E28 r1.1, E4 r1.2]) [], .bit false, .bit false, .bit false, .call [] (E4 r2) [], .bit false, .bit false, .bit true] (p := [V.sc (.int .i64 ((List.map E3 a.Ring.Counts).length : Int)) = V.sc (.int .i64 (a.Ring.Counts.length : Int)),
    Fn Tryz.prog 15 [(false, E9 a.Id), (false, E3 a.Limit), (false, E3 a.Most), (false, E3 a.MostSum), (false, E3 (a.Ring.Counts.length : Int)), (false, E3 a.Ring.Span)] (V.tup [E28 r1.1, E4 r1.2]) [],
    (true || ((V.tup [E28 r1.1, E4 r1.2]).nv && nvL [])) = true,
    (!r1.2) = false,
    (!r1.2) = false,
    (!r1.2) = false,
    Fn Tryz.prog 38 [(false, E28 a), (false, E28 r1.1)] (E4 r2) [],
    (false || ((E4 r2).nv && nvL [])) = true,
    (!r1.2) = false,
    (!r1.2) = false,
    (!r2) = true]) (by kernel_rfl) (cj (len_nm _ _) (cj (impl_AcctNew_ok a.Id a.Limit a.Most a.MostSum (a.Ring.Counts.length : Int) a.Ring.Span r1 h1) (cj rfl (cj (nf h2) (cj (nf h2) (cj (nf h2) (cj (impl_AcctSame_ok a r1.1 r2 h3) (cj (by simp [V.nv, nvL, nvL_all, nv_E4]) (cj (nf h2) (cj (nf h2) (cj1 (nt h4)))))))))))))))) (fun h2 =>
   Pn.some (Fn.of [.wait 14, .nm 17 (V.sc (.int .i64 (a.Ring.Counts.length : Int))), .call [] (V.tup [E28 r1.1, E4 r1.2]) [], .bit true, .bit true, .bit true, .bit true, .bit true, .bit true] (p := [V.sc (.int .i64 ((List.map E3 a.Ring.Counts).length : Int)) = V.sc (.int .i64 (a.Ring.Counts.length : Int)),
    Fn Tryz.prog 15 [(false, E9 a.Id), (false, E3 a.Limit), (false, E3 a.Most), (false, E3 a.MostSum), (false, E3 (a.Ring.Counts.length : Int)), (false, E3 a.Ring.Span)] (V.tup [E28 r1.1, E4 r1.2]) [],
    (true || ((V.tup [E28 r1.1, E4 r1.2]).nv && nvL [])) = true,
    (!r1.2) = true,
    (!r1.2) = true,
    (!r1.2) = true,
    (!r1.2) = true,
    (!r1.2) = true,
    true = true]) (by kernel_rfl) (cj (len_nm _ _) (cj (impl_AcctNew_ok a.Id a.Limit a.Most a.MostSum (a.Ring.Counts.length : Int) a.Ring.Span r1 h1) (cj rfl (cj (nt h2) (cj (nt h2) (cj (nt h2) (cj (nt h2) (cj (nt h2) (cj1 rfl))))))))))))
def impl_TextSetup_s1 (s_ : ByteArray) (r4 : Acct × Bool) (x2 : ByteArray) (r3 : Int × Int × Int × Int × Int × Int × Int) (r1 : (List ByteArray)) : St := st 57 [(0, V.sc (.string s_)), (2, V.ptr 0 0), (4, V.ow 1), (5, V.ptr 2 0), (7, V.ptr 3 0), (8, V.sc (.bool r4.2)), (30, V.tup [V.agg [V.sc (.string r4.1.Id), V.sc (.int .i64 r4.1.Limit), V.sc (.int .i64 r4.1.Posted), V.sc (.int .i64 r4.1.Most), V.sc (.int .i64 r4.1.MostSum), V.ow 4, V.sc (.int .i64 r4.1.Ring.Span), V.sc (.int .i64 r4.1.Ring.Head), V.ow 5, V.ow 6, V.ow 7], V.sc (.bool r4.2)]), (31, V.ow 1), (32, V.ep 1 1 1 0), (33, V.sc (.string x2)), (34, V.ptr 2 2), (35, V.sc (.int .i64 r3.2.2.1)), (36, V.ptr 2 3), (37, V.sc (.int .i64 r3.2.2.2.1)), (38, V.ptr 2 4), (39, V.sc (.int .i64 r3.2.2.2.2.1)), (40, V.ptr 2 5), (41, V.sc (.int .i64 r3.2.2.2.2.2.1)), (42, V.ptr 2 6), (43, V.sc (.int .i64 r3.2.2.2.2.2.2)), (44, V.tup [V.agg [V.sc (.string r4.1.Id), V.sc (.int .i64 r4.1.Limit), V.sc (.int .i64 r4.1.Posted), V.sc (.int .i64 r4.1.Most), V.sc (.int .i64 r4.1.MostSum), V.ow 4, V.sc (.int .i64 r4.1.Ring.Span), V.sc (.int .i64 r4.1.Ring.Head), V.ow 5, V.ow 6, V.ow 7], V.sc (.bool r4.2)]), (45, V.agg [V.sc (.string r4.1.Id), V.sc (.int .i64 r4.1.Limit), V.sc (.int .i64 r4.1.Posted), V.sc (.int .i64 r4.1.Most), V.sc (.int .i64 r4.1.MostSum), V.ow 4, V.sc (.int .i64 r4.1.Ring.Span), V.sc (.int .i64 r4.1.Ring.Head), V.ow 5, V.ow 6, V.ow 7]), (46, V.sc (.bool r4.2))] [Blk.box 28 [V.sc (.string ByteArray.empty), V.sc (.int .i64 0), V.sc (.int .i64 0), V.sc (.int .i64 0), V.sc (.int .i64 0), V.nl 61, V.sc (.int .i64 0), V.sc (.int .i64 0), V.nl 3, V.nl 3, V.nl 66], Blk.row 9 (List.map E9 r1) [], Blk.box 40 [V.sc (.int .i64 r3.1), V.sc (.int .i64 r3.2.1), V.sc (.int .i64 r3.2.2.1), V.sc (.int .i64 r3.2.2.2.1), V.sc (.int .i64 r3.2.2.2.2.1), V.sc (.int .i64 r3.2.2.2.2.2.1), V.sc (.int .i64 r3.2.2.2.2.2.2)], Blk.box 28 [V.sc (.string r4.1.Id), V.sc (.int .i64 r4.1.Limit), V.sc (.int .i64 r4.1.Posted), V.sc (.int .i64 r4.1.Most), V.sc (.int .i64 r4.1.MostSum), V.ow 4, V.sc (.int .i64 r4.1.Ring.Span), V.sc (.int .i64 r4.1.Ring.Head), V.ow 5, V.ow 6, V.ow 7], Blk.row 61 (List.map E61 r4.1.Holds) [], Blk.row 3 (List.map E3 r4.1.Ring.Counts) [], Blk.row 3 (List.map E3 r4.1.Ring.Sums) [], Blk.row 66 (List.map E66 r4.1.Slots) []] []
def impl_TextSetup_l0 (s_ : ByteArray) (r1 : (List ByteArray)) : Nat → Int → Int → Int → Int → Int → Int → Int → Int → Option (Int × Int × Int × Int × Int × Int × Int)
  | 0, _, _, _, _, _, _, _, _ => none
  | fuel + 1, v1, v2, v3, v4, v5, v6, v7, v8 =>
   if (decide (v8 < 7)) = true then
   if (decide (0 ≤ v8)) = true then
   (r1[v8.toNat]?).bind fun x1 =>
   (impl_TextNum x1).bind fun r2 =>
   if (v8 == 0) = true then
   impl_TextSetup_l0 s_ r1 fuel r2.1 v2 v3 v4 v5 v6 v7 (i64 (v8 + 1))
   else
   if (v8 == 1) = true then
   impl_TextSetup_l0 s_ r1 fuel v1 r2.1 v3 v4 v5 v6 v7 (i64 (v8 + 1))
   else
   if (v8 == 2) = true then
   impl_TextSetup_l0 s_ r1 fuel v1 v2 r2.1 v4 v5 v6 v7 (i64 (v8 + 1))
   else
   if (v8 == 3) = true then
   impl_TextSetup_l0 s_ r1 fuel v1 v2 v3 r2.1 v5 v6 v7 (i64 (v8 + 1))
   else
   if (v8 == 4) = true then
   impl_TextSetup_l0 s_ r1 fuel v1 v2 v3 v4 r2.1 v6 v7 (i64 (v8 + 1))
   else
   if (v8 == 5) = true then
   impl_TextSetup_l0 s_ r1 fuel v1 v2 v3 v4 v5 r2.1 v7 (i64 (v8 + 1))
   else
   if (v8 == 6) = true then
   impl_TextSetup_l0 s_ r1 fuel v1 v2 v3 v4 v5 v6 r2.1 (i64 (v8 + 1))
   else none
   else none
   else
   some (v1, v2, v3, v4, v5, v6, v7)
theorem impl_TextSetup_l0_ok (s_ : ByteArray) (r1 : (List ByteArray)) : ∀ (fuel : Nat) (v1 : Int) (v2 : Int) (v3 : Int) (v4 : Int) (v5 : Int) (v6 : Int) (v7 : Int) (v8 : Int), Pn (LpO Tryz.prog (sub (codeOf Tryz.prog 5) [1, 1, 1, 1, 0, 1, 0, 0]) (st 57 [(0, V.sc (.string s_)), (2, V.ptr 0 0), (4, V.ow 1), (5, V.ptr 2 0), (6, V.sc (.int .i64 v8))] [Blk.box 28 [V.sc (.string ByteArray.empty), V.sc (.int .i64 0), V.sc (.int .i64 0), V.sc (.int .i64 0), V.sc (.int .i64 0), V.nl 61, V.sc (.int .i64 0), V.sc (.int .i64 0), V.nl 3, V.nl 3, V.nl 66], Blk.row 9 (List.map E9 r1) [], Blk.box 40 [V.sc (.int .i64 v1), V.sc (.int .i64 v2), V.sc (.int .i64 v3), V.sc (.int .i64 v4), V.sc (.int .i64 v5), V.sc (.int .i64 v6), V.sc (.int .i64 v7)]] []) (fun (y : Int × Int × Int × Int × Int × Int × Int) => (X.out 0, st 57 [(0, V.sc (.string s_)), (2, V.ptr 0 0), (4, V.ow 1), (5, V.ptr 2 0)] [Blk.box 28 [V.sc (.string ByteArray.empty), V.sc (.int .i64 0), V.sc (.int .i64 0), V.sc (.int .i64 0), V.sc (.int .i64 0), V.nl 61, V.sc (.int .i64 0), V.sc (.int .i64 0), V.nl 3, V.nl 3, V.nl 66], Blk.row 9 (List.map E9 r1) [], Blk.box 40 [V.sc (.int .i64 y.1), V.sc (.int .i64 y.2.1), V.sc (.int .i64 y.2.2.1), V.sc (.int .i64 y.2.2.2.1), V.sc (.int .i64 y.2.2.2.2.1), V.sc (.int .i64 y.2.2.2.2.2.1), V.sc (.int .i64 y.2.2.2.2.2.2)]] []))) (impl_TextSetup_l0 s_ r1 fuel v1 v2 v3 v4 v5 v6 v7 v8)
  | 0, _, _, _, _, _, _, _, _ => Pn.none
  | fuel + 1, v1, v2, v3, v4, v5, v6, v7, v8 => by
    unfold impl_TextSetup_l0
    exact
     Pn.ite (fun h3 =>
     Pn.ite (fun h4 =>
     Pn.bind (fun x1 h5 =>
     Pn.bind (fun r2 h6 =>
     Pn.ite (fun h7 =>
     LpO.go [.bit true, .el (E9 x1), .call [] (V.tup [E3 r2.1, E4 r2.2]) [], .fo 0, .wait 5, .mask [0, 2, 4, 5, 6], .ren [0, 1, 2]] (p := [(decide (v8 < 7)) = true,
      (0 : Int) ≤ v8,
      (v8 : Int) < ((List.map E9 r1).length : Int),
      look [] v8.toNat = none,
      (List.map E9 r1)[v8.toNat]? = some (E9 x1),
      Fn Tryz.prog 14 [(false, E9 x1)] (V.tup [E3 r2.1, E4 r2.2]) [],
      (true || ((V.tup [E3 r2.1, E4 r2.2]).nv && nvL [])) = true,
      v8 = ((0 : Nat) : Int)]) (by kernel_rfl) (cj h3 (cj (od h4) (cj (map_ltN (od h4) h5) (cj rfl (cj (map_get h5) (cj (impl_TextNum_ok x1 r2 h6) (cj rfl (cj1 (eq_of_beq h7))))))))) (impl_TextSetup_l0_ok s_ r1 fuel r2.1 v2 v3 v4 v5 v6 v7 (i64 (v8 + 1)))) (fun h7 =>
     Pn.ite (fun h8 =>
     LpO.go [.bit true, .el (E9 x1), .call [] (V.tup [E3 r2.1, E4 r2.2]) [], .fo 1, .wait 5, .mask [0, 2, 4, 5, 6], .ren [0, 1, 2]] (p := [(decide (v8 < 7)) = true,
      (0 : Int) ≤ v8,
      (v8 : Int) < ((List.map E9 r1).length : Int),
      look [] v8.toNat = none,
      (List.map E9 r1)[v8.toNat]? = some (E9 x1),
      Fn Tryz.prog 14 [(false, E9 x1)] (V.tup [E3 r2.1, E4 r2.2]) [],
      (true || ((V.tup [E3 r2.1, E4 r2.2]).nv && nvL [])) = true,
      v8 = ((1 : Nat) : Int)]) (by kernel_rfl) (cj h3 (cj (od h4) (cj (map_ltN (od h4) h5) (cj rfl (cj (map_get h5) (cj (impl_TextNum_ok x1 r2 h6) (cj rfl (cj1 (eq_of_beq h8))))))))) (impl_TextSetup_l0_ok s_ r1 fuel v1 r2.1 v3 v4 v5 v6 v7 (i64 (v8 + 1)))) (fun h8 =>
     Pn.ite (fun h9 =>
     LpO.go [.bit true, .el (E9 x1), .call [] (V.tup [E3 r2.1, E4 r2.2]) [], .fo 2, .wait 5, .mask [0, 2, 4, 5, 6], .ren [0, 1, 2]] (p := [(decide (v8 < 7)) = true,
      (0 : Int) ≤ v8,
      (v8 : Int) < ((List.map E9 r1).length : Int),
      look [] v8.toNat = none,
      (List.map E9 r1)[v8.toNat]? = some (E9 x1),
      Fn Tryz.prog 14 [(false, E9 x1)] (V.tup [E3 r2.1, E4 r2.2]) [],
      (true || ((V.tup [E3 r2.1, E4 r2.2]).nv && nvL [])) = true,
      v8 = ((2 : Nat) : Int)]) (by kernel_rfl) (cj h3 (cj (od h4) (cj (map_ltN (od h4) h5) (cj rfl (cj (map_get h5) (cj (impl_TextNum_ok x1 r2 h6) (cj rfl (cj1 (eq_of_beq h9))))))))) (impl_TextSetup_l0_ok s_ r1 fuel v1 v2 r2.1 v4 v5 v6 v7 (i64 (v8 + 1)))) (fun h9 =>
     Pn.ite (fun h10 =>
     LpO.go [.bit true, .el (E9 x1), .call [] (V.tup [E3 r2.1, E4 r2.2]) [], .fo 3, .wait 5, .mask [0, 2, 4, 5, 6], .ren [0, 1, 2]] (p := [(decide (v8 < 7)) = true,
      (0 : Int) ≤ v8,
      (v8 : Int) < ((List.map E9 r1).length : Int),
      look [] v8.toNat = none,
      (List.map E9 r1)[v8.toNat]? = some (E9 x1),
      Fn Tryz.prog 14 [(false, E9 x1)] (V.tup [E3 r2.1, E4 r2.2]) [],
      (true || ((V.tup [E3 r2.1, E4 r2.2]).nv && nvL [])) = true,
      v8 = ((3 : Nat) : Int)]) (by kernel_rfl) (cj h3 (cj (od h4) (cj (map_ltN (od h4) h5) (cj rfl (cj (map_get h5) (cj (impl_TextNum_ok x1 r2 h6) (cj rfl (cj1 (eq_of_beq h10))))))))) (impl_TextSetup_l0_ok s_ r1 fuel v1 v2 v3 r2.1 v5 v6 v7 (i64 (v8 + 1)))) (fun h10 =>
     Pn.ite (fun h11 =>
     LpO.go [.bit true, .el (E9 x1), .call [] (V.tup [E3 r2.1, E4 r2.2]) [], .fo 4, .wait 5, .mask [0, 2, 4, 5, 6], .ren [0, 1, 2]] (p := [(decide (v8 < 7)) = true,
      (0 : Int) ≤ v8,
      (v8 : Int) < ((List.map E9 r1).length : Int),
      look [] v8.toNat = none,
      (List.map E9 r1)[v8.toNat]? = some (E9 x1),
      Fn Tryz.prog 14 [(false, E9 x1)] (V.tup [E3 r2.1, E4 r2.2]) [],
      (true || ((V.tup [E3 r2.1, E4 r2.2]).nv && nvL [])) = true,
      v8 = ((4 : Nat) : Int)]) (by kernel_rfl) (cj h3 (cj (od h4) (cj (map_ltN (od h4) h5) (cj rfl (cj (map_get h5) (cj (impl_TextNum_ok x1 r2 h6) (cj rfl (cj1 (eq_of_beq h11))))))))) (impl_TextSetup_l0_ok s_ r1 fuel v1 v2 v3 v4 r2.1 v6 v7 (i64 (v8 + 1)))) (fun h11 =>
     Pn.ite (fun h12 =>
     LpO.go [.bit true, .el (E9 x1), .call [] (V.tup [E3 r2.1, E4 r2.2]) [], .fo 5, .wait 5, .mask [0, 2, 4, 5, 6], .ren [0, 1, 2]] (p := [(decide (v8 < 7)) = true,
      (0 : Int) ≤ v8,
      (v8 : Int) < ((List.map E9 r1).length : Int),
      look [] v8.toNat = none,
      (List.map E9 r1)[v8.toNat]? = some (E9 x1),
      Fn Tryz.prog 14 [(false, E9 x1)] (V.tup [E3 r2.1, E4 r2.2]) [],
      (true || ((V.tup [E3 r2.1, E4 r2.2]).nv && nvL [])) = true,
      v8 = ((5 : Nat) : Int)]) (by kernel_rfl) (cj h3 (cj (od h4) (cj (map_ltN (od h4) h5) (cj rfl (cj (map_get h5) (cj (impl_TextNum_ok x1 r2 h6) (cj rfl (cj1 (eq_of_beq h12))))))))) (impl_TextSetup_l0_ok s_ r1 fuel v1 v2 v3 v4 v5 r2.1 v7 (i64 (v8 + 1)))) (fun h12 =>
     Pn.ite (fun h13 =>
     LpO.go [.bit true, .el (E9 x1), .call [] (V.tup [E3 r2.1, E4 r2.2]) [], .fo 6, .wait 5, .mask [0, 2, 4, 5, 6], .ren [0, 1, 2]] (p := [(decide (v8 < 7)) = true,
      (0 : Int) ≤ v8,
      (v8 : Int) < ((List.map E9 r1).length : Int),
      look [] v8.toNat = none,
      (List.map E9 r1)[v8.toNat]? = some (E9 x1),
      Fn Tryz.prog 14 [(false, E9 x1)] (V.tup [E3 r2.1, E4 r2.2]) [],
      (true || ((V.tup [E3 r2.1, E4 r2.2]).nv && nvL [])) = true,
      v8 = ((6 : Nat) : Int)]) (by kernel_rfl) (cj h3 (cj (od h4) (cj (map_ltN (od h4) h5) (cj rfl (cj (map_get h5) (cj (impl_TextNum_ok x1 r2 h6) (cj rfl (cj1 (eq_of_beq h13))))))))) (impl_TextSetup_l0_ok s_ r1 fuel v1 v2 v3 v4 v5 v6 r2.1 (i64 (v8 + 1)))) (fun h13 =>
     Pn.none)))))))))) (fun h4 =>
     Pn.none)) (fun h3 =>
     Pn.some (LpO.out [.bit false, .mask [0, 2, 4, 5], .ren [0, 1, 2]] (p := [(decide (v8 < 7)) = false]) (by kernel_rfl) (show X.out 0 ≠ X.go from nofun) (cj1 h3)))
def impl_TextSetup (s_ : ByteArray) : Option (Acct × Bool) :=
 (impl_Cut s_).bind fun r1 =>
 if ((r1.length : Int) != 7) = true then
 some ((Acct.mk ByteArray.empty 0 0 0 0 [] (Ring.mk 0 0 [] []) []), false)
 else
 (impl_TextSetup_l0 s_ r1 FUEL 0 0 0 0 0 0 0 2).bind fun r3 =>
 (r1[1]?).bind fun x2 =>
 (impl_AcctNew x2 r3.2.2.1 r3.2.2.2.1 r3.2.2.2.2.1 r3.2.2.2.2.2.1 r3.2.2.2.2.2.2).bind fun r4 =>
 if r4.2 = true then
 (impl_SetupText r4.1).bind fun r5 =>
 if (r5 == s_) = true then
 some (r4.1, true)
 else
 some ((Acct.mk ByteArray.empty 0 0 0 0 [] (Ring.mk 0 0 [] []) []), false)
 else
 some ((Acct.mk ByteArray.empty 0 0 0 0 [] (Ring.mk 0 0 [] []) []), false)
theorem impl_TextSetup_ok (s_ : ByteArray) : Pn (fun y => Fn Tryz.prog 5 [(false, E9 s_)] (V.tup [E28 y.1, E4 y.2]) []) (impl_TextSetup s_) := by
  unfold impl_TextSetup
  exact
   Pn.bind (fun r1 h1 =>
   Pn.ite (fun h2 =>
   Pn.some (Fn.of [.call [] (E34 r1) [], .wait 3, .nm 12 (V.sc (.int .i64 (r1.length : Int))), .bit true] (p := [Fn Tryz.prog 13 [(false, E9 s_)] (E34 r1) [],
    (true || ((E34 r1).nv && nvL [])) = true,
    V.sc (.int .i64 ((List.map E9 r1).length : Int)) = V.sc (.int .i64 (r1.length : Int)),
    ((r1.length : Int) != 7) = true]) (by kernel_rfl) (cj (impl_Cut_ok s_ r1 h1) (cj rfl (cj (len_nm _ _) (cj1 h2)))))) (fun h2 =>
   Pn.bind (fun r3 h14 =>
   Pn.bind (fun x2 h15 =>
   Pn.bind (fun r4 h16 =>
   Pn.ite (fun h17 =>
   Pn.bind (fun r5 h18 =>
   Pn.ite (fun h19 =>
   Pn.some (Fn.of [.call [] (E34 r1) [], .wait 3, .nm 12 (V.sc (.int .i64 (r1.length : Int))), .bit false, .wait 4, .mask [0, 2, 4, 5, 6], .ren [0, 1, 2], .loop (X.out 0) (st 57 [(0, V.sc (.string s_)), (2, V.ptr 0 0), (4, V.ow 1), (5, V.ptr 2 0)] [Blk.box 28 [V.sc (.string ByteArray.empty), V.sc (.int .i64 0), V.sc (.int .i64 0), V.sc (.int .i64 0), V.sc (.int .i64 0), V.nl 61, V.sc (.int .i64 0), V.sc (.int .i64 0), V.nl 3, V.nl 3, V.nl 66], Blk.row 9 (List.map E9 r1) [], Blk.box 40 [V.sc (.int .i64 r3.1), V.sc (.int .i64 r3.2.1), V.sc (.int .i64 r3.2.2.1), V.sc (.int .i64 r3.2.2.2.1), V.sc (.int .i64 r3.2.2.2.2.1), V.sc (.int .i64 r3.2.2.2.2.2.1), V.sc (.int .i64 r3.2.2.2.2.2.2)]] []), .draw [18], .el (E9 x2), .fo 2, .fo 3, .fo 4, .fo 5, .fo 6, .loop .go ((impl_TextSetup_s1 s_ r4 x2 r3 r1)), .call [] (V.tup [E28 r4.1, E4 r4.2]) [], .loop .go ((impl_TextSetup_s1 s_ r4 x2 r3 r1)), .wait 3, .ren [0, 1, 2, 7, 3, 4, 5, 6], .loop .go ((impl_TextSetup_s1 s_ r4 x2 r3 r1)), .wait 2, .ren [0, 1, 2, 7, 3, 4, 5, 6], .wait 3, .ren [0, 1, 2, 7, 3, 4, 5, 6], .ren [0, 1, 2, 3, 4, 5, 6, 7], .ren [0, 1, 2, 3, 4, 5, 6, 7], .call [] (V.tup [E28 r4.1, E4 r4.2]) [], .loop .go ((impl_TextSetup_s1 s_ r4 x2 r3 r1)), .wait 2, .ren [0, 1, 2, 3, 4, 5, 6, 7], .wait 3, .ren [0, 1, 2, 3, 4, 5, 6, 7], .ren [0, 1, 2, 3, 4, 5, 6, 7], .bit false, .bit false, .call [] (E9 r5) [], .bit false, .bit false, .bit false, .bit false] (p := [Fn Tryz.prog 13 [(false, E9 s_)] (E34 r1) [],
    (true || ((E34 r1).nv && nvL [])) = true,
    V.sc (.int .i64 ((List.map E9 r1).length : Int)) = V.sc (.int .i64 (r1.length : Int)),
    ((r1.length : Int) != 7) = false,
    Loop Tryz.prog (sub (codeOf Tryz.prog 5) [1, 1, 1, 1, 0, 1, 0, 0]) (st 57 [(0, V.sc (.string s_)), (2, V.ptr 0 0), (4, V.ow 1), (5, V.ptr 2 0), (6, V.sc (.int .i64 2))] [Blk.box 28 [V.sc (.string ByteArray.empty), V.sc (.int .i64 0), V.sc (.int .i64 0), V.sc (.int .i64 0), V.sc (.int .i64 0), V.nl 61, V.sc (.int .i64 0), V.sc (.int .i64 0), V.nl 3, V.nl 3, V.nl 66], Blk.row 9 (List.map E9 r1) [], Blk.box 40 [V.sc (.int .i64 0), V.sc (.int .i64 0), V.sc (.int .i64 0), V.sc (.int .i64 0), V.sc (.int .i64 0), V.sc (.int .i64 0), V.sc (.int .i64 0)]] []) (X.out 0) (st 57 [(0, V.sc (.string s_)), (2, V.ptr 0 0), (4, V.ow 1), (5, V.ptr 2 0)] [Blk.box 28 [V.sc (.string ByteArray.empty), V.sc (.int .i64 0), V.sc (.int .i64 0), V.sc (.int .i64 0), V.sc (.int .i64 0), V.nl 61, V.sc (.int .i64 0), V.sc (.int .i64 0), V.nl 3, V.nl 3, V.nl 66], Blk.row 9 (List.map E9 r1) [], Blk.box 40 [V.sc (.int .i64 r3.1), V.sc (.int .i64 r3.2.1), V.sc (.int .i64 r3.2.2.1), V.sc (.int .i64 r3.2.2.2.1), V.sc (.int .i64 r3.2.2.2.2.1), V.sc (.int .i64 r3.2.2.2.2.2.1), V.sc (.int .i64 r3.2.2.2.2.2.2)]] []),
    (0 : Int) ≤ 1,
    (1 : Int) < ((List.map E9 r1).length : Int),
    look [] 1 = none,
    (List.map E9 r1)[1]? = some (E9 x2),
    2 = ((2 : Nat) : Int),
    3 = ((3 : Nat) : Int),
    4 = ((4 : Nat) : Int),
    5 = ((5 : Nat) : Int),
    6 = ((6 : Nat) : Int),
    Fn Tryz.prog 15 [(false, E9 x2), (false, E3 r3.2.2.1), (false, E3 r3.2.2.2.1), (false, E3 r3.2.2.2.2.1), (false, E3 r3.2.2.2.2.2.1), (false, E3 r3.2.2.2.2.2.2)] (V.tup [E28 r4.1, E4 r4.2]) [],
    (true || ((V.tup [E28 r4.1, E4 r4.2]).nv && nvL [])) = true,
    (impl_TextSetup_s1 s_ r4 x2 r3 r1) = (impl_TextSetup_s1 s_ r4 x2 r3 r1),
    (impl_TextSetup_s1 s_ r4 x2 r3 r1) = (impl_TextSetup_s1 s_ r4 x2 r3 r1),
    (impl_TextSetup_s1 s_ r4 x2 r3 r1) = (impl_TextSetup_s1 s_ r4 x2 r3 r1),
    (impl_TextSetup_s1 s_ r4 x2 r3 r1) = (impl_TextSetup_s1 s_ r4 x2 r3 r1),
    (impl_TextSetup_s1 s_ r4 x2 r3 r1) = (impl_TextSetup_s1 s_ r4 x2 r3 r1),
    Fn Tryz.prog 15 [(false, E9 x2), (false, E3 r3.2.2.1), (false, E3 r3.2.2.2.1), (false, E3 r3.2.2.2.2.1), (false, E3 r3.2.2.2.2.2.1), (false, E3 r3.2.2.2.2.2.2)] (V.tup [E28 r4.1, E4 r4.2]) [],
    (true || ((V.tup [E28 r4.1, E4 r4.2]).nv && nvL [])) = true,
    (impl_TextSetup_s1 s_ r4 x2 r3 r1) = (impl_TextSetup_s1 s_ r4 x2 r3 r1),
    (impl_TextSetup_s1 s_ r4 x2 r3 r1) = (impl_TextSetup_s1 s_ r4 x2 r3 r1),
    (impl_TextSetup_s1 s_ r4 x2 r3 r1) = (impl_TextSetup_s1 s_ r4 x2 r3 r1),
    (!r4.2) = false,
    (!r4.2) = false,
    Fn Tryz.prog 16 [(false, E28 r4.1)] (E9 r5) [],
    (false || ((E9 r5).nv && nvL [])) = true,
    (!r4.2) = false,
    (!r4.2) = false,
    (!r4.2) = false,
    (!(r5 == s_)) = false]) (by kernel_rfl) (cj (impl_Cut_ok s_ r1 h1) (cj rfl (cj (len_nm _ _) (cj h2 (cj (impl_TextSetup_l0_ok s_ r1 FUEL 0 0 0 0 0 0 0 2 r3 h14) (cj (by decide) (cj (map_ltN (by decide) h15) (cj rfl (cj (map_get h15) (cj rfl (cj rfl (cj rfl (cj rfl (cj rfl (cj (impl_AcctNew_ok x2 r3.2.2.1 r3.2.2.2.1 r3.2.2.2.2.1 r3.2.2.2.2.2.1 r3.2.2.2.2.2.2 r4 h16) (cj rfl (cj rfl (cj rfl (cj rfl (cj rfl (cj rfl (cj (impl_AcctNew_ok x2 r3.2.2.1 r3.2.2.2.1 r3.2.2.2.2.1 r3.2.2.2.2.2.1 r3.2.2.2.2.2.2 r4 h16) (cj rfl (cj rfl (cj rfl (cj rfl (cj (nf h17) (cj (nf h17) (cj (impl_SetupText_ok r4.1 r5 h18) (cj (by simp [V.nv, nvL, nvL_all, nv_E9]) (cj (nf h17) (cj (nf h17) (cj (nf h17) (cj1 (nf h19))))))))))))))))))))))))))))))))))))) (fun h19 =>
   Pn.some (Fn.of [.call [] (E34 r1) [], .wait 3, .nm 12 (V.sc (.int .i64 (r1.length : Int))), .bit false, .wait 4, .mask [0, 2, 4, 5, 6], .ren [0, 1, 2], .loop (X.out 0) (st 57 [(0, V.sc (.string s_)), (2, V.ptr 0 0), (4, V.ow 1), (5, V.ptr 2 0)] [Blk.box 28 [V.sc (.string ByteArray.empty), V.sc (.int .i64 0), V.sc (.int .i64 0), V.sc (.int .i64 0), V.sc (.int .i64 0), V.nl 61, V.sc (.int .i64 0), V.sc (.int .i64 0), V.nl 3, V.nl 3, V.nl 66], Blk.row 9 (List.map E9 r1) [], Blk.box 40 [V.sc (.int .i64 r3.1), V.sc (.int .i64 r3.2.1), V.sc (.int .i64 r3.2.2.1), V.sc (.int .i64 r3.2.2.2.1), V.sc (.int .i64 r3.2.2.2.2.1), V.sc (.int .i64 r3.2.2.2.2.2.1), V.sc (.int .i64 r3.2.2.2.2.2.2)]] []), .draw [18], .el (E9 x2), .fo 2, .fo 3, .fo 4, .fo 5, .fo 6, .loop .go ((impl_TextSetup_s1 s_ r4 x2 r3 r1)), .call [] (V.tup [E28 r4.1, E4 r4.2]) [], .loop .go ((impl_TextSetup_s1 s_ r4 x2 r3 r1)), .wait 3, .ren [0, 1, 2, 7, 3, 4, 5, 6], .loop .go ((impl_TextSetup_s1 s_ r4 x2 r3 r1)), .wait 2, .ren [0, 1, 2, 7, 3, 4, 5, 6], .wait 3, .ren [0, 1, 2, 7, 3, 4, 5, 6], .ren [0, 1, 2, 3, 4, 5, 6, 7], .ren [0, 1, 2, 3, 4, 5, 6, 7], .call [] (V.tup [E28 r4.1, E4 r4.2]) [], .loop .go ((impl_TextSetup_s1 s_ r4 x2 r3 r1)), .wait 2, .ren [0, 1, 2, 3, 4, 5, 6, 7], .wait 3, .ren [0, 1, 2, 3, 4, 5, 6, 7], .ren [0, 1, 2, 3, 4, 5, 6, 7], .bit false, .bit false, .call [] (E9 r5) [], .bit false, .bit false, .bit false, .bit true] (p := [Fn Tryz.prog 13 [(false, E9 s_)] (E34 r1) [],
    (true || ((E34 r1).nv && nvL [])) = true,
    V.sc (.int .i64 ((List.map E9 r1).length : Int)) = V.sc (.int .i64 (r1.length : Int)),
    ((r1.length : Int) != 7) = false,
    Loop Tryz.prog (sub (codeOf Tryz.prog 5) [1, 1, 1, 1, 0, 1, 0, 0]) (st 57 [(0, V.sc (.string s_)), (2, V.ptr 0 0), (4, V.ow 1), (5, V.ptr 2 0), (6, V.sc (.int .i64 2))] [Blk.box 28 [V.sc (.string ByteArray.empty), V.sc (.int .i64 0), V.sc (.int .i64 0), V.sc (.int .i64 0), V.sc (.int .i64 0), V.nl 61, V.sc (.int .i64 0), V.sc (.int .i64 0), V.nl 3, V.nl 3, V.nl 66], Blk.row 9 (List.map E9 r1) [], Blk.box 40 [V.sc (.int .i64 0), V.sc (.int .i64 0), V.sc (.int .i64 0), V.sc (.int .i64 0), V.sc (.int .i64 0), V.sc (.int .i64 0), V.sc (.int .i64 0)]] []) (X.out 0) (st 57 [(0, V.sc (.string s_)), (2, V.ptr 0 0), (4, V.ow 1), (5, V.ptr 2 0)] [Blk.box 28 [V.sc (.string ByteArray.empty), V.sc (.int .i64 0), V.sc (.int .i64 0), V.sc (.int .i64 0), V.sc (.int .i64 0), V.nl 61, V.sc (.int .i64 0), V.sc (.int .i64 0), V.nl 3, V.nl 3, V.nl 66], Blk.row 9 (List.map E9 r1) [], Blk.box 40 [V.sc (.int .i64 r3.1), V.sc (.int .i64 r3.2.1), V.sc (.int .i64 r3.2.2.1), V.sc (.int .i64 r3.2.2.2.1), V.sc (.int .i64 r3.2.2.2.2.1), V.sc (.int .i64 r3.2.2.2.2.2.1), V.sc (.int .i64 r3.2.2.2.2.2.2)]] []),
    (0 : Int) ≤ 1,
    (1 : Int) < ((List.map E9 r1).length : Int),
    look [] 1 = none,
    (List.map E9 r1)[1]? = some (E9 x2),
    2 = ((2 : Nat) : Int),
    3 = ((3 : Nat) : Int),
    4 = ((4 : Nat) : Int),
    5 = ((5 : Nat) : Int),
    6 = ((6 : Nat) : Int),
    Fn Tryz.prog 15 [(false, E9 x2), (false, E3 r3.2.2.1), (false, E3 r3.2.2.2.1), (false, E3 r3.2.2.2.2.1), (false, E3 r3.2.2.2.2.2.1), (false, E3 r3.2.2.2.2.2.2)] (V.tup [E28 r4.1, E4 r4.2]) [],
    (true || ((V.tup [E28 r4.1, E4 r4.2]).nv && nvL [])) = true,
    (impl_TextSetup_s1 s_ r4 x2 r3 r1) = (impl_TextSetup_s1 s_ r4 x2 r3 r1),
    (impl_TextSetup_s1 s_ r4 x2 r3 r1) = (impl_TextSetup_s1 s_ r4 x2 r3 r1),
    (impl_TextSetup_s1 s_ r4 x2 r3 r1) = (impl_TextSetup_s1 s_ r4 x2 r3 r1),
    (impl_TextSetup_s1 s_ r4 x2 r3 r1) = (impl_TextSetup_s1 s_ r4 x2 r3 r1),
    (impl_TextSetup_s1 s_ r4 x2 r3 r1) = (impl_TextSetup_s1 s_ r4 x2 r3 r1),
    Fn Tryz.prog 15 [(false, E9 x2), (false, E3 r3.2.2.1), (false, E3 r3.2.2.2.1), (false, E3 r3.2.2.2.2.1), (false, E3 r3.2.2.2.2.2.1), (false, E3 r3.2.2.2.2.2.2)] (V.tup [E28 r4.1, E4 r4.2]) [],
    (true || ((V.tup [E28 r4.1, E4 r4.2]).nv && nvL [])) = true,
    (impl_TextSetup_s1 s_ r4 x2 r3 r1) = (impl_TextSetup_s1 s_ r4 x2 r3 r1),
    (impl_TextSetup_s1 s_ r4 x2 r3 r1) = (impl_TextSetup_s1 s_ r4 x2 r3 r1),
    (impl_TextSetup_s1 s_ r4 x2 r3 r1) = (impl_TextSetup_s1 s_ r4 x2 r3 r1),
    (!r4.2) = false,
    (!r4.2) = false,
    Fn Tryz.prog 16 [(false, E28 r4.1)] (E9 r5) [],
    (false || ((E9 r5).nv && nvL [])) = true,
    (!r4.2) = false,
    (!r4.2) = false,
    (!r4.2) = false,
    (!(r5 == s_)) = true]) (by kernel_rfl) (cj (impl_Cut_ok s_ r1 h1) (cj rfl (cj (len_nm _ _) (cj h2 (cj (impl_TextSetup_l0_ok s_ r1 FUEL 0 0 0 0 0 0 0 2 r3 h14) (cj (by decide) (cj (map_ltN (by decide) h15) (cj rfl (cj (map_get h15) (cj rfl (cj rfl (cj rfl (cj rfl (cj rfl (cj (impl_AcctNew_ok x2 r3.2.2.1 r3.2.2.2.1 r3.2.2.2.2.1 r3.2.2.2.2.2.1 r3.2.2.2.2.2.2 r4 h16) (cj rfl (cj rfl (cj rfl (cj rfl (cj rfl (cj rfl (cj (impl_AcctNew_ok x2 r3.2.2.1 r3.2.2.2.1 r3.2.2.2.2.1 r3.2.2.2.2.2.1 r3.2.2.2.2.2.2 r4 h16) (cj rfl (cj rfl (cj rfl (cj rfl (cj (nf h17) (cj (nf h17) (cj (impl_SetupText_ok r4.1 r5 h18) (cj (by simp [V.nv, nvL, nvL_all, nv_E9]) (cj (nf h17) (cj (nf h17) (cj (nf h17) (cj1 (nt h19))))))))))))))))))))))))))))))))))))))) (fun h17 =>
   Pn.some (Fn.of [.call [] (E34 r1) [], .wait 3, .nm 12 (V.sc (.int .i64 (r1.length : Int))), .bit false, .wait 4, .mask [0, 2, 4, 5, 6], .ren [0, 1, 2], .loop (X.out 0) (st 57 [(0, V.sc (.string s_)), (2, V.ptr 0 0), (4, V.ow 1), (5, V.ptr 2 0)] [Blk.box 28 [V.sc (.string ByteArray.empty), V.sc (.int .i64 0), V.sc (.int .i64 0), V.sc (.int .i64 0), V.sc (.int .i64 0), V.nl 61, V.sc (.int .i64 0), V.sc (.int .i64 0), V.nl 3, V.nl 3, V.nl 66], Blk.row 9 (List.map E9 r1) [], Blk.box 40 [V.sc (.int .i64 r3.1), V.sc (.int .i64 r3.2.1), V.sc (.int .i64 r3.2.2.1), V.sc (.int .i64 r3.2.2.2.1), V.sc (.int .i64 r3.2.2.2.2.1), V.sc (.int .i64 r3.2.2.2.2.2.1), V.sc (.int .i64 r3.2.2.2.2.2.2)]] []), .draw [18], .el (E9 x2), .fo 2, .fo 3, .fo 4, .fo 5, .fo 6, .loop .go ((impl_TextSetup_s1 s_ r4 x2 r3 r1)), .call [] (V.tup [E28 r4.1, E4 r4.2]) [], .loop .go ((impl_TextSetup_s1 s_ r4 x2 r3 r1)), .wait 3, .ren [0, 1, 2, 7, 3, 4, 5, 6], .loop .go ((impl_TextSetup_s1 s_ r4 x2 r3 r1)), .wait 2, .ren [0, 1, 2, 7, 3, 4, 5, 6], .wait 3, .ren [0, 1, 2, 7, 3, 4, 5, 6], .ren [0, 1, 2, 3, 4, 5, 6, 7], .ren [0, 1, 2, 3, 4, 5, 6, 7], .call [] (V.tup [E28 r4.1, E4 r4.2]) [], .loop .go ((impl_TextSetup_s1 s_ r4 x2 r3 r1)), .wait 2, .ren [0, 1, 2, 3, 4, 5, 6, 7], .wait 3, .ren [0, 1, 2, 3, 4, 5, 6, 7], .ren [0, 1, 2, 3, 4, 5, 6, 7], .bit true, .bit true, .bit true, .bit true, .bit true, .bit true] (p := [Fn Tryz.prog 13 [(false, E9 s_)] (E34 r1) [],
    (true || ((E34 r1).nv && nvL [])) = true,
    V.sc (.int .i64 ((List.map E9 r1).length : Int)) = V.sc (.int .i64 (r1.length : Int)),
    ((r1.length : Int) != 7) = false,
    Loop Tryz.prog (sub (codeOf Tryz.prog 5) [1, 1, 1, 1, 0, 1, 0, 0]) (st 57 [(0, V.sc (.string s_)), (2, V.ptr 0 0), (4, V.ow 1), (5, V.ptr 2 0), (6, V.sc (.int .i64 2))] [Blk.box 28 [V.sc (.string ByteArray.empty), V.sc (.int .i64 0), V.sc (.int .i64 0), V.sc (.int .i64 0), V.sc (.int .i64 0), V.nl 61, V.sc (.int .i64 0), V.sc (.int .i64 0), V.nl 3, V.nl 3, V.nl 66], Blk.row 9 (List.map E9 r1) [], Blk.box 40 [V.sc (.int .i64 0), V.sc (.int .i64 0), V.sc (.int .i64 0), V.sc (.int .i64 0), V.sc (.int .i64 0), V.sc (.int .i64 0), V.sc (.int .i64 0)]] []) (X.out 0) (st 57 [(0, V.sc (.string s_)), (2, V.ptr 0 0), (4, V.ow 1), (5, V.ptr 2 0)] [Blk.box 28 [V.sc (.string ByteArray.empty), V.sc (.int .i64 0), V.sc (.int .i64 0), V.sc (.int .i64 0), V.sc (.int .i64 0), V.nl 61, V.sc (.int .i64 0), V.sc (.int .i64 0), V.nl 3, V.nl 3, V.nl 66], Blk.row 9 (List.map E9 r1) [], Blk.box 40 [V.sc (.int .i64 r3.1), V.sc (.int .i64 r3.2.1), V.sc (.int .i64 r3.2.2.1), V.sc (.int .i64 r3.2.2.2.1), V.sc (.int .i64 r3.2.2.2.2.1), V.sc (.int .i64 r3.2.2.2.2.2.1), V.sc (.int .i64 r3.2.2.2.2.2.2)]] []),
    (0 : Int) ≤ 1,
    (1 : Int) < ((List.map E9 r1).length : Int),
    look [] 1 = none,
    (List.map E9 r1)[1]? = some (E9 x2),
    2 = ((2 : Nat) : Int),
    3 = ((3 : Nat) : Int),
    4 = ((4 : Nat) : Int),
    5 = ((5 : Nat) : Int),
    6 = ((6 : Nat) : Int),
    Fn Tryz.prog 15 [(false, E9 x2), (false, E3 r3.2.2.1), (false, E3 r3.2.2.2.1), (false, E3 r3.2.2.2.2.1), (false, E3 r3.2.2.2.2.2.1), (false, E3 r3.2.2.2.2.2.2)] (V.tup [E28 r4.1, E4 r4.2]) [],
    (true || ((V.tup [E28 r4.1, E4 r4.2]).nv && nvL [])) = true,
    (impl_TextSetup_s1 s_ r4 x2 r3 r1) = (impl_TextSetup_s1 s_ r4 x2 r3 r1),
    (impl_TextSetup_s1 s_ r4 x2 r3 r1) = (impl_TextSetup_s1 s_ r4 x2 r3 r1),
    (impl_TextSetup_s1 s_ r4 x2 r3 r1) = (impl_TextSetup_s1 s_ r4 x2 r3 r1),
    (impl_TextSetup_s1 s_ r4 x2 r3 r1) = (impl_TextSetup_s1 s_ r4 x2 r3 r1),
    (impl_TextSetup_s1 s_ r4 x2 r3 r1) = (impl_TextSetup_s1 s_ r4 x2 r3 r1),
    Fn Tryz.prog 15 [(false, E9 x2), (false, E3 r3.2.2.1), (false, E3 r3.2.2.2.1), (false, E3 r3.2.2.2.2.1), (false, E3 r3.2.2.2.2.2.1), (false, E3 r3.2.2.2.2.2.2)] (V.tup [E28 r4.1, E4 r4.2]) [],
    (true || ((V.tup [E28 r4.1, E4 r4.2]).nv && nvL [])) = true,
    (impl_TextSetup_s1 s_ r4 x2 r3 r1) = (impl_TextSetup_s1 s_ r4 x2 r3 r1),
    (impl_TextSetup_s1 s_ r4 x2 r3 r1) = (impl_TextSetup_s1 s_ r4 x2 r3 r1),
    (impl_TextSetup_s1 s_ r4 x2 r3 r1) = (impl_TextSetup_s1 s_ r4 x2 r3 r1),
    (!r4.2) = true,
    (!r4.2) = true,
    (!r4.2) = true,
    (!r4.2) = true,
    (!r4.2) = true,
    true = true]) (by kernel_rfl) (cj (impl_Cut_ok s_ r1 h1) (cj rfl (cj (len_nm _ _) (cj h2 (cj (impl_TextSetup_l0_ok s_ r1 FUEL 0 0 0 0 0 0 0 2 r3 h14) (cj (by decide) (cj (map_ltN (by decide) h15) (cj rfl (cj (map_get h15) (cj rfl (cj rfl (cj rfl (cj rfl (cj rfl (cj (impl_AcctNew_ok x2 r3.2.2.1 r3.2.2.2.1 r3.2.2.2.2.1 r3.2.2.2.2.2.1 r3.2.2.2.2.2.2 r4 h16) (cj rfl (cj rfl (cj rfl (cj rfl (cj rfl (cj rfl (cj (impl_AcctNew_ok x2 r3.2.2.1 r3.2.2.2.1 r3.2.2.2.2.1 r3.2.2.2.2.2.1 r3.2.2.2.2.2.2 r4 h16) (cj rfl (cj rfl (cj rfl (cj rfl (cj (nt h17) (cj (nt h17) (cj (nt h17) (cj (nt h17) (cj (nt h17) (cj1 rfl)))))))))))))))))))))))))))))))))))))))
def laws_eqHold (a : Hold) (b : Hold) : Option (Bool) :=
 if (a.Id == b.Id) = true then
 if (a.Amount != b.Amount) = true then
 some false
 else
 if (a.Due != b.Due) = true then
 some false
 else
 some true
 else
 some false
theorem laws_eqHold_ok (a : Hold) (b : Hold) : Pn (fun y => Fn Tryz.prog 40 [(false, E61 a), (false, E61 b)] (E4 y) []) (laws_eqHold a b) := by
  unfold laws_eqHold
  exact
   Pn.ite (fun h1 =>
   Pn.ite (fun h2 =>
   Pn.some (Fn.of [.bit false, .bit true] (p := [(!(a.Id == b.Id)) = false,
    (a.Amount != b.Amount) = true]) (by kernel_rfl) (cj (nf h1) (cj1 h2)))) (fun h2 =>
   Pn.ite (fun h3 =>
   Pn.some (Fn.of [.bit false, .bit false, .bit true] (p := [(!(a.Id == b.Id)) = false,
    (a.Amount != b.Amount) = false,
    (a.Due != b.Due) = true]) (by kernel_rfl) (cj (nf h1) (cj h2 (cj1 h3))))) (fun h3 =>
   Pn.some (Fn.of [.bit false, .bit false, .bit false] (p := [(!(a.Id == b.Id)) = false,
    (a.Amount != b.Amount) = false,
    (a.Due != b.Due) = false]) (by kernel_rfl) (cj (nf h1) (cj h2 (cj1 h3))))))) (fun h1 =>
   Pn.some (Fn.of [.bit true] (p := [(!(a.Id == b.Id)) = true]) (by kernel_rfl) (cj1 (nt h1))))
def laws_eqHoldS_l0 (a : List Hold) (b : List Hold) : List Hold → List Hold → Option (Lo Unit Unit)
  | [], p1 =>
   some (.out ())
  | x1 :: t1, p1 =>
   (b[(p1.length : Int).toNat]?).bind fun x2 =>
   (laws_eqHold x1 x2).bind fun r1 =>
   if r1 = true then
   laws_eqHoldS_l0 a b t1 (p1 ++ [x1])
   else
   some (.ret ())
theorem laws_eqHoldS_l0_ok (a : List Hold) (b : List Hold) (h3 : capOk a.length = true) : ∀ (t1 p1 : List Hold) (_ : a = p1 ++ t1) , Pn (LpO Tryz.prog (sub (codeOf Tryz.prog 17) [1, 1, 0, 1, 0, 0]) (st 27 [(0, V.sl false 61 (List.map E61 a)), (1, V.sl false 61 (List.map E61 b)), (5, V.sc (.int .i64 (p1.length : Int)))] [] []) (fun (y : Lo Unit Unit) => Lo.elim y (fun s => (X.out 0, st 27 [] [] [])) (fun s => (X.ret, st 27 [(4, V.sc (.bool false))] [] [])))) (laws_eqHoldS_l0 a b t1 p1)
  | [], p1, h2 => by
    unfold laws_eqHoldS_l0
    exact
     Pn.some (LpO.out [.wait 3, .nm 13 (V.sc (.int .i64 (a.length : Int))), .bit false, .mask [], .ren []] (p := [V.sc (.int .i64 ((List.map E61 a).length : Int)) = V.sc (.int .i64 (a.length : Int)),
      (decide ((p1.length : Int) < (a.length : Int))) = false]) (by kernel_rfl) (show X.out 0 ≠ X.go from nofun) (cj (len_nm _ _) (cj1 (rng_end h2))))
  | x1 :: t1, p1, h2 => by
    unfold laws_eqHoldS_l0
    exact
     Pn.bind (fun x2 h4 =>
     Pn.bind (fun r1 h5 =>
     Pn.ite (fun h6 =>
     LpO.go [.wait 3, .nm 13 (V.sc (.int .i64 (a.length : Int))), .bit true, .draw [], .el (E61 x1), .el (E61 x2), .call [] (E4 r1) [], .bit false, .wait 3, .mask [0, 1, 5], .ren [], .nm 5 (V.sc (.int .i64 ((p1 ++ [x1]).length : Int)))] (p := [V.sc (.int .i64 ((List.map E61 a).length : Int)) = V.sc (.int .i64 (a.length : Int)),
      (decide ((p1.length : Int) < (a.length : Int))) = true,
      (0 : Int) ≤ (p1.length : Int),
      (List.map E61 a)[(p1.length : Int).toNat]? = some (E61 x1),
      (0 : Int) ≤ (p1.length : Int),
      (List.map E61 b)[(p1.length : Int).toNat]? = some (E61 x2),
      Fn Tryz.prog 40 [(false, E61 x1), (false, E61 x2)] (E4 r1) [],
      (true || ((E4 r1).nv && nvL [])) = true,
      (!r1) = false,
      V.sc (.int .i64 (i64 ((p1.length : Int) + 1))) = V.sc (.int .i64 ((p1 ++ [x1]).length : Int))]) (by kernel_rfl) (cj (len_nm _ _) (cj (rng_lt h2) (cj (by omega) (cj (rng_get _ h2) (cj (by omega) (cj (map_get h4) (cj (laws_eqHold_ok x1 x2 r1 h5) (cj rfl (cj (nf h6) (cj1 (rng_next h2 h3))))))))))) (laws_eqHoldS_l0_ok a b h3 t1 (p1 ++ [x1]) (rng_step h2))) (fun h6 =>
     Pn.some (LpO.out [.wait 3, .nm 13 (V.sc (.int .i64 (a.length : Int))), .bit true, .draw [], .el (E61 x1), .el (E61 x2), .call [] (E4 r1) [], .bit true, .wait 1, .mask [4], .ren []] (p := [V.sc (.int .i64 ((List.map E61 a).length : Int)) = V.sc (.int .i64 (a.length : Int)),
      (decide ((p1.length : Int) < (a.length : Int))) = true,
      (0 : Int) ≤ (p1.length : Int),
      (List.map E61 a)[(p1.length : Int).toNat]? = some (E61 x1),
      (0 : Int) ≤ (p1.length : Int),
      (List.map E61 b)[(p1.length : Int).toNat]? = some (E61 x2),
      Fn Tryz.prog 40 [(false, E61 x1), (false, E61 x2)] (E4 r1) [],
      (true || ((E4 r1).nv && nvL [])) = true,
      (!r1) = true]) (by kernel_rfl) (show X.ret ≠ X.go from nofun) (cj (len_nm _ _) (cj (rng_lt h2) (cj (by omega) (cj (rng_get _ h2) (cj (by omega) (cj (map_get h4) (cj (laws_eqHold_ok x1 x2 r1 h5) (cj rfl (cj1 (nt h6))))))))))))))
def laws_eqHoldS (a : List Hold) (b : List Hold) : Option (Bool) :=
 if ((a.length : Int) != (b.length : Int)) = true then
 some false
 else
 if (capOk a.length) = true then
 (laws_eqHoldS_l0 a b a []).bind fun r2 =>
 Lo.elim r2 (fun s1 =>
 some true) (fun s2 =>
 some false)
 else none
theorem laws_eqHoldS_ok (a : List Hold) (b : List Hold) : Pn (fun y => Fn Tryz.prog 17 [(false, E22 a), (false, E22 b)] (E4 y) []) (laws_eqHoldS a b) := by
  unfold laws_eqHoldS
  exact
   Pn.ite (fun h1 =>
   Pn.some (Fn.of [.wait 3, .nm 7 (V.sc (.int .i64 (a.length : Int))), .wait 2, .nm 9 (V.sc (.int .i64 (b.length : Int))), .bit true] (p := [V.sc (.int .i64 ((List.map E61 a).length : Int)) = V.sc (.int .i64 (a.length : Int)),
    V.sc (.int .i64 ((List.map E61 b).length : Int)) = V.sc (.int .i64 (b.length : Int)),
    ((a.length : Int) != (b.length : Int)) = true]) (by kernel_rfl) (cj (len_nm _ _) (cj (len_nm _ _) (cj1 h1))))) (fun h1 =>
   Pn.ite (fun h7 =>
   Pn.bind (fun r2 h8 =>
   Pn.lo (fun s1 h9 =>
   Pn.some (Fn.of [.wait 3, .nm 7 (V.sc (.int .i64 (a.length : Int))), .wait 2, .nm 9 (V.sc (.int .i64 (b.length : Int))), .bit false, .wait 1, .mask [0, 1, 5], .ren [], .loop (X.out 0) (st 27 [] [] [])] (p := [V.sc (.int .i64 ((List.map E61 a).length : Int)) = V.sc (.int .i64 (a.length : Int)),
    V.sc (.int .i64 ((List.map E61 b).length : Int)) = V.sc (.int .i64 (b.length : Int)),
    ((a.length : Int) != (b.length : Int)) = false,
    Loop Tryz.prog (sub (codeOf Tryz.prog 17) [1, 1, 0, 1, 0, 0]) (st 27 [(0, V.sl false 61 (List.map E61 a)), (1, V.sl false 61 (List.map E61 b)), (5, V.sc (.int .i64 0))] [] []) (X.out 0) (st 27 [] [] [])]) (by kernel_rfl) (cj (len_nm _ _) (cj (len_nm _ _) (cj h1 (cj1 ((laws_eqHoldS_l0_ok a b h7 a [] rfl r2 h8).at h9 :))))))) (fun s2 h10 =>
   Pn.some (Fn.of [.wait 3, .nm 7 (V.sc (.int .i64 (a.length : Int))), .wait 2, .nm 9 (V.sc (.int .i64 (b.length : Int))), .bit false, .wait 1, .mask [0, 1, 5], .ren [], .loop (X.ret) (st 27 [(4, V.sc (.bool false))] [] [])] (p := [V.sc (.int .i64 ((List.map E61 a).length : Int)) = V.sc (.int .i64 (a.length : Int)),
    V.sc (.int .i64 ((List.map E61 b).length : Int)) = V.sc (.int .i64 (b.length : Int)),
    ((a.length : Int) != (b.length : Int)) = false,
    Loop Tryz.prog (sub (codeOf Tryz.prog 17) [1, 1, 0, 1, 0, 0]) (st 27 [(0, V.sl false 61 (List.map E61 a)), (1, V.sl false 61 (List.map E61 b)), (5, V.sc (.int .i64 0))] [] []) (X.ret) (st 27 [(4, V.sc (.bool false))] [] [])]) (by kernel_rfl) (cj (len_nm _ _) (cj (len_nm _ _) (cj h1 (cj1 ((laws_eqHoldS_l0_ok a b h7 a [] rfl r2 h8).at h10 :))))))))) (fun h7 =>
   Pn.none))
def laws_eqIntS_l0 (a : List Int) (b : List Int) : List Int → List Int → Option (Lo Unit Unit)
  | [], p1 =>
   some (.out ())
  | x1 :: t1, p1 =>
   (b[(p1.length : Int).toNat]?).bind fun x2 =>
   if (x1 != x2) = true then
   some (.ret ())
   else
   laws_eqIntS_l0 a b t1 (p1 ++ [x1])
theorem laws_eqIntS_l0_ok (a : List Int) (b : List Int) (h3 : capOk a.length = true) : ∀ (t1 p1 : List Int) (_ : a = p1 ++ t1) , Pn (LpO Tryz.prog (sub (codeOf Tryz.prog 41) [1, 1, 0, 1, 0, 0]) (st 26 [(0, V.sl false 3 (List.map E3 a)), (1, V.sl false 3 (List.map E3 b)), (5, V.sc (.int .i64 (p1.length : Int)))] [] []) (fun (y : Lo Unit Unit) => Lo.elim y (fun s => (X.out 0, st 26 [] [] [])) (fun s => (X.ret, st 26 [(4, V.sc (.bool false))] [] [])))) (laws_eqIntS_l0 a b t1 p1)
  | [], p1, h2 => by
    unfold laws_eqIntS_l0
    exact
     Pn.some (LpO.out [.wait 3, .nm 13 (V.sc (.int .i64 (a.length : Int))), .bit false, .mask [], .ren []] (p := [V.sc (.int .i64 ((List.map E3 a).length : Int)) = V.sc (.int .i64 (a.length : Int)),
      (decide ((p1.length : Int) < (a.length : Int))) = false]) (by kernel_rfl) (show X.out 0 ≠ X.go from nofun) (cj (len_nm _ _) (cj1 (rng_end h2))))
  | x1 :: t1, p1, h2 => by
    unfold laws_eqIntS_l0
    exact
     Pn.bind (fun x2 h4 =>
     Pn.ite (fun h5 =>
     Pn.some (LpO.out [.wait 3, .nm 13 (V.sc (.int .i64 (a.length : Int))), .bit true, .draw [], .el (E3 x1), .el (E3 x2), .bit true, .wait 1, .mask [4], .ren []] (p := [V.sc (.int .i64 ((List.map E3 a).length : Int)) = V.sc (.int .i64 (a.length : Int)),
      (decide ((p1.length : Int) < (a.length : Int))) = true,
      (0 : Int) ≤ (p1.length : Int),
      (List.map E3 a)[(p1.length : Int).toNat]? = some (E3 x1),
      (0 : Int) ≤ (p1.length : Int),
      (List.map E3 b)[(p1.length : Int).toNat]? = some (E3 x2),
      (x1 != x2) = true]) (by kernel_rfl) (show X.ret ≠ X.go from nofun) (cj (len_nm _ _) (cj (rng_lt h2) (cj (by omega) (cj (rng_get _ h2) (cj (by omega) (cj (map_get h4) (cj1 h5))))))))) (fun h5 =>
     LpO.go [.wait 3, .nm 13 (V.sc (.int .i64 (a.length : Int))), .bit true, .draw [], .el (E3 x1), .el (E3 x2), .bit false, .wait 3, .mask [0, 1, 5], .ren [], .nm 5 (V.sc (.int .i64 ((p1 ++ [x1]).length : Int)))] (p := [V.sc (.int .i64 ((List.map E3 a).length : Int)) = V.sc (.int .i64 (a.length : Int)),
      (decide ((p1.length : Int) < (a.length : Int))) = true,
      (0 : Int) ≤ (p1.length : Int),
      (List.map E3 a)[(p1.length : Int).toNat]? = some (E3 x1),
      (0 : Int) ≤ (p1.length : Int),
      (List.map E3 b)[(p1.length : Int).toNat]? = some (E3 x2),
      (x1 != x2) = false,
      V.sc (.int .i64 (i64 ((p1.length : Int) + 1))) = V.sc (.int .i64 ((p1 ++ [x1]).length : Int))]) (by kernel_rfl) (cj (len_nm _ _) (cj (rng_lt h2) (cj (by omega) (cj (rng_get _ h2) (cj (by omega) (cj (map_get h4) (cj h5 (cj1 (rng_next h2 h3))))))))) (laws_eqIntS_l0_ok a b h3 t1 (p1 ++ [x1]) (rng_step h2))))
def laws_eqIntS (a : List Int) (b : List Int) : Option (Bool) :=
 if ((a.length : Int) != (b.length : Int)) = true then
 some false
 else
 if (capOk a.length) = true then
 (laws_eqIntS_l0 a b a []).bind fun r1 =>
 Lo.elim r1 (fun s1 =>
 some true) (fun s2 =>
 some false)
 else none
theorem laws_eqIntS_ok (a : List Int) (b : List Int) : Pn (fun y => Fn Tryz.prog 41 [(false, E23 a), (false, E23 b)] (E4 y) []) (laws_eqIntS a b) := by
  unfold laws_eqIntS
  exact
   Pn.ite (fun h1 =>
   Pn.some (Fn.of [.wait 3, .nm 7 (V.sc (.int .i64 (a.length : Int))), .wait 2, .nm 9 (V.sc (.int .i64 (b.length : Int))), .bit true] (p := [V.sc (.int .i64 ((List.map E3 a).length : Int)) = V.sc (.int .i64 (a.length : Int)),
    V.sc (.int .i64 ((List.map E3 b).length : Int)) = V.sc (.int .i64 (b.length : Int)),
    ((a.length : Int) != (b.length : Int)) = true]) (by kernel_rfl) (cj (len_nm _ _) (cj (len_nm _ _) (cj1 h1))))) (fun h1 =>
   Pn.ite (fun h6 =>
   Pn.bind (fun r1 h7 =>
   Pn.lo (fun s1 h8 =>
   Pn.some (Fn.of [.wait 3, .nm 7 (V.sc (.int .i64 (a.length : Int))), .wait 2, .nm 9 (V.sc (.int .i64 (b.length : Int))), .bit false, .wait 1, .mask [0, 1, 5], .ren [], .loop (X.out 0) (st 26 [] [] [])] (p := [V.sc (.int .i64 ((List.map E3 a).length : Int)) = V.sc (.int .i64 (a.length : Int)),
    V.sc (.int .i64 ((List.map E3 b).length : Int)) = V.sc (.int .i64 (b.length : Int)),
    ((a.length : Int) != (b.length : Int)) = false,
    Loop Tryz.prog (sub (codeOf Tryz.prog 41) [1, 1, 0, 1, 0, 0]) (st 26 [(0, V.sl false 3 (List.map E3 a)), (1, V.sl false 3 (List.map E3 b)), (5, V.sc (.int .i64 0))] [] []) (X.out 0) (st 26 [] [] [])]) (by kernel_rfl) (cj (len_nm _ _) (cj (len_nm _ _) (cj h1 (cj1 ((laws_eqIntS_l0_ok a b h6 a [] rfl r1 h7).at h8 :))))))) (fun s2 h9 =>
   Pn.some (Fn.of [.wait 3, .nm 7 (V.sc (.int .i64 (a.length : Int))), .wait 2, .nm 9 (V.sc (.int .i64 (b.length : Int))), .bit false, .wait 1, .mask [0, 1, 5], .ren [], .loop (X.ret) (st 26 [(4, V.sc (.bool false))] [] [])] (p := [V.sc (.int .i64 ((List.map E3 a).length : Int)) = V.sc (.int .i64 (a.length : Int)),
    V.sc (.int .i64 ((List.map E3 b).length : Int)) = V.sc (.int .i64 (b.length : Int)),
    ((a.length : Int) != (b.length : Int)) = false,
    Loop Tryz.prog (sub (codeOf Tryz.prog 41) [1, 1, 0, 1, 0, 0]) (st 26 [(0, V.sl false 3 (List.map E3 a)), (1, V.sl false 3 (List.map E3 b)), (5, V.sc (.int .i64 0))] [] []) (X.ret) (st 26 [(4, V.sc (.bool false))] [] [])]) (by kernel_rfl) (cj (len_nm _ _) (cj (len_nm _ _) (cj h1 (cj1 ((laws_eqIntS_l0_ok a b h6 a [] rfl r1 h7).at h9 :))))))))) (fun h6 =>
   Pn.none))
def laws_eqRing (a : Ring) (b : Ring) : Option (Bool) :=
 if (a.Span != b.Span) = true then
 some false
 else
 if (a.Head != b.Head) = true then
 some false
 else
 (laws_eqIntS a.Counts b.Counts).bind fun r1 =>
 if r1 = true then
 (laws_eqIntS a.Sums b.Sums).bind fun r2 =>
 if r2 = true then
 some true
 else
 some false
 else
 some false
theorem laws_eqRing_ok (a : Ring) (b : Ring) : Pn (fun y => Fn Tryz.prog 18 [(false, E25 a), (false, E25 b)] (E4 y) []) (laws_eqRing a b) := by
  unfold laws_eqRing
  exact
   Pn.ite (fun h1 =>
   Pn.some (Fn.of [.bit true] (p := [(a.Span != b.Span) = true]) (by kernel_rfl) (cj1 h1))) (fun h1 =>
   Pn.ite (fun h2 =>
   Pn.some (Fn.of [.bit false, .bit true] (p := [(a.Span != b.Span) = false,
    (a.Head != b.Head) = true]) (by kernel_rfl) (cj h1 (cj1 h2)))) (fun h2 =>
   Pn.bind (fun r1 h3 =>
   Pn.ite (fun h4 =>
   Pn.bind (fun r2 h5 =>
   Pn.ite (fun h6 =>
   Pn.some (Fn.of [.bit false, .bit false, .call [] (E4 r1) [], .bit false, .call [] (E4 r2) [], .bit false] (p := [(a.Span != b.Span) = false,
    (a.Head != b.Head) = false,
    Fn Tryz.prog 41 [(false, E23 a.Counts), (false, E23 b.Counts)] (E4 r1) [],
    (true || ((E4 r1).nv && nvL [])) = true,
    (!r1) = false,
    Fn Tryz.prog 41 [(false, E23 a.Sums), (false, E23 b.Sums)] (E4 r2) [],
    (true || ((E4 r2).nv && nvL [])) = true,
    (!r2) = false]) (by kernel_rfl) (cj h1 (cj h2 (cj (laws_eqIntS_ok a.Counts b.Counts r1 h3) (cj rfl (cj (nf h4) (cj (laws_eqIntS_ok a.Sums b.Sums r2 h5) (cj rfl (cj1 (nf h6))))))))))) (fun h6 =>
   Pn.some (Fn.of [.bit false, .bit false, .call [] (E4 r1) [], .bit false, .call [] (E4 r2) [], .bit true] (p := [(a.Span != b.Span) = false,
    (a.Head != b.Head) = false,
    Fn Tryz.prog 41 [(false, E23 a.Counts), (false, E23 b.Counts)] (E4 r1) [],
    (true || ((E4 r1).nv && nvL [])) = true,
    (!r1) = false,
    Fn Tryz.prog 41 [(false, E23 a.Sums), (false, E23 b.Sums)] (E4 r2) [],
    (true || ((E4 r2).nv && nvL [])) = true,
    (!r2) = true]) (by kernel_rfl) (cj h1 (cj h2 (cj (laws_eqIntS_ok a.Counts b.Counts r1 h3) (cj rfl (cj (nf h4) (cj (laws_eqIntS_ok a.Sums b.Sums r2 h5) (cj rfl (cj1 (nt h6))))))))))))) (fun h4 =>
   Pn.some (Fn.of [.bit false, .bit false, .call [] (E4 r1) [], .bit true] (p := [(a.Span != b.Span) = false,
    (a.Head != b.Head) = false,
    Fn Tryz.prog 41 [(false, E23 a.Counts), (false, E23 b.Counts)] (E4 r1) [],
    (true || ((E4 r1).nv && nvL [])) = true,
    (!r1) = true]) (by kernel_rfl) (cj h1 (cj h2 (cj (laws_eqIntS_ok a.Counts b.Counts r1 h3) (cj rfl (cj1 (nt h4)))))))))))
def laws_eqByteS_l0 (a : List Int) (b : List Int) : List Int → List Int → Option (Lo Unit Unit)
  | [], p1 =>
   some (.out ())
  | x1 :: t1, p1 =>
   (b[(p1.length : Int).toNat]?).bind fun x2 =>
   if (x1 != x2) = true then
   some (.ret ())
   else
   laws_eqByteS_l0 a b t1 (p1 ++ [x1])
theorem laws_eqByteS_l0_ok (a : List Int) (b : List Int) (h3 : capOk a.length = true) : ∀ (t1 p1 : List Int) (_ : a = p1 ++ t1) , Pn (LpO Tryz.prog (sub (codeOf Tryz.prog 75) [1, 1, 0, 1, 0, 0]) (st 26 [(0, V.sl false 5 (List.map E5 a)), (1, V.sl false 5 (List.map E5 b)), (5, V.sc (.int .i64 (p1.length : Int)))] [] []) (fun (y : Lo Unit Unit) => Lo.elim y (fun s => (X.out 0, st 26 [] [] [])) (fun s => (X.ret, st 26 [(4, V.sc (.bool false))] [] [])))) (laws_eqByteS_l0 a b t1 p1)
  | [], p1, h2 => by
    unfold laws_eqByteS_l0
    exact
     Pn.some (LpO.out [.wait 3, .nm 13 (V.sc (.int .i64 (a.length : Int))), .bit false, .mask [], .ren []] (p := [V.sc (.int .i64 ((List.map E5 a).length : Int)) = V.sc (.int .i64 (a.length : Int)),
      (decide ((p1.length : Int) < (a.length : Int))) = false]) (by kernel_rfl) (show X.out 0 ≠ X.go from nofun) (cj (len_nm _ _) (cj1 (rng_end h2))))
  | x1 :: t1, p1, h2 => by
    unfold laws_eqByteS_l0
    exact
     Pn.bind (fun x2 h4 =>
     Pn.ite (fun h5 =>
     Pn.some (LpO.out [.wait 3, .nm 13 (V.sc (.int .i64 (a.length : Int))), .bit true, .draw [], .el (E5 x1), .el (E5 x2), .bit true, .wait 1, .mask [4], .ren []] (p := [V.sc (.int .i64 ((List.map E5 a).length : Int)) = V.sc (.int .i64 (a.length : Int)),
      (decide ((p1.length : Int) < (a.length : Int))) = true,
      (0 : Int) ≤ (p1.length : Int),
      (List.map E5 a)[(p1.length : Int).toNat]? = some (E5 x1),
      (0 : Int) ≤ (p1.length : Int),
      (List.map E5 b)[(p1.length : Int).toNat]? = some (E5 x2),
      (x1 != x2) = true]) (by kernel_rfl) (show X.ret ≠ X.go from nofun) (cj (len_nm _ _) (cj (rng_lt h2) (cj (by omega) (cj (rng_get _ h2) (cj (by omega) (cj (map_get h4) (cj1 h5))))))))) (fun h5 =>
     LpO.go [.wait 3, .nm 13 (V.sc (.int .i64 (a.length : Int))), .bit true, .draw [], .el (E5 x1), .el (E5 x2), .bit false, .wait 3, .mask [0, 1, 5], .ren [], .nm 5 (V.sc (.int .i64 ((p1 ++ [x1]).length : Int)))] (p := [V.sc (.int .i64 ((List.map E5 a).length : Int)) = V.sc (.int .i64 (a.length : Int)),
      (decide ((p1.length : Int) < (a.length : Int))) = true,
      (0 : Int) ≤ (p1.length : Int),
      (List.map E5 a)[(p1.length : Int).toNat]? = some (E5 x1),
      (0 : Int) ≤ (p1.length : Int),
      (List.map E5 b)[(p1.length : Int).toNat]? = some (E5 x2),
      (x1 != x2) = false,
      V.sc (.int .i64 (i64 ((p1.length : Int) + 1))) = V.sc (.int .i64 ((p1 ++ [x1]).length : Int))]) (by kernel_rfl) (cj (len_nm _ _) (cj (rng_lt h2) (cj (by omega) (cj (rng_get _ h2) (cj (by omega) (cj (map_get h4) (cj h5 (cj1 (rng_next h2 h3))))))))) (laws_eqByteS_l0_ok a b h3 t1 (p1 ++ [x1]) (rng_step h2))))
def laws_eqByteS (a : List Int) (b : List Int) : Option (Bool) :=
 if ((a.length : Int) != (b.length : Int)) = true then
 some false
 else
 if (capOk a.length) = true then
 (laws_eqByteS_l0 a b a []).bind fun r1 =>
 Lo.elim r1 (fun s1 =>
 some true) (fun s2 =>
 some false)
 else none
theorem laws_eqByteS_ok (a : List Int) (b : List Int) : Pn (fun y => Fn Tryz.prog 75 [(false, E64 a), (false, E64 b)] (E4 y) []) (laws_eqByteS a b) := by
  unfold laws_eqByteS
  exact
   Pn.ite (fun h1 =>
   Pn.some (Fn.of [.wait 3, .nm 7 (V.sc (.int .i64 (a.length : Int))), .wait 2, .nm 9 (V.sc (.int .i64 (b.length : Int))), .bit true] (p := [V.sc (.int .i64 ((List.map E5 a).length : Int)) = V.sc (.int .i64 (a.length : Int)),
    V.sc (.int .i64 ((List.map E5 b).length : Int)) = V.sc (.int .i64 (b.length : Int)),
    ((a.length : Int) != (b.length : Int)) = true]) (by kernel_rfl) (cj (len_nm _ _) (cj (len_nm _ _) (cj1 h1))))) (fun h1 =>
   Pn.ite (fun h6 =>
   Pn.bind (fun r1 h7 =>
   Pn.lo (fun s1 h8 =>
   Pn.some (Fn.of [.wait 3, .nm 7 (V.sc (.int .i64 (a.length : Int))), .wait 2, .nm 9 (V.sc (.int .i64 (b.length : Int))), .bit false, .wait 1, .mask [0, 1, 5], .ren [], .loop (X.out 0) (st 26 [] [] [])] (p := [V.sc (.int .i64 ((List.map E5 a).length : Int)) = V.sc (.int .i64 (a.length : Int)),
    V.sc (.int .i64 ((List.map E5 b).length : Int)) = V.sc (.int .i64 (b.length : Int)),
    ((a.length : Int) != (b.length : Int)) = false,
    Loop Tryz.prog (sub (codeOf Tryz.prog 75) [1, 1, 0, 1, 0, 0]) (st 26 [(0, V.sl false 5 (List.map E5 a)), (1, V.sl false 5 (List.map E5 b)), (5, V.sc (.int .i64 0))] [] []) (X.out 0) (st 26 [] [] [])]) (by kernel_rfl) (cj (len_nm _ _) (cj (len_nm _ _) (cj h1 (cj1 ((laws_eqByteS_l0_ok a b h6 a [] rfl r1 h7).at h8 :))))))) (fun s2 h9 =>
   Pn.some (Fn.of [.wait 3, .nm 7 (V.sc (.int .i64 (a.length : Int))), .wait 2, .nm 9 (V.sc (.int .i64 (b.length : Int))), .bit false, .wait 1, .mask [0, 1, 5], .ren [], .loop (X.ret) (st 26 [(4, V.sc (.bool false))] [] [])] (p := [V.sc (.int .i64 ((List.map E5 a).length : Int)) = V.sc (.int .i64 (a.length : Int)),
    V.sc (.int .i64 ((List.map E5 b).length : Int)) = V.sc (.int .i64 (b.length : Int)),
    ((a.length : Int) != (b.length : Int)) = false,
    Loop Tryz.prog (sub (codeOf Tryz.prog 75) [1, 1, 0, 1, 0, 0]) (st 26 [(0, V.sl false 5 (List.map E5 a)), (1, V.sl false 5 (List.map E5 b)), (5, V.sc (.int .i64 0))] [] []) (X.ret) (st 26 [(4, V.sc (.bool false))] [] [])]) (by kernel_rfl) (cj (len_nm _ _) (cj (len_nm _ _) (cj h1 (cj1 ((laws_eqByteS_l0_ok a b h6 a [] rfl r1 h7).at h9 :))))))))) (fun h6 =>
   Pn.none))
def laws_eqSlot (a : Slot) (b : Slot) : Option (Bool) :=
 if (a.Trace == b.Trace) = true then
 if (a.Mti == b.Mti) = true then
 (laws_eqByteS a.Reply b.Reply).bind fun r1 =>
 if r1 = true then
 some true
 else
 some false
 else
 some false
 else
 some false
theorem laws_eqSlot_ok (a : Slot) (b : Slot) : Pn (fun y => Fn Tryz.prog 42 [(false, E66 a), (false, E66 b)] (E4 y) []) (laws_eqSlot a b) := by
  unfold laws_eqSlot
  exact
   Pn.ite (fun h1 =>
   Pn.ite (fun h2 =>
   Pn.bind (fun r1 h3 =>
   Pn.ite (fun h4 =>
   Pn.some (Fn.of [.bit false, .bit false, .call [] (E4 r1) [], .bit false] (p := [(!(a.Trace == b.Trace)) = false,
    (!(a.Mti == b.Mti)) = false,
    Fn Tryz.prog 75 [(false, E64 a.Reply), (false, E64 b.Reply)] (E4 r1) [],
    (true || ((E4 r1).nv && nvL [])) = true,
    (!r1) = false]) (by kernel_rfl) (cj (nf h1) (cj (nf h2) (cj (laws_eqByteS_ok a.Reply b.Reply r1 h3) (cj rfl (cj1 (nf h4)))))))) (fun h4 =>
   Pn.some (Fn.of [.bit false, .bit false, .call [] (E4 r1) [], .bit true] (p := [(!(a.Trace == b.Trace)) = false,
    (!(a.Mti == b.Mti)) = false,
    Fn Tryz.prog 75 [(false, E64 a.Reply), (false, E64 b.Reply)] (E4 r1) [],
    (true || ((E4 r1).nv && nvL [])) = true,
    (!r1) = true]) (by kernel_rfl) (cj (nf h1) (cj (nf h2) (cj (laws_eqByteS_ok a.Reply b.Reply r1 h3) (cj rfl (cj1 (nt h4)))))))))) (fun h2 =>
   Pn.some (Fn.of [.bit false, .bit true] (p := [(!(a.Trace == b.Trace)) = false,
    (!(a.Mti == b.Mti)) = true]) (by kernel_rfl) (cj (nf h1) (cj1 (nt h2)))))) (fun h1 =>
   Pn.some (Fn.of [.bit true] (p := [(!(a.Trace == b.Trace)) = true]) (by kernel_rfl) (cj1 (nt h1))))
def laws_eqSlotS_l0 (a : List Slot) (b : List Slot) : List Slot → List Slot → Option (Lo Unit Unit)
  | [], p1 =>
   some (.out ())
  | x1 :: t1, p1 =>
   (b[(p1.length : Int).toNat]?).bind fun x2 =>
   (laws_eqSlot x1 x2).bind fun r1 =>
   if r1 = true then
   laws_eqSlotS_l0 a b t1 (p1 ++ [x1])
   else
   some (.ret ())
theorem laws_eqSlotS_l0_ok (a : List Slot) (b : List Slot) (h3 : capOk a.length = true) : ∀ (t1 p1 : List Slot) (_ : a = p1 ++ t1) , Pn (LpO Tryz.prog (sub (codeOf Tryz.prog 19) [1, 1, 0, 1, 0, 0]) (st 27 [(0, V.sl false 66 (List.map E66 a)), (1, V.sl false 66 (List.map E66 b)), (5, V.sc (.int .i64 (p1.length : Int)))] [] []) (fun (y : Lo Unit Unit) => Lo.elim y (fun s => (X.out 0, st 27 [] [] [])) (fun s => (X.ret, st 27 [(4, V.sc (.bool false))] [] [])))) (laws_eqSlotS_l0 a b t1 p1)
  | [], p1, h2 => by
    unfold laws_eqSlotS_l0
    exact
     Pn.some (LpO.out [.wait 3, .nm 13 (V.sc (.int .i64 (a.length : Int))), .bit false, .mask [], .ren []] (p := [V.sc (.int .i64 ((List.map E66 a).length : Int)) = V.sc (.int .i64 (a.length : Int)),
      (decide ((p1.length : Int) < (a.length : Int))) = false]) (by kernel_rfl) (show X.out 0 ≠ X.go from nofun) (cj (len_nm _ _) (cj1 (rng_end h2))))
  | x1 :: t1, p1, h2 => by
    unfold laws_eqSlotS_l0
    exact
     Pn.bind (fun x2 h4 =>
     Pn.bind (fun r1 h5 =>
     Pn.ite (fun h6 =>
     LpO.go [.wait 3, .nm 13 (V.sc (.int .i64 (a.length : Int))), .bit true, .draw [], .el (E66 x1), .el (E66 x2), .call [] (E4 r1) [], .bit false, .wait 3, .mask [0, 1, 5], .ren [], .nm 5 (V.sc (.int .i64 ((p1 ++ [x1]).length : Int)))] (p := [V.sc (.int .i64 ((List.map E66 a).length : Int)) = V.sc (.int .i64 (a.length : Int)),
      (decide ((p1.length : Int) < (a.length : Int))) = true,
      (0 : Int) ≤ (p1.length : Int),
      (List.map E66 a)[(p1.length : Int).toNat]? = some (E66 x1),
      (0 : Int) ≤ (p1.length : Int),
      (List.map E66 b)[(p1.length : Int).toNat]? = some (E66 x2),
      Fn Tryz.prog 42 [(false, E66 x1), (false, E66 x2)] (E4 r1) [],
      (true || ((E4 r1).nv && nvL [])) = true,
      (!r1) = false,
      V.sc (.int .i64 (i64 ((p1.length : Int) + 1))) = V.sc (.int .i64 ((p1 ++ [x1]).length : Int))]) (by kernel_rfl) (cj (len_nm _ _) (cj (rng_lt h2) (cj (by omega) (cj (rng_get _ h2) (cj (by omega) (cj (map_get h4) (cj (laws_eqSlot_ok x1 x2 r1 h5) (cj rfl (cj (nf h6) (cj1 (rng_next h2 h3))))))))))) (laws_eqSlotS_l0_ok a b h3 t1 (p1 ++ [x1]) (rng_step h2))) (fun h6 =>
     Pn.some (LpO.out [.wait 3, .nm 13 (V.sc (.int .i64 (a.length : Int))), .bit true, .draw [], .el (E66 x1), .el (E66 x2), .call [] (E4 r1) [], .bit true, .wait 1, .mask [4], .ren []] (p := [V.sc (.int .i64 ((List.map E66 a).length : Int)) = V.sc (.int .i64 (a.length : Int)),
      (decide ((p1.length : Int) < (a.length : Int))) = true,
      (0 : Int) ≤ (p1.length : Int),
      (List.map E66 a)[(p1.length : Int).toNat]? = some (E66 x1),
      (0 : Int) ≤ (p1.length : Int),
      (List.map E66 b)[(p1.length : Int).toNat]? = some (E66 x2),
      Fn Tryz.prog 42 [(false, E66 x1), (false, E66 x2)] (E4 r1) [],
      (true || ((E4 r1).nv && nvL [])) = true,
      (!r1) = true]) (by kernel_rfl) (show X.ret ≠ X.go from nofun) (cj (len_nm _ _) (cj (rng_lt h2) (cj (by omega) (cj (rng_get _ h2) (cj (by omega) (cj (map_get h4) (cj (laws_eqSlot_ok x1 x2 r1 h5) (cj rfl (cj1 (nt h6))))))))))))))
def laws_eqSlotS (a : List Slot) (b : List Slot) : Option (Bool) :=
 if ((a.length : Int) != (b.length : Int)) = true then
 some false
 else
 if (capOk a.length) = true then
 (laws_eqSlotS_l0 a b a []).bind fun r2 =>
 Lo.elim r2 (fun s1 =>
 some true) (fun s2 =>
 some false)
 else none
theorem laws_eqSlotS_ok (a : List Slot) (b : List Slot) : Pn (fun y => Fn Tryz.prog 19 [(false, E26 a), (false, E26 b)] (E4 y) []) (laws_eqSlotS a b) := by
  unfold laws_eqSlotS
  exact
   Pn.ite (fun h1 =>
   Pn.some (Fn.of [.wait 3, .nm 7 (V.sc (.int .i64 (a.length : Int))), .wait 2, .nm 9 (V.sc (.int .i64 (b.length : Int))), .bit true] (p := [V.sc (.int .i64 ((List.map E66 a).length : Int)) = V.sc (.int .i64 (a.length : Int)),
    V.sc (.int .i64 ((List.map E66 b).length : Int)) = V.sc (.int .i64 (b.length : Int)),
    ((a.length : Int) != (b.length : Int)) = true]) (by kernel_rfl) (cj (len_nm _ _) (cj (len_nm _ _) (cj1 h1))))) (fun h1 =>
   Pn.ite (fun h7 =>
   Pn.bind (fun r2 h8 =>
   Pn.lo (fun s1 h9 =>
   Pn.some (Fn.of [.wait 3, .nm 7 (V.sc (.int .i64 (a.length : Int))), .wait 2, .nm 9 (V.sc (.int .i64 (b.length : Int))), .bit false, .wait 1, .mask [0, 1, 5], .ren [], .loop (X.out 0) (st 27 [] [] [])] (p := [V.sc (.int .i64 ((List.map E66 a).length : Int)) = V.sc (.int .i64 (a.length : Int)),
    V.sc (.int .i64 ((List.map E66 b).length : Int)) = V.sc (.int .i64 (b.length : Int)),
    ((a.length : Int) != (b.length : Int)) = false,
    Loop Tryz.prog (sub (codeOf Tryz.prog 19) [1, 1, 0, 1, 0, 0]) (st 27 [(0, V.sl false 66 (List.map E66 a)), (1, V.sl false 66 (List.map E66 b)), (5, V.sc (.int .i64 0))] [] []) (X.out 0) (st 27 [] [] [])]) (by kernel_rfl) (cj (len_nm _ _) (cj (len_nm _ _) (cj h1 (cj1 ((laws_eqSlotS_l0_ok a b h7 a [] rfl r2 h8).at h9 :))))))) (fun s2 h10 =>
   Pn.some (Fn.of [.wait 3, .nm 7 (V.sc (.int .i64 (a.length : Int))), .wait 2, .nm 9 (V.sc (.int .i64 (b.length : Int))), .bit false, .wait 1, .mask [0, 1, 5], .ren [], .loop (X.ret) (st 27 [(4, V.sc (.bool false))] [] [])] (p := [V.sc (.int .i64 ((List.map E66 a).length : Int)) = V.sc (.int .i64 (a.length : Int)),
    V.sc (.int .i64 ((List.map E66 b).length : Int)) = V.sc (.int .i64 (b.length : Int)),
    ((a.length : Int) != (b.length : Int)) = false,
    Loop Tryz.prog (sub (codeOf Tryz.prog 19) [1, 1, 0, 1, 0, 0]) (st 27 [(0, V.sl false 66 (List.map E66 a)), (1, V.sl false 66 (List.map E66 b)), (5, V.sc (.int .i64 0))] [] []) (X.ret) (st 27 [(4, V.sc (.bool false))] [] [])]) (by kernel_rfl) (cj (len_nm _ _) (cj (len_nm _ _) (cj h1 (cj1 ((laws_eqSlotS_l0_ok a b h7 a [] rfl r2 h8).at h10 :))))))))) (fun h7 =>
   Pn.none))
def laws_eqAcct (a : Acct) (b : Acct) : Option (Bool) :=
 if (a.Id == b.Id) = true then
 if (a.Limit != b.Limit) = true then
 some false
 else
 if (a.Posted != b.Posted) = true then
 some false
 else
 if (a.Most != b.Most) = true then
 some false
 else
 if (a.MostSum != b.MostSum) = true then
 some false
 else
 (laws_eqHoldS a.Holds b.Holds).bind fun r1 =>
 if r1 = true then
 (laws_eqRing a.Ring b.Ring).bind fun r2 =>
 if r2 = true then
 (laws_eqSlotS a.Slots b.Slots).bind fun r3 =>
 if r3 = true then
 some true
 else
 some false
 else
 some false
 else
 some false
 else
 some false
theorem laws_eqAcct_ok (a : Acct) (b : Acct) : Pn (fun y => Fn Tryz.prog 6 [(false, E28 a), (false, E28 b)] (E4 y) []) (laws_eqAcct a b) := by
  unfold laws_eqAcct
  exact
   Pn.ite (fun h1 =>
   Pn.ite (fun h2 =>
   Pn.some (Fn.of [.bit false, .bit true] (p := [(!(a.Id == b.Id)) = false,
    (a.Limit != b.Limit) = true]) (by kernel_rfl) (cj (nf h1) (cj1 h2)))) (fun h2 =>
   Pn.ite (fun h3 =>
   Pn.some (Fn.of [.bit false, .bit false, .bit true] (p := [(!(a.Id == b.Id)) = false,
    (a.Limit != b.Limit) = false,
    (a.Posted != b.Posted) = true]) (by kernel_rfl) (cj (nf h1) (cj h2 (cj1 h3))))) (fun h3 =>
   Pn.ite (fun h4 =>
   Pn.some (Fn.of [.bit false, .bit false, .bit false, .bit true] (p := [(!(a.Id == b.Id)) = false,
    (a.Limit != b.Limit) = false,
    (a.Posted != b.Posted) = false,
    (a.Most != b.Most) = true]) (by kernel_rfl) (cj (nf h1) (cj h2 (cj h3 (cj1 h4)))))) (fun h4 =>
   Pn.ite (fun h5 =>
   Pn.some (Fn.of [.bit false, .bit false, .bit false, .bit false, .bit true] (p := [(!(a.Id == b.Id)) = false,
    (a.Limit != b.Limit) = false,
    (a.Posted != b.Posted) = false,
    (a.Most != b.Most) = false,
    (a.MostSum != b.MostSum) = true]) (by kernel_rfl) (cj (nf h1) (cj h2 (cj h3 (cj h4 (cj1 h5))))))) (fun h5 =>
   Pn.bind (fun r1 h6 =>
   Pn.ite (fun h7 =>
   Pn.bind (fun r2 h8 =>
   Pn.ite (fun h9 =>
   Pn.bind (fun r3 h10 =>
   Pn.ite (fun h11 =>
   Pn.some (Fn.of [.bit false, .bit false, .bit false, .bit false, .bit false, .call [] (E4 r1) [], .bit false, .call [] (E4 r2) [], .bit false, .call [] (E4 r3) [], .bit false] (p := [(!(a.Id == b.Id)) = false,
    (a.Limit != b.Limit) = false,
    (a.Posted != b.Posted) = false,
    (a.Most != b.Most) = false,
    (a.MostSum != b.MostSum) = false,
    Fn Tryz.prog 17 [(false, E22 a.Holds), (false, E22 b.Holds)] (E4 r1) [],
    (true || ((E4 r1).nv && nvL [])) = true,
    (!r1) = false,
    Fn Tryz.prog 18 [(false, E25 a.Ring), (false, E25 b.Ring)] (E4 r2) [],
    (true || ((E4 r2).nv && nvL [])) = true,
    (!r2) = false,
    Fn Tryz.prog 19 [(false, E26 a.Slots), (false, E26 b.Slots)] (E4 r3) [],
    (true || ((E4 r3).nv && nvL [])) = true,
    (!r3) = false]) (by kernel_rfl) (cj (nf h1) (cj h2 (cj h3 (cj h4 (cj h5 (cj (laws_eqHoldS_ok a.Holds b.Holds r1 h6) (cj rfl (cj (nf h7) (cj (laws_eqRing_ok a.Ring b.Ring r2 h8) (cj rfl (cj (nf h9) (cj (laws_eqSlotS_ok a.Slots b.Slots r3 h10) (cj rfl (cj1 (nf h11))))))))))))))))) (fun h11 =>
   Pn.some (Fn.of [.bit false, .bit false, .bit false, .bit false, .bit false, .call [] (E4 r1) [], .bit false, .call [] (E4 r2) [], .bit false, .call [] (E4 r3) [], .bit true] (p := [(!(a.Id == b.Id)) = false,
    (a.Limit != b.Limit) = false,
    (a.Posted != b.Posted) = false,
    (a.Most != b.Most) = false,
    (a.MostSum != b.MostSum) = false,
    Fn Tryz.prog 17 [(false, E22 a.Holds), (false, E22 b.Holds)] (E4 r1) [],
    (true || ((E4 r1).nv && nvL [])) = true,
    (!r1) = false,
    Fn Tryz.prog 18 [(false, E25 a.Ring), (false, E25 b.Ring)] (E4 r2) [],
    (true || ((E4 r2).nv && nvL [])) = true,
    (!r2) = false,
    Fn Tryz.prog 19 [(false, E26 a.Slots), (false, E26 b.Slots)] (E4 r3) [],
    (true || ((E4 r3).nv && nvL [])) = true,
    (!r3) = true]) (by kernel_rfl) (cj (nf h1) (cj h2 (cj h3 (cj h4 (cj h5 (cj (laws_eqHoldS_ok a.Holds b.Holds r1 h6) (cj rfl (cj (nf h7) (cj (laws_eqRing_ok a.Ring b.Ring r2 h8) (cj rfl (cj (nf h9) (cj (laws_eqSlotS_ok a.Slots b.Slots r3 h10) (cj rfl (cj1 (nt h11))))))))))))))))))) (fun h9 =>
   Pn.some (Fn.of [.bit false, .bit false, .bit false, .bit false, .bit false, .call [] (E4 r1) [], .bit false, .call [] (E4 r2) [], .bit true] (p := [(!(a.Id == b.Id)) = false,
    (a.Limit != b.Limit) = false,
    (a.Posted != b.Posted) = false,
    (a.Most != b.Most) = false,
    (a.MostSum != b.MostSum) = false,
    Fn Tryz.prog 17 [(false, E22 a.Holds), (false, E22 b.Holds)] (E4 r1) [],
    (true || ((E4 r1).nv && nvL [])) = true,
    (!r1) = false,
    Fn Tryz.prog 18 [(false, E25 a.Ring), (false, E25 b.Ring)] (E4 r2) [],
    (true || ((E4 r2).nv && nvL [])) = true,
    (!r2) = true]) (by kernel_rfl) (cj (nf h1) (cj h2 (cj h3 (cj h4 (cj h5 (cj (laws_eqHoldS_ok a.Holds b.Holds r1 h6) (cj rfl (cj (nf h7) (cj (laws_eqRing_ok a.Ring b.Ring r2 h8) (cj rfl (cj1 (nt h9)))))))))))))))) (fun h7 =>
   Pn.some (Fn.of [.bit false, .bit false, .bit false, .bit false, .bit false, .call [] (E4 r1) [], .bit true] (p := [(!(a.Id == b.Id)) = false,
    (a.Limit != b.Limit) = false,
    (a.Posted != b.Posted) = false,
    (a.Most != b.Most) = false,
    (a.MostSum != b.MostSum) = false,
    Fn Tryz.prog 17 [(false, E22 a.Holds), (false, E22 b.Holds)] (E4 r1) [],
    (true || ((E4 r1).nv && nvL [])) = true,
    (!r1) = true]) (by kernel_rfl) (cj (nf h1) (cj h2 (cj h3 (cj h4 (cj h5 (cj (laws_eqHoldS_ok a.Holds b.Holds r1 h6) (cj rfl (cj1 (nt h7))))))))))))))))) (fun h1 =>
   Pn.some (Fn.of [.bit true] (p := [(!(a.Id == b.Id)) = true]) (by kernel_rfl) (cj1 (nt h1))))
def laws_markText_l0  : Nat → Int → ByteArray → Option (ByteArray)
  | 0, _, _ => none
  | fuel + 1, v1, v2 =>
   if (decide (0 < v1)) = true then
   if (decide ((bstr [u8 (i64 (48 + (Int.tmod v1 10)))]).size + v2.size ≤ 9223372036854775807)) = true then
   laws_markText_l0 fuel (i64 (Int.tdiv v1 10)) ((bstr [u8 (i64 (48 + (Int.tmod v1 10)))]) ++ v2)
   else none
   else
   some v2
theorem laws_markText_l0_ok  : ∀ (fuel : Nat) (v1 : Int) (v2 : ByteArray), Pn (LpO Tryz.prog (sub (codeOf Tryz.prog 43) [1, 1, 1, 0, 0, 0]) (st 20 [(0, V.sc (.int .i64 v1)), (3, V.sc (.string v2))] [] []) (fun (y : ByteArray) => (X.out 0, st 20 [(3, V.sc (.string y))] [] []))) (laws_markText_l0 fuel v1 v2)
  | 0, _, _ => Pn.none
  | fuel + 1, v1, v2 => by
    unfold laws_markText_l0
    exact
     Pn.ite (fun h2 =>
     Pn.ite (fun h3 =>
     LpO.go [.bit true, .ints [u8 (i64 (48 + (Int.tmod v1 10)))], .wait 7, .mask [0, 3], .ren []] (p := [(decide (0 < v1)) = true,
      (10 : Int) ≠ 0,
      [V.sc (.int .u8 (u8 (i64 (48 + (Int.tmod v1 10)))))] = [u8 (i64 (48 + (Int.tmod v1 10)))].map fun n => V.sc (.int .u8 n),
      (bstr [u8 (i64 (48 + (Int.tmod v1 10)))]).size + v2.size ≤ 9223372036854775807,
      (10 : Int) ≠ 0]) (by kernel_rfl) (cj h2 (cj (by decide) (cj rfl (cj (od h3) (cj1 (by decide)))))) (laws_markText_l0_ok fuel (i64 (Int.tdiv v1 10)) ((bstr [u8 (i64 (48 + (Int.tmod v1 10)))]) ++ v2))) (fun h3 =>
     Pn.none)) (fun h2 =>
     Pn.some (LpO.out [.bit false, .mask [3], .ren []] (p := [(decide (0 < v1)) = false]) (by kernel_rfl) (show X.out 0 ≠ X.go from nofun) (cj1 h2)))
def laws_markText (k : Int) : Option (ByteArray) :=
 if (decide (k ≤ 0)) = true then
 some (bs [109, 48])
 else
 (laws_markText_l0 FUEL k (bs [])).bind fun r1 =>
 if (decide ((bs [109]).size + r1.size ≤ 9223372036854775807)) = true then
 some ((bs [109]) ++ r1)
 else none
theorem laws_markText_ok (k : Int) : Pn (fun y => Fn Tryz.prog 43 [(false, E3 k)] (E9 y) []) (laws_markText k) := by
  unfold laws_markText
  exact
   Pn.ite (fun h1 =>
   Pn.some (Fn.of [.bit true] (p := [(decide (k ≤ 0)) = true]) (by kernel_rfl) (cj1 h1))) (fun h1 =>
   Pn.bind (fun r1 h4 =>
   Pn.ite (fun h5 =>
   Pn.some (Fn.of [.bit false, .wait 1, .mask [0, 3], .ren [], .loop (X.out 0) (st 20 [(3, V.sc (.string r1))] [] [])] (p := [(decide (k ≤ 0)) = false,
    Loop Tryz.prog (sub (codeOf Tryz.prog 43) [1, 1, 1, 0, 0, 0]) (st 20 [(0, V.sc (.int .i64 k)), (3, V.sc (.string (bs [])))] [] []) (X.out 0) (st 20 [(3, V.sc (.string r1))] [] []),
    (bs [109]).size + r1.size ≤ 9223372036854775807]) (by kernel_rfl) (cj h1 (cj (laws_markText_l0_ok FUEL k (bs []) r1 h4) (cj1 (od h5)))))) (fun h5 =>
   Pn.none)))
def laws_markHoldS_l0  : Nat → Int → Int → (List Hold) → Option (Int × (List Hold))
  | 0, _, _, _ => none
  | fuel + 1, v1, v2, v3 =>
   if (decide (v2 < (v3.length : Int))) = true then
   (laws_markText v1).bind fun r1 =>
   if (decide (0 ≤ v2)) = true then
   (v3[v2.toNat]?).bind fun x1 =>
   ((v3.set v2.toNat (Hold.mk r1 x1.Amount x1.Due))[v2.toNat]?).bind fun x2 =>
   (((v3.set v2.toNat (Hold.mk r1 x1.Amount x1.Due)).set v2.toNat (Hold.mk x2.Id (i64 (v1 + 1)) x2.Due))[v2.toNat]?).bind fun x3 =>
   laws_markHoldS_l0 fuel (i64 ((i64 ((i64 (v1 + 1)) + 1)) + 1)) (i64 (v2 + 1)) (((v3.set v2.toNat (Hold.mk r1 x1.Amount x1.Due)).set v2.toNat (Hold.mk x2.Id (i64 (v1 + 1)) x2.Due)).set v2.toNat (Hold.mk x3.Id x3.Amount (i64 ((i64 (v1 + 1)) + 1))))
   else none
   else
   some (v1, v3)
theorem laws_markHoldS_l0_ok  : ∀ (fuel : Nat) (v1 : Int) (v2 : Int) (v3 : List Hold), Pn (LpO Tryz.prog (sub (codeOf Tryz.prog 20) [1, 0, 1, 0, 0]) (st 35 [(0, V.ow 0), (1, V.sc (.int .i64 v1)), (5, V.sc (.int .i64 v2))] [Blk.row 61 (List.map E61 v3) []] [some 0]) (fun (y : Int × (List Hold)) => (X.out 0, st 35 [(1, V.sc (.int .i64 y.1))] [Blk.row 61 (List.map E61 y.2) []] [some 0]))) (laws_markHoldS_l0 fuel v1 v2 v3)
  | 0, _, _, _ => Pn.none
  | fuel + 1, v1, v2, v3 => by
    unfold laws_markHoldS_l0
    exact
     Pn.ite (fun h1 =>
     Pn.bind (fun r1 h2 =>
     Pn.ite (fun h3 =>
     Pn.bind (fun x1 h4 =>
     Pn.bind (fun x2 h5 =>
     Pn.bind (fun x3 h6 =>
     LpO.go [.wait 3, .nm 8 (V.sc (.int .i64 (v3.length : Int))), .bit true, .call [] (E9 r1) [], .el (E61 x1), .nb 0 (.row 61 (List.map E61 (v3.set v2.toNat (Hold.mk r1 x1.Amount x1.Due))) []), .el (E61 x2), .nb 0 (.row 61 (List.map E61 ((v3.set v2.toNat (Hold.mk r1 x1.Amount x1.Due)).set v2.toNat (Hold.mk x2.Id (i64 (v1 + 1)) x2.Due))) []), .el (E61 x3), .nb 0 (.row 61 (List.map E61 (((v3.set v2.toNat (Hold.mk r1 x1.Amount x1.Due)).set v2.toNat (Hold.mk x2.Id (i64 (v1 + 1)) x2.Due)).set v2.toNat (Hold.mk x3.Id x3.Amount (i64 ((i64 (v1 + 1)) + 1))))) []), .wait 7, .mask [0, 1, 5], .ren [0]] (p := [V.sc (.int .i64 ((List.map E61 v3).length : Int)) = V.sc (.int .i64 (v3.length : Int)),
      (decide (v2 < (v3.length : Int))) = true,
      Fn Tryz.prog 43 [(false, E3 v1)] (E9 r1) [],
      (true || ((E9 r1).nv && nvL [])) = true,
      (0 : Int) ≤ v2,
      (v2 : Int) < ((List.map E61 v3).length : Int),
      look [] v2.toNat = none,
      (List.map E61 v3)[v2.toNat]? = some (E61 x1),
      Blk.row 61 ((List.map E61 v3).set v2.toNat (V.agg [V.sc (.string r1), V.sc (.int .i64 x1.Amount), V.sc (.int .i64 x1.Due)])) [] = Blk.row 61 (List.map E61 (v3.set v2.toNat (Hold.mk r1 x1.Amount x1.Due))) [],
      (0 : Int) ≤ v2,
      (v2 : Int) < ((List.map E61 (v3.set v2.toNat (Hold.mk r1 x1.Amount x1.Due))).length : Int),
      look [] v2.toNat = none,
      (List.map E61 (v3.set v2.toNat (Hold.mk r1 x1.Amount x1.Due)))[v2.toNat]? = some (E61 x2),
      Blk.row 61 ((List.map E61 (v3.set v2.toNat (Hold.mk r1 x1.Amount x1.Due))).set v2.toNat (V.agg [V.sc (.string x2.Id), V.sc (.int .i64 (i64 (v1 + 1))), V.sc (.int .i64 x2.Due)])) [] = Blk.row 61 (List.map E61 ((v3.set v2.toNat (Hold.mk r1 x1.Amount x1.Due)).set v2.toNat (Hold.mk x2.Id (i64 (v1 + 1)) x2.Due))) [],
      (0 : Int) ≤ v2,
      (v2 : Int) < ((List.map E61 ((v3.set v2.toNat (Hold.mk r1 x1.Amount x1.Due)).set v2.toNat (Hold.mk x2.Id (i64 (v1 + 1)) x2.Due))).length : Int),
      look [] v2.toNat = none,
      (List.map E61 ((v3.set v2.toNat (Hold.mk r1 x1.Amount x1.Due)).set v2.toNat (Hold.mk x2.Id (i64 (v1 + 1)) x2.Due)))[v2.toNat]? = some (E61 x3),
      Blk.row 61 ((List.map E61 ((v3.set v2.toNat (Hold.mk r1 x1.Amount x1.Due)).set v2.toNat (Hold.mk x2.Id (i64 (v1 + 1)) x2.Due))).set v2.toNat (V.agg [V.sc (.string x3.Id), V.sc (.int .i64 x3.Amount), V.sc (.int .i64 (i64 ((i64 (v1 + 1)) + 1)))])) [] = Blk.row 61 (List.map E61 (((v3.set v2.toNat (Hold.mk r1 x1.Amount x1.Due)).set v2.toNat (Hold.mk x2.Id (i64 (v1 + 1)) x2.Due)).set v2.toNat (Hold.mk x3.Id x3.Amount (i64 ((i64 (v1 + 1)) + 1))))) []]) (by kernel_rfl) (cj (len_nm _ _) (cj h1 (cj (laws_markText_ok v1 r1 h2) (cj rfl (cj (od h3) (cj (map_ltN (od h3) h4) (cj rfl (cj (map_get h4) (cj (nb_set E61 _ _ (Hold.mk r1 x1.Amount x1.Due)) (cj (od h3) (cj (map_ltN (od h3) h5) (cj rfl (cj (map_get h5) (cj (nb_set E61 _ _ (Hold.mk x2.Id (i64 (v1 + 1)) x2.Due)) (cj (od h3) (cj (map_ltN (od h3) h6) (cj rfl (cj (map_get h6) (cj1 (nb_set E61 _ _ (Hold.mk x3.Id x3.Amount (i64 ((i64 (v1 + 1)) + 1))))))))))))))))))))))) (laws_markHoldS_l0_ok fuel (i64 ((i64 ((i64 (v1 + 1)) + 1)) + 1)) (i64 (v2 + 1)) (((v3.set v2.toNat (Hold.mk r1 x1.Amount x1.Due)).set v2.toNat (Hold.mk x2.Id (i64 (v1 + 1)) x2.Due)).set v2.toNat (Hold.mk x3.Id x3.Amount (i64 ((i64 (v1 + 1)) + 1))))))))) (fun h3 =>
     Pn.none))) (fun h1 =>
     Pn.some (LpO.out [.wait 3, .nm 8 (V.sc (.int .i64 (v3.length : Int))), .bit false, .mask [1], .ren [0]] (p := [V.sc (.int .i64 ((List.map E61 v3).length : Int)) = V.sc (.int .i64 (v3.length : Int)),
      (decide (v2 < (v3.length : Int))) = false]) (by kernel_rfl) (show X.out 0 ≠ X.go from nofun) (cj (len_nm _ _) (cj1 h1))))
def laws_markHoldS (a : List Hold) (k : Int) : Option (Int × (List Hold)) :=
 (laws_markHoldS_l0 FUEL k 0 a).bind fun r2 =>
 some (r2.1, r2.2)
theorem laws_markHoldS_ok (a : List Hold) (k : Int) : Pn (fun y => Fn Tryz.prog 20 [(true, E22 a), (false, E3 k)] (E3 y.1) [V.sl true 61 (List.map E61 y.2)]) (laws_markHoldS a k) := by
  unfold laws_markHoldS
  exact
   Pn.bind (fun r2 h7 =>
   Pn.some (Fn.of [.wait 3, .mask [0, 1, 5], .ren [0], .loop (X.out 0) (st 35 [(1, V.sc (.int .i64 r2.1))] [Blk.row 61 (List.map E61 r2.2) []] [some 0])] (p := [Loop Tryz.prog (sub (codeOf Tryz.prog 20) [1, 0, 1, 0, 0]) (st 35 [(0, V.ow 0), (1, V.sc (.int .i64 k)), (5, V.sc (.int .i64 0))] [Blk.row 61 (List.map E61 a) []] [some 0]) (X.out 0) (st 35 [(1, V.sc (.int .i64 r2.1))] [Blk.row 61 (List.map E61 r2.2) []] [some 0])]) (by kernel_rfl) (cj1 (laws_markHoldS_l0_ok FUEL k 0 a r2 h7))))
def laws_markIntS_l0  : Nat → Int → Int → (List Int) → Option (Int × (List Int))
  | 0, _, _, _ => none
  | fuel + 1, v1, v2, v3 =>
   if (decide (v2 < (v3.length : Int))) = true then
   if (decide (0 ≤ v2)) = true then
   (v3[v2.toNat]?).bind fun x1 =>
   laws_markIntS_l0 fuel (i64 (v1 + 1)) (i64 (v2 + 1)) (v3.set v2.toNat v1)
   else none
   else
   some (v1, v3)
theorem laws_markIntS_l0_ok  : ∀ (fuel : Nat) (v1 : Int) (v2 : Int) (v3 : List Int), Pn (LpO Tryz.prog (sub (codeOf Tryz.prog 44) [1, 0, 1, 0, 0]) (st 19 [(0, V.ow 0), (1, V.sc (.int .i64 v1)), (5, V.sc (.int .i64 v2))] [Blk.row 3 (List.map E3 v3) []] [some 0]) (fun (y : Int × (List Int)) => (X.out 0, st 19 [(1, V.sc (.int .i64 y.1))] [Blk.row 3 (List.map E3 y.2) []] [some 0]))) (laws_markIntS_l0 fuel v1 v2 v3)
  | 0, _, _, _ => Pn.none
  | fuel + 1, v1, v2, v3 => by
    unfold laws_markIntS_l0
    exact
     Pn.ite (fun h1 =>
     Pn.ite (fun h2 =>
     Pn.bind (fun x1 h3 =>
     LpO.go [.wait 3, .nm 8 (V.sc (.int .i64 (v3.length : Int))), .bit true, .el (E3 x1), .nb 0 (.row 3 (List.map E3 (v3.set v2.toNat v1)) []), .wait 7, .mask [0, 1, 5], .ren [0]] (p := [V.sc (.int .i64 ((List.map E3 v3).length : Int)) = V.sc (.int .i64 (v3.length : Int)),
      (decide (v2 < (v3.length : Int))) = true,
      (0 : Int) ≤ v2,
      (v2 : Int) < ((List.map E3 v3).length : Int),
      look [] v2.toNat = none,
      (List.map E3 v3)[v2.toNat]? = some (E3 x1),
      Blk.row 3 ((List.map E3 v3).set v2.toNat (V.sc (.int .i64 v1))) [] = Blk.row 3 (List.map E3 (v3.set v2.toNat v1)) []]) (by kernel_rfl) (cj (len_nm _ _) (cj h1 (cj (od h2) (cj (map_ltN (od h2) h3) (cj rfl (cj (map_get h3) (cj1 (nb_set E3 _ _ v1)))))))) (laws_markIntS_l0_ok fuel (i64 (v1 + 1)) (i64 (v2 + 1)) (v3.set v2.toNat v1)))) (fun h2 =>
     Pn.none)) (fun h1 =>
     Pn.some (LpO.out [.wait 3, .nm 8 (V.sc (.int .i64 (v3.length : Int))), .bit false, .mask [1], .ren [0]] (p := [V.sc (.int .i64 ((List.map E3 v3).length : Int)) = V.sc (.int .i64 (v3.length : Int)),
      (decide (v2 < (v3.length : Int))) = false]) (by kernel_rfl) (show X.out 0 ≠ X.go from nofun) (cj (len_nm _ _) (cj1 h1))))
def laws_markIntS (a : List Int) (k : Int) : Option (Int × (List Int)) :=
 (laws_markIntS_l0 FUEL k 0 a).bind fun r1 =>
 some (r1.1, r1.2)
theorem laws_markIntS_ok (a : List Int) (k : Int) : Pn (fun y => Fn Tryz.prog 44 [(true, E23 a), (false, E3 k)] (E3 y.1) [V.sl true 3 (List.map E3 y.2)]) (laws_markIntS a k) := by
  unfold laws_markIntS
  exact
   Pn.bind (fun r1 h4 =>
   Pn.some (Fn.of [.wait 3, .mask [0, 1, 5], .ren [0], .loop (X.out 0) (st 19 [(1, V.sc (.int .i64 r1.1))] [Blk.row 3 (List.map E3 r1.2) []] [some 0])] (p := [Loop Tryz.prog (sub (codeOf Tryz.prog 44) [1, 0, 1, 0, 0]) (st 19 [(0, V.ow 0), (1, V.sc (.int .i64 k)), (5, V.sc (.int .i64 0))] [Blk.row 3 (List.map E3 a) []] [some 0]) (X.out 0) (st 19 [(1, V.sc (.int .i64 r1.1))] [Blk.row 3 (List.map E3 r1.2) []] [some 0])]) (by kernel_rfl) (cj1 (laws_markIntS_l0_ok FUEL k 0 a r1 h4))))
def laws_markRing (a : Ring) (k : Int) : Option (Int × (List Int) × (List Int)) :=
 (laws_markIntS a.Counts k).bind fun r1 =>
 (laws_markIntS a.Sums r1.1).bind fun r2 =>
 some (r2.1, r1.2, r2.2)
theorem laws_markRing_ok (a : Ring) (k : Int) : Pn (fun y => Fn Tryz.prog 21 [(true, E25 a), (false, E3 k)] (E3 y.1) [V.sl true 3 (List.map E3 y.2.1), V.sl true 3 (List.map E3 y.2.2)]) (laws_markRing a k) := by
  unfold laws_markRing
  exact
   Pn.bind (fun r1 h1 =>
   Pn.bind (fun r2 h2 =>
   Pn.some (Fn.of [.call [true, false] (E3 r1.1) [V.sl true 3 (List.map E3 r1.2)], .call [true, false] (E3 r2.1) [V.sl true 3 (List.map E3 r2.2)]] (p := [Fn Tryz.prog 44 [(true, E23 a.Counts), (false, E3 k)] (E3 r1.1) [V.sl true 3 (List.map E3 r1.2)],
    (true || ((E3 r1.1).nv && nvL [V.sl true 3 (List.map E3 r1.2)])) = true,
    Fn Tryz.prog 44 [(true, E23 a.Sums), (false, E3 r1.1)] (E3 r2.1) [V.sl true 3 (List.map E3 r2.2)],
    (true || ((E3 r2.1).nv && nvL [V.sl true 3 (List.map E3 r2.2)])) = true]) (by kernel_rfl) (cj (laws_markIntS_ok a.Counts k r1 h1) (cj rfl (cj (laws_markIntS_ok a.Sums r1.1 r2 h2) (cj1 rfl)))))))
def laws_markByteS_l0  : Nat → Int → Int → (List Int) → Option (Int × (List Int))
  | 0, _, _, _ => none
  | fuel + 1, v1, v2, v3 =>
   if (decide (v2 < (v3.length : Int))) = true then
   if (decide (0 ≤ v2)) = true then
   (v3[v2.toNat]?).bind fun x1 =>
   laws_markByteS_l0 fuel (i64 (v1 + 1)) (i64 (v2 + 1)) (v3.set v2.toNat (u8 v1))
   else none
   else
   some (v1, v3)
theorem laws_markByteS_l0_ok  : ∀ (fuel : Nat) (v1 : Int) (v2 : Int) (v3 : List Int), Pn (LpO Tryz.prog (sub (codeOf Tryz.prog 45) [1, 0, 1, 0, 0]) (st 20 [(0, V.ow 0), (1, V.sc (.int .i64 v1)), (5, V.sc (.int .i64 v2))] [Blk.row 5 (List.map E5 v3) []] [some 0]) (fun (y : Int × (List Int)) => (X.out 0, st 20 [(1, V.sc (.int .i64 y.1))] [Blk.row 5 (List.map E5 y.2) []] [some 0]))) (laws_markByteS_l0 fuel v1 v2 v3)
  | 0, _, _, _ => Pn.none
  | fuel + 1, v1, v2, v3 => by
    unfold laws_markByteS_l0
    exact
     Pn.ite (fun h1 =>
     Pn.ite (fun h2 =>
     Pn.bind (fun x1 h3 =>
     LpO.go [.wait 3, .nm 8 (V.sc (.int .i64 (v3.length : Int))), .bit true, .el (E5 x1), .nb 0 (.row 5 (List.map E5 (v3.set v2.toNat (u8 v1))) []), .wait 7, .mask [0, 1, 5], .ren [0]] (p := [V.sc (.int .i64 ((List.map E5 v3).length : Int)) = V.sc (.int .i64 (v3.length : Int)),
      (decide (v2 < (v3.length : Int))) = true,
      (0 : Int) ≤ v2,
      (v2 : Int) < ((List.map E5 v3).length : Int),
      look [] v2.toNat = none,
      (List.map E5 v3)[v2.toNat]? = some (E5 x1),
      Blk.row 5 ((List.map E5 v3).set v2.toNat (V.sc (.int .u8 (u8 v1)))) [] = Blk.row 5 (List.map E5 (v3.set v2.toNat (u8 v1))) []]) (by kernel_rfl) (cj (len_nm _ _) (cj h1 (cj (od h2) (cj (map_ltN (od h2) h3) (cj rfl (cj (map_get h3) (cj1 (nb_set E5 _ _ (u8 v1))))))))) (laws_markByteS_l0_ok fuel (i64 (v1 + 1)) (i64 (v2 + 1)) (v3.set v2.toNat (u8 v1))))) (fun h2 =>
     Pn.none)) (fun h1 =>
     Pn.some (LpO.out [.wait 3, .nm 8 (V.sc (.int .i64 (v3.length : Int))), .bit false, .mask [1], .ren [0]] (p := [V.sc (.int .i64 ((List.map E5 v3).length : Int)) = V.sc (.int .i64 (v3.length : Int)),
      (decide (v2 < (v3.length : Int))) = false]) (by kernel_rfl) (show X.out 0 ≠ X.go from nofun) (cj (len_nm _ _) (cj1 h1))))
def laws_markByteS (a : List Int) (k : Int) : Option (Int × (List Int)) :=
 (laws_markByteS_l0 FUEL k 0 a).bind fun r1 =>
 some (r1.1, r1.2)
theorem laws_markByteS_ok (a : List Int) (k : Int) : Pn (fun y => Fn Tryz.prog 45 [(true, E64 a), (false, E3 k)] (E3 y.1) [V.sl true 5 (List.map E5 y.2)]) (laws_markByteS a k) := by
  unfold laws_markByteS
  exact
   Pn.bind (fun r1 h4 =>
   Pn.some (Fn.of [.wait 3, .mask [0, 1, 5], .ren [0], .loop (X.out 0) (st 20 [(1, V.sc (.int .i64 r1.1))] [Blk.row 5 (List.map E5 r1.2) []] [some 0])] (p := [Loop Tryz.prog (sub (codeOf Tryz.prog 45) [1, 0, 1, 0, 0]) (st 20 [(0, V.ow 0), (1, V.sc (.int .i64 k)), (5, V.sc (.int .i64 0))] [Blk.row 5 (List.map E5 a) []] [some 0]) (X.out 0) (st 20 [(1, V.sc (.int .i64 r1.1))] [Blk.row 5 (List.map E5 r1.2) []] [some 0])]) (by kernel_rfl) (cj1 (laws_markByteS_l0_ok FUEL k 0 a r1 h4))))
def laws_markSlotS_l0  : Nat → Int → Int → (List Slot) → Option (Int × (List Slot))
  | 0, _, _, _ => none
  | fuel + 1, v1, v2, v3 =>
   if (decide (v2 < (v3.length : Int))) = true then
   (laws_markText v1).bind fun r1 =>
   if (decide (0 ≤ v2)) = true then
   (v3[v2.toNat]?).bind fun x1 =>
   (laws_markText (i64 (v1 + 1))).bind fun r2 =>
   (laws_markByteS x1.Reply (i64 ((i64 (v1 + 1)) + 1))).bind fun r3 =>
   laws_markSlotS_l0 fuel r3.1 (i64 (v2 + 1)) (v3.set v2.toNat (Slot.mk r1 r2 r3.2))
   else none
   else
   some (v1, v3)
theorem laws_markSlotS_l0_ok  : ∀ (fuel : Nat) (v1 : Int) (v2 : Int) (v3 : List Slot), Pn (LpO Tryz.prog (sub (codeOf Tryz.prog 22) [1, 0, 1, 0, 0]) (st 36 [(0, V.ow 0), (1, V.sc (.int .i64 v1)), (5, V.sc (.int .i64 v2))] [Blk.row 66 (List.map E66 v3) []] [some 0]) (fun (y : Int × (List Slot)) => (X.out 0, st 36 [(1, V.sc (.int .i64 y.1))] [Blk.row 66 (List.map E66 y.2) []] [some 0]))) (laws_markSlotS_l0 fuel v1 v2 v3)
  | 0, _, _, _ => Pn.none
  | fuel + 1, v1, v2, v3 => by
    unfold laws_markSlotS_l0
    exact
     Pn.ite (fun h1 =>
     Pn.bind (fun r1 h2 =>
     Pn.ite (fun h3 =>
     Pn.bind (fun x1 h4 =>
     Pn.bind (fun r2 h5 =>
     Pn.bind (fun r3 h6 =>
     LpO.go [.wait 3, .nm 8 (V.sc (.int .i64 (v3.length : Int))), .bit true, .call [] (E9 r1) [], .wait 1, .foc 0 v2.toNat (E66 x1), .fo 0, .call [] (E9 r2) [], .fo 0, .fo 0, .call [true, false] (E3 r3.1) [V.sl true 5 (List.map E5 r3.2)], .wait 5, .shut 0, .nb 0 (.row 66 (List.map E66 (v3.set v2.toNat (Slot.mk r1 r2 r3.2))) []), .mask [0, 1, 5], .ren [0]] (p := [V.sc (.int .i64 ((List.map E66 v3).length : Int)) = V.sc (.int .i64 (v3.length : Int)),
      (decide (v2 < (v3.length : Int))) = true,
      Fn Tryz.prog 43 [(false, E3 v1)] (E9 r1) [],
      (true || ((E9 r1).nv && nvL [])) = true,
      (0 : Int) ≤ v2,
      (v2 : Int) < ((List.map E66 v3).length : Int),
      look [] v2.toNat = none,
      (List.map E66 v3)[v2.toNat]? = some (E66 x1),
      look [(v2.toNat, V.agg [V.sc (.string x1.Trace), V.sc (.string x1.Mti), V.ow 1])] v2.toNat = some (V.agg [V.sc (.string x1.Trace), V.sc (.string x1.Mti), V.ow 1]),
      v2.toNat < (List.map E66 v3).length,
      v2.toNat = v2.toNat,
      Fn Tryz.prog 43 [(false, E3 (i64 (v1 + 1)))] (E9 r2) [],
      (true || ((E9 r2).nv && nvL [])) = true,
      (0 : Int) ≤ v2,
      (v2 : Int) < ((List.map E66 v3).length : Int),
      look [(v2.toNat, V.agg [V.sc (.string r1), V.sc (.string x1.Mti), V.ow 1])] v2.toNat = some (V.agg [V.sc (.string r1), V.sc (.string x1.Mti), V.ow 1]),
      v2.toNat < (List.map E66 v3).length,
      v2.toNat = v2.toNat,
      (0 : Int) ≤ v2,
      (v2 : Int) < ((List.map E66 v3).length : Int),
      look [(v2.toNat, V.agg [V.sc (.string r1), V.sc (.string r2), V.ow 1])] v2.toNat = some (V.agg [V.sc (.string r1), V.sc (.string r2), V.ow 1]),
      v2.toNat < (List.map E66 v3).length,
      Fn Tryz.prog 45 [(true, E64 x1.Reply), (false, E3 (i64 ((i64 (v1 + 1)) + 1)))] (E3 r3.1) [V.sl true 5 (List.map E5 r3.2)],
      (true || ((E3 r3.1).nv && nvL [V.sl true 5 (List.map E5 r3.2)])) = true,
      Blk.row 66 ((List.map E66 v3).set v2.toNat (V.agg [V.sc (.string r1), V.sc (.string r2), V.sl true 5 (List.map E5 r3.2)])) [] = Blk.row 66 (List.map E66 (v3.set v2.toNat (Slot.mk r1 r2 r3.2))) []]) (by kernel_rfl) (cj (len_nm _ _) (cj h1 (cj (laws_markText_ok v1 r1 h2) (cj rfl (cj (od h3) (cj (map_ltN (od h3) h4) (cj rfl (cj (map_get h4) (cj (look_cons_self _ _ _) (cj (map_lt h4) (cj rfl (cj (laws_markText_ok (i64 (v1 + 1)) r2 h5) (cj rfl (cj (od h3) (cj (map_ltN (od h3) h4) (cj (look_cons_self _ _ _) (cj (map_lt h4) (cj rfl (cj (od h3) (cj (map_ltN (od h3) h4) (cj (look_cons_self _ _ _) (cj (map_lt h4) (cj (laws_markByteS_ok x1.Reply (i64 ((i64 (v1 + 1)) + 1)) r3 h6) (cj rfl (cj1 (nb_set E66 _ _ (Slot.mk r1 r2 r3.2))))))))))))))))))))))))))) (laws_markSlotS_l0_ok fuel r3.1 (i64 (v2 + 1)) (v3.set v2.toNat (Slot.mk r1 r2 r3.2))))))) (fun h3 =>
     Pn.none))) (fun h1 =>
     Pn.some (LpO.out [.wait 3, .nm 8 (V.sc (.int .i64 (v3.length : Int))), .bit false, .mask [1], .ren [0]] (p := [V.sc (.int .i64 ((List.map E66 v3).length : Int)) = V.sc (.int .i64 (v3.length : Int)),
      (decide (v2 < (v3.length : Int))) = false]) (by kernel_rfl) (show X.out 0 ≠ X.go from nofun) (cj (len_nm _ _) (cj1 h1))))
def laws_markSlotS (a : List Slot) (k : Int) : Option (Int × (List Slot)) :=
 (laws_markSlotS_l0 FUEL k 0 a).bind fun r4 =>
 some (r4.1, r4.2)
theorem laws_markSlotS_ok (a : List Slot) (k : Int) : Pn (fun y => Fn Tryz.prog 22 [(true, E26 a), (false, E3 k)] (E3 y.1) [V.sl true 66 (List.map E66 y.2)]) (laws_markSlotS a k) := by
  unfold laws_markSlotS
  exact
   Pn.bind (fun r4 h7 =>
   Pn.some (Fn.of [.wait 3, .mask [0, 1, 5], .ren [0], .loop (X.out 0) (st 36 [(1, V.sc (.int .i64 r4.1))] [Blk.row 66 (List.map E66 r4.2) []] [some 0])] (p := [Loop Tryz.prog (sub (codeOf Tryz.prog 22) [1, 0, 1, 0, 0]) (st 36 [(0, V.ow 0), (1, V.sc (.int .i64 k)), (5, V.sc (.int .i64 0))] [Blk.row 66 (List.map E66 a) []] [some 0]) (X.out 0) (st 36 [(1, V.sc (.int .i64 r4.1))] [Blk.row 66 (List.map E66 r4.2) []] [some 0])]) (by kernel_rfl) (cj1 (laws_markSlotS_l0_ok FUEL k 0 a r4 h7))))
def laws_markAcct (a : Acct) (k : Int) : Option (Int × (List Hold) × (List Int) × (List Int) × (List Slot)) :=
 (laws_markHoldS a.Holds k).bind fun r1 =>
 (laws_markRing a.Ring r1.1).bind fun r2 =>
 (laws_markSlotS a.Slots r2.1).bind fun r3 =>
 some (r3.1, r1.2, r2.2.1, r2.2.2, r3.2)
theorem laws_markAcct_ok (a : Acct) (k : Int) : Pn (fun y => Fn Tryz.prog 7 [(true, E28 a), (false, E3 k)] (E3 y.1) [V.sl true 61 (List.map E61 y.2.1), V.sl true 3 (List.map E3 y.2.2.1), V.sl true 3 (List.map E3 y.2.2.2.1), V.sl true 66 (List.map E66 y.2.2.2.2)]) (laws_markAcct a k) := by
  unfold laws_markAcct
  exact
   Pn.bind (fun r1 h1 =>
   Pn.bind (fun r2 h2 =>
   Pn.bind (fun r3 h3 =>
   Pn.some (Fn.of [.call [true, false] (E3 r1.1) [V.sl true 61 (List.map E61 r1.2)], .call [true, false] (E3 r2.1) [V.sl true 3 (List.map E3 r2.2.1), V.sl true 3 (List.map E3 r2.2.2)], .call [true, false] (E3 r3.1) [V.sl true 66 (List.map E66 r3.2)]] (p := [Fn Tryz.prog 20 [(true, E22 a.Holds), (false, E3 k)] (E3 r1.1) [V.sl true 61 (List.map E61 r1.2)],
    (true || ((E3 r1.1).nv && nvL [V.sl true 61 (List.map E61 r1.2)])) = true,
    Fn Tryz.prog 21 [(true, E25 a.Ring), (false, E3 r1.1)] (E3 r2.1) [V.sl true 3 (List.map E3 r2.2.1), V.sl true 3 (List.map E3 r2.2.2)],
    (true || ((E3 r2.1).nv && nvL [V.sl true 3 (List.map E3 r2.2.1), V.sl true 3 (List.map E3 r2.2.2)])) = true,
    Fn Tryz.prog 22 [(true, E26 a.Slots), (false, E3 r2.1)] (E3 r3.1) [V.sl true 66 (List.map E66 r3.2)],
    (true || ((E3 r3.1).nv && nvL [V.sl true 66 (List.map E66 r3.2)])) = true]) (by kernel_rfl) (cj (laws_markHoldS_ok a.Holds k r1 h1) (cj rfl (cj (laws_markRing_ok a.Ring r1.1 r2 h2) (cj rfl (cj (laws_markSlotS_ok a.Slots r2.1 r3 h3) (cj1 rfl))))))))))
def laws_heldHoldS_l0 (a : List Hold) : List Hold → Int → Option (Lo Int Unit)
  | [], v1 =>
   some (.out v1)
  | x1 :: t1, v1 =>
   (laws_markText v1).bind fun r1 =>
   if (x1.Id == r1) = true then
   if (x1.Amount != (i64 (v1 + 1))) = true then
   some (.ret ())
   else
   if (x1.Due != (i64 ((i64 (v1 + 1)) + 1))) = true then
   some (.ret ())
   else
   laws_heldHoldS_l0 a t1 (i64 ((i64 ((i64 (v1 + 1)) + 1)) + 1))
   else
   some (.ret ())
theorem laws_heldHoldS_l0_ok (a : List Hold) (h2 : capOk a.length = true) : ∀ (t1 p1 : List Hold) (_ : a = p1 ++ t1) (v1 : Int), Pn (LpO Tryz.prog (sub (codeOf Tryz.prog 23) [1, 0, 1, 0, 0]) (st 41 [(0, V.sl false 61 (List.map E61 a)), (1, V.sc (.int .i64 v1)), (5, V.sc (.int .i64 (p1.length : Int)))] [] []) (fun (y : Lo Int Unit) => Lo.elim y (fun s => (X.out 0, st 41 [(1, V.sc (.int .i64 s))] [] [])) (fun s => (X.ret, st 41 [(4, V.sc (.int .i64 (-1)))] [] [])))) (laws_heldHoldS_l0 a t1 v1)
  | [], p1, h1, v1 => by
    unfold laws_heldHoldS_l0
    exact
     Pn.some (LpO.out [.wait 3, .nm 8 (V.sc (.int .i64 (a.length : Int))), .bit false, .mask [1], .ren []] (p := [V.sc (.int .i64 ((List.map E61 a).length : Int)) = V.sc (.int .i64 (a.length : Int)),
      (decide ((p1.length : Int) < (a.length : Int))) = false]) (by kernel_rfl) (show X.out 0 ≠ X.go from nofun) (cj (len_nm _ _) (cj1 (rng_end h1))))
  | x1 :: t1, p1, h1, v1 => by
    unfold laws_heldHoldS_l0
    exact
     Pn.bind (fun r1 h3 =>
     Pn.ite (fun h4 =>
     Pn.ite (fun h5 =>
     Pn.some (LpO.out [.wait 3, .nm 8 (V.sc (.int .i64 (a.length : Int))), .bit true, .draw [], .el (E61 x1), .call [] (E9 r1) [], .bit false, .el (E61 x1), .bit true, .wait 1, .mask [4], .ren []] (p := [V.sc (.int .i64 ((List.map E61 a).length : Int)) = V.sc (.int .i64 (a.length : Int)),
      (decide ((p1.length : Int) < (a.length : Int))) = true,
      (0 : Int) ≤ (p1.length : Int),
      (List.map E61 a)[(p1.length : Int).toNat]? = some (E61 x1),
      Fn Tryz.prog 43 [(false, E3 v1)] (E9 r1) [],
      (true || ((E9 r1).nv && nvL [])) = true,
      (!(x1.Id == r1)) = false,
      (0 : Int) ≤ (p1.length : Int),
      (List.map E61 a)[(p1.length : Int).toNat]? = some (E61 x1),
      (x1.Amount != (i64 (v1 + 1))) = true]) (by kernel_rfl) (show X.ret ≠ X.go from nofun) (cj (len_nm _ _) (cj (rng_lt h1) (cj (by omega) (cj (rng_get _ h1) (cj (laws_markText_ok v1 r1 h3) (cj rfl (cj (nf h4) (cj (by omega) (cj (rng_get _ h1) (cj1 h5)))))))))))) (fun h5 =>
     Pn.ite (fun h6 =>
     Pn.some (LpO.out [.wait 3, .nm 8 (V.sc (.int .i64 (a.length : Int))), .bit true, .draw [], .el (E61 x1), .call [] (E9 r1) [], .bit false, .el (E61 x1), .bit false, .el (E61 x1), .bit true, .wait 1, .mask [4], .ren []] (p := [V.sc (.int .i64 ((List.map E61 a).length : Int)) = V.sc (.int .i64 (a.length : Int)),
      (decide ((p1.length : Int) < (a.length : Int))) = true,
      (0 : Int) ≤ (p1.length : Int),
      (List.map E61 a)[(p1.length : Int).toNat]? = some (E61 x1),
      Fn Tryz.prog 43 [(false, E3 v1)] (E9 r1) [],
      (true || ((E9 r1).nv && nvL [])) = true,
      (!(x1.Id == r1)) = false,
      (0 : Int) ≤ (p1.length : Int),
      (List.map E61 a)[(p1.length : Int).toNat]? = some (E61 x1),
      (x1.Amount != (i64 (v1 + 1))) = false,
      (0 : Int) ≤ (p1.length : Int),
      (List.map E61 a)[(p1.length : Int).toNat]? = some (E61 x1),
      (x1.Due != (i64 ((i64 (v1 + 1)) + 1))) = true]) (by kernel_rfl) (show X.ret ≠ X.go from nofun) (cj (len_nm _ _) (cj (rng_lt h1) (cj (by omega) (cj (rng_get _ h1) (cj (laws_markText_ok v1 r1 h3) (cj rfl (cj (nf h4) (cj (by omega) (cj (rng_get _ h1) (cj h5 (cj (by omega) (cj (rng_get _ h1) (cj1 h6))))))))))))))) (fun h6 =>
     LpO.go [.wait 3, .nm 8 (V.sc (.int .i64 (a.length : Int))), .bit true, .draw [], .el (E61 x1), .call [] (E9 r1) [], .bit false, .el (E61 x1), .bit false, .el (E61 x1), .bit false, .wait 6, .mask [0, 1, 5], .ren [], .nm 5 (V.sc (.int .i64 ((p1 ++ [x1]).length : Int)))] (p := [V.sc (.int .i64 ((List.map E61 a).length : Int)) = V.sc (.int .i64 (a.length : Int)),
      (decide ((p1.length : Int) < (a.length : Int))) = true,
      (0 : Int) ≤ (p1.length : Int),
      (List.map E61 a)[(p1.length : Int).toNat]? = some (E61 x1),
      Fn Tryz.prog 43 [(false, E3 v1)] (E9 r1) [],
      (true || ((E9 r1).nv && nvL [])) = true,
      (!(x1.Id == r1)) = false,
      (0 : Int) ≤ (p1.length : Int),
      (List.map E61 a)[(p1.length : Int).toNat]? = some (E61 x1),
      (x1.Amount != (i64 (v1 + 1))) = false,
      (0 : Int) ≤ (p1.length : Int),
      (List.map E61 a)[(p1.length : Int).toNat]? = some (E61 x1),
      (x1.Due != (i64 ((i64 (v1 + 1)) + 1))) = false,
      V.sc (.int .i64 (i64 ((p1.length : Int) + 1))) = V.sc (.int .i64 ((p1 ++ [x1]).length : Int))]) (by kernel_rfl) (cj (len_nm _ _) (cj (rng_lt h1) (cj (by omega) (cj (rng_get _ h1) (cj (laws_markText_ok v1 r1 h3) (cj rfl (cj (nf h4) (cj (by omega) (cj (rng_get _ h1) (cj h5 (cj (by omega) (cj (rng_get _ h1) (cj h6 (cj1 (rng_next h1 h2))))))))))))))) (laws_heldHoldS_l0_ok a h2 t1 (p1 ++ [x1]) (rng_step h1) (i64 ((i64 ((i64 (v1 + 1)) + 1)) + 1)))))) (fun h4 =>
     Pn.some (LpO.out [.wait 3, .nm 8 (V.sc (.int .i64 (a.length : Int))), .bit true, .draw [], .el (E61 x1), .call [] (E9 r1) [], .bit true, .wait 1, .mask [4], .ren []] (p := [V.sc (.int .i64 ((List.map E61 a).length : Int)) = V.sc (.int .i64 (a.length : Int)),
      (decide ((p1.length : Int) < (a.length : Int))) = true,
      (0 : Int) ≤ (p1.length : Int),
      (List.map E61 a)[(p1.length : Int).toNat]? = some (E61 x1),
      Fn Tryz.prog 43 [(false, E3 v1)] (E9 r1) [],
      (true || ((E9 r1).nv && nvL [])) = true,
      (!(x1.Id == r1)) = true]) (by kernel_rfl) (show X.ret ≠ X.go from nofun) (cj (len_nm _ _) (cj (rng_lt h1) (cj (by omega) (cj (rng_get _ h1) (cj (laws_markText_ok v1 r1 h3) (cj rfl (cj1 (nt h4)))))))))))
def laws_heldHoldS (a : List Hold) (k : Int) : Option (Int) :=
 if (capOk a.length) = true then
 (laws_heldHoldS_l0 a a k).bind fun r2 =>
 Lo.elim r2 (fun s1 =>
 some s1) (fun s2 =>
 some (-1))
 else none
theorem laws_heldHoldS_ok (a : List Hold) (k : Int) : Pn (fun y => Fn Tryz.prog 23 [(false, E22 a), (false, E3 k)] (E3 y) []) (laws_heldHoldS a k) := by
  unfold laws_heldHoldS
  exact
   Pn.ite (fun h7 =>
   Pn.bind (fun r2 h8 =>
   Pn.lo (fun s1 h9 =>
   Pn.some (Fn.of [.wait 3, .mask [0, 1, 5], .ren [], .loop (X.out 0) (st 41 [(1, V.sc (.int .i64 s1))] [] [])] (p := [Loop Tryz.prog (sub (codeOf Tryz.prog 23) [1, 0, 1, 0, 0]) (st 41 [(0, V.sl false 61 (List.map E61 a)), (1, V.sc (.int .i64 k)), (5, V.sc (.int .i64 0))] [] []) (X.out 0) (st 41 [(1, V.sc (.int .i64 s1))] [] [])]) (by kernel_rfl) (cj1 ((laws_heldHoldS_l0_ok a h7 a [] rfl k r2 h8).at h9 :)))) (fun s2 h10 =>
   Pn.some (Fn.of [.wait 3, .mask [0, 1, 5], .ren [], .loop (X.ret) (st 41 [(4, V.sc (.int .i64 (-1)))] [] [])] (p := [Loop Tryz.prog (sub (codeOf Tryz.prog 23) [1, 0, 1, 0, 0]) (st 41 [(0, V.sl false 61 (List.map E61 a)), (1, V.sc (.int .i64 k)), (5, V.sc (.int .i64 0))] [] []) (X.ret) (st 41 [(4, V.sc (.int .i64 (-1)))] [] [])]) (by kernel_rfl) (cj1 ((laws_heldHoldS_l0_ok a h7 a [] rfl k r2 h8).at h10 :)))))) (fun h7 =>
   Pn.none)
def laws_heldIntS_l0 (a : List Int) : List Int → Int → Option (Lo Int Unit)
  | [], v1 =>
   some (.out v1)
  | x1 :: t1, v1 =>
   if (x1 != v1) = true then
   some (.ret ())
   else
   laws_heldIntS_l0 a t1 (i64 (v1 + 1))
theorem laws_heldIntS_l0_ok (a : List Int) (h2 : capOk a.length = true) : ∀ (t1 p1 : List Int) (_ : a = p1 ++ t1) (v1 : Int), Pn (LpO Tryz.prog (sub (codeOf Tryz.prog 46) [1, 0, 1, 0, 0]) (st 21 [(0, V.sl false 3 (List.map E3 a)), (1, V.sc (.int .i64 v1)), (5, V.sc (.int .i64 (p1.length : Int)))] [] []) (fun (y : Lo Int Unit) => Lo.elim y (fun s => (X.out 0, st 21 [(1, V.sc (.int .i64 s))] [] [])) (fun s => (X.ret, st 21 [(4, V.sc (.int .i64 (-1)))] [] [])))) (laws_heldIntS_l0 a t1 v1)
  | [], p1, h1, v1 => by
    unfold laws_heldIntS_l0
    exact
     Pn.some (LpO.out [.wait 3, .nm 8 (V.sc (.int .i64 (a.length : Int))), .bit false, .mask [1], .ren []] (p := [V.sc (.int .i64 ((List.map E3 a).length : Int)) = V.sc (.int .i64 (a.length : Int)),
      (decide ((p1.length : Int) < (a.length : Int))) = false]) (by kernel_rfl) (show X.out 0 ≠ X.go from nofun) (cj (len_nm _ _) (cj1 (rng_end h1))))
  | x1 :: t1, p1, h1, v1 => by
    unfold laws_heldIntS_l0
    exact
     Pn.ite (fun h3 =>
     Pn.some (LpO.out [.wait 3, .nm 8 (V.sc (.int .i64 (a.length : Int))), .bit true, .el (E3 x1), .bit true, .wait 1, .mask [4], .ren []] (p := [V.sc (.int .i64 ((List.map E3 a).length : Int)) = V.sc (.int .i64 (a.length : Int)),
      (decide ((p1.length : Int) < (a.length : Int))) = true,
      (0 : Int) ≤ (p1.length : Int),
      (List.map E3 a)[(p1.length : Int).toNat]? = some (E3 x1),
      (x1 != v1) = true]) (by kernel_rfl) (show X.ret ≠ X.go from nofun) (cj (len_nm _ _) (cj (rng_lt h1) (cj (by omega) (cj (rng_get _ h1) (cj1 h3))))))) (fun h3 =>
     LpO.go [.wait 3, .nm 8 (V.sc (.int .i64 (a.length : Int))), .bit true, .el (E3 x1), .bit false, .wait 6, .mask [0, 1, 5], .ren [], .nm 5 (V.sc (.int .i64 ((p1 ++ [x1]).length : Int)))] (p := [V.sc (.int .i64 ((List.map E3 a).length : Int)) = V.sc (.int .i64 (a.length : Int)),
      (decide ((p1.length : Int) < (a.length : Int))) = true,
      (0 : Int) ≤ (p1.length : Int),
      (List.map E3 a)[(p1.length : Int).toNat]? = some (E3 x1),
      (x1 != v1) = false,
      V.sc (.int .i64 (i64 ((p1.length : Int) + 1))) = V.sc (.int .i64 ((p1 ++ [x1]).length : Int))]) (by kernel_rfl) (cj (len_nm _ _) (cj (rng_lt h1) (cj (by omega) (cj (rng_get _ h1) (cj h3 (cj1 (rng_next h1 h2))))))) (laws_heldIntS_l0_ok a h2 t1 (p1 ++ [x1]) (rng_step h1) (i64 (v1 + 1))))
def laws_heldIntS (a : List Int) (k : Int) : Option (Int) :=
 if (capOk a.length) = true then
 (laws_heldIntS_l0 a a k).bind fun r1 =>
 Lo.elim r1 (fun s1 =>
 some s1) (fun s2 =>
 some (-1))
 else none
theorem laws_heldIntS_ok (a : List Int) (k : Int) : Pn (fun y => Fn Tryz.prog 46 [(false, E23 a), (false, E3 k)] (E3 y) []) (laws_heldIntS a k) := by
  unfold laws_heldIntS
  exact
   Pn.ite (fun h4 =>
   Pn.bind (fun r1 h5 =>
   Pn.lo (fun s1 h6 =>
   Pn.some (Fn.of [.wait 3, .mask [0, 1, 5], .ren [], .loop (X.out 0) (st 21 [(1, V.sc (.int .i64 s1))] [] [])] (p := [Loop Tryz.prog (sub (codeOf Tryz.prog 46) [1, 0, 1, 0, 0]) (st 21 [(0, V.sl false 3 (List.map E3 a)), (1, V.sc (.int .i64 k)), (5, V.sc (.int .i64 0))] [] []) (X.out 0) (st 21 [(1, V.sc (.int .i64 s1))] [] [])]) (by kernel_rfl) (cj1 ((laws_heldIntS_l0_ok a h4 a [] rfl k r1 h5).at h6 :)))) (fun s2 h7 =>
   Pn.some (Fn.of [.wait 3, .mask [0, 1, 5], .ren [], .loop (X.ret) (st 21 [(4, V.sc (.int .i64 (-1)))] [] [])] (p := [Loop Tryz.prog (sub (codeOf Tryz.prog 46) [1, 0, 1, 0, 0]) (st 21 [(0, V.sl false 3 (List.map E3 a)), (1, V.sc (.int .i64 k)), (5, V.sc (.int .i64 0))] [] []) (X.ret) (st 21 [(4, V.sc (.int .i64 (-1)))] [] [])]) (by kernel_rfl) (cj1 ((laws_heldIntS_l0_ok a h4 a [] rfl k r1 h5).at h7 :)))))) (fun h4 =>
   Pn.none)
def laws_heldRing (a : Ring) (k : Int) : Option (Int) :=
 (laws_heldIntS a.Counts k).bind fun r1 =>
 if (decide (r1 < 0)) = true then
 some (-1)
 else
 (laws_heldIntS a.Sums r1).bind fun r2 =>
 if (decide (r2 < 0)) = true then
 some (-1)
 else
 some r2
theorem laws_heldRing_ok (a : Ring) (k : Int) : Pn (fun y => Fn Tryz.prog 24 [(false, E25 a), (false, E3 k)] (E3 y) []) (laws_heldRing a k) := by
  unfold laws_heldRing
  exact
   Pn.bind (fun r1 h1 =>
   Pn.ite (fun h2 =>
   Pn.some (Fn.of [.call [] (E3 r1) [], .bit true] (p := [Fn Tryz.prog 46 [(false, E23 a.Counts), (false, E3 k)] (E3 r1) [],
    (true || ((E3 r1).nv && nvL [])) = true,
    (decide (r1 < 0)) = true]) (by kernel_rfl) (cj (laws_heldIntS_ok a.Counts k r1 h1) (cj rfl (cj1 h2))))) (fun h2 =>
   Pn.bind (fun r2 h3 =>
   Pn.ite (fun h4 =>
   Pn.some (Fn.of [.call [] (E3 r1) [], .bit false, .call [] (E3 r2) [], .bit true] (p := [Fn Tryz.prog 46 [(false, E23 a.Counts), (false, E3 k)] (E3 r1) [],
    (true || ((E3 r1).nv && nvL [])) = true,
    (decide (r1 < 0)) = false,
    Fn Tryz.prog 46 [(false, E23 a.Sums), (false, E3 r1)] (E3 r2) [],
    (true || ((E3 r2).nv && nvL [])) = true,
    (decide (r2 < 0)) = true]) (by kernel_rfl) (cj (laws_heldIntS_ok a.Counts k r1 h1) (cj rfl (cj h2 (cj (laws_heldIntS_ok a.Sums r1 r2 h3) (cj rfl (cj1 h4)))))))) (fun h4 =>
   Pn.some (Fn.of [.call [] (E3 r1) [], .bit false, .call [] (E3 r2) [], .bit false] (p := [Fn Tryz.prog 46 [(false, E23 a.Counts), (false, E3 k)] (E3 r1) [],
    (true || ((E3 r1).nv && nvL [])) = true,
    (decide (r1 < 0)) = false,
    Fn Tryz.prog 46 [(false, E23 a.Sums), (false, E3 r1)] (E3 r2) [],
    (true || ((E3 r2).nv && nvL [])) = true,
    (decide (r2 < 0)) = false]) (by kernel_rfl) (cj (laws_heldIntS_ok a.Counts k r1 h1) (cj rfl (cj h2 (cj (laws_heldIntS_ok a.Sums r1 r2 h3) (cj rfl (cj1 h4)))))))))))
def laws_heldByteS_l0 (a : List Int) : List Int → Int → Option (Lo Int Unit)
  | [], v1 =>
   some (.out v1)
  | x1 :: t1, v1 =>
   if (x1 != (u8 v1)) = true then
   some (.ret ())
   else
   laws_heldByteS_l0 a t1 (i64 (v1 + 1))
theorem laws_heldByteS_l0_ok (a : List Int) (h2 : capOk a.length = true) : ∀ (t1 p1 : List Int) (_ : a = p1 ++ t1) (v1 : Int), Pn (LpO Tryz.prog (sub (codeOf Tryz.prog 47) [1, 0, 1, 0, 0]) (st 22 [(0, V.sl false 5 (List.map E5 a)), (1, V.sc (.int .i64 v1)), (5, V.sc (.int .i64 (p1.length : Int)))] [] []) (fun (y : Lo Int Unit) => Lo.elim y (fun s => (X.out 0, st 22 [(1, V.sc (.int .i64 s))] [] [])) (fun s => (X.ret, st 22 [(4, V.sc (.int .i64 (-1)))] [] [])))) (laws_heldByteS_l0 a t1 v1)
  | [], p1, h1, v1 => by
    unfold laws_heldByteS_l0
    exact
     Pn.some (LpO.out [.wait 3, .nm 8 (V.sc (.int .i64 (a.length : Int))), .bit false, .mask [1], .ren []] (p := [V.sc (.int .i64 ((List.map E5 a).length : Int)) = V.sc (.int .i64 (a.length : Int)),
      (decide ((p1.length : Int) < (a.length : Int))) = false]) (by kernel_rfl) (show X.out 0 ≠ X.go from nofun) (cj (len_nm _ _) (cj1 (rng_end h1))))
  | x1 :: t1, p1, h1, v1 => by
    unfold laws_heldByteS_l0
    exact
     Pn.ite (fun h3 =>
     Pn.some (LpO.out [.wait 3, .nm 8 (V.sc (.int .i64 (a.length : Int))), .bit true, .el (E5 x1), .bit true, .wait 1, .mask [4], .ren []] (p := [V.sc (.int .i64 ((List.map E5 a).length : Int)) = V.sc (.int .i64 (a.length : Int)),
      (decide ((p1.length : Int) < (a.length : Int))) = true,
      (0 : Int) ≤ (p1.length : Int),
      (List.map E5 a)[(p1.length : Int).toNat]? = some (E5 x1),
      (x1 != (u8 v1)) = true]) (by kernel_rfl) (show X.ret ≠ X.go from nofun) (cj (len_nm _ _) (cj (rng_lt h1) (cj (by omega) (cj (rng_get _ h1) (cj1 h3))))))) (fun h3 =>
     LpO.go [.wait 3, .nm 8 (V.sc (.int .i64 (a.length : Int))), .bit true, .el (E5 x1), .bit false, .wait 6, .mask [0, 1, 5], .ren [], .nm 5 (V.sc (.int .i64 ((p1 ++ [x1]).length : Int)))] (p := [V.sc (.int .i64 ((List.map E5 a).length : Int)) = V.sc (.int .i64 (a.length : Int)),
      (decide ((p1.length : Int) < (a.length : Int))) = true,
      (0 : Int) ≤ (p1.length : Int),
      (List.map E5 a)[(p1.length : Int).toNat]? = some (E5 x1),
      (x1 != (u8 v1)) = false,
      V.sc (.int .i64 (i64 ((p1.length : Int) + 1))) = V.sc (.int .i64 ((p1 ++ [x1]).length : Int))]) (by kernel_rfl) (cj (len_nm _ _) (cj (rng_lt h1) (cj (by omega) (cj (rng_get _ h1) (cj h3 (cj1 (rng_next h1 h2))))))) (laws_heldByteS_l0_ok a h2 t1 (p1 ++ [x1]) (rng_step h1) (i64 (v1 + 1))))
def laws_heldByteS (a : List Int) (k : Int) : Option (Int) :=
 if (capOk a.length) = true then
 (laws_heldByteS_l0 a a k).bind fun r1 =>
 Lo.elim r1 (fun s1 =>
 some s1) (fun s2 =>
 some (-1))
 else none
theorem laws_heldByteS_ok (a : List Int) (k : Int) : Pn (fun y => Fn Tryz.prog 47 [(false, E64 a), (false, E3 k)] (E3 y) []) (laws_heldByteS a k) := by
  unfold laws_heldByteS
  exact
   Pn.ite (fun h4 =>
   Pn.bind (fun r1 h5 =>
   Pn.lo (fun s1 h6 =>
   Pn.some (Fn.of [.wait 3, .mask [0, 1, 5], .ren [], .loop (X.out 0) (st 22 [(1, V.sc (.int .i64 s1))] [] [])] (p := [Loop Tryz.prog (sub (codeOf Tryz.prog 47) [1, 0, 1, 0, 0]) (st 22 [(0, V.sl false 5 (List.map E5 a)), (1, V.sc (.int .i64 k)), (5, V.sc (.int .i64 0))] [] []) (X.out 0) (st 22 [(1, V.sc (.int .i64 s1))] [] [])]) (by kernel_rfl) (cj1 ((laws_heldByteS_l0_ok a h4 a [] rfl k r1 h5).at h6 :)))) (fun s2 h7 =>
   Pn.some (Fn.of [.wait 3, .mask [0, 1, 5], .ren [], .loop (X.ret) (st 22 [(4, V.sc (.int .i64 (-1)))] [] [])] (p := [Loop Tryz.prog (sub (codeOf Tryz.prog 47) [1, 0, 1, 0, 0]) (st 22 [(0, V.sl false 5 (List.map E5 a)), (1, V.sc (.int .i64 k)), (5, V.sc (.int .i64 0))] [] []) (X.ret) (st 22 [(4, V.sc (.int .i64 (-1)))] [] [])]) (by kernel_rfl) (cj1 ((laws_heldByteS_l0_ok a h4 a [] rfl k r1 h5).at h7 :)))))) (fun h4 =>
   Pn.none)
def laws_heldSlotS_l0 (a : List Slot) : List Slot → Int → Option (Lo Int Unit)
  | [], v1 =>
   some (.out v1)
  | x1 :: t1, v1 =>
   (laws_markText v1).bind fun r1 =>
   if (x1.Trace == r1) = true then
   (laws_markText (i64 (v1 + 1))).bind fun r2 =>
   if (x1.Mti == r2) = true then
   (laws_heldByteS x1.Reply (i64 ((i64 (v1 + 1)) + 1))).bind fun r3 =>
   if (decide (r3 < 0)) = true then
   some (.ret ())
   else
   laws_heldSlotS_l0 a t1 r3
   else
   some (.ret ())
   else
   some (.ret ())
theorem laws_heldSlotS_l0_ok (a : List Slot) (h2 : capOk a.length = true) : ∀ (t1 p1 : List Slot) (_ : a = p1 ++ t1) (v1 : Int), Pn (LpO Tryz.prog (sub (codeOf Tryz.prog 25) [1, 0, 1, 0, 0]) (st 42 [(0, V.sl false 66 (List.map E66 a)), (1, V.sc (.int .i64 v1)), (5, V.sc (.int .i64 (p1.length : Int)))] [] []) (fun (y : Lo Int Unit) => Lo.elim y (fun s => (X.out 0, st 42 [(1, V.sc (.int .i64 s))] [] [])) (fun s => (X.ret, st 42 [(4, V.sc (.int .i64 (-1)))] [] [])))) (laws_heldSlotS_l0 a t1 v1)
  | [], p1, h1, v1 => by
    unfold laws_heldSlotS_l0
    exact
     Pn.some (LpO.out [.wait 3, .nm 8 (V.sc (.int .i64 (a.length : Int))), .bit false, .mask [1], .ren []] (p := [V.sc (.int .i64 ((List.map E66 a).length : Int)) = V.sc (.int .i64 (a.length : Int)),
      (decide ((p1.length : Int) < (a.length : Int))) = false]) (by kernel_rfl) (show X.out 0 ≠ X.go from nofun) (cj (len_nm _ _) (cj1 (rng_end h1))))
  | x1 :: t1, p1, h1, v1 => by
    unfold laws_heldSlotS_l0
    exact
     Pn.bind (fun r1 h3 =>
     Pn.ite (fun h4 =>
     Pn.bind (fun r2 h5 =>
     Pn.ite (fun h6 =>
     Pn.bind (fun r3 h7 =>
     Pn.ite (fun h8 =>
     Pn.some (LpO.out [.wait 3, .nm 8 (V.sc (.int .i64 (a.length : Int))), .bit true, .draw [], .el (E66 x1), .call [] (E9 r1) [], .bit false, .draw [], .el (E66 x1), .call [] (E9 r2) [], .bit false, .el (E66 x1), .call [] (E3 r3) [], .bit true, .wait 1, .mask [4], .ren []] (p := [V.sc (.int .i64 ((List.map E66 a).length : Int)) = V.sc (.int .i64 (a.length : Int)),
      (decide ((p1.length : Int) < (a.length : Int))) = true,
      (0 : Int) ≤ (p1.length : Int),
      (List.map E66 a)[(p1.length : Int).toNat]? = some (E66 x1),
      Fn Tryz.prog 43 [(false, E3 v1)] (E9 r1) [],
      (true || ((E9 r1).nv && nvL [])) = true,
      (!(x1.Trace == r1)) = false,
      (0 : Int) ≤ (p1.length : Int),
      (List.map E66 a)[(p1.length : Int).toNat]? = some (E66 x1),
      Fn Tryz.prog 43 [(false, E3 (i64 (v1 + 1)))] (E9 r2) [],
      (true || ((E9 r2).nv && nvL [])) = true,
      (!(x1.Mti == r2)) = false,
      (0 : Int) ≤ (p1.length : Int),
      (List.map E66 a)[(p1.length : Int).toNat]? = some (E66 x1),
      Fn Tryz.prog 47 [(false, E64 x1.Reply), (false, E3 (i64 ((i64 (v1 + 1)) + 1)))] (E3 r3) [],
      (true || ((E3 r3).nv && nvL [])) = true,
      (decide (r3 < 0)) = true]) (by kernel_rfl) (show X.ret ≠ X.go from nofun) (cj (len_nm _ _) (cj (rng_lt h1) (cj (by omega) (cj (rng_get _ h1) (cj (laws_markText_ok v1 r1 h3) (cj rfl (cj (nf h4) (cj (by omega) (cj (rng_get _ h1) (cj (laws_markText_ok (i64 (v1 + 1)) r2 h5) (cj rfl (cj (nf h6) (cj (by omega) (cj (rng_get _ h1) (cj (laws_heldByteS_ok x1.Reply (i64 ((i64 (v1 + 1)) + 1)) r3 h7) (cj rfl (cj1 h8))))))))))))))))))) (fun h8 =>
     LpO.go [.wait 3, .nm 8 (V.sc (.int .i64 (a.length : Int))), .bit true, .draw [], .el (E66 x1), .call [] (E9 r1) [], .bit false, .draw [], .el (E66 x1), .call [] (E9 r2) [], .bit false, .el (E66 x1), .call [] (E3 r3) [], .bit false, .wait 3, .mask [0, 1, 5], .ren [], .nm 5 (V.sc (.int .i64 ((p1 ++ [x1]).length : Int)))] (p := [V.sc (.int .i64 ((List.map E66 a).length : Int)) = V.sc (.int .i64 (a.length : Int)),
      (decide ((p1.length : Int) < (a.length : Int))) = true,
      (0 : Int) ≤ (p1.length : Int),
      (List.map E66 a)[(p1.length : Int).toNat]? = some (E66 x1),
      Fn Tryz.prog 43 [(false, E3 v1)] (E9 r1) [],
      (true || ((E9 r1).nv && nvL [])) = true,
      (!(x1.Trace == r1)) = false,
      (0 : Int) ≤ (p1.length : Int),
      (List.map E66 a)[(p1.length : Int).toNat]? = some (E66 x1),
      Fn Tryz.prog 43 [(false, E3 (i64 (v1 + 1)))] (E9 r2) [],
      (true || ((E9 r2).nv && nvL [])) = true,
      (!(x1.Mti == r2)) = false,
      (0 : Int) ≤ (p1.length : Int),
      (List.map E66 a)[(p1.length : Int).toNat]? = some (E66 x1),
      Fn Tryz.prog 47 [(false, E64 x1.Reply), (false, E3 (i64 ((i64 (v1 + 1)) + 1)))] (E3 r3) [],
      (true || ((E3 r3).nv && nvL [])) = true,
      (decide (r3 < 0)) = false,
      V.sc (.int .i64 (i64 ((p1.length : Int) + 1))) = V.sc (.int .i64 ((p1 ++ [x1]).length : Int))]) (by kernel_rfl) (cj (len_nm _ _) (cj (rng_lt h1) (cj (by omega) (cj (rng_get _ h1) (cj (laws_markText_ok v1 r1 h3) (cj rfl (cj (nf h4) (cj (by omega) (cj (rng_get _ h1) (cj (laws_markText_ok (i64 (v1 + 1)) r2 h5) (cj rfl (cj (nf h6) (cj (by omega) (cj (rng_get _ h1) (cj (laws_heldByteS_ok x1.Reply (i64 ((i64 (v1 + 1)) + 1)) r3 h7) (cj rfl (cj h8 (cj1 (rng_next h1 h2))))))))))))))))))) (laws_heldSlotS_l0_ok a h2 t1 (p1 ++ [x1]) (rng_step h1) r3)))) (fun h6 =>
     Pn.some (LpO.out [.wait 3, .nm 8 (V.sc (.int .i64 (a.length : Int))), .bit true, .draw [], .el (E66 x1), .call [] (E9 r1) [], .bit false, .draw [], .el (E66 x1), .call [] (E9 r2) [], .bit true, .wait 1, .mask [4], .ren []] (p := [V.sc (.int .i64 ((List.map E66 a).length : Int)) = V.sc (.int .i64 (a.length : Int)),
      (decide ((p1.length : Int) < (a.length : Int))) = true,
      (0 : Int) ≤ (p1.length : Int),
      (List.map E66 a)[(p1.length : Int).toNat]? = some (E66 x1),
      Fn Tryz.prog 43 [(false, E3 v1)] (E9 r1) [],
      (true || ((E9 r1).nv && nvL [])) = true,
      (!(x1.Trace == r1)) = false,
      (0 : Int) ≤ (p1.length : Int),
      (List.map E66 a)[(p1.length : Int).toNat]? = some (E66 x1),
      Fn Tryz.prog 43 [(false, E3 (i64 (v1 + 1)))] (E9 r2) [],
      (true || ((E9 r2).nv && nvL [])) = true,
      (!(x1.Mti == r2)) = true]) (by kernel_rfl) (show X.ret ≠ X.go from nofun) (cj (len_nm _ _) (cj (rng_lt h1) (cj (by omega) (cj (rng_get _ h1) (cj (laws_markText_ok v1 r1 h3) (cj rfl (cj (nf h4) (cj (by omega) (cj (rng_get _ h1) (cj (laws_markText_ok (i64 (v1 + 1)) r2 h5) (cj rfl (cj1 (nt h6))))))))))))))))) (fun h4 =>
     Pn.some (LpO.out [.wait 3, .nm 8 (V.sc (.int .i64 (a.length : Int))), .bit true, .draw [], .el (E66 x1), .call [] (E9 r1) [], .bit true, .wait 1, .mask [4], .ren []] (p := [V.sc (.int .i64 ((List.map E66 a).length : Int)) = V.sc (.int .i64 (a.length : Int)),
      (decide ((p1.length : Int) < (a.length : Int))) = true,
      (0 : Int) ≤ (p1.length : Int),
      (List.map E66 a)[(p1.length : Int).toNat]? = some (E66 x1),
      Fn Tryz.prog 43 [(false, E3 v1)] (E9 r1) [],
      (true || ((E9 r1).nv && nvL [])) = true,
      (!(x1.Trace == r1)) = true]) (by kernel_rfl) (show X.ret ≠ X.go from nofun) (cj (len_nm _ _) (cj (rng_lt h1) (cj (by omega) (cj (rng_get _ h1) (cj (laws_markText_ok v1 r1 h3) (cj rfl (cj1 (nt h4)))))))))))
def laws_heldSlotS (a : List Slot) (k : Int) : Option (Int) :=
 if (capOk a.length) = true then
 (laws_heldSlotS_l0 a a k).bind fun r4 =>
 Lo.elim r4 (fun s1 =>
 some s1) (fun s2 =>
 some (-1))
 else none
theorem laws_heldSlotS_ok (a : List Slot) (k : Int) : Pn (fun y => Fn Tryz.prog 25 [(false, E26 a), (false, E3 k)] (E3 y) []) (laws_heldSlotS a k) := by
  unfold laws_heldSlotS
  exact
   Pn.ite (fun h9 =>
   Pn.bind (fun r4 h10 =>
   Pn.lo (fun s1 h11 =>
   Pn.some (Fn.of [.wait 3, .mask [0, 1, 5], .ren [], .loop (X.out 0) (st 42 [(1, V.sc (.int .i64 s1))] [] [])] (p := [Loop Tryz.prog (sub (codeOf Tryz.prog 25) [1, 0, 1, 0, 0]) (st 42 [(0, V.sl false 66 (List.map E66 a)), (1, V.sc (.int .i64 k)), (5, V.sc (.int .i64 0))] [] []) (X.out 0) (st 42 [(1, V.sc (.int .i64 s1))] [] [])]) (by kernel_rfl) (cj1 ((laws_heldSlotS_l0_ok a h9 a [] rfl k r4 h10).at h11 :)))) (fun s2 h12 =>
   Pn.some (Fn.of [.wait 3, .mask [0, 1, 5], .ren [], .loop (X.ret) (st 42 [(4, V.sc (.int .i64 (-1)))] [] [])] (p := [Loop Tryz.prog (sub (codeOf Tryz.prog 25) [1, 0, 1, 0, 0]) (st 42 [(0, V.sl false 66 (List.map E66 a)), (1, V.sc (.int .i64 k)), (5, V.sc (.int .i64 0))] [] []) (X.ret) (st 42 [(4, V.sc (.int .i64 (-1)))] [] [])]) (by kernel_rfl) (cj1 ((laws_heldSlotS_l0_ok a h9 a [] rfl k r4 h10).at h12 :)))))) (fun h9 =>
   Pn.none)
def laws_heldAcct (a : Acct) (k : Int) : Option (Int) :=
 (laws_heldHoldS a.Holds k).bind fun r1 =>
 if (decide (r1 < 0)) = true then
 some (-1)
 else
 (laws_heldRing a.Ring r1).bind fun r2 =>
 if (decide (r2 < 0)) = true then
 some (-1)
 else
 (laws_heldSlotS a.Slots r2).bind fun r3 =>
 if (decide (r3 < 0)) = true then
 some (-1)
 else
 some r3
theorem laws_heldAcct_ok (a : Acct) (k : Int) : Pn (fun y => Fn Tryz.prog 8 [(false, E28 a), (false, E3 k)] (E3 y) []) (laws_heldAcct a k) := by
  unfold laws_heldAcct
  exact
   Pn.bind (fun r1 h1 =>
   Pn.ite (fun h2 =>
   Pn.some (Fn.of [.call [] (E3 r1) [], .bit true] (p := [Fn Tryz.prog 23 [(false, E22 a.Holds), (false, E3 k)] (E3 r1) [],
    (true || ((E3 r1).nv && nvL [])) = true,
    (decide (r1 < 0)) = true]) (by kernel_rfl) (cj (laws_heldHoldS_ok a.Holds k r1 h1) (cj rfl (cj1 h2))))) (fun h2 =>
   Pn.bind (fun r2 h3 =>
   Pn.ite (fun h4 =>
   Pn.some (Fn.of [.call [] (E3 r1) [], .bit false, .call [] (E3 r2) [], .bit true] (p := [Fn Tryz.prog 23 [(false, E22 a.Holds), (false, E3 k)] (E3 r1) [],
    (true || ((E3 r1).nv && nvL [])) = true,
    (decide (r1 < 0)) = false,
    Fn Tryz.prog 24 [(false, E25 a.Ring), (false, E3 r1)] (E3 r2) [],
    (true || ((E3 r2).nv && nvL [])) = true,
    (decide (r2 < 0)) = true]) (by kernel_rfl) (cj (laws_heldHoldS_ok a.Holds k r1 h1) (cj rfl (cj h2 (cj (laws_heldRing_ok a.Ring r1 r2 h3) (cj rfl (cj1 h4)))))))) (fun h4 =>
   Pn.bind (fun r3 h5 =>
   Pn.ite (fun h6 =>
   Pn.some (Fn.of [.call [] (E3 r1) [], .bit false, .call [] (E3 r2) [], .bit false, .call [] (E3 r3) [], .bit true] (p := [Fn Tryz.prog 23 [(false, E22 a.Holds), (false, E3 k)] (E3 r1) [],
    (true || ((E3 r1).nv && nvL [])) = true,
    (decide (r1 < 0)) = false,
    Fn Tryz.prog 24 [(false, E25 a.Ring), (false, E3 r1)] (E3 r2) [],
    (true || ((E3 r2).nv && nvL [])) = true,
    (decide (r2 < 0)) = false,
    Fn Tryz.prog 25 [(false, E26 a.Slots), (false, E3 r2)] (E3 r3) [],
    (true || ((E3 r3).nv && nvL [])) = true,
    (decide (r3 < 0)) = true]) (by kernel_rfl) (cj (laws_heldHoldS_ok a.Holds k r1 h1) (cj rfl (cj h2 (cj (laws_heldRing_ok a.Ring r1 r2 h3) (cj rfl (cj h4 (cj (laws_heldSlotS_ok a.Slots r2 r3 h5) (cj rfl (cj1 h6))))))))))) (fun h6 =>
   Pn.some (Fn.of [.call [] (E3 r1) [], .bit false, .call [] (E3 r2) [], .bit false, .call [] (E3 r3) [], .bit false] (p := [Fn Tryz.prog 23 [(false, E22 a.Holds), (false, E3 k)] (E3 r1) [],
    (true || ((E3 r1).nv && nvL [])) = true,
    (decide (r1 < 0)) = false,
    Fn Tryz.prog 24 [(false, E25 a.Ring), (false, E3 r1)] (E3 r2) [],
    (true || ((E3 r2).nv && nvL [])) = true,
    (decide (r2 < 0)) = false,
    Fn Tryz.prog 25 [(false, E26 a.Slots), (false, E3 r2)] (E3 r3) [],
    (true || ((E3 r3).nv && nvL [])) = true,
    (decide (r3 < 0)) = false]) (by kernel_rfl) (cj (laws_heldHoldS_ok a.Holds k r1 h1) (cj rfl (cj h2 (cj (laws_heldRing_ok a.Ring r1 r2 h3) (cj rfl (cj h4 (cj (laws_heldSlotS_ok a.Slots r2 r3 h5) (cj rfl (cj1 h6))))))))))))))))
end Go.Proofs.YtobmabejfbmmfaaGreatDoorM
