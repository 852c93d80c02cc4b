/- Printed by gen.py: functions on plain data, and that the program computes them. No condition. -/
import Derived.Test.YtdcejeemommkfaaLkG0
namespace Go.Proofs.YtdcejeemommkfaaM
set_option linter.unusedVariables false
set_option linter.unusedSimpArgs false
open Go.RowKit
set_option maxRecDepth 100000

def spec_MakeBook_s1 (code : List Int) (r2 : Book × l01Cur) (r3 : Acct × l01Cur) : St := st 21 [(0, V.sl false 5 (List.map E5 code)), (2, V.ptr 0 0), (3, V.ptr 1 0), (4, V.ptr 2 0), (5, V.sl false 5 (List.map E5 code)), (6, V.ptr 1 0), (7, V.ptr 1 0), (8, V.agg [V.un]), (9, V.ptr 2 0), (11, vI (r2.1.Accts.length : Int)), (12, V.sc (.bool ((r2.1.Accts.length : Int) == 0))), (13, V.ptr 2 0), (15, V.ptr 1 0), (16, V.agg [V.sc (.string r3.1.Id), vI r3.1.Limit, vI r3.1.Posted, vI r3.1.Most, vI r3.1.MostSum, V.un, vI r3.1.Ring.Span, vI r3.1.Ring.Head, V.un, V.un, V.un]), (18, V.ow 3), (19, V.ptr 2 0)] [Blk.box 50 [V.nl 29], Blk.box 92 [V.sl false 5 (List.map E5 r3.2.b), vI r3.2.i, vI r3.2.h], Blk.box 50 [V.ow 3], Blk.row 29 (List.map E29 (r2.1.Accts ++ [r3.1])) []] []
def spec_MakeBook (code : List Int) : Option (Book) :=
 (spec_l01New code).bind fun r1 =>
 (spec_l12Draw r1).bind fun r2 =>
 if ((r2.1.Accts.length : Int) == 0) = true then
 (spec_l09Draw r2.2 (bs [49, 56])).bind fun r3 =>
 if (capOk (r2.1.Accts.length + 1)) = true then
 some (Book.mk (r2.1.Accts ++ [r3.1]))
 else none
 else
 some r2.1
theorem spec_MakeBook_ok (code : List Int) : Pn (fun y => Fn Try.prog 23 [(false, E22 code)] (E50 y) []) (spec_MakeBook code) := by
  unfold spec_MakeBook
  exact
   Pn.bind (fun r1 h1 =>
   Pn.bind (fun r2 h2 =>
   Pn.ite (fun h3 =>
   Pn.bind (fun r3 h4 =>
   Pn.ite (fun h5 =>
   Pn.some (Fn.of [.call [] (V.bx 92 [V.sl false 5 (List.map E5 r1.b), vI r1.i, vI r1.h]) [], .call [true] (E50 r2.1) [V.bx 92 [V.sl false 5 (List.map E5 r2.2.b), vI r2.2.i, vI r2.2.h]], .wait 5, .nm 11 (vI (r2.1.Accts.length : Int)), .bit true, .draw [3, 5, 7], .loop .go ((spec_MakeBook_s1 code r2 r3)), .loop .go ((spec_MakeBook_s1 code r2 r3)), .call [true, false] (E29 r3.1) [V.bx 92 [V.sl false 5 (List.map E5 r3.2.b), vI r3.2.i, vI r3.2.h]], .wait 1, .shut 8, .mv, .nb 9 (.row 29 (List.map E29 (r2.1.Accts ++ [r3.1])) []), .wait 2, .ren [0, 1, 3, 9], .call [true, false] (E29 r3.1) [V.bx 92 [V.sl false 5 (List.map E5 r3.2.b), vI r3.2.i, vI r3.2.h]], .wait 2, .shut 8, .mv, .nb 9 (.row 29 (List.map E29 (r2.1.Accts ++ [r3.1])) []), .wait 2, .ren [0, 1, 3, 9], .ren [0, 1, 2, 3], .call [true, false] (E29 r3.1) [V.bx 92 [V.sl false 5 (List.map E5 r3.2.b), vI r3.2.i, vI r3.2.h]], .wait 3, .shut 8, .mv, .nb 9 (.row 29 (List.map E29 (r2.1.Accts ++ [r3.1])) []), .wait 2, .ren [0, 1, 3, 9]] (p := [Fn Try.prog 52 [(false, E22 code)] (V.bx 92 [V.sl false 5 (List.map E5 r1.b), vI r1.i, vI r1.h]) [],(true || ((V.bx 92 [V.sl false 5 (List.map E5 r1.b), vI r1.i, vI r1.h]).nv && nvL [])) = true,Fn Try.prog 82 [(true, V.bx 92 [V.sl false 5 (List.map E5 r1.b), vI r1.i, vI r1.h])] (E50 r2.1) [V.bx 92 [V.sl false 5 (List.map E5 r2.2.b), vI r2.2.i, vI r2.2.h]],(true || ((E50 r2.1).nv && nvL [V.bx 92 [V.sl false 5 (List.map E5 r2.2.b), vI r2.2.i, vI r2.2.h]])) = true,vI ((List.map E29 r2.1.Accts).length : Int) = vI (r2.1.Accts.length : Int),((r2.1.Accts.length : Int) == 0) = true,Fn Try.prog 53 [(true, V.bx 92 [V.sl false 5 (List.map E5 r2.2.b), vI r2.2.i, vI r2.2.h]), (false, E9 (bs [49, 56]))] (E29 r3.1) [V.bx 92 [V.sl false 5 (List.map E5 r3.2.b), vI r3.2.i, vI r3.2.h]],(true || ((E29 r3.1).nv && nvL [V.bx 92 [V.sl false 5 (List.map E5 r3.2.b), vI r3.2.i, vI r3.2.h]])) = true,(List.map E29 r2.1.Accts).length + [bA r3.1].length ≤ 9223372036854775807,((List.map E29 r2.1.Accts).length + [bA r3.1].length) * 160 ≤ 140737488355328,Blk.row 29 ((List.map E29 r2.1.Accts) ++ [bA r3.1]) [] = Blk.row 29 (List.map E29 (r2.1.Accts ++ [r3.1])) [],(spec_MakeBook_s1 code r2 r3) = (spec_MakeBook_s1 code r2 r3),Fn Try.prog 53 [(true, V.bx 92 [V.sl false 5 (List.map E5 r2.2.b), vI r2.2.i, vI r2.2.h]), (false, E9 (bs [49, 56]))] (E29 r3.1) [V.bx 92 [V.sl false 5 (List.map E5 r3.2.b), vI r3.2.i, vI r3.2.h]],(true || ((E29 r3.1).nv && nvL [V.bx 92 [V.sl false 5 (List.map E5 r3.2.b), vI r3.2.i, vI r3.2.h]])) = true,(List.map E29 r2.1.Accts).length + [bA r3.1].length ≤ 9223372036854775807,((List.map E29 r2.1.Accts).length + [bA r3.1].length) * 160 ≤ 140737488355328,Blk.row 29 ((List.map E29 r2.1.Accts) ++ [bA r3.1]) [] = Blk.row 29 (List.map E29 (r2.1.Accts ++ [r3.1])) [],(spec_MakeBook_s1 code r2 r3) = (spec_MakeBook_s1 code r2 r3),(spec_MakeBook_s1 code r2 r3) = (spec_MakeBook_s1 code r2 r3),Fn Try.prog 53 [(true, V.bx 92 [V.sl false 5 (List.map E5 r2.2.b), vI r2.2.i, vI r2.2.h]), (false, E9 (bs [49, 56]))] (E29 r3.1) [V.bx 92 [V.sl false 5 (List.map E5 r3.2.b), vI r3.2.i, vI r3.2.h]],(true || ((E29 r3.1).nv && nvL [V.bx 92 [V.sl false 5 (List.map E5 r3.2.b), vI r3.2.i, vI r3.2.h]])) = true,(List.map E29 r2.1.Accts).length + [bA r3.1].length ≤ 9223372036854775807,((List.map E29 r2.1.Accts).length + [bA r3.1].length) * 160 ≤ 140737488355328,Blk.row 29 ((List.map E29 r2.1.Accts) ++ [bA r3.1]) [] = Blk.row 29 (List.map E29 (r2.1.Accts ++ [r3.1])) [],(spec_MakeBook_s1 code r2 r3) = (spec_MakeBook_s1 code r2 r3)]) (by kernel_rfl) (cj (spec_l01New_ok code r1 h1) (cj rfl (cj (spec_l12Draw_ok r1 r2 h2) (cj rfl (cj (len_nm _ _) (cj h3 (cj (spec_l09Draw_ok r2.2 (bs [49, 56]) r3 h4) (cj rfl (cj (cap1 (capN (by simp) h5)) (cj (cap2 (capN (by simp) h5) (by decide)) (cj (nb_app E29 r2.1.Accts [r3.1]) (cj rfl (cj (spec_l09Draw_ok r2.2 (bs [49, 56]) r3 h4) (cj rfl (cj (cap1 (capN (by simp) h5)) (cj (cap2 (capN (by simp) h5) (by decide)) (cj (nb_app E29 r2.1.Accts [r3.1]) (cj rfl (cj rfl (cj (spec_l09Draw_ok r2.2 (bs [49, 56]) r3 h4) (cj rfl (cj (cap1 (capN (by simp) h5)) (cj (cap2 (capN (by simp) h5) (by decide)) (cj (nb_app E29 r2.1.Accts [r3.1]) (cj1 rfl))))))))))))))))))))))))))) (fun h5 =>
   Pn.none))) (fun h3 =>
   Pn.some (Fn.of [.call [] (V.bx 92 [V.sl false 5 (List.map E5 r1.b), vI r1.i, vI r1.h]) [], .call [true] (E50 r2.1) [V.bx 92 [V.sl false 5 (List.map E5 r2.2.b), vI r2.2.i, vI r2.2.h]], .wait 5, .nm 11 (vI (r2.1.Accts.length : Int)), .bit false] (p := [Fn Try.prog 52 [(false, E22 code)] (V.bx 92 [V.sl false 5 (List.map E5 r1.b), vI r1.i, vI r1.h]) [],(true || ((V.bx 92 [V.sl false 5 (List.map E5 r1.b), vI r1.i, vI r1.h]).nv && nvL [])) = true,Fn Try.prog 82 [(true, V.bx 92 [V.sl false 5 (List.map E5 r1.b), vI r1.i, vI r1.h])] (E50 r2.1) [V.bx 92 [V.sl false 5 (List.map E5 r2.2.b), vI r2.2.i, vI r2.2.h]],(true || ((E50 r2.1).nv && nvL [V.bx 92 [V.sl false 5 (List.map E5 r2.2.b), vI r2.2.i, vI r2.2.h]])) = true,vI ((List.map E29 r2.1.Accts).length : Int) = vI (r2.1.Accts.length : Int),((r2.1.Accts.length : Int) == 0) = false]) (by kernel_rfl) (cj (spec_l01New_ok code r1 h1) (cj rfl (cj (spec_l12Draw_ok r1 r2 h2) (cj rfl (cj (len_nm _ _) (cj1 h3))))))))))
def spec_MakeNum (code : List Int) (n : Int) : Option (Int) :=
 (spec_l01New code).bind fun r1 =>
 (spec_l01Below (l01Cur.mk r1.b r1.i (i64 (r1.h + 777))) n).bind fun r2 =>
 some r2.1
theorem spec_MakeNum_ok (code : List Int) (n : Int) : Pn (fun y => Fn Try.prog 24 [(false, E22 code), (false, E3 n)] (E3 y) []) (spec_MakeNum code n) := by
  unfold spec_MakeNum
  exact
   Pn.bind (fun r1 h1 =>
   Pn.bind (fun r2 h2 =>
   Pn.some (Fn.of [.call [] (V.bx 92 [V.sl false 5 (List.map E5 r1.b), vI r1.i, vI r1.h]) [], .call [true, false] (E3 r2.1) [V.bx 92 [V.sl false 5 (List.map E5 r2.2.b), vI r2.2.i, vI r2.2.h]]] (p := [Fn Try.prog 52 [(false, E22 code)] (V.bx 92 [V.sl false 5 (List.map E5 r1.b), vI r1.i, vI r1.h]) [],(true || ((V.bx 92 [V.sl false 5 (List.map E5 r1.b), vI r1.i, vI r1.h]).nv && nvL [])) = true,Fn Try.prog 55 [(true, V.bx 92 [V.sl false 5 (List.map E5 ((l01Cur.mk r1.b r1.i (i64 (r1.h + 777))).b)), vI ((l01Cur.mk r1.b r1.i (i64 (r1.h + 777))).i), vI ((l01Cur.mk r1.b r1.i (i64 (r1.h + 777))).h)]), (false, E3 n)] (E3 r2.1) [V.bx 92 [V.sl false 5 (List.map E5 r2.2.b), vI r2.2.i, vI r2.2.h]],(true || ((E3 r2.1).nv && nvL [V.bx 92 [V.sl false 5 (List.map E5 r2.2.b), vI r2.2.i, vI r2.2.h]])) = true]) (by kernel_rfl) (cj (spec_l01New_ok code r1 h1) (cj rfl (cj (spec_l01Below_ok (l01Cur.mk r1.b r1.i (i64 (r1.h + 777))) n r2 h2) (cj1 rfl)))))))
def impl_Digits_l0 (s_ : ByteArray) : Nat → Int → Option (Lo Unit Unit)
  | 0, _ => none
  | fuel + 1, v1 =>
   if (decide (v1 < (s_.size : Int))) = true then
   if (decide (0 ≤ v1)) = true then
   if (decide ((v1 : Int) < (s_.size : Int))) = true then
   if (decide ((sAt s_ v1) < 48)) = true then
   some (.ret ())
   else
   if (decide (57 < (sAt s_ v1))) = true then
   some (.ret ())
   else
   impl_Digits_l0 s_ fuel (i64 (v1 + 1))
   else none
   else none
   else
   some (.out ())
theorem impl_Digits_l0_ok (s_ : ByteArray) : ∀ (fuel : Nat) (v1 : Int), Pn (LpO Try.prog (sub (codeOf Try.prog 181) [1, 0, 1, 0, 0]) (st 22 [(0, V.sc (.string s_)), (5, vI (s_.size : Int)), (6, vI v1)] [] []) (fun (y : Lo Unit Unit) => Lo.elim y (fun s => (X.out 0, st 22 [(0, V.sc (.string s_))] [] [])) (fun s => (X.ret, st 22 [(2, V.sc (.bool false))] [] [])))) (impl_Digits_l0 s_ fuel v1)
  | 0, _ => Pn.none
  | fuel + 1, v1 => by
    unfold impl_Digits_l0
    exact
     Pn.ite (fun h1 =>
     Pn.ite (fun h2 =>
     Pn.ite (fun h3 =>
     Pn.ite (fun h4 =>
     Pn.some (LpO.out [.bit true, .bit true, .bit true, .bit true, .bit true, .bit true, .bit true, .wait 1, .mask [2], .ren []] (p := [(decide (v1 < (s_.size : Int))) = true,(0 : Int) ≤ v1,(v1 : Int) < s_.size,(decide ((sAt s_ v1) < 48)) = true,(decide ((sAt s_ v1) < 48)) = true,(decide ((sAt s_ v1) < 48)) = true,(decide ((sAt s_ v1) < 48)) = true,(decide ((sAt s_ v1) < 48)) = true,true = true]) (by kernel_rfl) (show X.ret ≠ X.go from nofun) (cj h1 (cj (od h2) (cj (od h3) (cj h4 (cj h4 (cj h4 (cj h4 (cj h4 (cj1 rfl))))))))))) (fun h4 =>
     Pn.ite (fun h5 =>
     Pn.some (LpO.out [.bit true, .bit false, .bit false, .bit false, .bit false, .bit false, .bit true, .wait 1, .mask [2], .ren []] (p := [(decide (v1 < (s_.size : Int))) = true,(0 : Int) ≤ v1,(v1 : Int) < s_.size,(decide ((sAt s_ v1) < 48)) = false,(decide ((sAt s_ v1) < 48)) = false,(decide ((sAt s_ v1) < 48)) = false,(0 : Int) ≤ v1,(v1 : Int) < s_.size,(decide ((sAt s_ v1) < 48)) = false,(decide ((sAt s_ v1) < 48)) = false,(decide (57 < (sAt s_ v1))) = true]) (by kernel_rfl) (show X.ret ≠ X.go from nofun) (cj h1 (cj (od h2) (cj (od h3) (cj h4 (cj h4 (cj h4 (cj (od h2) (cj (od h3) (cj h4 (cj h4 (cj1 h5))))))))))))) (fun h5 =>
     LpO.go [.bit true, .bit false, .bit false, .bit false, .bit false, .bit false, .bit false, .wait 2, .mask [0, 5, 6], .ren []] (p := [(decide (v1 < (s_.size : Int))) = true,(0 : Int) ≤ v1,(v1 : Int) < s_.size,(decide ((sAt s_ v1) < 48)) = false,(decide ((sAt s_ v1) < 48)) = false,(decide ((sAt s_ v1) < 48)) = false,(0 : Int) ≤ v1,(v1 : Int) < s_.size,(decide ((sAt s_ v1) < 48)) = false,(decide ((sAt s_ v1) < 48)) = false,(decide (57 < (sAt s_ v1))) = false]) (by kernel_rfl) (cj h1 (cj (od h2) (cj (od h3) (cj h4 (cj h4 (cj h4 (cj (od h2) (cj (od h3) (cj h4 (cj h4 (cj1 h5))))))))))) (impl_Digits_l0_ok s_ fuel (i64 (v1 + 1)))))) (fun h3 =>
     Pn.none)) (fun h2 =>
     Pn.none)) (fun h1 =>
     Pn.some (LpO.out [.bit false, .mask [0], .ren []] (p := [(decide (v1 < (s_.size : Int))) = false]) (by kernel_rfl) (show X.out 0 ≠ X.go from nofun) (cj1 h1)))
def impl_Digits (s_ : ByteArray) : Option (Bool) :=
 (impl_Digits_l0 s_ FUEL 0).bind fun r1 =>
 Lo.elim r1 (fun s1 =>
 some (!(s_ == (bs [])))) (fun s2 =>
 some false)
theorem impl_Digits_ok (s_ : ByteArray) : Pn (fun y => Fn Try.prog 181 [(false, E9 s_)] (E4 y) []) (impl_Digits s_) := by
  unfold impl_Digits
  exact
   Pn.bind (fun r1 h6 =>
   Pn.lo (fun s1 h7 =>
   Pn.some (Fn.of [.wait 5, .mask [0, 5, 6], .ren [], .loop (X.out 0) (st 22 [(0, V.sc (.string s_))] [] [])] (p := [Loop Try.prog (sub (codeOf Try.prog 181) [1, 0, 1, 0, 0]) (st 22 [(0, V.sc (.string s_)), (5, vI (s_.size : Int)), (6, vI 0)] [] []) (X.out 0) (st 22 [(0, V.sc (.string s_))] [] [])]) (by kernel_rfl) (cj1 ((impl_Digits_l0_ok s_ FUEL 0 r1 h6).at h7)))) (fun s2 h8 =>
   Pn.some (Fn.of [.wait 5, .mask [0, 5, 6], .ren [], .loop (X.ret) (st 22 [(2, V.sc (.bool false))] [] [])] (p := [Loop Try.prog (sub (codeOf Try.prog 181) [1, 0, 1, 0, 0]) (st 22 [(0, V.sc (.string s_)), (5, vI (s_.size : Int)), (6, vI 0)] [] []) (X.ret) (st 22 [(2, V.sc (.bool false))] [] [])]) (by kernel_rfl) (cj1 ((impl_Digits_l0_ok s_ FUEL 0 r1 h6).at h8)))))
def impl_Luhn_l0 (s_ : ByteArray) : Nat → Int → Bool → Int → Option (Int)
  | 0, _, _, _ => none
  | fuel + 1, v1, v2, v3 =>
   if (decide (0 ≤ v3)) = true then
   if (decide ((v3 : Int) < (s_.size : Int))) = true then
   if v2 = true then
   if (decide (9 < (i64 ((i64 (u8 ((sAt s_ v3) - 48))) * 2)))) = true then
   impl_Luhn_l0 s_ fuel (i64 (v1 + (i64 ((i64 ((i64 (u8 ((sAt s_ v3) - 48))) * 2)) - 9)))) (!v2) (i64 (v3 - 1))
   else
   impl_Luhn_l0 s_ fuel (i64 (v1 + (i64 ((i64 (u8 ((sAt s_ v3) - 48))) * 2)))) (!v2) (i64 (v3 - 1))
   else
   impl_Luhn_l0 s_ fuel (i64 (v1 + (i64 (u8 ((sAt s_ v3) - 48))))) (!v2) (i64 (v3 - 1))
   else none
   else
   some v1
theorem impl_Luhn_l0_ok (s_ : ByteArray) : ∀ (fuel : Nat) (v1 : Int) (v2 : Bool) (v3 : Int), Pn (LpO Try.prog (sub (codeOf Try.prog 182) [1, 1, 1, 0, 1, 0, 0]) (st 38 [(0, V.sc (.string s_)), (3, vI v1), (4, V.sc (.bool v2)), (5, vI v3)] [] []) (fun (y : Int) => (X.out 0, st 38 [(3, vI y)] [] []))) (impl_Luhn_l0 s_ fuel v1 v2 v3)
  | 0, _, _, _ => Pn.none
  | fuel + 1, v1, v2, v3 => by
    unfold impl_Luhn_l0
    exact
     Pn.ite (fun h3 =>
     Pn.ite (fun h4 =>
     Pn.ite (fun h5 =>
     Pn.ite (fun h6 =>
     LpO.go [.bit true, .bit true, .bit true, .wait 13, .mask [0, 3, 4, 5], .ren []] (p := [(decide (0 ≤ v3)) = true,(0 : Int) ≤ v3,(v3 : Int) < s_.size,v2 = true,(decide (9 < (i64 ((i64 (u8 ((sAt s_ v3) - 48))) * 2)))) = true]) (by kernel_rfl) (cj h3 (cj (od h3) (cj (od h4) (cj h5 (cj1 h6))))) (impl_Luhn_l0_ok s_ fuel (i64 (v1 + (i64 ((i64 ((i64 (u8 ((sAt s_ v3) - 48))) * 2)) - 9)))) (!v2) (i64 (v3 - 1)))) (fun h6 =>
     LpO.go [.bit true, .bit true, .bit false, .wait 10, .mask [0, 3, 4, 5], .ren []] (p := [(decide (0 ≤ v3)) = true,(0 : Int) ≤ v3,(v3 : Int) < s_.size,v2 = true,(decide (9 < (i64 ((i64 (u8 ((sAt s_ v3) - 48))) * 2)))) = false]) (by kernel_rfl) (cj h3 (cj (od h3) (cj (od h4) (cj h5 (cj1 h6))))) (impl_Luhn_l0_ok s_ fuel (i64 (v1 + (i64 ((i64 (u8 ((sAt s_ v3) - 48))) * 2)))) (!v2) (i64 (v3 - 1))))) (fun h5 =>
     LpO.go [.bit true, .bit false, .wait 10, .mask [0, 3, 4, 5], .ren []] (p := [(decide (0 ≤ v3)) = true,(0 : Int) ≤ v3,(v3 : Int) < s_.size,v2 = false]) (by kernel_rfl) (cj h3 (cj (od h3) (cj (od h4) (cj1 h5)))) (impl_Luhn_l0_ok s_ fuel (i64 (v1 + (i64 (u8 ((sAt s_ v3) - 48))))) (!v2) (i64 (v3 - 1))))) (fun h4 =>
     Pn.none)) (fun h3 =>
     Pn.some (LpO.out [.bit false, .mask [3], .ren []] (p := [(decide (0 ≤ v3)) = false]) (by kernel_rfl) (show X.out 0 ≠ X.go from nofun) (cj1 h3)))
def impl_Luhn (s_ : ByteArray) : Option (Int) :=
 (impl_Digits s_).bind fun r1 =>
 if r1 = true then
 (impl_Luhn_l0 s_ FUEL 0 true (i64 ((s_.size : Int) - 1))).bind fun r2 =>
 some (Int.tmod (i64 (10 - (Int.tmod r2 10))) 10)
 else
 some (-1)
theorem impl_Luhn_ok (s_ : ByteArray) : Pn (fun y => Fn Try.prog 182 [(false, E9 s_)] (E3 y) []) (impl_Luhn s_) := by
  unfold impl_Luhn
  exact
   Pn.bind (fun r1 h1 =>
   Pn.ite (fun h2 =>
   Pn.bind (fun r2 h7 =>
   Pn.some (Fn.of [.call [] (E4 r1) [], .bit false, .wait 6, .mask [0, 3, 4, 5], .ren [], .loop (X.out 0) (st 38 [(3, vI r2)] [] [])] (p := [Fn Try.prog 181 [(false, E9 s_)] (E4 r1) [],(true || ((E4 r1).nv && nvL [])) = true,(!r1) = false,Loop Try.prog (sub (codeOf Try.prog 182) [1, 1, 1, 0, 1, 0, 0]) (st 38 [(0, V.sc (.string s_)), (3, vI 0), (4, V.sc (.bool true)), (5, vI (i64 ((s_.size : Int) - 1)))] [] []) (X.out 0) (st 38 [(3, vI r2)] [] []),(10 : Int) ≠ 0,(10 : Int) ≠ 0]) (by kernel_rfl) (cj (impl_Digits_ok s_ r1 h1) (cj rfl (cj (nf h2) (cj (impl_Luhn_l0_ok s_ FUEL 0 true (i64 ((s_.size : Int) - 1)) r2 h7) (cj (by decide) (cj1 (by decide)))))))))) (fun h2 =>
   Pn.some (Fn.of [.call [] (E4 r1) [], .bit true] (p := [Fn Try.prog 181 [(false, E9 s_)] (E4 r1) [],(true || ((E4 r1).nv && nvL [])) = true,(!r1) = true]) (by kernel_rfl) (cj (impl_Digits_ok s_ r1 h1) (cj rfl (cj1 (nt h2)))))))
def impl_LuhnOk (s_ : ByteArray) : Option (Bool) :=
 if (decide (1 ≤ (i64 ((s_.size : Int) - 1)))) = true then
 (impl_Digits s_).bind fun r1 =>
 if r1 = true then
 if (decide (0 ≤ (i64 ((s_.size : Int) - 1)))) = true then
 if (decide ((i64 ((s_.size : Int) - 1)) ≤ (s_.size : Int))) = true then
 if (decide (0 ≤ i64 ((s_.size : Int) - 1))) = true then
 if (decide ((i64 ((s_.size : Int) - 1) : Int) < (s_.size : Int))) = true then
 (impl_Luhn (s_.extract 0 (i64 ((s_.size : Int) - 1)).toNat)).bind fun r2 =>
 some (r2 == (i64 (u8 ((sAt s_ (i64 ((s_.size : Int) - 1))) - 48))))
 else none
 else none
 else none
 else none
 else
 some false
 else
 some false
theorem impl_LuhnOk_ok (s_ : ByteArray) : Pn (fun y => Fn Try.prog 133 [(false, E9 s_)] (E4 y) []) (impl_LuhnOk s_) := by
  unfold impl_LuhnOk
  exact
   Pn.ite (fun h1 =>
   Pn.bind (fun r1 h2 =>
   Pn.ite (fun h3 =>
   Pn.ite (fun h4 =>
   Pn.ite (fun h5 =>
   Pn.ite (fun h6 =>
   Pn.ite (fun h7 =>
   Pn.bind (fun r2 h8 =>
   Pn.some (Fn.of [.draw [], .bit true, .bit true, .call [] (E4 r1) [], .bit true, .bit true, .bit true, .bit true, .bit true, .bit true, .bit true, .bit true, .bit true, .bit true, .call [] (E3 r2) [], .bit true, .bit true] (p := [(decide (1 ≤ (i64 ((s_.size : Int) - 1)))) = true,(decide (1 ≤ (i64 ((s_.size : Int) - 1)))) = true,Fn Try.prog 181 [(false, E9 s_)] (E4 r1) [],(true || ((E4 r1).nv && nvL [])) = true,(decide (1 ≤ (i64 ((s_.size : Int) - 1)))) = true,r1 = true,r1 = true,r1 = true,(0 : Int) ≤ 0,(0 : Int) ≤ (i64 ((s_.size : Int) - 1)),((i64 ((s_.size : Int) - 1)) : Int) ≤ (s_.size : Int),r1 = true,r1 = true,r1 = true,(0 : Int) ≤ i64 ((s_.size : Int) - 1),(i64 ((s_.size : Int) - 1) : Int) < s_.size,r1 = true,r1 = true,r1 = true,Fn Try.prog 182 [(false, E9 (s_.extract 0 (i64 ((s_.size : Int) - 1)).toNat))] (E3 r2) [],(true || ((E3 r2).nv && nvL [])) = true,r1 = true,r1 = true]) (by kernel_rfl) (cj h1 (cj h1 (cj (impl_Digits_ok s_ r1 h2) (cj rfl (cj h1 (cj h3 (cj h3 (cj h3 (cj (by decide) (cj (od h4) (cj (od h5) (cj h3 (cj h3 (cj h3 (cj (od h6) (cj (od h7) (cj h3 (cj h3 (cj h3 (cj (impl_Luhn_ok (s_.extract 0 (i64 ((s_.size : Int) - 1)).toNat) r2 h8) (cj rfl (cj h3 (cj1 h3)))))))))))))))))))))))))) (fun h7 =>
   Pn.none)) (fun h6 =>
   Pn.none)) (fun h5 =>
   Pn.none)) (fun h4 =>
   Pn.none)) (fun h3 =>
   Pn.some (Fn.of [.draw [], .bit true, .bit true, .call [] (E4 r1) [], .bit true, .bit false, .bit false, .bit false, .bit false, .bit false, .bit false, .bit false, .bit false, .bit false, .bit false, .bit false] (p := [(decide (1 ≤ (i64 ((s_.size : Int) - 1)))) = true,(decide (1 ≤ (i64 ((s_.size : Int) - 1)))) = true,Fn Try.prog 181 [(false, E9 s_)] (E4 r1) [],(true || ((E4 r1).nv && nvL [])) = true,(decide (1 ≤ (i64 ((s_.size : Int) - 1)))) = true,r1 = false,r1 = false,r1 = false,r1 = false,r1 = false,r1 = false,r1 = false,r1 = false,r1 = false,r1 = false,r1 = false]) (by kernel_rfl) (cj h1 (cj h1 (cj (impl_Digits_ok s_ r1 h2) (cj rfl (cj h1 (cj h3 (cj h3 (cj h3 (cj h3 (cj h3 (cj h3 (cj h3 (cj h3 (cj h3 (cj h3 (cj1 h3)))))))))))))))))))) (fun h1 =>
   Pn.some (Fn.of [.draw [], .bit false, .bit false, .bit false, .bit false, .bit false, .bit false, .bit false, .bit false, .bit false, .bit false, .bit false, .bit false, .bit false, .bit false] (p := [(decide (1 ≤ (i64 ((s_.size : Int) - 1)))) = false,(decide (1 ≤ (i64 ((s_.size : Int) - 1)))) = false,(decide (1 ≤ (i64 ((s_.size : Int) - 1)))) = false,false = false,false = false,false = false,false = false,false = false,false = false,false = false,false = false,false = false,false = false,false = false]) (by kernel_rfl) (cj h1 (cj h1 (cj h1 (cj rfl (cj rfl (cj rfl (cj rfl (cj rfl (cj rfl (cj rfl (cj rfl (cj rfl (cj rfl (cj1 rfl))))))))))))))))
def impl_AcctIdOk (s_ : ByteArray) : Option (Bool) :=
 if (decide ((s_.size : Int) ≤ 19)) = true then
 (impl_LuhnOk s_).bind fun r1 =>
 some r1
 else
 some false
theorem impl_AcctIdOk_ok (s_ : ByteArray) : Pn (fun y => Fn Try.prog 69 [(false, E9 s_)] (E4 y) []) (impl_AcctIdOk s_) := by
  unfold impl_AcctIdOk
  exact
   Pn.ite (fun h1 =>
   Pn.bind (fun r1 h2 =>
   Pn.some (Fn.of [.bit true, .bit true, .call [] (E4 r1) [], .bit true] (p := [(decide ((s_.size : Int) ≤ 19)) = true,(decide ((s_.size : Int) ≤ 19)) = true,Fn Try.prog 133 [(false, E9 s_)] (E4 r1) [],(true || ((E4 r1).nv && nvL [])) = true,(decide ((s_.size : Int) ≤ 19)) = true]) (by kernel_rfl) (cj h1 (cj h1 (cj (impl_LuhnOk_ok s_ r1 h2) (cj rfl (cj1 h1)))))))) (fun h1 =>
   Pn.some (Fn.of [.bit false, .bit false, .bit false] (p := [(decide ((s_.size : Int) ≤ 19)) = false,(decide ((s_.size : Int) ≤ 19)) = false,(decide ((s_.size : Int) ≤ 19)) = false]) (by kernel_rfl) (cj h1 (cj h1 (cj1 h1)))))
def impl_within (n : Int) (low : Int) (high : Int) : Option (Bool) :=
 if (decide (low ≤ n)) = true then
 some (decide (n ≤ high))
 else
 some false
theorem impl_within_ok (n : Int) (low : Int) (high : Int) : Pn (fun y => Fn Try.prog 70 [(false, E3 n), (false, E3 low), (false, E3 high)] (E4 y) []) (impl_within n low high) := by
  unfold impl_within
  exact
   Pn.ite (fun h1 =>
   Pn.some (Fn.of [.bit true, .bit true, .bit true, .bit true] (p := [(decide (low ≤ n)) = true,(decide (low ≤ n)) = true,(decide (low ≤ n)) = true,(decide (low ≤ n)) = true]) (by kernel_rfl) (cj h1 (cj h1 (cj h1 (cj1 h1)))))) (fun h1 =>
   Pn.some (Fn.of [.bit false, .bit false, .bit false, .bit false] (p := [(decide (low ≤ n)) = false,(decide (low ≤ n)) = false,(decide (low ≤ n)) = false,(decide (low ≤ n)) = false]) (by kernel_rfl) (cj h1 (cj h1 (cj h1 (cj1 h1))))))
def impl_isMoney (n : Int) : Option (Bool) :=
 (impl_within n 0 4611686018427387904).bind fun r1 =>
 some r1
theorem impl_isMoney_ok (n : Int) : Pn (fun y => Fn Try.prog 71 [(false, E3 n)] (E4 y) []) (impl_isMoney n) := by
  unfold impl_isMoney
  exact
   Pn.bind (fun r1 h1 =>
   Pn.some (Fn.of [.call [] (E4 r1) []] (p := [Fn Try.prog 70 [(false, E3 n), (false, E3 0), (false, E3 4611686018427387904)] (E4 r1) [],(true || ((E4 r1).nv && nvL [])) = true]) (by kernel_rfl) (cj (impl_within_ok n 0 4611686018427387904 r1 h1) (cj1 rfl))))
def impl_HoldIdOk_l0 (s_ : ByteArray) : Nat → Int → Option (Lo Unit Unit)
  | 0, _ => none
  | fuel + 1, v1 =>
   if (decide (v1 < (s_.size : Int))) = true then
   if (decide (0 ≤ v1)) = true then
   if (decide ((v1 : Int) < (s_.size : Int))) = true then
   if (decide ((sAt s_ v1) < 48)) = true then
   if (decide ((sAt s_ v1) < 97)) = true then
   some (.ret ())
   else
   if (decide (122 < (sAt s_ v1))) = true then
   some (.ret ())
   else
   impl_HoldIdOk_l0 s_ fuel (i64 (v1 + 1))
   else
   if (decide (57 < (sAt s_ v1))) = true then
   if (decide ((sAt s_ v1) < 97)) = true then
   some (.ret ())
   else
   if (decide (122 < (sAt s_ v1))) = true then
   some (.ret ())
   else
   impl_HoldIdOk_l0 s_ fuel (i64 (v1 + 1))
   else
   impl_HoldIdOk_l0 s_ fuel (i64 (v1 + 1))
   else none
   else none
   else
   some (.out ())
theorem impl_HoldIdOk_l0_ok (s_ : ByteArray) : ∀ (fuel : Nat) (v1 : Int), Pn (LpO Try.prog (sub (codeOf Try.prog 61) [1, 0, 1, 0, 0]) (st 35 [(0, V.sc (.string s_)), (5, vI (s_.size : Int)), (6, vI v1)] [] []) (fun (y : Lo Unit Unit) => Lo.elim y (fun s => (X.out 0, st 35 [(0, V.sc (.string s_))] [] [])) (fun s => (X.ret, st 35 [(2, V.sc (.bool false))] [] [])))) (impl_HoldIdOk_l0 s_ fuel v1)
  | 0, _ => Pn.none
  | fuel + 1, v1 => by
    unfold impl_HoldIdOk_l0
    exact
     Pn.ite (fun h1 =>
     Pn.ite (fun h2 =>
     Pn.ite (fun h3 =>
     Pn.ite (fun h4 =>
     Pn.ite (fun h5 =>
     Pn.some (LpO.out [.bit true, .bit true, .bit true, .bit true, .bit true, .bit true, .bit true, .bit true, .bit true, .bit true, .bit true, .bit true, .bit true, .bit true, .bit true, .bit true, .bit true, .bit true, .bit true, .wait 1, .mask [2], .ren []] (p := [(decide (v1 < (s_.size : Int))) = true,(0 : Int) ≤ v1,(v1 : Int) < s_.size,(decide ((sAt s_ v1) < 48)) = true,(decide ((sAt s_ v1) < 48)) = true,(decide ((sAt s_ v1) < 48)) = true,(decide ((sAt s_ v1) < 48)) = true,(decide ((sAt s_ v1) < 48)) = true,true = true,true = true,true = true,(0 : Int) ≤ v1,(v1 : Int) < s_.size,true = true,true = true,(decide ((sAt s_ v1) < 97)) = true,(decide ((sAt s_ v1) < 97)) = true,(decide ((sAt s_ v1) < 97)) = true,(decide ((sAt s_ v1) < 97)) = true,true = true,(decide ((sAt s_ v1) < 97)) = true,true = true,true = true]) (by kernel_rfl) (show X.ret ≠ X.go from nofun) (cj h1 (cj (od h2) (cj (od h3) (cj h4 (cj h4 (cj h4 (cj h4 (cj h4 (cj rfl (cj rfl (cj rfl (cj (od h2) (cj (od h3) (cj rfl (cj rfl (cj h5 (cj h5 (cj h5 (cj h5 (cj rfl (cj h5 (cj rfl (cj1 rfl))))))))))))))))))))))))) (fun h5 =>
     Pn.ite (fun h6 =>
     Pn.some (LpO.out [.bit true, .bit true, .bit true, .bit true, .bit true, .bit true, .bit true, .bit true, .bit true, .bit true, .bit true, .bit false, .bit false, .bit false, .bit false, .bit true, .bit false, .bit true, .bit true, .wait 1, .mask [2], .ren []] (p := [(decide (v1 < (s_.size : Int))) = true,(0 : Int) ≤ v1,(v1 : Int) < s_.size,(decide ((sAt s_ v1) < 48)) = true,(decide ((sAt s_ v1) < 48)) = true,(decide ((sAt s_ v1) < 48)) = true,(decide ((sAt s_ v1) < 48)) = true,(decide ((sAt s_ v1) < 48)) = true,true = true,true = true,true = true,(0 : Int) ≤ v1,(v1 : Int) < s_.size,true = true,true = true,(decide ((sAt s_ v1) < 97)) = false,(decide ((sAt s_ v1) < 97)) = false,(decide ((sAt s_ v1) < 97)) = false,(0 : Int) ≤ v1,(v1 : Int) < s_.size,(decide ((sAt s_ v1) < 97)) = false,true = true,(decide ((sAt s_ v1) < 97)) = false,true = true,(decide (122 < (sAt s_ v1))) = true]) (by kernel_rfl) (show X.ret ≠ X.go from nofun) (cj h1 (cj (od h2) (cj (od h3) (cj h4 (cj h4 (cj h4 (cj h4 (cj h4 (cj rfl (cj rfl (cj rfl (cj (od h2) (cj (od h3) (cj rfl (cj rfl (cj h5 (cj h5 (cj h5 (cj (od h2) (cj (od h3) (cj h5 (cj rfl (cj h5 (cj rfl (cj1 h6))))))))))))))))))))))))))) (fun h6 =>
     LpO.go [.bit true, .bit true, .bit true, .bit true, .bit true, .bit true, .bit true, .bit true, .bit true, .bit true, .bit true, .bit false, .bit false, .bit false, .bit false, .bit true, .bit false, .bit true, .bit false, .wait 2, .mask [0, 5, 6], .ren []] (p := [(decide (v1 < (s_.size : Int))) = true,(0 : Int) ≤ v1,(v1 : Int) < s_.size,(decide ((sAt s_ v1) < 48)) = true,(decide ((sAt s_ v1) < 48)) = true,(decide ((sAt s_ v1) < 48)) = true,(decide ((sAt s_ v1) < 48)) = true,(decide ((sAt s_ v1) < 48)) = true,true = true,true = true,true = true,(0 : Int) ≤ v1,(v1 : Int) < s_.size,true = true,true = true,(decide ((sAt s_ v1) < 97)) = false,(decide ((sAt s_ v1) < 97)) = false,(decide ((sAt s_ v1) < 97)) = false,(0 : Int) ≤ v1,(v1 : Int) < s_.size,(decide ((sAt s_ v1) < 97)) = false,true = true,(decide ((sAt s_ v1) < 97)) = false,true = true,(decide (122 < (sAt s_ v1))) = false]) (by kernel_rfl) (cj h1 (cj (od h2) (cj (od h3) (cj h4 (cj h4 (cj h4 (cj h4 (cj h4 (cj rfl (cj rfl (cj rfl (cj (od h2) (cj (od h3) (cj rfl (cj rfl (cj h5 (cj h5 (cj h5 (cj (od h2) (cj (od h3) (cj h5 (cj rfl (cj h5 (cj rfl (cj1 h6))))))))))))))))))))))))) (impl_HoldIdOk_l0_ok s_ fuel (i64 (v1 + 1)))))) (fun h4 =>
     Pn.ite (fun h7 =>
     Pn.ite (fun h8 =>
     Pn.some (LpO.out [.bit true, .bit false, .bit false, .bit false, .bit false, .bit false, .bit true, .bit true, .bit true, .bit true, .bit true, .bit true, .bit true, .bit true, .bit true, .bit true, .bit true, .bit true, .bit true, .wait 1, .mask [2], .ren []] (p := [(decide (v1 < (s_.size : Int))) = true,(0 : Int) ≤ v1,(v1 : Int) < s_.size,(decide ((sAt s_ v1) < 48)) = false,(decide ((sAt s_ v1) < 48)) = false,(decide ((sAt s_ v1) < 48)) = false,(0 : Int) ≤ v1,(v1 : Int) < s_.size,(decide ((sAt s_ v1) < 48)) = false,(decide ((sAt s_ v1) < 48)) = false,(decide (57 < (sAt s_ v1))) = true,(decide (57 < (sAt s_ v1))) = true,(decide (57 < (sAt s_ v1))) = true,(0 : Int) ≤ v1,(v1 : Int) < s_.size,(decide (57 < (sAt s_ v1))) = true,(decide (57 < (sAt s_ v1))) = true,(decide ((sAt s_ v1) < 97)) = true,(decide ((sAt s_ v1) < 97)) = true,(decide ((sAt s_ v1) < 97)) = true,(decide ((sAt s_ v1) < 97)) = true,(decide (57 < (sAt s_ v1))) = true,(decide ((sAt s_ v1) < 97)) = true,(decide (57 < (sAt s_ v1))) = true,true = true]) (by kernel_rfl) (show X.ret ≠ X.go from nofun) (cj h1 (cj (od h2) (cj (od h3) (cj h4 (cj h4 (cj h4 (cj (od h2) (cj (od h3) (cj h4 (cj h4 (cj h7 (cj h7 (cj h7 (cj (od h2) (cj (od h3) (cj h7 (cj h7 (cj h8 (cj h8 (cj h8 (cj h8 (cj h7 (cj h8 (cj h7 (cj1 rfl))))))))))))))))))))))))))) (fun h8 =>
     Pn.ite (fun h9 =>
     Pn.some (LpO.out [.bit true, .bit false, .bit false, .bit false, .bit false, .bit false, .bit true, .bit true, .bit true, .bit true, .bit true, .bit false, .bit false, .bit false, .bit false, .bit true, .bit false, .bit true, .bit true, .wait 1, .mask [2], .ren []] (p := [(decide (v1 < (s_.size : Int))) = true,(0 : Int) ≤ v1,(v1 : Int) < s_.size,(decide ((sAt s_ v1) < 48)) = false,(decide ((sAt s_ v1) < 48)) = false,(decide ((sAt s_ v1) < 48)) = false,(0 : Int) ≤ v1,(v1 : Int) < s_.size,(decide ((sAt s_ v1) < 48)) = false,(decide ((sAt s_ v1) < 48)) = false,(decide (57 < (sAt s_ v1))) = true,(decide (57 < (sAt s_ v1))) = true,(decide (57 < (sAt s_ v1))) = true,(0 : Int) ≤ v1,(v1 : Int) < s_.size,(decide (57 < (sAt s_ v1))) = true,(decide (57 < (sAt s_ v1))) = true,(decide ((sAt s_ v1) < 97)) = false,(decide ((sAt s_ v1) < 97)) = false,(decide ((sAt s_ v1) < 97)) = false,(0 : Int) ≤ v1,(v1 : Int) < s_.size,(decide ((sAt s_ v1) < 97)) = false,(decide (57 < (sAt s_ v1))) = true,(decide ((sAt s_ v1) < 97)) = false,(decide (57 < (sAt s_ v1))) = true,(decide (122 < (sAt s_ v1))) = true]) (by kernel_rfl) (show X.ret ≠ X.go from nofun) (cj h1 (cj (od h2) (cj (od h3) (cj h4 (cj h4 (cj h4 (cj (od h2) (cj (od h3) (cj h4 (cj h4 (cj h7 (cj h7 (cj h7 (cj (od h2) (cj (od h3) (cj h7 (cj h7 (cj h8 (cj h8 (cj h8 (cj (od h2) (cj (od h3) (cj h8 (cj h7 (cj h8 (cj h7 (cj1 h9))))))))))))))))))))))))))))) (fun h9 =>
     LpO.go [.bit true, .bit false, .bit false, .bit false, .bit false, .bit false, .bit true, .bit true, .bit true, .bit true, .bit true, .bit false, .bit false, .bit false, .bit false, .bit true, .bit false, .bit true, .bit false, .wait 2, .mask [0, 5, 6], .ren []] (p := [(decide (v1 < (s_.size : Int))) = true,(0 : Int) ≤ v1,(v1 : Int) < s_.size,(decide ((sAt s_ v1) < 48)) = false,(decide ((sAt s_ v1) < 48)) = false,(decide ((sAt s_ v1) < 48)) = false,(0 : Int) ≤ v1,(v1 : Int) < s_.size,(decide ((sAt s_ v1) < 48)) = false,(decide ((sAt s_ v1) < 48)) = false,(decide (57 < (sAt s_ v1))) = true,(decide (57 < (sAt s_ v1))) = true,(decide (57 < (sAt s_ v1))) = true,(0 : Int) ≤ v1,(v1 : Int) < s_.size,(decide (57 < (sAt s_ v1))) = true,(decide (57 < (sAt s_ v1))) = true,(decide ((sAt s_ v1) < 97)) = false,(decide ((sAt s_ v1) < 97)) = false,(decide ((sAt s_ v1) < 97)) = false,(0 : Int) ≤ v1,(v1 : Int) < s_.size,(decide ((sAt s_ v1) < 97)) = false,(decide (57 < (sAt s_ v1))) = true,(decide ((sAt s_ v1) < 97)) = false,(decide (57 < (sAt s_ v1))) = true,(decide (122 < (sAt s_ v1))) = false]) (by kernel_rfl) (cj h1 (cj (od h2) (cj (od h3) (cj h4 (cj h4 (cj h4 (cj (od h2) (cj (od h3) (cj h4 (cj h4 (cj h7 (cj h7 (cj h7 (cj (od h2) (cj (od h3) (cj h7 (cj h7 (cj h8 (cj h8 (cj h8 (cj (od h2) (cj (od h3) (cj h8 (cj h7 (cj h8 (cj h7 (cj1 h9))))))))))))))))))))))))))) (impl_HoldIdOk_l0_ok s_ fuel (i64 (v1 + 1)))))) (fun h7 =>
     LpO.go [.bit true, .bit false, .bit false, .bit false, .bit false, .bit false, .bit false, .bit false, .bit false, .bit false, .bit false, .bit false, .bit false, .bit false, .wait 2, .mask [0, 5, 6], .ren []] (p := [(decide (v1 < (s_.size : Int))) = true,(0 : Int) ≤ v1,(v1 : Int) < s_.size,(decide ((sAt s_ v1) < 48)) = false,(decide ((sAt s_ v1) < 48)) = false,(decide ((sAt s_ v1) < 48)) = false,(0 : Int) ≤ v1,(v1 : Int) < s_.size,(decide ((sAt s_ v1) < 48)) = false,(decide ((sAt s_ v1) < 48)) = false,(decide (57 < (sAt s_ v1))) = false,(decide (57 < (sAt s_ v1))) = false,(decide (57 < (sAt s_ v1))) = false,(decide (57 < (sAt s_ v1))) = false,(decide (57 < (sAt s_ v1))) = false,(decide (57 < (sAt s_ v1))) = false,(decide (57 < (sAt s_ v1))) = false,false = false]) (by kernel_rfl) (cj h1 (cj (od h2) (cj (od h3) (cj h4 (cj h4 (cj h4 (cj (od h2) (cj (od h3) (cj h4 (cj h4 (cj h7 (cj h7 (cj h7 (cj h7 (cj h7 (cj h7 (cj h7 (cj1 rfl)))))))))))))))))) (impl_HoldIdOk_l0_ok s_ fuel (i64 (v1 + 1)))))) (fun h3 =>
     Pn.none)) (fun h2 =>
     Pn.none)) (fun h1 =>
     Pn.some (LpO.out [.bit false, .mask [0], .ren []] (p := [(decide (v1 < (s_.size : Int))) = false]) (by kernel_rfl) (show X.out 0 ≠ X.go from nofun) (cj1 h1)))
def impl_HoldIdOk (s_ : ByteArray) : Option (Bool) :=
 (impl_HoldIdOk_l0 s_ FUEL 0).bind fun r1 =>
 Lo.elim r1 (fun s1 =>
 (impl_within (s_.size : Int) 1 6).bind fun r2 =>
 some r2) (fun s2 =>
 some false)
theorem impl_HoldIdOk_ok (s_ : ByteArray) : Pn (fun y => Fn Try.prog 61 [(false, E9 s_)] (E4 y) []) (impl_HoldIdOk s_) := by
  unfold impl_HoldIdOk
  exact
   Pn.bind (fun r1 h10 =>
   Pn.lo (fun s1 h11 =>
   Pn.bind (fun r2 h13 =>
   Pn.some (Fn.of [.wait 5, .mask [0, 5, 6], .ren [], .loop (X.out 0) (st 35 [(0, V.sc (.string s_))] [] []), .call [] (E4 r2) []] (p := [Loop Try.prog (sub (codeOf Try.prog 61) [1, 0, 1, 0, 0]) (st 35 [(0, V.sc (.string s_)), (5, vI (s_.size : Int)), (6, vI 0)] [] []) (X.out 0) (st 35 [(0, V.sc (.string s_))] [] []),Fn Try.prog 70 [(false, E3 (s_.size : Int)), (false, E3 1), (false, E3 6)] (E4 r2) [],(true || ((E4 r2).nv && nvL [])) = true]) (by kernel_rfl) (cj ((impl_HoldIdOk_l0_ok s_ FUEL 0 r1 h10).at h11) (cj (impl_within_ok (s_.size : Int) 1 6 r2 h13) (cj1 rfl)))))) (fun s2 h12 =>
   Pn.some (Fn.of [.wait 5, .mask [0, 5, 6], .ren [], .loop (X.ret) (st 35 [(2, V.sc (.bool false))] [] [])] (p := [Loop Try.prog (sub (codeOf Try.prog 61) [1, 0, 1, 0, 0]) (st 35 [(0, V.sc (.string s_)), (5, vI (s_.size : Int)), (6, vI 0)] [] []) (X.ret) (st 35 [(2, V.sc (.bool false))] [] [])]) (by kernel_rfl) (cj1 ((impl_HoldIdOk_l0_ok s_ FUEL 0 r1 h10).at h12)))))
def impl_isTime (n : Int) : Option (Bool) :=
 (impl_within n 0 1000000000).bind fun r1 =>
 some r1
theorem impl_isTime_ok (n : Int) : Pn (fun y => Fn Try.prog 66 [(false, E3 n)] (E4 y) []) (impl_isTime n) := by
  unfold impl_isTime
  exact
   Pn.bind (fun r1 h1 =>
   Pn.some (Fn.of [.call [] (E4 r1) []] (p := [Fn Try.prog 70 [(false, E3 n), (false, E3 0), (false, E3 1000000000)] (E4 r1) [],(true || ((E4 r1).nv && nvL [])) = true]) (by kernel_rfl) (cj (impl_within_ok n 0 1000000000 r1 h1) (cj1 rfl))))
def impl_HoldOk (h_ : Hold) : Option (Bool) :=
 (impl_HoldIdOk h_.Id).bind fun r1 =>
 if r1 = true then
 (impl_within h_.Amount 1 9007199254740992).bind fun r2 =>
 if r2 = true then
 (impl_isTime h_.Due).bind fun r3 =>
 some r3
 else
 some false
 else
 some false
theorem impl_HoldOk_ok (h_ : Hold) : Pn (fun y => Fn Try.prog 134 [(false, E36 h_)] (E4 y) []) (impl_HoldOk h_) := by
  unfold impl_HoldOk
  exact
   Pn.bind (fun r1 h1 =>
   Pn.ite (fun h2 =>
   Pn.bind (fun r2 h3 =>
   Pn.ite (fun h4 =>
   Pn.bind (fun r3 h5 =>
   Pn.some (Fn.of [.call [] (E4 r1) [], .bit true, .bit true, .bit true, .call [] (E4 r2) [], .bit true, .bit true, .bit true, .bit true, .call [] (E4 r3) [], .bit true] (p := [Fn Try.prog 61 [(false, E9 h_.Id)] (E4 r1) [],(true || ((E4 r1).nv && nvL [])) = true,r1 = true,r1 = true,r1 = true,Fn Try.prog 70 [(false, E3 h_.Amount), (false, E3 1), (false, E3 9007199254740992)] (E4 r2) [],(true || ((E4 r2).nv && nvL [])) = true,r1 = true,r2 = true,r2 = true,r2 = true,Fn Try.prog 66 [(false, E3 h_.Due)] (E4 r3) [],(true || ((E4 r3).nv && nvL [])) = true,r2 = true]) (by kernel_rfl) (cj (impl_HoldIdOk_ok h_.Id r1 h1) (cj rfl (cj h2 (cj h2 (cj h2 (cj (impl_within_ok h_.Amount 1 9007199254740992 r2 h3) (cj rfl (cj h2 (cj h4 (cj h4 (cj h4 (cj (impl_isTime_ok h_.Due r3 h5) (cj rfl (cj1 h4))))))))))))))))) (fun h4 =>
   Pn.some (Fn.of [.call [] (E4 r1) [], .bit true, .bit true, .bit true, .call [] (E4 r2) [], .bit true, .bit false, .bit false, .bit false, .bit false] (p := [Fn Try.prog 61 [(false, E9 h_.Id)] (E4 r1) [],(true || ((E4 r1).nv && nvL [])) = true,r1 = true,r1 = true,r1 = true,Fn Try.prog 70 [(false, E3 h_.Amount), (false, E3 1), (false, E3 9007199254740992)] (E4 r2) [],(true || ((E4 r2).nv && nvL [])) = true,r1 = true,r2 = false,r2 = false,r2 = false,r2 = false]) (by kernel_rfl) (cj (impl_HoldIdOk_ok h_.Id r1 h1) (cj rfl (cj h2 (cj h2 (cj h2 (cj (impl_within_ok h_.Amount 1 9007199254740992 r2 h3) (cj rfl (cj h2 (cj h4 (cj h4 (cj h4 (cj1 h4)))))))))))))))) (fun h2 =>
   Pn.some (Fn.of [.call [] (E4 r1) [], .bit false, .bit false, .bit false, .bit false, .bit false, .bit false, .bit false, .bit false] (p := [Fn Try.prog 61 [(false, E9 h_.Id)] (E4 r1) [],(true || ((E4 r1).nv && nvL [])) = true,r1 = false,r1 = false,r1 = false,r1 = false,false = false,false = false,false = false,false = false]) (by kernel_rfl) (cj (impl_HoldIdOk_ok h_.Id r1 h1) (cj rfl (cj h2 (cj h2 (cj h2 (cj h2 (cj rfl (cj rfl (cj rfl (cj1 rfl)))))))))))))
def impl_HoldsOk_l0 (l : List Hold) : List Hold → List Hold → Option (Lo Unit Unit)
  | [], p1 =>
   some (.out ())
  | x1 :: t1, p1 =>
   (impl_HoldOk x1).bind fun r1 =>
   if r1 = true then
   if (decide (0 < (p1.length : Int))) = true then
   if (decide (0 ≤ (i64 ((p1.length : Int) - 1)))) = true then
   (l[(i64 ((p1.length : Int) - 1)).toNat]?).bind fun x2 =>
   if (Op.bytesLess x1.Id.toList x2.Id.toList || (x1.Id == x2.Id)) = true then
   some (.ret ())
   else
   impl_HoldsOk_l0 l t1 (p1 ++ [x1])
   else none
   else
   impl_HoldsOk_l0 l t1 (p1 ++ [x1])
   else
   some (.ret ())
theorem impl_HoldsOk_l0_ok (l : List Hold) (h2 : capOk l.length = true) : ∀ (t1 p1 : List Hold) (_ : l = p1 ++ t1) , Pn (LpO Try.prog (sub (codeOf Try.prog 72) [1, 0, 1, 0, 0]) (st 34 [(0, V.sl false 36 (List.map E36 l)), (5, V.sl false 36 (List.map E36 l)), (6, vI (l.length : Int)), (7, vI (p1.length : Int))] [] []) (fun (y : Lo Unit Unit) => Lo.elim y (fun s => (X.out 0, st 34 [(0, V.sl false 36 (List.map E36 l))] [] [])) (fun s => (X.ret, st 34 [(2, V.sc (.bool false))] [] [])))) (impl_HoldsOk_l0 l t1 p1)
  | [], p1, h1 => by
    unfold impl_HoldsOk_l0
    exact
     Pn.some (LpO.out [.bit false, .mask [0], .ren []] (p := [(decide ((p1.length : Int) < (l.length : Int))) = false]) (by kernel_rfl) (show X.out 0 ≠ X.go from nofun) (cj1 (rng_end h1)))
  | x1 :: t1, p1, h1 => by
    unfold impl_HoldsOk_l0
    exact
     Pn.bind (fun r1 h3 =>
     Pn.ite (fun h4 =>
     Pn.ite (fun h5 =>
     Pn.ite (fun h6 =>
     Pn.bind (fun x2 h7 =>
     Pn.ite (fun h8 =>
     Pn.some (LpO.out [.bit true, .el (E36 x1), .draw [], .call [] (E4 r1) [], .bit false, .bit false, .bit false, .bit true, .bit true, .bit true, .bit true, .bit true, .bit true, .el (E36 x2), .bit true, .bit true, .bit true, .bit false, .bit true, .bit false, .bit true, .wait 1, .mask [2], .ren []] (p := [(decide ((p1.length : Int) < (l.length : Int))) = true,(0 : Int) ≤ (p1.length : Int),(List.map E36 l)[(p1.length : Int).toNat]? = some (E36 x1),Fn Try.prog 134 [(false, E36 x1)] (E4 r1) [],(true || ((E4 r1).nv && nvL [])) = true,(!r1) = false,(!r1) = false,(!r1) = false,(decide (0 < (p1.length : Int))) = true,(decide (0 < (p1.length : Int))) = true,(decide (0 < (p1.length : Int))) = true,(decide (0 < (p1.length : Int))) = true,(decide (0 < (p1.length : Int))) = true,(decide (0 < (p1.length : Int))) = true,(0 : Int) ≤ (i64 ((p1.length : Int) - 1)),(List.map E36 l)[(i64 ((p1.length : Int) - 1)).toNat]? = some (E36 x2),(decide (0 < (p1.length : Int))) = true,(decide (0 < (p1.length : Int))) = true,(decide (0 < (p1.length : Int))) = true,(!r1) = false,(decide (0 < (p1.length : Int))) = true,(!r1) = false,(Op.bytesLess x1.Id.toList x2.Id.toList || (x1.Id == x2.Id)) = true]) (by kernel_rfl) (show X.ret ≠ X.go from nofun) (cj (rng_lt h1) (cj (by omega) (cj (rng_get _ h1) (cj (impl_HoldOk_ok x1 r1 h3) (cj rfl (cj (nf h4) (cj (nf h4) (cj (nf h4) (cj h5 (cj h5 (cj h5 (cj h5 (cj h5 (cj h5 (cj (od h6) (cj (map_get h7) (cj h5 (cj h5 (cj h5 (cj (nf h4) (cj h5 (cj (nf h4) (cj1 h8))))))))))))))))))))))))) (fun h8 =>
     LpO.go [.bit true, .el (E36 x1), .draw [], .call [] (E4 r1) [], .bit false, .bit false, .bit false, .bit true, .bit true, .bit true, .bit true, .bit true, .bit true, .el (E36 x2), .bit true, .bit true, .bit true, .bit false, .bit true, .bit false, .bit false, .wait 2, .mask [0, 5, 6, 7], .ren [], .nm 7 (vI ((p1 ++ [x1]).length : Int))] (p := [(decide ((p1.length : Int) < (l.length : Int))) = true,(0 : Int) ≤ (p1.length : Int),(List.map E36 l)[(p1.length : Int).toNat]? = some (E36 x1),Fn Try.prog 134 [(false, E36 x1)] (E4 r1) [],(true || ((E4 r1).nv && nvL [])) = true,(!r1) = false,(!r1) = false,(!r1) = false,(decide (0 < (p1.length : Int))) = true,(decide (0 < (p1.length : Int))) = true,(decide (0 < (p1.length : Int))) = true,(decide (0 < (p1.length : Int))) = true,(decide (0 < (p1.length : Int))) = true,(decide (0 < (p1.length : Int))) = true,(0 : Int) ≤ (i64 ((p1.length : Int) - 1)),(List.map E36 l)[(i64 ((p1.length : Int) - 1)).toNat]? = some (E36 x2),(decide (0 < (p1.length : Int))) = true,(decide (0 < (p1.length : Int))) = true,(decide (0 < (p1.length : Int))) = true,(!r1) = false,(decide (0 < (p1.length : Int))) = true,(!r1) = false,(Op.bytesLess x1.Id.toList x2.Id.toList || (x1.Id == x2.Id)) = false,vI (i64 ((p1.length : Int) + 1)) = vI ((p1 ++ [x1]).length : Int)]) (by kernel_rfl) (cj (rng_lt h1) (cj (by omega) (cj (rng_get _ h1) (cj (impl_HoldOk_ok x1 r1 h3) (cj rfl (cj (nf h4) (cj (nf h4) (cj (nf h4) (cj h5 (cj h5 (cj h5 (cj h5 (cj h5 (cj h5 (cj (od h6) (cj (map_get h7) (cj h5 (cj h5 (cj h5 (cj (nf h4) (cj h5 (cj (nf h4) (cj h8 (cj1 (rng_next h1 h2))))))))))))))))))))))))) (impl_HoldsOk_l0_ok l h2 t1 (p1 ++ [x1]) (rng_step h1))))) (fun h6 =>
     Pn.none)) (fun h5 =>
     LpO.go [.bit true, .el (E36 x1), .draw [], .call [] (E4 r1) [], .bit false, .bit false, .bit false, .bit false, .bit false, .bit false, .bit false, .bit false, .bit false, .bit false, .bit false, .bit false, .bit false, .bit false, .bit false, .bit false, .wait 2, .mask [0, 5, 6, 7], .ren [], .nm 7 (vI ((p1 ++ [x1]).length : Int))] (p := [(decide ((p1.length : Int) < (l.length : Int))) = true,(0 : Int) ≤ (p1.length : Int),(List.map E36 l)[(p1.length : Int).toNat]? = some (E36 x1),Fn Try.prog 134 [(false, E36 x1)] (E4 r1) [],(true || ((E4 r1).nv && nvL [])) = true,(!r1) = false,(!r1) = false,(!r1) = false,(decide (0 < (p1.length : Int))) = false,(decide (0 < (p1.length : Int))) = false,(decide (0 < (p1.length : Int))) = false,(decide (0 < (p1.length : Int))) = false,(decide (0 < (p1.length : Int))) = false,(decide (0 < (p1.length : Int))) = false,(decide (0 < (p1.length : Int))) = false,(decide (0 < (p1.length : Int))) = false,(decide (0 < (p1.length : Int))) = false,(!r1) = false,(decide (0 < (p1.length : Int))) = false,(!r1) = false,false = false,vI (i64 ((p1.length : Int) + 1)) = vI ((p1 ++ [x1]).length : Int)]) (by kernel_rfl) (cj (rng_lt h1) (cj (by omega) (cj (rng_get _ h1) (cj (impl_HoldOk_ok x1 r1 h3) (cj rfl (cj (nf h4) (cj (nf h4) (cj (nf h4) (cj h5 (cj h5 (cj h5 (cj h5 (cj h5 (cj h5 (cj h5 (cj h5 (cj h5 (cj (nf h4) (cj h5 (cj (nf h4) (cj rfl (cj1 (rng_next h1 h2))))))))))))))))))))))) (impl_HoldsOk_l0_ok l h2 t1 (p1 ++ [x1]) (rng_step h1)))) (fun h4 =>
     Pn.some (LpO.out [.bit true, .el (E36 x1), .draw [], .call [] (E4 r1) [], .bit true, .bit true, .bit true, .bit true, .bit true, .bit true, .wait 1, .mask [2], .ren []] (p := [(decide ((p1.length : Int) < (l.length : Int))) = true,(0 : Int) ≤ (p1.length : Int),(List.map E36 l)[(p1.length : Int).toNat]? = some (E36 x1),Fn Try.prog 134 [(false, E36 x1)] (E4 r1) [],(true || ((E4 r1).nv && nvL [])) = true,(!r1) = true,(!r1) = true,(!r1) = true,(!r1) = true,(!r1) = true,true = true]) (by kernel_rfl) (show X.ret ≠ X.go from nofun) (cj (rng_lt h1) (cj (by omega) (cj (rng_get _ h1) (cj (impl_HoldOk_ok x1 r1 h3) (cj rfl (cj (nt h4) (cj (nt h4) (cj (nt h4) (cj (nt h4) (cj (nt h4) (cj1 rfl))))))))))))))
def impl_HoldsOk (l : List Hold) : Option (Bool) :=
 if (capOk l.length) = true then
 (impl_HoldsOk_l0 l l []).bind fun r2 =>
 Lo.elim r2 (fun s1 =>
 some (decide ((l.length : Int) ≤ 4))) (fun s2 =>
 some false)
 else none
theorem impl_HoldsOk_ok (l : List Hold) : Pn (fun y => Fn Try.prog 72 [(false, E23 l)] (E4 y) []) (impl_HoldsOk l) := by
  unfold impl_HoldsOk
  exact
   Pn.ite (fun h9 =>
   Pn.bind (fun r2 h10 =>
   Pn.lo (fun s1 h11 =>
   Pn.some (Fn.of [.wait 3, .nm 6 (vI (l.length : Int)), .wait 2, .mask [0, 5, 6, 7], .ren [], .loop (X.out 0) (st 34 [(0, V.sl false 36 (List.map E36 l))] [] []), .wait 2, .nm 32 (vI (l.length : Int))] (p := [vI ((List.map E36 l).length : Int) = vI (l.length : Int),Loop Try.prog (sub (codeOf Try.prog 72) [1, 0, 1, 0, 0]) (st 34 [(0, V.sl false 36 (List.map E36 l)), (5, V.sl false 36 (List.map E36 l)), (6, vI (l.length : Int)), (7, vI 0)] [] []) (X.out 0) (st 34 [(0, V.sl false 36 (List.map E36 l))] [] []),vI ((List.map E36 l).length : Int) = vI (l.length : Int)]) (by kernel_rfl) (cj (len_nm _ _) (cj ((impl_HoldsOk_l0_ok l h9 l [] rfl r2 h10).at h11) (cj1 (len_nm _ _)))))) (fun s2 h12 =>
   Pn.some (Fn.of [.wait 3, .nm 6 (vI (l.length : Int)), .wait 2, .mask [0, 5, 6, 7], .ren [], .loop (X.ret) (st 34 [(2, V.sc (.bool false))] [] [])] (p := [vI ((List.map E36 l).length : Int) = vI (l.length : Int),Loop Try.prog (sub (codeOf Try.prog 72) [1, 0, 1, 0, 0]) (st 34 [(0, V.sl false 36 (List.map E36 l)), (5, V.sl false 36 (List.map E36 l)), (6, vI (l.length : Int)), (7, vI 0)] [] []) (X.ret) (st 34 [(2, V.sc (.bool false))] [] [])]) (by kernel_rfl) (cj (len_nm _ _) (cj1 ((impl_HoldsOk_l0_ok l h9 l [] rfl r2 h10).at h12))))))) (fun h9 =>
   Pn.none)
def slices_Grow_int_nil (n : Int) : Option ((List Int)) :=
 if (decide (n < 0)) = true then none else
 if (decide (0 < (i64 (n - 0)))) = true then
 if (capOk (i64 (n - 0)).toNat) = true then
 some []
 else none
 else
 some []
theorem slices_Grow_int_nil_ok (n : Int) : Pn (fun y => Fn Try.prog 183 [(false, V.nl 3), (false, E3 n)] (E24 y) []) (slices_Grow_int_nil n) := by
  unfold slices_Grow_int_nil
  exact
   Pn.ite (fun h1 =>
   Pn.none) (fun h1 =>
   Pn.ite (fun h2 =>
   Pn.ite (fun h3 =>
   Pn.some (Fn.of [.bit false, .bit true, .wait 5, .nb 0 (.row 3 (List.map E3 (List.replicate ((i64 (n - 0)).toNat) 0)) [])] (p := [(decide (n < 0)) = false,(decide (0 < (i64 (n - 0)))) = true,(0 : Int) ≤ 0,(0 : Int) ≤ 0,(0 : Int) ≤ 0,(0 : Int) < (i64 (n - 0)),((i64 (n - 0)) : Int) ≤ 9223372036854775807,(i64 (n - 0)).toNat * 8 ≤ 140737488355328,Blk.row 3 (List.replicate ((i64 (n - 0)).toNat) (vI 0)) [] = Blk.row 3 (List.map E3 (List.replicate ((i64 (n - 0)).toNat) 0)) [],(0 : Int) ≤ 0,(0 : Int) ≤ 0,(0 : Int) ≤ ((List.map E3 (List.replicate ((i64 (n - 0)).toNat) 0)).length : Int)]) (by kernel_rfl) (cj h1 (cj h2 (cj (by decide) (cj (by decide) (cj (by decide) (cj (od h2) (cj (cap5 h2 h3) (cj (cap2 h3 (by decide)) (cj (nb_rep E3 _ 0) (cj (by decide) (cj (by decide) (cj1 (by rw [List.length_map]; exact (by omega)))))))))))))))) (fun h3 =>
   Pn.none)) (fun h2 =>
   Pn.some (Fn.of [.bit false, .bit false] (p := [(decide (n < 0)) = false,(decide (0 < (i64 (n - 0)))) = false]) (by kernel_rfl) (cj h1 (cj1 h2)))))
def slices_Concat_int_l0 (slices : List (List Int)) : List (List Int) → Int → Option (Int)
  | [], v1 =>
   some v1
  | x1 :: t1, v1 =>
   if (decide ((i64 (v1 + (x1.length : Int))) < 0)) = true then none else
   slices_Concat_int_l0 slices t1 (i64 (v1 + (x1.length : Int)))
theorem slices_Concat_int_l0_ok (slices : List (List Int)) (h2 : capOk slices.length = true) : ∀ (t1 p1 : List (List Int)) (_ : slices = p1 ++ t1) (v1 : Int), Pn (LpO Try.prog (sub (codeOf Try.prog 135) [1, 1, 0, 1, 0, 0]) (st 36 [(0, V.sl false 24 (List.map E24 slices)), (3, vI v1), (9, V.sl false 24 (List.map E24 slices)), (10, vI (slices.length : Int)), (11, vI (p1.length : Int))] [] []) (fun (y : Int) => (X.out 0, st 36 [(0, V.sl false 24 (List.map E24 slices)), (3, vI y)] [] []))) (slices_Concat_int_l0 slices t1 v1)
  | [], p1, h1, v1 => by
    unfold slices_Concat_int_l0
    exact
     Pn.some (LpO.out [.bit false, .mask [0, 3], .ren []] (p := [(decide ((p1.length : Int) < (slices.length : Int))) = false]) (by kernel_rfl) (show X.out 0 ≠ X.go from nofun) (cj1 (rng_end h1)))
  | x1 :: t1, p1, h1, v1 => by
    unfold slices_Concat_int_l0
    exact
     Pn.ite (fun h3 =>
     Pn.none) (fun h3 =>
     LpO.go [.bit true, .el (E24 x1), .wait 5, .nm 17 (vI (x1.length : Int)), .bit false, .wait 2, .mask [0, 3, 9, 10, 11], .ren [], .nm 11 (vI ((p1 ++ [x1]).length : Int))] (p := [(decide ((p1.length : Int) < (slices.length : Int))) = true,(0 : Int) ≤ (p1.length : Int),(List.map E24 slices)[(p1.length : Int).toNat]? = some (E24 x1),vI ((List.map E3 x1).length : Int) = vI (x1.length : Int),(decide ((i64 (v1 + (x1.length : Int))) < 0)) = false,vI (i64 ((p1.length : Int) + 1)) = vI ((p1 ++ [x1]).length : Int)]) (by kernel_rfl) (cj (rng_lt h1) (cj (by omega) (cj (rng_get _ h1) (cj (len_nm _ _) (cj h3 (cj1 (rng_next h1 h2))))))) (slices_Concat_int_l0_ok slices h2 t1 (p1 ++ [x1]) (rng_step h1) (i64 (v1 + (x1.length : Int)))))
def slices_Concat_int_l1 (slices : List (List Int)) : List (List Int) → (List Int) → Option ((List Int))
  | [], v2 =>
   some v2
  | x2 :: t2, v2 =>
   if (capOk (v2.length + x2.length)) = true then
   slices_Concat_int_l1 slices t2 (v2 ++ x2)
   else none
theorem slices_Concat_int_l1_ok (slices : List (List Int)) (h8 : capOk slices.length = true) : ∀ (t2 p2 : List (List Int)) (_ : slices = p2 ++ t2) (v2 : List Int), Pn (LpO Try.prog (sub (codeOf Try.prog 135) [1, 1, 1, 1, 0, 1, 0, 0]) (st 36 [(6, V.ow 0), (25, V.sl false 24 (List.map E24 slices)), (26, vI (slices.length : Int)), (27, vI (p2.length : Int))] [Blk.row 3 (List.map E3 v2) []] []) (fun (y : (List Int)) => (X.out 2, st 36 [(6, V.ow 0)] [Blk.row 3 (List.map E3 y) []] []))) (slices_Concat_int_l1 slices t2 v2)
  | [], p2, h7, v2 => by
    unfold slices_Concat_int_l1
    exact
     Pn.some (LpO.out [.bit false, .mask [6], .ren [0]] (p := [(decide ((p2.length : Int) < (slices.length : Int))) = false]) (by kernel_rfl) (show X.out 2 ≠ X.go from nofun) (cj1 (rng_end h7)))
  | x2 :: t2, p2, h7, v2 => by
    unfold slices_Concat_int_l1
    exact
     Pn.ite (fun h9 =>
     LpO.go [.bit true, .el (E24 x2), .cp (List.map E3 x2), .nb 1 (.row 3 (List.map E3 (v2 ++ x2)) []), .wait 4, .mask [6, 25, 26, 27], .ren [1], .nm 27 (vI ((p2 ++ [x2]).length : Int))] (p := [(decide ((p2.length : Int) < (slices.length : Int))) = true,(0 : Int) ≤ (p2.length : Int),(List.map E24 slices)[(p2.length : Int).toNat]? = some (E24 x2),(List.map E3 x2).map V.vw = (List.map E3 x2),(List.map E3 v2).length + (List.map E3 x2).length ≤ 9223372036854775807,((List.map E3 v2).length + (List.map E3 x2).length) * 8 ≤ 140737488355328,Blk.row 3 ((List.map E3 v2) ++ (List.map E3 x2)) [] = Blk.row 3 (List.map E3 (v2 ++ x2)) [],vI (i64 ((p2.length : Int) + 1)) = vI ((p2 ++ [x2]).length : Int)]) (by kernel_rfl) (cj (rng_lt h7) (cj (by omega) (cj (rng_get _ h7) (cj (vw_id (fun _ => rfl) _) (cj (cap1 (capN (by simp) h9)) (cj (cap2 (capN (by simp) h9) (by decide)) (cj (nb_app E3 v2 x2) (cj1 (rng_next h7 h8))))))))) (slices_Concat_int_l1_ok slices h8 t2 (p2 ++ [x2]) (rng_step h7) (v2 ++ x2))) (fun h9 =>
     Pn.none)
def slices_Concat_int (slices : List (List Int)) : Option ((List Int)) :=
 if (capOk slices.length) = true then
 (slices_Concat_int_l0 slices slices 0).bind fun r1 =>
 (slices_Grow_int_nil r1).bind fun r2 =>
 (slices_Concat_int_l1 slices slices r2).bind fun r3 =>
 some r3
 else none
theorem slices_Concat_int_ok (slices : List (List Int)) : Pn (fun y => Fn Try.prog 135 [(false, E198 slices)] (E24 y) []) (slices_Concat_int slices) := by
  unfold slices_Concat_int
  exact
   Pn.ite (fun h4 =>
   Pn.bind (fun r1 h5 =>
   Pn.bind (fun r2 h6 =>
   Pn.bind (fun r3 h10 =>
   Pn.some (Fn.of [.wait 4, .nm 10 (vI (slices.length : Int)), .wait 2, .mask [0, 3, 9, 10, 11], .ren [], .loop (X.out 0) (st 36 [(0, V.sl false 24 (List.map E24 slices)), (3, vI r1)] [] []), .call [] (E24 r2) [], .wait 3, .nm 26 (vI (slices.length : Int)), .wait 2, .mask [6, 25, 26, 27], .ren [0], .loop (X.out 2) (st 36 [(6, V.ow 0)] [Blk.row 3 (List.map E3 r3) []] [])] (p := [vI ((List.map E24 slices).length : Int) = vI (slices.length : Int),Loop Try.prog (sub (codeOf Try.prog 135) [1, 1, 0, 1, 0, 0]) (st 36 [(0, V.sl false 24 (List.map E24 slices)), (3, vI 0), (9, V.sl false 24 (List.map E24 slices)), (10, vI (slices.length : Int)), (11, vI 0)] [] []) (X.out 0) (st 36 [(0, V.sl false 24 (List.map E24 slices)), (3, vI r1)] [] []),Fn Try.prog 183 [(false, V.nl 3), (false, E3 r1)] (E24 r2) [],(true || ((E24 r2).nv && nvL [])) = true,vI ((List.map E24 slices).length : Int) = vI (slices.length : Int),Loop Try.prog (sub (codeOf Try.prog 135) [1, 1, 1, 1, 0, 1, 0, 0]) (st 36 [(6, V.ow 0), (25, V.sl false 24 (List.map E24 slices)), (26, vI (slices.length : Int)), (27, vI 0)] [Blk.row 3 (List.map E3 r2) []] []) (X.out 2) (st 36 [(6, V.ow 0)] [Blk.row 3 (List.map E3 r3) []] [])]) (by kernel_rfl) (cj (len_nm _ _) (cj (slices_Concat_int_l0_ok slices h4 slices [] rfl 0 r1 h5) (cj (slices_Grow_int_nil_ok r1 r2 h6) (cj rfl (cj (len_nm _ _) (cj1 (slices_Concat_int_l1_ok slices h4 slices [] rfl r2 r3 h10)))))))))))) (fun h4 =>
   Pn.none)
def impl_RingOk_l0 (r_ : Ring) (r1 : (List Int)) : List Int → Option (Lo Unit Unit)
  | [] =>
   some (.out ())
  | x1 :: t1 =>
   (impl_isMoney x1).bind fun r2 =>
   if r2 = true then
   impl_RingOk_l0 r_ r1 t1
   else
   some (.ret ())
theorem impl_RingOk_l0_ok (r_ : Ring) (r1 : (List Int)) (h3 : capOk r1.length = true) : ∀ (t1 p1 : List Int) (_ : r1 = p1 ++ t1) , Pn (LpO Try.prog (sub (codeOf Try.prog 73) [1, 1, 0, 1, 0, 0]) (st 43 [(1, V.ptr 0 0), (3, vI (r_.Counts.length : Int)), (14, V.ow 1), (15, vI (r1.length : Int)), (16, vI (p1.length : Int))] [Blk.box 26 [vI r_.Span, vI r_.Head, V.sl false 3 (List.map E3 r_.Counts), V.sl false 3 (List.map E3 r_.Sums)], Blk.row 3 (List.map E3 r1) []] []) (fun (y : Lo Unit Unit) => Lo.elim y (fun s => (X.out 0, st 43 [(1, V.ptr 0 0), (3, vI (r_.Counts.length : Int))] [Blk.box 26 [vI r_.Span, vI r_.Head, V.sl false 3 (List.map E3 r_.Counts), V.sl false 3 (List.map E3 r_.Sums)]] [])) (fun s => (X.ret, st 43 [(2, V.sc (.bool false))] [] [])))) (impl_RingOk_l0 r_ r1 t1)
  | [], p1, h2 => by
    unfold impl_RingOk_l0
    exact
     Pn.some (LpO.out [.bit false, .mask [1, 3], .ren [0]] (p := [(decide ((p1.length : Int) < (r1.length : Int))) = false]) (by kernel_rfl) (show X.out 0 ≠ X.go from nofun) (cj1 (rng_end h2)))
  | x1 :: t1, p1, h2 => by
    unfold impl_RingOk_l0
    exact
     Pn.bind (fun r2 h4 =>
     Pn.ite (fun h5 =>
     LpO.go [.bit true, .el (E3 x1), .call [] (E4 r2) [], .bit false, .wait 2, .mask [1, 3, 14, 15, 16], .ren [0, 1], .nm 16 (vI ((p1 ++ [x1]).length : Int))] (p := [(decide ((p1.length : Int) < (r1.length : Int))) = true,(0 : Int) ≤ (p1.length : Int),((p1.length : Int) : Int) < ((List.map E3 r1).length : Int),look [] ((p1.length : Int).toNat) = none,(List.map E3 r1)[(p1.length : Int).toNat]? = some (E3 x1),Fn Try.prog 71 [(false, E3 x1)] (E4 r2) [],(true || ((E4 r2).nv && nvL [])) = true,(!r2) = false,vI (i64 ((p1.length : Int) + 1)) = vI ((p1 ++ [x1]).length : Int)]) (by kernel_rfl) (cj (rng_lt h2) (cj (by omega) (cj (rng_ltI _ h2) (cj rfl (cj (rng_get _ h2) (cj (impl_isMoney_ok x1 r2 h4) (cj rfl (cj (nf h5) (cj1 (rng_next h2 h3)))))))))) (impl_RingOk_l0_ok r_ r1 h3 t1 (p1 ++ [x1]) (rng_step h2))) (fun h5 =>
     Pn.some (LpO.out [.bit true, .el (E3 x1), .call [] (E4 r2) [], .bit true, .wait 1, .mask [2], .ren []] (p := [(decide ((p1.length : Int) < (r1.length : Int))) = true,(0 : Int) ≤ (p1.length : Int),((p1.length : Int) : Int) < ((List.map E3 r1).length : Int),look [] ((p1.length : Int).toNat) = none,(List.map E3 r1)[(p1.length : Int).toNat]? = some (E3 x1),Fn Try.prog 71 [(false, E3 x1)] (E4 r2) [],(true || ((E4 r2).nv && nvL [])) = true,(!r2) = true]) (by kernel_rfl) (show X.ret ≠ X.go from nofun) (cj (rng_lt h2) (cj (by omega) (cj (rng_ltI _ h2) (cj rfl (cj (rng_get _ h2) (cj (impl_isMoney_ok x1 r2 h4) (cj rfl (cj1 (nt h5))))))))))))
def impl_RingOk (r_ : Ring) : Option (Bool) :=
 (slices_Concat_int [r_.Counts, r_.Sums]).bind fun r1 =>
 if (capOk r1.length) = true then
 (impl_RingOk_l0 r_ r1 r1).bind fun r3 =>
 Lo.elim r3 (fun s1 =>
 (impl_within r_.Span 1 1000).bind fun r4 =>
 if r4 = true then
 (impl_within (r_.Counts.length : Int) 1 8).bind fun r5 =>
 if r5 = true then
 if ((r_.Sums.length : Int) == (r_.Counts.length : Int)) = true then
 (impl_isTime r_.Head).bind fun r6 =>
 some r6
 else
 some false
 else
 some false
 else
 some false) (fun s2 =>
 some false)
 else none
theorem impl_RingOk_ok (r_ : Ring) : Pn (fun y => Fn Try.prog 73 [(false, E26 r_)] (E4 y) []) (impl_RingOk r_) := by
  unfold impl_RingOk
  exact
   Pn.bind (fun r1 h1 =>
   Pn.ite (fun h6 =>
   Pn.bind (fun r3 h7 =>
   Pn.lo (fun s1 h8 =>
   Pn.bind (fun r4 h10 =>
   Pn.ite (fun h11 =>
   Pn.bind (fun r5 h12 =>
   Pn.ite (fun h13 =>
   Pn.ite (fun h14 =>
   Pn.bind (fun r6 h15 =>
   Pn.some (Fn.of [.wait 5, .nm 8 (vI (r_.Counts.length : Int)), .call [] (E24 r1) [], .wait 1, .nm 15 (vI (r1.length : Int)), .wait 2, .mask [1, 3, 14, 15, 16], .ren [0, 2], .loop (X.out 0) (st 43 [(1, V.ptr 0 0), (3, vI (r_.Counts.length : Int))] [Blk.box 26 [vI r_.Span, vI r_.Head, V.sl false 3 (List.map E3 r_.Counts), V.sl false 3 (List.map E3 r_.Sums)]] []), .call [] (E4 r4) [], .bit true, .bit true, .call [] (E4 r5) [], .bit true, .bit true, .bit true, .bit true, .nm 34 (vI (r_.Sums.length : Int)), .bit true, .bit true, .bit true, .bit true, .bit true, .bit true, .call [] (E4 r6) [], .bit true] (p := [vI ((List.map E3 r_.Counts).length : Int) = vI (r_.Counts.length : Int),Fn Try.prog 135 [(false, V.sl true 24 [V.sl false 3 (List.map E3 r_.Counts), V.sl false 3 (List.map E3 r_.Sums)])] (E24 r1) [],(false || ((E24 r1).nv && nvL [])) = true,vI ((List.map E3 r1).length : Int) = vI (r1.length : Int),Loop Try.prog (sub (codeOf Try.prog 73) [1, 1, 0, 1, 0, 0]) (st 43 [(1, V.ptr 0 0), (3, vI (r_.Counts.length : Int)), (14, V.ow 1), (15, vI (r1.length : Int)), (16, vI 0)] [Blk.box 26 [vI r_.Span, vI r_.Head, V.sl false 3 (List.map E3 r_.Counts), V.sl false 3 (List.map E3 r_.Sums)], Blk.row 3 (List.map E3 r1) []] []) (X.out 0) (st 43 [(1, V.ptr 0 0), (3, vI (r_.Counts.length : Int))] [Blk.box 26 [vI r_.Span, vI r_.Head, V.sl false 3 (List.map E3 r_.Counts), V.sl false 3 (List.map E3 r_.Sums)]] []),Fn Try.prog 70 [(false, E3 r_.Span), (false, E3 1), (false, E3 1000)] (E4 r4) [],(true || ((E4 r4).nv && nvL [])) = true,r4 = true,r4 = true,Fn Try.prog 70 [(false, E3 (r_.Counts.length : Int)), (false, E3 1), (false, E3 8)] (E4 r5) [],(true || ((E4 r5).nv && nvL [])) = true,r4 = true,r5 = true,r5 = true,r5 = true,vI ((List.map E3 r_.Sums).length : Int) = vI (r_.Sums.length : Int),r5 = true,r5 = true,r5 = true,((r_.Sums.length : Int) == (r_.Counts.length : Int)) = true,((r_.Sums.length : Int) == (r_.Counts.length : Int)) = true,((r_.Sums.length : Int) == (r_.Counts.length : Int)) = true,Fn Try.prog 66 [(false, E3 r_.Head)] (E4 r6) [],(true || ((E4 r6).nv && nvL [])) = true,((r_.Sums.length : Int) == (r_.Counts.length : Int)) = true]) (by kernel_rfl) (cj (len_nm _ _) (cj (Fn.flag 0 (by kernel_rfl) (slices_Concat_int_ok [r_.Counts, r_.Sums] r1 h1)) (cj (by simp [V.nv, nvL, nvL_all, nv_E3, nv_E24]) (cj (len_nm _ _) (cj ((impl_RingOk_l0_ok r_ r1 h6 r1 [] rfl r3 h7).at h8) (cj (impl_within_ok r_.Span 1 1000 r4 h10) (cj rfl (cj h11 (cj h11 (cj (impl_within_ok (r_.Counts.length : Int) 1 8 r5 h12) (cj rfl (cj h11 (cj h13 (cj h13 (cj h13 (cj (len_nm _ _) (cj h13 (cj h13 (cj h13 (cj h14 (cj h14 (cj h14 (cj (impl_isTime_ok r_.Head r6 h15) (cj rfl (cj1 h14)))))))))))))))))))))))))))) (fun h14 =>
   Pn.some (Fn.of [.wait 5, .nm 8 (vI (r_.Counts.length : Int)), .call [] (E24 r1) [], .wait 1, .nm 15 (vI (r1.length : Int)), .wait 2, .mask [1, 3, 14, 15, 16], .ren [0, 2], .loop (X.out 0) (st 43 [(1, V.ptr 0 0), (3, vI (r_.Counts.length : Int))] [Blk.box 26 [vI r_.Span, vI r_.Head, V.sl false 3 (List.map E3 r_.Counts), V.sl false 3 (List.map E3 r_.Sums)]] []), .call [] (E4 r4) [], .bit true, .bit true, .call [] (E4 r5) [], .bit true, .bit true, .bit true, .bit true, .nm 34 (vI (r_.Sums.length : Int)), .bit true, .bit true, .bit true, .bit false, .bit false, .bit false, .bit false] (p := [vI ((List.map E3 r_.Counts).length : Int) = vI (r_.Counts.length : Int),Fn Try.prog 135 [(false, V.sl true 24 [V.sl false 3 (List.map E3 r_.Counts), V.sl false 3 (List.map E3 r_.Sums)])] (E24 r1) [],(false || ((E24 r1).nv && nvL [])) = true,vI ((List.map E3 r1).length : Int) = vI (r1.length : Int),Loop Try.prog (sub (codeOf Try.prog 73) [1, 1, 0, 1, 0, 0]) (st 43 [(1, V.ptr 0 0), (3, vI (r_.Counts.length : Int)), (14, V.ow 1), (15, vI (r1.length : Int)), (16, vI 0)] [Blk.box 26 [vI r_.Span, vI r_.Head, V.sl false 3 (List.map E3 r_.Counts), V.sl false 3 (List.map E3 r_.Sums)], Blk.row 3 (List.map E3 r1) []] []) (X.out 0) (st 43 [(1, V.ptr 0 0), (3, vI (r_.Counts.length : Int))] [Blk.box 26 [vI r_.Span, vI r_.Head, V.sl false 3 (List.map E3 r_.Counts), V.sl false 3 (List.map E3 r_.Sums)]] []),Fn Try.prog 70 [(false, E3 r_.Span), (false, E3 1), (false, E3 1000)] (E4 r4) [],(true || ((E4 r4).nv && nvL [])) = true,r4 = true,r4 = true,Fn Try.prog 70 [(false, E3 (r_.Counts.length : Int)), (false, E3 1), (false, E3 8)] (E4 r5) [],(true || ((E4 r5).nv && nvL [])) = true,r4 = true,r5 = true,r5 = true,r5 = true,vI ((List.map E3 r_.Sums).length : Int) = vI (r_.Sums.length : Int),r5 = true,r5 = true,r5 = true,((r_.Sums.length : Int) == (r_.Counts.length : Int)) = false,((r_.Sums.length : Int) == (r_.Counts.length : Int)) = false,((r_.Sums.length : Int) == (r_.Counts.length : Int)) = false,((r_.Sums.length : Int) == (r_.Counts.length : Int)) = false]) (by kernel_rfl) (cj (len_nm _ _) (cj (Fn.flag 0 (by kernel_rfl) (slices_Concat_int_ok [r_.Counts, r_.Sums] r1 h1)) (cj (by simp [V.nv, nvL, nvL_all, nv_E3, nv_E24]) (cj (len_nm _ _) (cj ((impl_RingOk_l0_ok r_ r1 h6 r1 [] rfl r3 h7).at h8) (cj (impl_within_ok r_.Span 1 1000 r4 h10) (cj rfl (cj h11 (cj h11 (cj (impl_within_ok (r_.Counts.length : Int) 1 8 r5 h12) (cj rfl (cj h11 (cj h13 (cj h13 (cj h13 (cj (len_nm _ _) (cj h13 (cj h13 (cj h13 (cj h14 (cj h14 (cj h14 (cj1 h14)))))))))))))))))))))))))) (fun h13 =>
   Pn.some (Fn.of [.wait 5, .nm 8 (vI (r_.Counts.length : Int)), .call [] (E24 r1) [], .wait 1, .nm 15 (vI (r1.length : Int)), .wait 2, .mask [1, 3, 14, 15, 16], .ren [0, 2], .loop (X.out 0) (st 43 [(1, V.ptr 0 0), (3, vI (r_.Counts.length : Int))] [Blk.box 26 [vI r_.Span, vI r_.Head, V.sl false 3 (List.map E3 r_.Counts), V.sl false 3 (List.map E3 r_.Sums)]] []), .call [] (E4 r4) [], .bit true, .bit true, .call [] (E4 r5) [], .bit true, .bit false, .bit false, .bit false, .bit false, .bit false, .bit false, .bit false, .bit false, .bit false, .bit false] (p := [vI ((List.map E3 r_.Counts).length : Int) = vI (r_.Counts.length : Int),Fn Try.prog 135 [(false, V.sl true 24 [V.sl false 3 (List.map E3 r_.Counts), V.sl false 3 (List.map E3 r_.Sums)])] (E24 r1) [],(false || ((E24 r1).nv && nvL [])) = true,vI ((List.map E3 r1).length : Int) = vI (r1.length : Int),Loop Try.prog (sub (codeOf Try.prog 73) [1, 1, 0, 1, 0, 0]) (st 43 [(1, V.ptr 0 0), (3, vI (r_.Counts.length : Int)), (14, V.ow 1), (15, vI (r1.length : Int)), (16, vI 0)] [Blk.box 26 [vI r_.Span, vI r_.Head, V.sl false 3 (List.map E3 r_.Counts), V.sl false 3 (List.map E3 r_.Sums)], Blk.row 3 (List.map E3 r1) []] []) (X.out 0) (st 43 [(1, V.ptr 0 0), (3, vI (r_.Counts.length : Int))] [Blk.box 26 [vI r_.Span, vI r_.Head, V.sl false 3 (List.map E3 r_.Counts), V.sl false 3 (List.map E3 r_.Sums)]] []),Fn Try.prog 70 [(false, E3 r_.Span), (false, E3 1), (false, E3 1000)] (E4 r4) [],(true || ((E4 r4).nv && nvL [])) = true,r4 = true,r4 = true,Fn Try.prog 70 [(false, E3 (r_.Counts.length : Int)), (false, E3 1), (false, E3 8)] (E4 r5) [],(true || ((E4 r5).nv && nvL [])) = true,r4 = true,r5 = false,r5 = false,r5 = false,r5 = false,r5 = false,r5 = false,false = false,false = false,false = false,false = false]) (by kernel_rfl) (cj (len_nm _ _) (cj (Fn.flag 0 (by kernel_rfl) (slices_Concat_int_ok [r_.Counts, r_.Sums] r1 h1)) (cj (by simp [V.nv, nvL, nvL_all, nv_E3, nv_E24]) (cj (len_nm _ _) (cj ((impl_RingOk_l0_ok r_ r1 h6 r1 [] rfl r3 h7).at h8) (cj (impl_within_ok r_.Span 1 1000 r4 h10) (cj rfl (cj h11 (cj h11 (cj (impl_within_ok (r_.Counts.length : Int) 1 8 r5 h12) (cj rfl (cj h11 (cj h13 (cj h13 (cj h13 (cj h13 (cj h13 (cj h13 (cj rfl (cj rfl (cj rfl (cj1 rfl)))))))))))))))))))))))))) (fun h11 =>
   Pn.some (Fn.of [.wait 5, .nm 8 (vI (r_.Counts.length : Int)), .call [] (E24 r1) [], .wait 1, .nm 15 (vI (r1.length : Int)), .wait 2, .mask [1, 3, 14, 15, 16], .ren [0, 2], .loop (X.out 0) (st 43 [(1, V.ptr 0 0), (3, vI (r_.Counts.length : Int))] [Blk.box 26 [vI r_.Span, vI r_.Head, V.sl false 3 (List.map E3 r_.Counts), V.sl false 3 (List.map E3 r_.Sums)]] []), .call [] (E4 r4) [], .bit false, .bit false, .bit false, .bit false, .bit false, .bit false, .bit false, .bit false, .bit false, .bit false, .bit false, .bit false, .bit false] (p := [vI ((List.map E3 r_.Counts).length : Int) = vI (r_.Counts.length : Int),Fn Try.prog 135 [(false, V.sl true 24 [V.sl false 3 (List.map E3 r_.Counts), V.sl false 3 (List.map E3 r_.Sums)])] (E24 r1) [],(false || ((E24 r1).nv && nvL [])) = true,vI ((List.map E3 r1).length : Int) = vI (r1.length : Int),Loop Try.prog (sub (codeOf Try.prog 73) [1, 1, 0, 1, 0, 0]) (st 43 [(1, V.ptr 0 0), (3, vI (r_.Counts.length : Int)), (14, V.ow 1), (15, vI (r1.length : Int)), (16, vI 0)] [Blk.box 26 [vI r_.Span, vI r_.Head, V.sl false 3 (List.map E3 r_.Counts), V.sl false 3 (List.map E3 r_.Sums)], Blk.row 3 (List.map E3 r1) []] []) (X.out 0) (st 43 [(1, V.ptr 0 0), (3, vI (r_.Counts.length : Int))] [Blk.box 26 [vI r_.Span, vI r_.Head, V.sl false 3 (List.map E3 r_.Counts), V.sl false 3 (List.map E3 r_.Sums)]] []),Fn Try.prog 70 [(false, E3 r_.Span), (false, E3 1), (false, E3 1000)] (E4 r4) [],(true || ((E4 r4).nv && nvL [])) = true,r4 = false,r4 = false,r4 = false,false = false,false = false,false = false,false = false,false = false,false = false,false = false,false = false,false = false,false = false]) (by kernel_rfl) (cj (len_nm _ _) (cj (Fn.flag 0 (by kernel_rfl) (slices_Concat_int_ok [r_.Counts, r_.Sums] r1 h1)) (cj (by simp [V.nv, nvL, nvL_all, nv_E3, nv_E24]) (cj (len_nm _ _) (cj ((impl_RingOk_l0_ok r_ r1 h6 r1 [] rfl r3 h7).at h8) (cj (impl_within_ok r_.Span 1 1000 r4 h10) (cj rfl (cj h11 (cj h11 (cj h11 (cj rfl (cj rfl (cj rfl (cj rfl (cj rfl (cj rfl (cj rfl (cj rfl (cj rfl (cj1 rfl)))))))))))))))))))))))) (fun s2 h9 =>
   Pn.some (Fn.of [.wait 5, .nm 8 (vI (r_.Counts.length : Int)), .call [] (E24 r1) [], .wait 1, .nm 15 (vI (r1.length : Int)), .wait 2, .mask [1, 3, 14, 15, 16], .ren [0, 2], .loop (X.ret) (st 43 [(2, V.sc (.bool false))] [] [])] (p := [vI ((List.map E3 r_.Counts).length : Int) = vI (r_.Counts.length : Int),Fn Try.prog 135 [(false, V.sl true 24 [V.sl false 3 (List.map E3 r_.Counts), V.sl false 3 (List.map E3 r_.Sums)])] (E24 r1) [],(false || ((E24 r1).nv && nvL [])) = true,vI ((List.map E3 r1).length : Int) = vI (r1.length : Int),Loop Try.prog (sub (codeOf Try.prog 73) [1, 1, 0, 1, 0, 0]) (st 43 [(1, V.ptr 0 0), (3, vI (r_.Counts.length : Int)), (14, V.ow 1), (15, vI (r1.length : Int)), (16, vI 0)] [Blk.box 26 [vI r_.Span, vI r_.Head, V.sl false 3 (List.map E3 r_.Counts), V.sl false 3 (List.map E3 r_.Sums)], Blk.row 3 (List.map E3 r1) []] []) (X.ret) (st 43 [(2, V.sc (.bool false))] [] [])]) (by kernel_rfl) (cj (len_nm _ _) (cj (Fn.flag 0 (by kernel_rfl) (slices_Concat_int_ok [r_.Counts, r_.Sums] r1 h1)) (cj (by simp [V.nv, nvL, nvL_all, nv_E3, nv_E24]) (cj (len_nm _ _) (cj1 ((impl_RingOk_l0_ok r_ r1 h6 r1 [] rfl r3 h7).at h9)))))))))) (fun h6 =>
   Pn.none))
def impl_isWide (s_ : ByteArray) (n : Int) : Option (Bool) :=
 (impl_Digits s_).bind fun r1 =>
 if r1 = true then
 some ((s_.size : Int) == n)
 else
 some false
theorem impl_isWide_ok (s_ : ByteArray) (n : Int) : Pn (fun y => Fn Try.prog 184 [(false, E9 s_), (false, E3 n)] (E4 y) []) (impl_isWide s_ n) := by
  unfold impl_isWide
  exact
   Pn.bind (fun r1 h1 =>
   Pn.ite (fun h2 =>
   Pn.some (Fn.of [.call [] (E4 r1) [], .bit true, .bit true, .bit true, .bit true, .bit true] (p := [Fn Try.prog 181 [(false, E9 s_)] (E4 r1) [],(true || ((E4 r1).nv && nvL [])) = true,r1 = true,r1 = true,r1 = true,r1 = true,r1 = true]) (by kernel_rfl) (cj (impl_Digits_ok s_ r1 h1) (cj rfl (cj h2 (cj h2 (cj h2 (cj h2 (cj1 h2))))))))) (fun h2 =>
   Pn.some (Fn.of [.call [] (E4 r1) [], .bit false, .bit false, .bit false, .bit false, .bit false] (p := [Fn Try.prog 181 [(false, E9 s_)] (E4 r1) [],(true || ((E4 r1).nv && nvL [])) = true,r1 = false,r1 = false,r1 = false,r1 = false,r1 = false]) (by kernel_rfl) (cj (impl_Digits_ok s_ r1 h1) (cj rfl (cj h2 (cj h2 (cj h2 (cj h2 (cj1 h2))))))))))
def impl_SlotOk (s_ : Slot) : Option (Bool) :=
 (impl_isWide s_.Trace 6).bind fun r1 =>
 if r1 = true then
 (impl_isWide s_.Mti 4).bind fun r2 =>
 if r2 = true then
 (impl_within (s_.Reply.length : Int) 1 200).bind fun r3 =>
 some r3
 else
 some false
 else
 some false
theorem impl_SlotOk_ok (s_ : Slot) : Pn (fun y => Fn Try.prog 136 [(false, E164 s_)] (E4 y) []) (impl_SlotOk s_) := by
  unfold impl_SlotOk
  exact
   Pn.bind (fun r1 h1 =>
   Pn.ite (fun h2 =>
   Pn.bind (fun r2 h3 =>
   Pn.ite (fun h4 =>
   Pn.bind (fun r3 h5 =>
   Pn.some (Fn.of [.call [] (E4 r1) [], .bit true, .bit true, .bit true, .call [] (E4 r2) [], .bit true, .bit true, .bit true, .bit true, .nm 14 (vI (s_.Reply.length : Int)), .bit true, .call [] (E4 r3) [], .bit true] (p := [Fn Try.prog 184 [(false, E9 s_.Trace), (false, E3 6)] (E4 r1) [],(true || ((E4 r1).nv && nvL [])) = true,r1 = true,r1 = true,r1 = true,Fn Try.prog 184 [(false, E9 s_.Mti), (false, E3 4)] (E4 r2) [],(true || ((E4 r2).nv && nvL [])) = true,r1 = true,r2 = true,r2 = true,r2 = true,vI ((List.map E5 s_.Reply).length : Int) = vI (s_.Reply.length : Int),r2 = true,Fn Try.prog 70 [(false, E3 (s_.Reply.length : Int)), (false, E3 1), (false, E3 200)] (E4 r3) [],(true || ((E4 r3).nv && nvL [])) = true,r2 = true]) (by kernel_rfl) (cj (impl_isWide_ok s_.Trace 6 r1 h1) (cj rfl (cj h2 (cj h2 (cj h2 (cj (impl_isWide_ok s_.Mti 4 r2 h3) (cj rfl (cj h2 (cj h4 (cj h4 (cj h4 (cj (len_nm _ _) (cj h4 (cj (impl_within_ok (s_.Reply.length : Int) 1 200 r3 h5) (cj rfl (cj1 h4))))))))))))))))))) (fun h4 =>
   Pn.some (Fn.of [.call [] (E4 r1) [], .bit true, .bit true, .bit true, .call [] (E4 r2) [], .bit true, .bit false, .bit false, .bit false, .bit false, .bit false] (p := [Fn Try.prog 184 [(false, E9 s_.Trace), (false, E3 6)] (E4 r1) [],(true || ((E4 r1).nv && nvL [])) = true,r1 = true,r1 = true,r1 = true,Fn Try.prog 184 [(false, E9 s_.Mti), (false, E3 4)] (E4 r2) [],(true || ((E4 r2).nv && nvL [])) = true,r1 = true,r2 = false,r2 = false,r2 = false,r2 = false,r2 = false]) (by kernel_rfl) (cj (impl_isWide_ok s_.Trace 6 r1 h1) (cj rfl (cj h2 (cj h2 (cj h2 (cj (impl_isWide_ok s_.Mti 4 r2 h3) (cj rfl (cj h2 (cj h4 (cj h4 (cj h4 (cj h4 (cj1 h4))))))))))))))))) (fun h2 =>
   Pn.some (Fn.of [.call [] (E4 r1) [], .bit false, .bit false, .bit false, .bit false, .bit false, .bit false, .bit false, .bit false, .bit false] (p := [Fn Try.prog 184 [(false, E9 s_.Trace), (false, E3 6)] (E4 r1) [],(true || ((E4 r1).nv && nvL [])) = true,r1 = false,r1 = false,r1 = false,r1 = false,false = false,false = false,false = false,false = false,false = false]) (by kernel_rfl) (cj (impl_isWide_ok s_.Trace 6 r1 h1) (cj rfl (cj h2 (cj h2 (cj h2 (cj h2 (cj rfl (cj rfl (cj rfl (cj rfl (cj1 rfl))))))))))))))
def impl_slotAt_1 (s_ : Slot) (c0_0 : ByteArray) (c1_0 : ByteArray) : Option (Bool) :=
 if (s_.Trace == c0_0) = true then
 some (s_.Mti == c1_0)
 else
 some false
theorem impl_slotAt_1_ok (s_ : Slot) (c0_0 : ByteArray) (c1_0 : ByteArray) : Pn (fun y => Fn Try.prog 186 [(false, E164 s_), (false, V.cp [V.sc (.string c0_0)]), (false, V.cp [V.sc (.string c1_0)])] (E4 y) []) (impl_slotAt_1 s_ c0_0 c1_0) := by
  unfold impl_slotAt_1
  exact
   Pn.ite (fun h1 =>
   Pn.some (Fn.of [.bit true, .bit true, .bit true, .bit true, .bit true] (p := [(s_.Trace == c0_0) = true,(s_.Trace == c0_0) = true,(s_.Trace == c0_0) = true,(s_.Trace == c0_0) = true,(s_.Trace == c0_0) = true]) (by kernel_rfl) (cj h1 (cj h1 (cj h1 (cj h1 (cj1 h1))))))) (fun h1 =>
   Pn.some (Fn.of [.bit false, .bit false, .bit false, .bit false, .bit false] (p := [(s_.Trace == c0_0) = false,(s_.Trace == c0_0) = false,(s_.Trace == c0_0) = false,(s_.Trace == c0_0) = false,(s_.Trace == c0_0) = false]) (by kernel_rfl) (cj h1 (cj h1 (cj h1 (cj h1 (cj1 h1)))))))
def slices_IndexFunc_impl_Slot_impl_slotAt_1_l0 (s_ : List Slot) (f0_0 : ByteArray) (f1_0 : ByteArray) : List Slot → List Slot → Option (Lo Unit Int)
  | [], p1 =>
   some (.out ())
  | x1 :: t1, p1 =>
   (impl_slotAt_1 x1 f0_0 f1_0).bind fun r1 =>
   if r1 = true then
   some (.ret (p1.length : Int))
   else
   slices_IndexFunc_impl_Slot_impl_slotAt_1_l0 s_ f0_0 f1_0 t1 (p1 ++ [x1])
theorem slices_IndexFunc_impl_Slot_impl_slotAt_1_l0_ok (s_ : List Slot) (f0_0 : ByteArray) (f1_0 : ByteArray) (h2 : capOk s_.length = true) : ∀ (t1 p1 : List Slot) (_ : s_ = p1 ++ t1) , Pn (LpO Try.prog (sub (codeOf Try.prog 185) [1, 0, 1, 0, 0]) (st 19 [(0, V.sl false 164 (List.map E164 s_)), (1, V.fn 186 [V.cp [V.sc (.string f0_0)], V.cp [V.sc (.string f1_0)]]), (7, vI (s_.length : Int)), (8, vI (p1.length : Int))] [] []) (fun (y : Lo Unit Int) => Lo.elim y (fun s => (X.out 0, st 19 [] [] [])) (fun s => (X.ret, st 19 [(4, vI s)] [] [])))) (slices_IndexFunc_impl_Slot_impl_slotAt_1_l0 s_ f0_0 f1_0 t1 p1)
  | [], p1, h1 => by
    unfold slices_IndexFunc_impl_Slot_impl_slotAt_1_l0
    exact
     Pn.some (LpO.out [.bit false, .mask [], .ren []] (p := [(decide ((p1.length : Int) < (s_.length : Int))) = false]) (by kernel_rfl) (show X.out 0 ≠ X.go from nofun) (cj1 (rng_end h1)))
  | x1 :: t1, p1, h1 => by
    unfold slices_IndexFunc_impl_Slot_impl_slotAt_1_l0
    exact
     Pn.bind (fun r1 h3 =>
     Pn.ite (fun h4 =>
     Pn.some (LpO.out [.bit true, .el (E164 x1), .call [] (E4 r1) [], .bit true, .wait 2, .mask [4], .ren []] (p := [(decide ((p1.length : Int) < (s_.length : Int))) = true,(0 : Int) ≤ (p1.length : Int),(List.map E164 s_)[(p1.length : Int).toNat]? = some (E164 x1),Fn Try.prog 186 [(false, E164 x1), (false, V.cp [V.sc (.string f0_0)]), (false, V.cp [V.sc (.string f1_0)])] (E4 r1) [],(true || ((E4 r1).nv && nvL [])) = true,r1 = true]) (by kernel_rfl) (show X.ret ≠ X.go from nofun) (cj (rng_lt h1) (cj (by omega) (cj (rng_get _ h1) (cj (impl_slotAt_1_ok x1 f0_0 f1_0 r1 h3) (cj rfl (cj1 h4)))))))) (fun h4 =>
     LpO.go [.bit true, .el (E164 x1), .call [] (E4 r1) [], .bit false, .wait 2, .mask [0, 1, 7, 8], .ren [], .nm 8 (vI ((p1 ++ [x1]).length : Int))] (p := [(decide ((p1.length : Int) < (s_.length : Int))) = true,(0 : Int) ≤ (p1.length : Int),(List.map E164 s_)[(p1.length : Int).toNat]? = some (E164 x1),Fn Try.prog 186 [(false, E164 x1), (false, V.cp [V.sc (.string f0_0)]), (false, V.cp [V.sc (.string f1_0)])] (E4 r1) [],(true || ((E4 r1).nv && nvL [])) = true,r1 = false,vI (i64 ((p1.length : Int) + 1)) = vI ((p1 ++ [x1]).length : Int)]) (by kernel_rfl) (cj (rng_lt h1) (cj (by omega) (cj (rng_get _ h1) (cj (impl_slotAt_1_ok x1 f0_0 f1_0 r1 h3) (cj rfl (cj h4 (cj1 (rng_next h1 h2)))))))) (slices_IndexFunc_impl_Slot_impl_slotAt_1_l0_ok s_ f0_0 f1_0 h2 t1 (p1 ++ [x1]) (rng_step h1))))
def slices_IndexFunc_impl_Slot_impl_slotAt_1 (s_ : List Slot) (f0_0 : ByteArray) (f1_0 : ByteArray) : Option (Int) :=
 if (capOk s_.length) = true then
 (slices_IndexFunc_impl_Slot_impl_slotAt_1_l0 s_ f0_0 f1_0 s_ []).bind fun r2 =>
 Lo.elim r2 (fun s1 =>
 some (-1)) (fun s2 =>
 some s2)
 else none
theorem slices_IndexFunc_impl_Slot_impl_slotAt_1_ok (s_ : List Slot) (f0_0 : ByteArray) (f1_0 : ByteArray) : Pn (fun y => Fn Try.prog 185 [(false, E27 s_), (false, V.fn 186 [V.cp [V.sc (.string f0_0)], V.cp [V.sc (.string f1_0)]])] (E3 y) []) (slices_IndexFunc_impl_Slot_impl_slotAt_1 s_ f0_0 f1_0) := by
  unfold slices_IndexFunc_impl_Slot_impl_slotAt_1
  exact
   Pn.ite (fun h5 =>
   Pn.bind (fun r2 h6 =>
   Pn.lo (fun s1 h7 =>
   Pn.some (Fn.of [.wait 3, .nm 7 (vI (s_.length : Int)), .wait 2, .mask [0, 1, 7, 8], .ren [], .loop (X.out 0) (st 19 [] [] [])] (p := [vI ((List.map E164 s_).length : Int) = vI (s_.length : Int),Loop Try.prog (sub (codeOf Try.prog 185) [1, 0, 1, 0, 0]) (st 19 [(0, V.sl false 164 (List.map E164 s_)), (1, V.fn 186 [V.cp [V.sc (.string f0_0)], V.cp [V.sc (.string f1_0)]]), (7, vI (s_.length : Int)), (8, vI 0)] [] []) (X.out 0) (st 19 [] [] [])]) (by kernel_rfl) (cj (len_nm _ _) (cj1 ((slices_IndexFunc_impl_Slot_impl_slotAt_1_l0_ok s_ f0_0 f1_0 h5 s_ [] rfl r2 h6).at h7))))) (fun s2 h8 =>
   Pn.some (Fn.of [.wait 3, .nm 7 (vI (s_.length : Int)), .wait 2, .mask [0, 1, 7, 8], .ren [], .loop (X.ret) (st 19 [(4, vI s2)] [] [])] (p := [vI ((List.map E164 s_).length : Int) = vI (s_.length : Int),Loop Try.prog (sub (codeOf Try.prog 185) [1, 0, 1, 0, 0]) (st 19 [(0, V.sl false 164 (List.map E164 s_)), (1, V.fn 186 [V.cp [V.sc (.string f0_0)], V.cp [V.sc (.string f1_0)]]), (7, vI (s_.length : Int)), (8, vI 0)] [] []) (X.ret) (st 19 [(4, vI s2)] [] [])]) (by kernel_rfl) (cj (len_nm _ _) (cj1 ((slices_IndexFunc_impl_Slot_impl_slotAt_1_l0_ok s_ f0_0 f1_0 h5 s_ [] rfl r2 h6).at h8))))))) (fun h5 =>
   Pn.none)
def impl_slotAt (l : List Slot) (trace : ByteArray) (mti : ByteArray) : Option (Int) :=
 (slices_IndexFunc_impl_Slot_impl_slotAt_1 l trace mti).bind fun r1 =>
 some r1
theorem impl_slotAt_ok (l : List Slot) (trace : ByteArray) (mti : ByteArray) : Pn (fun y => Fn Try.prog 137 [(false, E27 l), (false, E9 trace), (false, E9 mti)] (E3 y) []) (impl_slotAt l trace mti) := by
  unfold impl_slotAt
  exact
   Pn.bind (fun r1 h1 =>
   Pn.some (Fn.of [.call [] (E3 r1) []] (p := [Fn Try.prog 185 [(false, E27 l), (false, V.fn 186 [V.cp [V.sc (.string trace)], V.cp [V.sc (.string mti)]])] (E3 r1) [],(false || ((E3 r1).nv && nvL [])) = true]) (by kernel_rfl) (cj (slices_IndexFunc_impl_Slot_impl_slotAt_1_ok l trace mti r1 h1) (cj1 (by simp [V.nv, nvL, nvL_all, nv_E3])))))
def impl_SlotsOk_l0 (l : List Slot) : List Slot → List Slot → Option (Lo Unit Unit)
  | [], p1 =>
   some (.out ())
  | x1 :: t1, p1 =>
   (impl_SlotOk x1).bind fun r1 =>
   if r1 = true then
   (impl_slotAt l x1.Trace x1.Mti).bind fun r2 =>
   if (r2 != (p1.length : Int)) = true then
   some (.ret ())
   else
   impl_SlotsOk_l0 l t1 (p1 ++ [x1])
   else
   some (.ret ())
theorem impl_SlotsOk_l0_ok (l : List Slot) (h2 : capOk l.length = true) : ∀ (t1 p1 : List Slot) (_ : l = p1 ++ t1) , Pn (LpO Try.prog (sub (codeOf Try.prog 74) [1, 0, 1, 0, 0]) (st 29 [(0, V.sl false 164 (List.map E164 l)), (5, V.sl false 164 (List.map E164 l)), (6, vI (l.length : Int)), (7, vI (p1.length : Int))] [] []) (fun (y : Lo Unit Unit) => Lo.elim y (fun s => (X.out 0, st 29 [(0, V.sl false 164 (List.map E164 l))] [] [])) (fun s => (X.ret, st 29 [(2, V.sc (.bool false))] [] [])))) (impl_SlotsOk_l0 l t1 p1)
  | [], p1, h1 => by
    unfold impl_SlotsOk_l0
    exact
     Pn.some (LpO.out [.bit false, .mask [0], .ren []] (p := [(decide ((p1.length : Int) < (l.length : Int))) = false]) (by kernel_rfl) (show X.out 0 ≠ X.go from nofun) (cj1 (rng_end h1)))
  | x1 :: t1, p1, h1 => by
    unfold impl_SlotsOk_l0
    exact
     Pn.bind (fun r1 h3 =>
     Pn.ite (fun h4 =>
     Pn.bind (fun r2 h5 =>
     Pn.ite (fun h6 =>
     Pn.some (LpO.out [.bit true, .el (E164 x1), .call [] (E4 r1) [], .bit false, .bit false, .bit false, .bit false, .bit false, .bit false, .call [] (E3 r2) [], .bit false, .bit false, .bit false, .bit true, .wait 1, .mask [2], .ren []] (p := [(decide ((p1.length : Int) < (l.length : Int))) = true,(0 : Int) ≤ (p1.length : Int),(List.map E164 l)[(p1.length : Int).toNat]? = some (E164 x1),Fn Try.prog 136 [(false, E164 x1)] (E4 r1) [],(true || ((E4 r1).nv && nvL [])) = true,(!r1) = false,(!r1) = false,(!r1) = false,(!r1) = false,(!r1) = false,(!r1) = false,Fn Try.prog 137 [(false, E27 l), (false, E9 x1.Trace), (false, E9 x1.Mti)] (E3 r2) [],(true || ((E3 r2).nv && nvL [])) = true,(!r1) = false,(!r1) = false,(!r1) = false,(r2 != (p1.length : Int)) = true]) (by kernel_rfl) (show X.ret ≠ X.go from nofun) (cj (rng_lt h1) (cj (by omega) (cj (rng_get _ h1) (cj (impl_SlotOk_ok x1 r1 h3) (cj rfl (cj (nf h4) (cj (nf h4) (cj (nf h4) (cj (nf h4) (cj (nf h4) (cj (nf h4) (cj (impl_slotAt_ok l x1.Trace x1.Mti r2 h5) (cj rfl (cj (nf h4) (cj (nf h4) (cj (nf h4) (cj1 h6))))))))))))))))))) (fun h6 =>
     LpO.go [.bit true, .el (E164 x1), .call [] (E4 r1) [], .bit false, .bit false, .bit false, .bit false, .bit false, .bit false, .call [] (E3 r2) [], .bit false, .bit false, .bit false, .bit false, .wait 2, .mask [0, 5, 6, 7], .ren [], .nm 7 (vI ((p1 ++ [x1]).length : Int))] (p := [(decide ((p1.length : Int) < (l.length : Int))) = true,(0 : Int) ≤ (p1.length : Int),(List.map E164 l)[(p1.length : Int).toNat]? = some (E164 x1),Fn Try.prog 136 [(false, E164 x1)] (E4 r1) [],(true || ((E4 r1).nv && nvL [])) = true,(!r1) = false,(!r1) = false,(!r1) = false,(!r1) = false,(!r1) = false,(!r1) = false,Fn Try.prog 137 [(false, E27 l), (false, E9 x1.Trace), (false, E9 x1.Mti)] (E3 r2) [],(true || ((E3 r2).nv && nvL [])) = true,(!r1) = false,(!r1) = false,(!r1) = false,(r2 != (p1.length : Int)) = false,vI (i64 ((p1.length : Int) + 1)) = vI ((p1 ++ [x1]).length : Int)]) (by kernel_rfl) (cj (rng_lt h1) (cj (by omega) (cj (rng_get _ h1) (cj (impl_SlotOk_ok x1 r1 h3) (cj rfl (cj (nf h4) (cj (nf h4) (cj (nf h4) (cj (nf h4) (cj (nf h4) (cj (nf h4) (cj (impl_slotAt_ok l x1.Trace x1.Mti r2 h5) (cj rfl (cj (nf h4) (cj (nf h4) (cj (nf h4) (cj h6 (cj1 (rng_next h1 h2))))))))))))))))))) (impl_SlotsOk_l0_ok l h2 t1 (p1 ++ [x1]) (rng_step h1))))) (fun h4 =>
     Pn.some (LpO.out [.bit true, .el (E164 x1), .call [] (E4 r1) [], .bit true, .bit true, .bit true, .bit true, .bit true, .bit true, .bit true, .bit true, .bit true, .bit true, .wait 1, .mask [2], .ren []] (p := [(decide ((p1.length : Int) < (l.length : Int))) = true,(0 : Int) ≤ (p1.length : Int),(List.map E164 l)[(p1.length : Int).toNat]? = some (E164 x1),Fn Try.prog 136 [(false, E164 x1)] (E4 r1) [],(true || ((E4 r1).nv && nvL [])) = true,(!r1) = true,(!r1) = true,(!r1) = true,(!r1) = true,(!r1) = true,(!r1) = true,(!r1) = true,(!r1) = true,(!r1) = true,true = true]) (by kernel_rfl) (show X.ret ≠ X.go from nofun) (cj (rng_lt h1) (cj (by omega) (cj (rng_get _ h1) (cj (impl_SlotOk_ok x1 r1 h3) (cj rfl (cj (nt h4) (cj (nt h4) (cj (nt h4) (cj (nt h4) (cj (nt h4) (cj (nt h4) (cj (nt h4) (cj (nt h4) (cj (nt h4) (cj1 rfl))))))))))))))))))
def impl_SlotsOk (l : List Slot) : Option (Bool) :=
 if (capOk l.length) = true then
 (impl_SlotsOk_l0 l l []).bind fun r3 =>
 Lo.elim r3 (fun s1 =>
 some (decide ((l.length : Int) ≤ 6))) (fun s2 =>
 some false)
 else none
theorem impl_SlotsOk_ok (l : List Slot) : Pn (fun y => Fn Try.prog 74 [(false, E27 l)] (E4 y) []) (impl_SlotsOk l) := by
  unfold impl_SlotsOk
  exact
   Pn.ite (fun h7 =>
   Pn.bind (fun r3 h8 =>
   Pn.lo (fun s1 h9 =>
   Pn.some (Fn.of [.wait 3, .nm 6 (vI (l.length : Int)), .wait 2, .mask [0, 5, 6, 7], .ren [], .loop (X.out 0) (st 29 [(0, V.sl false 164 (List.map E164 l))] [] []), .wait 2, .nm 27 (vI (l.length : Int))] (p := [vI ((List.map E164 l).length : Int) = vI (l.length : Int),Loop Try.prog (sub (codeOf Try.prog 74) [1, 0, 1, 0, 0]) (st 29 [(0, V.sl false 164 (List.map E164 l)), (5, V.sl false 164 (List.map E164 l)), (6, vI (l.length : Int)), (7, vI 0)] [] []) (X.out 0) (st 29 [(0, V.sl false 164 (List.map E164 l))] [] []),vI ((List.map E164 l).length : Int) = vI (l.length : Int)]) (by kernel_rfl) (cj (len_nm _ _) (cj ((impl_SlotsOk_l0_ok l h7 l [] rfl r3 h8).at h9) (cj1 (len_nm _ _)))))) (fun s2 h10 =>
   Pn.some (Fn.of [.wait 3, .nm 6 (vI (l.length : Int)), .wait 2, .mask [0, 5, 6, 7], .ren [], .loop (X.ret) (st 29 [(2, V.sc (.bool false))] [] [])] (p := [vI ((List.map E164 l).length : Int) = vI (l.length : Int),Loop Try.prog (sub (codeOf Try.prog 74) [1, 0, 1, 0, 0]) (st 29 [(0, V.sl false 164 (List.map E164 l)), (5, V.sl false 164 (List.map E164 l)), (6, vI (l.length : Int)), (7, vI 0)] [] []) (X.ret) (st 29 [(2, V.sc (.bool false))] [] [])]) (by kernel_rfl) (cj (len_nm _ _) (cj1 ((impl_SlotsOk_l0_ok l h7 l [] rfl r3 h8).at h10))))))) (fun h7 =>
   Pn.none)
def impl_AddSat (a : Int) (b : Int) : Option (Int) :=
 if (decide ((i64 (4611686018427387904 - (imax 0 (imin b 4611686018427387904)))) < (imax 0 (imin a 4611686018427387904)))) = true then
 some 4611686018427387904
 else
 some (i64 ((imax 0 (imin a 4611686018427387904)) + (imax 0 (imin b 4611686018427387904))))
theorem impl_AddSat_ok (a : Int) (b : Int) : Pn (fun y => Fn Try.prog 68 [(false, E3 a), (false, E3 b)] (E3 y) []) (impl_AddSat a b) := by
  unfold impl_AddSat
  exact
   Pn.ite (fun h1 =>
   Pn.some (Fn.of [.bit true] (p := [(decide ((i64 (4611686018427387904 - (imax 0 (imin b 4611686018427387904)))) < (imax 0 (imin a 4611686018427387904)))) = true]) (by kernel_rfl) (cj1 h1))) (fun h1 =>
   Pn.some (Fn.of [.bit false] (p := [(decide ((i64 (4611686018427387904 - (imax 0 (imin b 4611686018427387904)))) < (imax 0 (imin a 4611686018427387904)))) = false]) (by kernel_rfl) (cj1 h1)))
def impl_Stored_l0 (l : List Hold) : List Hold → Int → Option (Int)
  | [], v1 =>
   some v1
  | x1 :: t1, v1 =>
   (impl_AddSat v1 x1.Amount).bind fun r1 =>
   impl_Stored_l0 l t1 r1
theorem impl_Stored_l0_ok (l : List Hold) (h2 : capOk l.length = true) : ∀ (t1 p1 : List Hold) (_ : l = p1 ++ t1) (v1 : Int), Pn (LpO Try.prog (sub (codeOf Try.prog 16) [1, 1, 0, 1, 0, 0]) (st 18 [(3, vI v1), (6, V.sl false 36 (List.map E36 l)), (7, vI (l.length : Int)), (8, vI (p1.length : Int))] [] []) (fun (y : Int) => (X.out 0, st 18 [(3, vI y)] [] []))) (impl_Stored_l0 l t1 v1)
  | [], p1, h1, v1 => by
    unfold impl_Stored_l0
    exact
     Pn.some (LpO.out [.bit false, .mask [3], .ren []] (p := [(decide ((p1.length : Int) < (l.length : Int))) = false]) (by kernel_rfl) (show X.out 0 ≠ X.go from nofun) (cj1 (rng_end h1)))
  | x1 :: t1, p1, h1, v1 => by
    unfold impl_Stored_l0
    exact
     Pn.bind (fun r1 h3 =>
     LpO.go [.bit true, .el (E36 x1), .call [] (E3 r1) [], .wait 4, .mask [3, 6, 7, 8], .ren [], .nm 8 (vI ((p1 ++ [x1]).length : Int))] (p := [(decide ((p1.length : Int) < (l.length : Int))) = true,(0 : Int) ≤ (p1.length : Int),(List.map E36 l)[(p1.length : Int).toNat]? = some (E36 x1),Fn Try.prog 68 [(false, E3 v1), (false, E3 x1.Amount)] (E3 r1) [],(true || ((E3 r1).nv && nvL [])) = true,vI (i64 ((p1.length : Int) + 1)) = vI ((p1 ++ [x1]).length : Int)]) (by kernel_rfl) (cj (rng_lt h1) (cj (by omega) (cj (rng_get _ h1) (cj (impl_AddSat_ok v1 x1.Amount r1 h3) (cj rfl (cj1 (rng_next h1 h2))))))) (impl_Stored_l0_ok l h2 t1 (p1 ++ [x1]) (rng_step h1) r1))
def impl_Stored (l : List Hold) : Option (Int) :=
 if (capOk l.length) = true then
 (impl_Stored_l0 l l 0).bind fun r2 =>
 some r2
 else none
theorem impl_Stored_ok (l : List Hold) : Pn (fun y => Fn Try.prog 16 [(false, E23 l)] (E3 y) []) (impl_Stored l) := by
  unfold impl_Stored
  exact
   Pn.ite (fun h4 =>
   Pn.bind (fun r2 h5 =>
   Pn.some (Fn.of [.wait 4, .nm 7 (vI (l.length : Int)), .wait 2, .mask [3, 6, 7, 8], .ren [], .loop (X.out 0) (st 18 [(3, vI r2)] [] [])] (p := [vI ((List.map E36 l).length : Int) = vI (l.length : Int),Loop Try.prog (sub (codeOf Try.prog 16) [1, 1, 0, 1, 0, 0]) (st 18 [(3, vI 0), (6, V.sl false 36 (List.map E36 l)), (7, vI (l.length : Int)), (8, vI 0)] [] []) (X.out 0) (st 18 [(3, vI r2)] [] [])]) (by kernel_rfl) (cj (len_nm _ _) (cj1 (impl_Stored_l0_ok l h4 l [] rfl 0 r2 h5)))))) (fun h4 =>
   Pn.none)
def impl_AcctOk (a : Acct) : Option (Bool) :=
 (impl_AcctIdOk a.Id).bind fun r1 =>
 if r1 = true then
 (impl_within a.Limit 0 9007199254740992).bind fun r2 =>
 if r2 = true then
 (impl_within a.Most 0 1000).bind fun r3 =>
 if r3 = true then
 (impl_within a.MostSum 0 9007199254740992).bind fun r4 =>
 if r4 = true then
 (impl_isMoney a.Posted).bind fun r5 =>
 if r5 = true then
 (impl_HoldsOk a.Holds).bind fun r6 =>
 if r6 = true then
 (impl_RingOk a.Ring).bind fun r7 =>
 if r7 = true then
 (impl_SlotsOk a.Slots).bind fun r8 =>
 if r8 = true then
 (impl_Stored a.Holds).bind fun r9 =>
 (impl_AddSat a.Posted r9).bind fun r10 =>
 some (decide (r10 ≤ a.Limit))
 else
 some false
 else
 some false
 else
 some false
 else
 some false
 else
 some false
 else
 some false
 else
 some false
 else
 some false
theorem impl_AcctOk_ok (a : Acct) : Pn (fun y => Fn Try.prog 17 [(false, E29 a)] (E4 y) []) (impl_AcctOk a) := by
  unfold impl_AcctOk
  exact
   Pn.bind (fun r1 h1 =>
   Pn.ite (fun h2 =>
   Pn.bind (fun r2 h3 =>
   Pn.ite (fun h4 =>
   Pn.bind (fun r3 h5 =>
   Pn.ite (fun h6 =>
   Pn.bind (fun r4 h7 =>
   Pn.ite (fun h8 =>
   Pn.bind (fun r5 h9 =>
   Pn.ite (fun h10 =>
   Pn.bind (fun r6 h11 =>
   Pn.ite (fun h12 =>
   Pn.bind (fun r7 h13 =>
   Pn.ite (fun h14 =>
   Pn.bind (fun r8 h15 =>
   Pn.ite (fun h16 =>
   Pn.bind (fun r9 h17 =>
   Pn.bind (fun r10 h18 =>
   Pn.some (Fn.of [.draw [], .call [] (E4 r1) [], .bit true, .bit true, .bit true, .call [] (E4 r2) [], .bit true, .bit true, .bit true, .bit true, .call [] (E4 r3) [], .bit true, .bit true, .bit true, .bit true, .call [] (E4 r4) [], .bit true, .bit true, .bit true, .bit true, .call [] (E4 r5) [], .bit true, .bit true, .bit true, .bit true, .call [] (E4 r6) [], .bit true, .bit true, .bit true, .bit true, .call [] (E4 r7) [], .bit true, .bit true, .bit true, .bit true, .call [] (E4 r8) [], .bit true, .bit true, .bit true, .bit true, .bit true, .bit true, .bit true, .bit true, .call [] (E3 r9) [], .bit true, .call [] (E3 r10) [], .bit true, .bit true] (p := [Fn Try.prog 69 [(false, E9 a.Id)] (E4 r1) [],(true || ((E4 r1).nv && nvL [])) = true,r1 = true,r1 = true,r1 = true,Fn Try.prog 70 [(false, E3 a.Limit), (false, E3 0), (false, E3 9007199254740992)] (E4 r2) [],(true || ((E4 r2).nv && nvL [])) = true,r1 = true,r2 = true,r2 = true,r2 = true,Fn Try.prog 70 [(false, E3 a.Most), (false, E3 0), (false, E3 1000)] (E4 r3) [],(true || ((E4 r3).nv && nvL [])) = true,r2 = true,r3 = true,r3 = true,r3 = true,Fn Try.prog 70 [(false, E3 a.MostSum), (false, E3 0), (false, E3 9007199254740992)] (E4 r4) [],(true || ((E4 r4).nv && nvL [])) = true,r3 = true,r4 = true,r4 = true,r4 = true,Fn Try.prog 71 [(false, E3 a.Posted)] (E4 r5) [],(true || ((E4 r5).nv && nvL [])) = true,r4 = true,r5 = true,r5 = true,r5 = true,Fn Try.prog 72 [(false, E23 a.Holds)] (E4 r6) [],(true || ((E4 r6).nv && nvL [])) = true,r5 = true,r6 = true,r6 = true,r6 = true,Fn Try.prog 73 [(false, E26 a.Ring)] (E4 r7) [],(true || ((E4 r7).nv && nvL [])) = true,r6 = true,r7 = true,r7 = true,r7 = true,Fn Try.prog 74 [(false, E27 a.Slots)] (E4 r8) [],(true || ((E4 r8).nv && nvL [])) = true,r7 = true,r8 = true,r8 = true,r8 = true,r8 = true,r8 = true,r8 = true,r8 = true,Fn Try.prog 16 [(false, E23 a.Holds)] (E3 r9) [],(true || ((E3 r9).nv && nvL [])) = true,r8 = true,Fn Try.prog 68 [(false, E3 a.Posted), (false, E3 r9)] (E3 r10) [],(true || ((E3 r10).nv && nvL [])) = true,r8 = true,r8 = true]) (by kernel_rfl) (cj (impl_AcctIdOk_ok a.Id r1 h1) (cj rfl (cj h2 (cj h2 (cj h2 (cj (impl_within_ok a.Limit 0 9007199254740992 r2 h3) (cj rfl (cj h2 (cj h4 (cj h4 (cj h4 (cj (impl_within_ok a.Most 0 1000 r3 h5) (cj rfl (cj h4 (cj h6 (cj h6 (cj h6 (cj (impl_within_ok a.MostSum 0 9007199254740992 r4 h7) (cj rfl (cj h6 (cj h8 (cj h8 (cj h8 (cj (impl_isMoney_ok a.Posted r5 h9) (cj rfl (cj h8 (cj h10 (cj h10 (cj h10 (cj (impl_HoldsOk_ok a.Holds r6 h11) (cj rfl (cj h10 (cj h12 (cj h12 (cj h12 (cj (impl_RingOk_ok a.Ring r7 h13) (cj rfl (cj h12 (cj h14 (cj h14 (cj h14 (cj (impl_SlotsOk_ok a.Slots r8 h15) (cj rfl (cj h14 (cj h16 (cj h16 (cj h16 (cj h16 (cj h16 (cj h16 (cj h16 (cj (impl_Stored_ok a.Holds r9 h17) (cj rfl (cj h16 (cj (impl_AddSat_ok a.Posted r9 r10 h18) (cj rfl (cj h16 (cj1 h16)))))))))))))))))))))))))))))))))))))))))))))))))))))))))))))) (fun h16 =>
   Pn.some (Fn.of [.draw [], .call [] (E4 r1) [], .bit true, .bit true, .bit true, .call [] (E4 r2) [], .bit true, .bit true, .bit true, .bit true, .call [] (E4 r3) [], .bit true, .bit true, .bit true, .bit true, .call [] (E4 r4) [], .bit true, .bit true, .bit true, .bit true, .call [] (E4 r5) [], .bit true, .bit true, .bit true, .bit true, .call [] (E4 r6) [], .bit true, .bit true, .bit true, .bit true, .call [] (E4 r7) [], .bit true, .bit true, .bit true, .bit true, .call [] (E4 r8) [], .bit true, .bit false, .bit false, .bit false, .bit false, .bit false, .bit false, .bit false, .bit false, .bit false, .bit false] (p := [Fn Try.prog 69 [(false, E9 a.Id)] (E4 r1) [],(true || ((E4 r1).nv && nvL [])) = true,r1 = true,r1 = true,r1 = true,Fn Try.prog 70 [(false, E3 a.Limit), (false, E3 0), (false, E3 9007199254740992)] (E4 r2) [],(true || ((E4 r2).nv && nvL [])) = true,r1 = true,r2 = true,r2 = true,r2 = true,Fn Try.prog 70 [(false, E3 a.Most), (false, E3 0), (false, E3 1000)] (E4 r3) [],(true || ((E4 r3).nv && nvL [])) = true,r2 = true,r3 = true,r3 = true,r3 = true,Fn Try.prog 70 [(false, E3 a.MostSum), (false, E3 0), (false, E3 9007199254740992)] (E4 r4) [],(true || ((E4 r4).nv && nvL [])) = true,r3 = true,r4 = true,r4 = true,r4 = true,Fn Try.prog 71 [(false, E3 a.Posted)] (E4 r5) [],(true || ((E4 r5).nv && nvL [])) = true,r4 = true,r5 = true,r5 = true,r5 = true,Fn Try.prog 72 [(false, E23 a.Holds)] (E4 r6) [],(true || ((E4 r6).nv && nvL [])) = true,r5 = true,r6 = true,r6 = true,r6 = true,Fn Try.prog 73 [(false, E26 a.Ring)] (E4 r7) [],(true || ((E4 r7).nv && nvL [])) = true,r6 = true,r7 = true,r7 = true,r7 = true,Fn Try.prog 74 [(false, E27 a.Slots)] (E4 r8) [],(true || ((E4 r8).nv && nvL [])) = true,r7 = true,r8 = false,r8 = false,r8 = false,r8 = false,r8 = false,r8 = false,r8 = false,r8 = false,r8 = false,r8 = false]) (by kernel_rfl) (cj (impl_AcctIdOk_ok a.Id r1 h1) (cj rfl (cj h2 (cj h2 (cj h2 (cj (impl_within_ok a.Limit 0 9007199254740992 r2 h3) (cj rfl (cj h2 (cj h4 (cj h4 (cj h4 (cj (impl_within_ok a.Most 0 1000 r3 h5) (cj rfl (cj h4 (cj h6 (cj h6 (cj h6 (cj (impl_within_ok a.MostSum 0 9007199254740992 r4 h7) (cj rfl (cj h6 (cj h8 (cj h8 (cj h8 (cj (impl_isMoney_ok a.Posted r5 h9) (cj rfl (cj h8 (cj h10 (cj h10 (cj h10 (cj (impl_HoldsOk_ok a.Holds r6 h11) (cj rfl (cj h10 (cj h12 (cj h12 (cj h12 (cj (impl_RingOk_ok a.Ring r7 h13) (cj rfl (cj h12 (cj h14 (cj h14 (cj h14 (cj (impl_SlotsOk_ok a.Slots r8 h15) (cj rfl (cj h14 (cj h16 (cj h16 (cj h16 (cj h16 (cj h16 (cj h16 (cj h16 (cj h16 (cj h16 (cj1 h16)))))))))))))))))))))))))))))))))))))))))))))))))))))))))) (fun h14 =>
   Pn.some (Fn.of [.draw [], .call [] (E4 r1) [], .bit true, .bit true, .bit true, .call [] (E4 r2) [], .bit true, .bit true, .bit true, .bit true, .call [] (E4 r3) [], .bit true, .bit true, .bit true, .bit true, .call [] (E4 r4) [], .bit true, .bit true, .bit true, .bit true, .call [] (E4 r5) [], .bit true, .bit true, .bit true, .bit true, .call [] (E4 r6) [], .bit true, .bit true, .bit true, .bit true, .call [] (E4 r7) [], .bit true, .bit false, .bit false, .bit false, .bit false, .bit false, .bit false, .bit false, .bit false, .bit false, .bit false, .bit false, .bit false, .bit false, .bit false] (p := [Fn Try.prog 69 [(false, E9 a.Id)] (E4 r1) [],(true || ((E4 r1).nv && nvL [])) = true,r1 = true,r1 = true,r1 = true,Fn Try.prog 70 [(false, E3 a.Limit), (false, E3 0), (false, E3 9007199254740992)] (E4 r2) [],(true || ((E4 r2).nv && nvL [])) = true,r1 = true,r2 = true,r2 = true,r2 = true,Fn Try.prog 70 [(false, E3 a.Most), (false, E3 0), (false, E3 1000)] (E4 r3) [],(true || ((E4 r3).nv && nvL [])) = true,r2 = true,r3 = true,r3 = true,r3 = true,Fn Try.prog 70 [(false, E3 a.MostSum), (false, E3 0), (false, E3 9007199254740992)] (E4 r4) [],(true || ((E4 r4).nv && nvL [])) = true,r3 = true,r4 = true,r4 = true,r4 = true,Fn Try.prog 71 [(false, E3 a.Posted)] (E4 r5) [],(true || ((E4 r5).nv && nvL [])) = true,r4 = true,r5 = true,r5 = true,r5 = true,Fn Try.prog 72 [(false, E23 a.Holds)] (E4 r6) [],(true || ((E4 r6).nv && nvL [])) = true,r5 = true,r6 = true,r6 = true,r6 = true,Fn Try.prog 73 [(false, E26 a.Ring)] (E4 r7) [],(true || ((E4 r7).nv && nvL [])) = true,r6 = true,r7 = false,r7 = false,r7 = false,r7 = false,false = false,false = false,false = false,false = false,false = false,false = false,false = false,false = false,false = false,false = false]) (by kernel_rfl) (cj (impl_AcctIdOk_ok a.Id r1 h1) (cj rfl (cj h2 (cj h2 (cj h2 (cj (impl_within_ok a.Limit 0 9007199254740992 r2 h3) (cj rfl (cj h2 (cj h4 (cj h4 (cj h4 (cj (impl_within_ok a.Most 0 1000 r3 h5) (cj rfl (cj h4 (cj h6 (cj h6 (cj h6 (cj (impl_within_ok a.MostSum 0 9007199254740992 r4 h7) (cj rfl (cj h6 (cj h8 (cj h8 (cj h8 (cj (impl_isMoney_ok a.Posted r5 h9) (cj rfl (cj h8 (cj h10 (cj h10 (cj h10 (cj (impl_HoldsOk_ok a.Holds r6 h11) (cj rfl (cj h10 (cj h12 (cj h12 (cj h12 (cj (impl_RingOk_ok a.Ring r7 h13) (cj rfl (cj h12 (cj h14 (cj h14 (cj h14 (cj h14 (cj rfl (cj rfl (cj rfl (cj rfl (cj rfl (cj rfl (cj rfl (cj rfl (cj rfl (cj1 rfl)))))))))))))))))))))))))))))))))))))))))))))))))))))))) (fun h12 =>
   Pn.some (Fn.of [.draw [], .call [] (E4 r1) [], .bit true, .bit true, .bit true, .call [] (E4 r2) [], .bit true, .bit true, .bit true, .bit true, .call [] (E4 r3) [], .bit true, .bit true, .bit true, .bit true, .call [] (E4 r4) [], .bit true, .bit true, .bit true, .bit true, .call [] (E4 r5) [], .bit true, .bit true, .bit true, .bit true, .call [] (E4 r6) [], .bit true, .bit false, .bit false, .bit false, .bit false, .bit false, .bit false, .bit false, .bit false, .bit false, .bit false, .bit false, .bit false, .bit false, .bit false, .bit false, .bit false, .bit false, .bit false] (p := [Fn Try.prog 69 [(false, E9 a.Id)] (E4 r1) [],(true || ((E4 r1).nv && nvL [])) = true,r1 = true,r1 = true,r1 = true,Fn Try.prog 70 [(false, E3 a.Limit), (false, E3 0), (false, E3 9007199254740992)] (E4 r2) [],(true || ((E4 r2).nv && nvL [])) = true,r1 = true,r2 = true,r2 = true,r2 = true,Fn Try.prog 70 [(false, E3 a.Most), (false, E3 0), (false, E3 1000)] (E4 r3) [],(true || ((E4 r3).nv && nvL [])) = true,r2 = true,r3 = true,r3 = true,r3 = true,Fn Try.prog 70 [(false, E3 a.MostSum), (false, E3 0), (false, E3 9007199254740992)] (E4 r4) [],(true || ((E4 r4).nv && nvL [])) = true,r3 = true,r4 = true,r4 = true,r4 = true,Fn Try.prog 71 [(false, E3 a.Posted)] (E4 r5) [],(true || ((E4 r5).nv && nvL [])) = true,r4 = true,r5 = true,r5 = true,r5 = true,Fn Try.prog 72 [(false, E23 a.Holds)] (E4 r6) [],(true || ((E4 r6).nv && nvL [])) = true,r5 = true,r6 = false,r6 = false,r6 = false,r6 = false,false = false,false = false,false = false,false = false,false = false,false = false,false = false,false = false,false = false,false = false,false = false,false = false,false = false,false = false]) (by kernel_rfl) (cj (impl_AcctIdOk_ok a.Id r1 h1) (cj rfl (cj h2 (cj h2 (cj h2 (cj (impl_within_ok a.Limit 0 9007199254740992 r2 h3) (cj rfl (cj h2 (cj h4 (cj h4 (cj h4 (cj (impl_within_ok a.Most 0 1000 r3 h5) (cj rfl (cj h4 (cj h6 (cj h6 (cj h6 (cj (impl_within_ok a.MostSum 0 9007199254740992 r4 h7) (cj rfl (cj h6 (cj h8 (cj h8 (cj h8 (cj (impl_isMoney_ok a.Posted r5 h9) (cj rfl (cj h8 (cj h10 (cj h10 (cj h10 (cj (impl_HoldsOk_ok a.Holds r6 h11) (cj rfl (cj h10 (cj h12 (cj h12 (cj h12 (cj h12 (cj rfl (cj rfl (cj rfl (cj rfl (cj rfl (cj rfl (cj rfl (cj rfl (cj rfl (cj rfl (cj rfl (cj rfl (cj rfl (cj1 rfl)))))))))))))))))))))))))))))))))))))))))))))))))))))) (fun h10 =>
   Pn.some (Fn.of [.draw [], .call [] (E4 r1) [], .bit true, .bit true, .bit true, .call [] (E4 r2) [], .bit true, .bit true, .bit true, .bit true, .call [] (E4 r3) [], .bit true, .bit true, .bit true, .bit true, .call [] (E4 r4) [], .bit true, .bit true, .bit true, .bit true, .call [] (E4 r5) [], .bit true, .bit false, .bit false, .bit false, .bit false, .bit false, .bit false, .bit false, .bit false, .bit false, .bit false, .bit false, .bit false, .bit false, .bit false, .bit false, .bit false, .bit false, .bit false, .bit false, .bit false, .bit false, .bit false] (p := [Fn Try.prog 69 [(false, E9 a.Id)] (E4 r1) [],(true || ((E4 r1).nv && nvL [])) = true,r1 = true,r1 = true,r1 = true,Fn Try.prog 70 [(false, E3 a.Limit), (false, E3 0), (false, E3 9007199254740992)] (E4 r2) [],(true || ((E4 r2).nv && nvL [])) = true,r1 = true,r2 = true,r2 = true,r2 = true,Fn Try.prog 70 [(false, E3 a.Most), (false, E3 0), (false, E3 1000)] (E4 r3) [],(true || ((E4 r3).nv && nvL [])) = true,r2 = true,r3 = true,r3 = true,r3 = true,Fn Try.prog 70 [(false, E3 a.MostSum), (false, E3 0), (false, E3 9007199254740992)] (E4 r4) [],(true || ((E4 r4).nv && nvL [])) = true,r3 = true,r4 = true,r4 = true,r4 = true,Fn Try.prog 71 [(false, E3 a.Posted)] (E4 r5) [],(true || ((E4 r5).nv && nvL [])) = true,r4 = true,r5 = false,r5 = false,r5 = false,r5 = false,false = false,false = false,false = false,false = false,false = false,false = false,false = false,false = false,false = false,false = false,false = false,false = false,false = false,false = false,false = false,false = false,false = false,false = false]) (by kernel_rfl) (cj (impl_AcctIdOk_ok a.Id r1 h1) (cj rfl (cj h2 (cj h2 (cj h2 (cj (impl_within_ok a.Limit 0 9007199254740992 r2 h3) (cj rfl (cj h2 (cj h4 (cj h4 (cj h4 (cj (impl_within_ok a.Most 0 1000 r3 h5) (cj rfl (cj h4 (cj h6 (cj h6 (cj h6 (cj (impl_within_ok a.MostSum 0 9007199254740992 r4 h7) (cj rfl (cj h6 (cj h8 (cj h8 (cj h8 (cj (impl_isMoney_ok a.Posted r5 h9) (cj rfl (cj h8 (cj h10 (cj h10 (cj h10 (cj h10 (cj rfl (cj rfl (cj rfl (cj rfl (cj rfl (cj rfl (cj rfl (cj rfl (cj rfl (cj rfl (cj rfl (cj rfl (cj rfl (cj rfl (cj rfl (cj rfl (cj rfl (cj1 rfl)))))))))))))))))))))))))))))))))))))))))))))))))))) (fun h8 =>
   Pn.some (Fn.of [.draw [], .call [] (E4 r1) [], .bit true, .bit true, .bit true, .call [] (E4 r2) [], .bit true, .bit true, .bit true, .bit true, .call [] (E4 r3) [], .bit true, .bit true, .bit true, .bit true, .call [] (E4 r4) [], .bit true, .bit false, .bit false, .bit false, .bit false, .bit false, .bit false, .bit false, .bit false, .bit false, .bit false, .bit false, .bit false, .bit false, .bit false, .bit false, .bit false, .bit false, .bit false, .bit false, .bit false, .bit false, .bit false, .bit false, .bit false, .bit false, .bit false] (p := [Fn Try.prog 69 [(false, E9 a.Id)] (E4 r1) [],(true || ((E4 r1).nv && nvL [])) = true,r1 = true,r1 = true,r1 = true,Fn Try.prog 70 [(false, E3 a.Limit), (false, E3 0), (false, E3 9007199254740992)] (E4 r2) [],(true || ((E4 r2).nv && nvL [])) = true,r1 = true,r2 = true,r2 = true,r2 = true,Fn Try.prog 70 [(false, E3 a.Most), (false, E3 0), (false, E3 1000)] (E4 r3) [],(true || ((E4 r3).nv && nvL [])) = true,r2 = true,r3 = true,r3 = true,r3 = true,Fn Try.prog 70 [(false, E3 a.MostSum), (false, E3 0), (false, E3 9007199254740992)] (E4 r4) [],(true || ((E4 r4).nv && nvL [])) = true,r3 = true,r4 = false,r4 = false,r4 = false,r4 = false,false = false,false = false,false = false,false = false,false = false,false = false,false = false,false = false,false = false,false = false,false = false,false = false,false = false,false = false,false = false,false = false,false = false,false = false,false = false,false = false,false = false,false = false]) (by kernel_rfl) (cj (impl_AcctIdOk_ok a.Id r1 h1) (cj rfl (cj h2 (cj h2 (cj h2 (cj (impl_within_ok a.Limit 0 9007199254740992 r2 h3) (cj rfl (cj h2 (cj h4 (cj h4 (cj h4 (cj (impl_within_ok a.Most 0 1000 r3 h5) (cj rfl (cj h4 (cj h6 (cj h6 (cj h6 (cj (impl_within_ok a.MostSum 0 9007199254740992 r4 h7) (cj rfl (cj h6 (cj h8 (cj h8 (cj h8 (cj h8 (cj rfl (cj rfl (cj rfl (cj rfl (cj rfl (cj rfl (cj rfl (cj rfl (cj rfl (cj rfl (cj rfl (cj rfl (cj rfl (cj rfl (cj rfl (cj rfl (cj rfl (cj rfl (cj rfl (cj rfl (cj rfl (cj1 rfl)))))))))))))))))))))))))))))))))))))))))))))))))) (fun h6 =>
   Pn.some (Fn.of [.draw [], .call [] (E4 r1) [], .bit true, .bit true, .bit true, .call [] (E4 r2) [], .bit true, .bit true, .bit true, .bit true, .call [] (E4 r3) [], .bit true, .bit false, .bit false, .bit false, .bit false, .bit false, .bit false, .bit false, .bit false, .bit false, .bit false, .bit false, .bit false, .bit false, .bit false, .bit false, .bit false, .bit false, .bit false, .bit false, .bit false, .bit false, .bit false, .bit false, .bit false, .bit false, .bit false, .bit false, .bit false, .bit false, .bit false] (p := [Fn Try.prog 69 [(false, E9 a.Id)] (E4 r1) [],(true || ((E4 r1).nv && nvL [])) = true,r1 = true,r1 = true,r1 = true,Fn Try.prog 70 [(false, E3 a.Limit), (false, E3 0), (false, E3 9007199254740992)] (E4 r2) [],(true || ((E4 r2).nv && nvL [])) = true,r1 = true,r2 = true,r2 = true,r2 = true,Fn Try.prog 70 [(false, E3 a.Most), (false, E3 0), (false, E3 1000)] (E4 r3) [],(true || ((E4 r3).nv && nvL [])) = true,r2 = true,r3 = false,r3 = false,r3 = false,r3 = false,false = false,false = false,false = false,false = false,false = false,false = false,false = false,false = false,false = false,false = false,false = false,false = false,false = false,false = false,false = false,false = false,false = false,false = false,false = false,false = false,false = false,false = false,false = false,false = false,false = false,false = false]) (by kernel_rfl) (cj (impl_AcctIdOk_ok a.Id r1 h1) (cj rfl (cj h2 (cj h2 (cj h2 (cj (impl_within_ok a.Limit 0 9007199254740992 r2 h3) (cj rfl (cj h2 (cj h4 (cj h4 (cj h4 (cj (impl_within_ok a.Most 0 1000 r3 h5) (cj rfl (cj h4 (cj h6 (cj h6 (cj h6 (cj h6 (cj rfl (cj rfl (cj rfl (cj rfl (cj rfl (cj rfl (cj rfl (cj rfl (cj rfl (cj rfl (cj rfl (cj rfl (cj rfl (cj rfl (cj rfl (cj rfl (cj rfl (cj rfl (cj rfl (cj rfl (cj rfl (cj rfl (cj rfl (cj rfl (cj rfl (cj1 rfl)))))))))))))))))))))))))))))))))))))))))))))))) (fun h4 =>
   Pn.some (Fn.of [.draw [], .call [] (E4 r1) [], .bit true, .bit true, .bit true, .call [] (E4 r2) [], .bit true, .bit false, .bit false, .bit false, .bit false, .bit false, .bit false, .bit false, .bit false, .bit false, .bit false, .bit false, .bit false, .bit false, .bit false, .bit false, .bit false, .bit false, .bit false, .bit false, .bit false, .bit false, .bit false, .bit false, .bit false, .bit false, .bit false, .bit false, .bit false, .bit false, .bit false, .bit false, .bit false, .bit false, .bit false] (p := [Fn Try.prog 69 [(false, E9 a.Id)] (E4 r1) [],(true || ((E4 r1).nv && nvL [])) = true,r1 = true,r1 = true,r1 = true,Fn Try.prog 70 [(false, E3 a.Limit), (false, E3 0), (false, E3 9007199254740992)] (E4 r2) [],(true || ((E4 r2).nv && nvL [])) = true,r1 = true,r2 = false,r2 = false,r2 = false,r2 = false,false = false,false = false,false = false,false = false,false = false,false = false,false = false,false = false,false = false,false = false,false = false,false = false,false = false,false = false,false = false,false = false,false = false,false = false,false = false,false = false,false = false,false = false,false = false,false = false,false = false,false = false,false = false,false = false,false = false,false = false]) (by kernel_rfl) (cj (impl_AcctIdOk_ok a.Id r1 h1) (cj rfl (cj h2 (cj h2 (cj h2 (cj (impl_within_ok a.Limit 0 9007199254740992 r2 h3) (cj rfl (cj h2 (cj h4 (cj h4 (cj h4 (cj h4 (cj rfl (cj rfl (cj rfl (cj rfl (cj rfl (cj rfl (cj rfl (cj rfl (cj rfl (cj rfl (cj rfl (cj rfl (cj rfl (cj rfl (cj rfl (cj rfl (cj rfl (cj rfl (cj rfl (cj rfl (cj rfl (cj rfl (cj rfl (cj rfl (cj rfl (cj rfl (cj rfl (cj rfl (cj rfl (cj1 rfl)))))))))))))))))))))))))))))))))))))))))))))) (fun h2 =>
   Pn.some (Fn.of [.draw [], .call [] (E4 r1) [], .bit false, .bit false, .bit false, .bit false, .bit false, .bit false, .bit false, .bit false, .bit false, .bit false, .bit false, .bit false, .bit false, .bit false, .bit false, .bit false, .bit false, .bit false, .bit false, .bit false, .bit false, .bit false, .bit false, .bit false, .bit false, .bit false, .bit false, .bit false, .bit false, .bit false, .bit false, .bit false, .bit false, .bit false, .bit false, .bit false, .bit false, .bit false] (p := [Fn Try.prog 69 [(false, E9 a.Id)] (E4 r1) [],(true || ((E4 r1).nv && nvL [])) = true,r1 = false,r1 = false,r1 = false,r1 = false,false = false,false = false,false = false,false = false,false = false,false = false,false = false,false = false,false = false,false = false,false = false,false = false,false = false,false = false,false = false,false = false,false = false,false = false,false = false,false = false,false = false,false = false,false = false,false = false,false = false,false = false,false = false,false = false,false = false,false = false,false = false,false = false,false = false,false = false]) (by kernel_rfl) (cj (impl_AcctIdOk_ok a.Id r1 h1) (cj rfl (cj h2 (cj h2 (cj h2 (cj h2 (cj rfl (cj rfl (cj rfl (cj rfl (cj rfl (cj rfl (cj rfl (cj rfl (cj rfl (cj rfl (cj rfl (cj rfl (cj rfl (cj rfl (cj rfl (cj rfl (cj rfl (cj rfl (cj rfl (cj rfl (cj rfl (cj rfl (cj rfl (cj rfl (cj rfl (cj rfl (cj rfl (cj rfl (cj rfl (cj rfl (cj rfl (cj rfl (cj rfl (cj1 rfl)))))))))))))))))))))))))))))))))))))))))))
def impl_BookOk_l0 (b : Book) : List Acct → List Acct → Option (Lo Unit Unit)
  | [], p1 =>
   some (.out ())
  | x1 :: t1, p1 =>
   (impl_AcctOk x1).bind fun r1 =>
   if r1 = true then
   if (decide (0 < (p1.length : Int))) = true then
   if (decide (0 ≤ (i64 ((p1.length : Int) - 1)))) = true then
   (b.Accts[(i64 ((p1.length : Int) - 1)).toNat]?).bind fun x2 =>
   if (Op.bytesLess x1.Id.toList x2.Id.toList || (x1.Id == x2.Id)) = true then
   some (.ret ())
   else
   impl_BookOk_l0 b t1 (p1 ++ [x1])
   else none
   else
   impl_BookOk_l0 b t1 (p1 ++ [x1])
   else
   some (.ret ())
theorem impl_BookOk_l0_ok (b : Book) (h2 : capOk b.Accts.length = true) : ∀ (t1 p1 : List Acct) (_ : b.Accts = p1 ++ t1) , Pn (LpO Try.prog (sub (codeOf Try.prog 83) [1, 0, 1, 0, 0]) (st 37 [(1, V.ptr 0 0), (6, V.sl false 29 (List.map E29 b.Accts)), (7, vI (b.Accts.length : Int)), (8, vI (p1.length : Int))] [Blk.box 50 [V.sl false 29 (List.map E29 b.Accts)]] []) (fun (y : Lo Unit Unit) => Lo.elim y (fun s => (X.out 0, st 37 [(1, V.ptr 0 0)] [Blk.box 50 [V.sl false 29 (List.map E29 b.Accts)]] [])) (fun s => (X.ret, st 37 [(2, V.sc (.bool false))] [] [])))) (impl_BookOk_l0 b t1 p1)
  | [], p1, h1 => by
    unfold impl_BookOk_l0
    exact
     Pn.some (LpO.out [.bit false, .mask [1], .ren [0]] (p := [(decide ((p1.length : Int) < (b.Accts.length : Int))) = false]) (by kernel_rfl) (show X.out 0 ≠ X.go from nofun) (cj1 (rng_end h1)))
  | x1 :: t1, p1, h1 => by
    unfold impl_BookOk_l0
    exact
     Pn.bind (fun r1 h3 =>
     Pn.ite (fun h4 =>
     Pn.ite (fun h5 =>
     Pn.ite (fun h6 =>
     Pn.bind (fun x2 h7 =>
     Pn.ite (fun h8 =>
     Pn.some (LpO.out [.bit true, .el (E29 x1), .draw [], .call [] (E4 r1) [], .bit false, .bit false, .bit false, .bit true, .bit true, .bit true, .bit true, .bit true, .bit true, .bit true, .el (E29 x2), .bit true, .bit true, .bit true, .bit false, .bit true, .bit false, .bit true, .wait 1, .mask [2], .ren []] (p := [(decide ((p1.length : Int) < (b.Accts.length : Int))) = true,(0 : Int) ≤ (p1.length : Int),(List.map E29 b.Accts)[(p1.length : Int).toNat]? = some (E29 x1),Fn Try.prog 17 [(false, E29 x1)] (E4 r1) [],(true || ((E4 r1).nv && nvL [])) = true,(!r1) = false,(!r1) = false,(!r1) = false,(decide (0 < (p1.length : Int))) = true,(decide (0 < (p1.length : Int))) = true,(decide (0 < (p1.length : Int))) = true,(decide (0 < (p1.length : Int))) = true,(decide (0 < (p1.length : Int))) = true,(decide (0 < (p1.length : Int))) = true,(decide (0 < (p1.length : Int))) = true,(0 : Int) ≤ (i64 ((p1.length : Int) - 1)),(List.map E29 b.Accts)[(i64 ((p1.length : Int) - 1)).toNat]? = some (E29 x2),(decide (0 < (p1.length : Int))) = true,(decide (0 < (p1.length : Int))) = true,(decide (0 < (p1.length : Int))) = true,(!r1) = false,(decide (0 < (p1.length : Int))) = true,(!r1) = false,(Op.bytesLess x1.Id.toList x2.Id.toList || (x1.Id == x2.Id)) = true]) (by kernel_rfl) (show X.ret ≠ X.go from nofun) (cj (rng_lt h1) (cj (by omega) (cj (rng_get _ h1) (cj (impl_AcctOk_ok x1 r1 h3) (cj rfl (cj (nf h4) (cj (nf h4) (cj (nf h4) (cj h5 (cj h5 (cj h5 (cj h5 (cj h5 (cj h5 (cj h5 (cj (od h6) (cj (map_get h7) (cj h5 (cj h5 (cj h5 (cj (nf h4) (cj h5 (cj (nf h4) (cj1 h8)))))))))))))))))))))))))) (fun h8 =>
     LpO.go [.bit true, .el (E29 x1), .draw [], .call [] (E4 r1) [], .bit false, .bit false, .bit false, .bit true, .bit true, .bit true, .bit true, .bit true, .bit true, .bit true, .el (E29 x2), .bit true, .bit true, .bit true, .bit false, .bit true, .bit false, .bit false, .wait 2, .mask [1, 6, 7, 8], .ren [0], .nm 8 (vI ((p1 ++ [x1]).length : Int))] (p := [(decide ((p1.length : Int) < (b.Accts.length : Int))) = true,(0 : Int) ≤ (p1.length : Int),(List.map E29 b.Accts)[(p1.length : Int).toNat]? = some (E29 x1),Fn Try.prog 17 [(false, E29 x1)] (E4 r1) [],(true || ((E4 r1).nv && nvL [])) = true,(!r1) = false,(!r1) = false,(!r1) = false,(decide (0 < (p1.length : Int))) = true,(decide (0 < (p1.length : Int))) = true,(decide (0 < (p1.length : Int))) = true,(decide (0 < (p1.length : Int))) = true,(decide (0 < (p1.length : Int))) = true,(decide (0 < (p1.length : Int))) = true,(decide (0 < (p1.length : Int))) = true,(0 : Int) ≤ (i64 ((p1.length : Int) - 1)),(List.map E29 b.Accts)[(i64 ((p1.length : Int) - 1)).toNat]? = some (E29 x2),(decide (0 < (p1.length : Int))) = true,(decide (0 < (p1.length : Int))) = true,(decide (0 < (p1.length : Int))) = true,(!r1) = false,(decide (0 < (p1.length : Int))) = true,(!r1) = false,(Op.bytesLess x1.Id.toList x2.Id.toList || (x1.Id == x2.Id)) = false,vI (i64 ((p1.length : Int) + 1)) = vI ((p1 ++ [x1]).length : Int)]) (by kernel_rfl) (cj (rng_lt h1) (cj (by omega) (cj (rng_get _ h1) (cj (impl_AcctOk_ok x1 r1 h3) (cj rfl (cj (nf h4) (cj (nf h4) (cj (nf h4) (cj h5 (cj h5 (cj h5 (cj h5 (cj h5 (cj h5 (cj h5 (cj (od h6) (cj (map_get h7) (cj h5 (cj h5 (cj h5 (cj (nf h4) (cj h5 (cj (nf h4) (cj h8 (cj1 (rng_next h1 h2)))))))))))))))))))))))))) (impl_BookOk_l0_ok b h2 t1 (p1 ++ [x1]) (rng_step h1))))) (fun h6 =>
     Pn.none)) (fun h5 =>
     LpO.go [.bit true, .el (E29 x1), .draw [], .call [] (E4 r1) [], .bit false, .bit false, .bit false, .bit false, .bit false, .bit false, .bit false, .bit false, .bit false, .bit false, .bit false, .bit false, .bit false, .bit false, .bit false, .bit false, .bit false, .wait 2, .mask [1, 6, 7, 8], .ren [0], .nm 8 (vI ((p1 ++ [x1]).length : Int))] (p := [(decide ((p1.length : Int) < (b.Accts.length : Int))) = true,(0 : Int) ≤ (p1.length : Int),(List.map E29 b.Accts)[(p1.length : Int).toNat]? = some (E29 x1),Fn Try.prog 17 [(false, E29 x1)] (E4 r1) [],(true || ((E4 r1).nv && nvL [])) = true,(!r1) = false,(!r1) = false,(!r1) = false,(decide (0 < (p1.length : Int))) = false,(decide (0 < (p1.length : Int))) = false,(decide (0 < (p1.length : Int))) = false,(decide (0 < (p1.length : Int))) = false,(decide (0 < (p1.length : Int))) = false,(decide (0 < (p1.length : Int))) = false,(decide (0 < (p1.length : Int))) = false,(decide (0 < (p1.length : Int))) = false,(decide (0 < (p1.length : Int))) = false,(decide (0 < (p1.length : Int))) = false,(!r1) = false,(decide (0 < (p1.length : Int))) = false,(!r1) = false,false = false,vI (i64 ((p1.length : Int) + 1)) = vI ((p1 ++ [x1]).length : Int)]) (by kernel_rfl) (cj (rng_lt h1) (cj (by omega) (cj (rng_get _ h1) (cj (impl_AcctOk_ok x1 r1 h3) (cj rfl (cj (nf h4) (cj (nf h4) (cj (nf h4) (cj h5 (cj h5 (cj h5 (cj h5 (cj h5 (cj h5 (cj h5 (cj h5 (cj h5 (cj h5 (cj (nf h4) (cj h5 (cj (nf h4) (cj rfl (cj1 (rng_next h1 h2)))))))))))))))))))))))) (impl_BookOk_l0_ok b h2 t1 (p1 ++ [x1]) (rng_step h1)))) (fun h4 =>
     Pn.some (LpO.out [.bit true, .el (E29 x1), .draw [], .call [] (E4 r1) [], .bit true, .bit true, .bit true, .bit true, .bit true, .bit true, .wait 1, .mask [2], .ren []] (p := [(decide ((p1.length : Int) < (b.Accts.length : Int))) = true,(0 : Int) ≤ (p1.length : Int),(List.map E29 b.Accts)[(p1.length : Int).toNat]? = some (E29 x1),Fn Try.prog 17 [(false, E29 x1)] (E4 r1) [],(true || ((E4 r1).nv && nvL [])) = true,(!r1) = true,(!r1) = true,(!r1) = true,(!r1) = true,(!r1) = true,true = true]) (by kernel_rfl) (show X.ret ≠ X.go from nofun) (cj (rng_lt h1) (cj (by omega) (cj (rng_get _ h1) (cj (impl_AcctOk_ok x1 r1 h3) (cj rfl (cj (nt h4) (cj (nt h4) (cj (nt h4) (cj (nt h4) (cj (nt h4) (cj1 rfl))))))))))))))
def impl_BookOk (b : Book) : Option (Bool) :=
 if (capOk b.Accts.length) = true then
 (impl_BookOk_l0 b b.Accts []).bind fun r2 =>
 Lo.elim r2 (fun s1 =>
 some (decide ((b.Accts.length : Int) ≤ 6))) (fun s2 =>
 some false)
 else none
theorem impl_BookOk_ok (b : Book) : Pn (fun y => Fn Try.prog 83 [(false, E50 b)] (E4 y) []) (impl_BookOk b) := by
  unfold impl_BookOk
  exact
   Pn.ite (fun h9 =>
   Pn.bind (fun r2 h10 =>
   Pn.lo (fun s1 h11 =>
   Pn.some (Fn.of [.wait 5, .nm 7 (vI (b.Accts.length : Int)), .wait 2, .mask [1, 6, 7, 8], .ren [0], .loop (X.out 0) (st 37 [(1, V.ptr 0 0)] [Blk.box 50 [V.sl false 29 (List.map E29 b.Accts)]] []), .wait 3, .nm 35 (vI (b.Accts.length : Int))] (p := [vI ((List.map E29 b.Accts).length : Int) = vI (b.Accts.length : Int),Loop Try.prog (sub (codeOf Try.prog 83) [1, 0, 1, 0, 0]) (st 37 [(1, V.ptr 0 0), (6, V.sl false 29 (List.map E29 b.Accts)), (7, vI (b.Accts.length : Int)), (8, vI 0)] [Blk.box 50 [V.sl false 29 (List.map E29 b.Accts)]] []) (X.out 0) (st 37 [(1, V.ptr 0 0)] [Blk.box 50 [V.sl false 29 (List.map E29 b.Accts)]] []),vI ((List.map E29 b.Accts).length : Int) = vI (b.Accts.length : Int)]) (by kernel_rfl) (cj (len_nm _ _) (cj ((impl_BookOk_l0_ok b h9 b.Accts [] rfl r2 h10).at h11) (cj1 (len_nm _ _)))))) (fun s2 h12 =>
   Pn.some (Fn.of [.wait 5, .nm 7 (vI (b.Accts.length : Int)), .wait 2, .mask [1, 6, 7, 8], .ren [0], .loop (X.ret) (st 37 [(2, V.sc (.bool false))] [] [])] (p := [vI ((List.map E29 b.Accts).length : Int) = vI (b.Accts.length : Int),Loop Try.prog (sub (codeOf Try.prog 83) [1, 0, 1, 0, 0]) (st 37 [(1, V.ptr 0 0), (6, V.sl false 29 (List.map E29 b.Accts)), (7, vI (b.Accts.length : Int)), (8, vI 0)] [Blk.box 50 [V.sl false 29 (List.map E29 b.Accts)]] []) (X.ret) (st 37 [(2, V.sc (.bool false))] [] [])]) (by kernel_rfl) (cj (len_nm _ _) (cj1 ((impl_BookOk_l0_ok b h9 b.Accts [] rfl r2 h10).at h12))))))) (fun h9 =>
   Pn.none)
def impl_Fnv_l0 (s_ : ByteArray) : Nat → Int → Int → Option (Int)
  | 0, _, _ => none
  | fuel + 1, v1, v2 =>
   if (decide (v2 < (s_.size : Int))) = true then
   if (decide (0 ≤ v2)) = true then
   if (decide ((v2 : Int) < (s_.size : Int))) = true then
   impl_Fnv_l0 s_ fuel (u32 ((bxor .u32 v1 (u32 (sAt s_ v2))) * 16777619)) (i64 (v2 + 1))
   else none
   else none
   else
   some v1
theorem impl_Fnv_l0_ok (s_ : ByteArray) : ∀ (fuel : Nat) (v1 : Int) (v2 : Int), Pn (LpO Try.prog (sub (codeOf Try.prog 143) [1, 1, 0, 1, 0, 0]) (st 20 [(0, V.sc (.string s_)), (3, V.sc (.int .u32 v1)), (6, vI (s_.size : Int)), (7, vI v2)] [] []) (fun (y : Int) => (X.out 0, st 20 [(3, V.sc (.int .u32 y))] [] []))) (impl_Fnv_l0 s_ fuel v1 v2)
  | 0, _, _ => Pn.none
  | fuel + 1, v1, v2 => by
    unfold impl_Fnv_l0
    exact
     Pn.ite (fun h1 =>
     Pn.ite (fun h2 =>
     Pn.ite (fun h3 =>
     LpO.go [.bit true, .wait 12, .mask [0, 3, 6, 7], .ren []] (p := [(decide (v2 < (s_.size : Int))) = true,(0 : Int) ≤ v2,(v2 : Int) < s_.size]) (by kernel_rfl) (cj h1 (cj (od h2) (cj1 (od h3)))) (impl_Fnv_l0_ok s_ fuel (u32 ((bxor .u32 v1 (u32 (sAt s_ v2))) * 16777619)) (i64 (v2 + 1)))) (fun h3 =>
     Pn.none)) (fun h2 =>
     Pn.none)) (fun h1 =>
     Pn.some (LpO.out [.bit false, .mask [3], .ren []] (p := [(decide (v2 < (s_.size : Int))) = false]) (by kernel_rfl) (show X.out 0 ≠ X.go from nofun) (cj1 h1)))
def impl_Fnv (s_ : ByteArray) : Option (Int) :=
 (impl_Fnv_l0 s_ FUEL 2166136261 0).bind fun r1 =>
 some (i64 r1)
theorem impl_Fnv_ok (s_ : ByteArray) : Pn (fun y => Fn Try.prog 143 [(false, E9 s_)] (E3 y) []) (impl_Fnv s_) := by
  unfold impl_Fnv
  exact
   Pn.bind (fun r1 h4 =>
   Pn.some (Fn.of [.wait 6, .mask [0, 3, 6, 7], .ren [], .loop (X.out 0) (st 20 [(3, V.sc (.int .u32 r1))] [] [])] (p := [Loop Try.prog (sub (codeOf Try.prog 143) [1, 1, 0, 1, 0, 0]) (st 20 [(0, V.sc (.string s_)), (3, V.sc (.int .u32 2166136261)), (6, vI (s_.size : Int)), (7, vI 0)] [] []) (X.out 0) (st 20 [(3, V.sc (.int .u32 r1))] [] [])]) (by kernel_rfl) (cj1 (impl_Fnv_l0_ok s_ FUEL 2166136261 0 r1 h4))))
def impl_StripeNo (id : ByteArray) (n : Int) : Option (Int) :=
 if (decide (n < 1)) = true then
 some 0
 else
 (impl_Fnv id).bind fun r1 =>
 if (decide (n ≠ 0)) = true then
 some (Int.tmod r1 n)
 else none
theorem impl_StripeNo_ok (id : ByteArray) (n : Int) : Pn (fun y => Fn Try.prog 84 [(false, E9 id), (false, E3 n)] (E3 y) []) (impl_StripeNo id n) := by
  unfold impl_StripeNo
  exact
   Pn.ite (fun h1 =>
   Pn.some (Fn.of [.bit true] (p := [(decide (n < 1)) = true]) (by kernel_rfl) (cj1 h1))) (fun h1 =>
   Pn.bind (fun r1 h2 =>
   Pn.ite (fun h3 =>
   Pn.some (Fn.of [.bit false, .call [] (E3 r1) []] (p := [(decide (n < 1)) = false,Fn Try.prog 143 [(false, E9 id)] (E3 r1) [],(true || ((E3 r1).nv && nvL [])) = true,(n : Int) ≠ 0]) (by kernel_rfl) (cj h1 (cj (impl_Fnv_ok id r1 h2) (cj rfl (cj1 (od h3))))))) (fun h3 =>
   Pn.none)))
def slices_Clone_impl_Hold (s_ : List Hold) : Option (List Hold) := if capOk s_.length = true then some s_ else none
theorem slices_Clone_impl_Hold_ok : ∀ (s_ : List Hold), Pn (fun y => Fn Try.prog 131 [(false, E23 s_)] (E23 y) []) (slices_Clone_impl_Hold s_)
  | [] => by
    unfold slices_Clone_impl_Hold
    exact Pn.ite (fun h => Pn.some (Fn.two [] [.bit true] [.bit false, .cp (List.map E36 []), .nb 1 (.row 36 (List.map E36 []) [])] (p := []) (pT := [true = true]) (pF := [false = false, (List.map E36 []).map V.vw = (List.map E36 []), ([] : List V).length + (List.map E36 []).length ≤ 9223372036854775807, (([] : List V).length + (List.map E36 []).length) * 32 ≤ 140737488355328, Blk.row 36 (([] : List V) ++ (List.map E36 [])) [] = Blk.row 36 (List.map E36 []) []]) (by kernel_rfl) trivial (cj1 rfl) (cj rfl (cj (vw_id (fun _ => rfl) _) (cj (cap1 (capN (by simp) h)) (cj (cap2 (capN (by simp) h) (by decide)) (cj1 rfl))))))) (fun _ => Pn.none)
  | x :: t => by
    unfold slices_Clone_impl_Hold
    exact Pn.ite (fun h => Pn.some (Fn.two [] [.bit true] [.bit false, .cp (List.map E36 (x :: t)), .nb 1 (.row 36 (List.map E36 (x :: t)) [])] (p := []) (pT := [false = false, (List.map E36 (x :: t)).map V.vw = (List.map E36 (x :: t)), ([] : List V).length + (List.map E36 (x :: t)).length ≤ 9223372036854775807, (([] : List V).length + (List.map E36 (x :: t)).length) * 32 ≤ 140737488355328, Blk.row 36 (([] : List V) ++ (List.map E36 (x :: t))) [] = Blk.row 36 (List.map E36 (x :: t)) []]) (pF := [false = false, (List.map E36 (x :: t)).map V.vw = (List.map E36 (x :: t)), ([] : List V).length + (List.map E36 (x :: t)).length ≤ 9223372036854775807, (([] : List V).length + (List.map E36 (x :: t)).length) * 32 ≤ 140737488355328, Blk.row 36 (([] : List V) ++ (List.map E36 (x :: t))) [] = Blk.row 36 (List.map E36 (x :: t)) []]) (by kernel_rfl) trivial (cj rfl (cj (vw_id (fun _ => rfl) _) (cj (cap1 (capN (by simp) h)) (cj (cap2 (capN (by simp) h) (by decide)) (cj1 rfl))))) (cj rfl (cj (vw_id (fun _ => rfl) _) (cj (cap1 (capN (by simp) h)) (cj (cap2 (capN (by simp) h) (by decide)) (cj1 rfl))))))) (fun _ => Pn.none)
def slices_Clone_int (s_ : List Int) : Option (List Int) := if capOk s_.length = true then some s_ else none
theorem slices_Clone_int_ok : ∀ (s_ : List Int), Pn (fun y => Fn Try.prog 165 [(false, E24 s_)] (E24 y) []) (slices_Clone_int s_)
  | [] => by
    unfold slices_Clone_int
    exact Pn.ite (fun h => Pn.some (Fn.two [] [.bit true] [.bit false, .cp (List.map E3 []), .nb 1 (.row 3 (List.map E3 []) [])] (p := []) (pT := [true = true]) (pF := [false = false, (List.map E3 []).map V.vw = (List.map E3 []), ([] : List V).length + (List.map E3 []).length ≤ 9223372036854775807, (([] : List V).length + (List.map E3 []).length) * 8 ≤ 140737488355328, Blk.row 3 (([] : List V) ++ (List.map E3 [])) [] = Blk.row 3 (List.map E3 []) []]) (by kernel_rfl) trivial (cj1 rfl) (cj rfl (cj (vw_id (fun _ => rfl) _) (cj (cap1 (capN (by simp) h)) (cj (cap2 (capN (by simp) h) (by decide)) (cj1 rfl))))))) (fun _ => Pn.none)
  | x :: t => by
    unfold slices_Clone_int
    exact Pn.ite (fun h => Pn.some (Fn.two [] [.bit true] [.bit false, .cp (List.map E3 (x :: t)), .nb 1 (.row 3 (List.map E3 (x :: t)) [])] (p := []) (pT := [false = false, (List.map E3 (x :: t)).map V.vw = (List.map E3 (x :: t)), ([] : List V).length + (List.map E3 (x :: t)).length ≤ 9223372036854775807, (([] : List V).length + (List.map E3 (x :: t)).length) * 8 ≤ 140737488355328, Blk.row 3 (([] : List V) ++ (List.map E3 (x :: t))) [] = Blk.row 3 (List.map E3 (x :: t)) []]) (pF := [false = false, (List.map E3 (x :: t)).map V.vw = (List.map E3 (x :: t)), ([] : List V).length + (List.map E3 (x :: t)).length ≤ 9223372036854775807, (([] : List V).length + (List.map E3 (x :: t)).length) * 8 ≤ 140737488355328, Blk.row 3 (([] : List V) ++ (List.map E3 (x :: t))) [] = Blk.row 3 (List.map E3 (x :: t)) []]) (by kernel_rfl) trivial (cj rfl (cj (vw_id (fun _ => rfl) _) (cj (cap1 (capN (by simp) h)) (cj (cap2 (capN (by simp) h) (by decide)) (cj1 rfl))))) (cj rfl (cj (vw_id (fun _ => rfl) _) (cj (cap1 (capN (by simp) h)) (cj (cap2 (capN (by simp) h) (by decide)) (cj1 rfl))))))) (fun _ => Pn.none)
def impl_Ring_copied (r_ : Ring) : Option (Ring) :=
 (slices_Clone_int r_.Counts).bind fun r1 =>
 (slices_Clone_int r_.Sums).bind fun r2 =>
 some (Ring.mk r_.Span r_.Head r1 r2)
theorem impl_Ring_copied_ok (r_ : Ring) : Pn (fun y => Fn Try.prog 138 [(false, E26 r_)] (E26 y) []) (impl_Ring_copied r_) := by
  unfold impl_Ring_copied
  exact
   Pn.bind (fun r1 h1 =>
   Pn.bind (fun r2 h2 =>
   Pn.some (Fn.of [.draw [7, 9], .call [] (E24 r1) [], .call [] (E24 r2) []] (p := [Fn Try.prog 165 [(false, E24 r_.Counts)] (E24 r1) [],(true || ((E24 r1).nv && nvL [])) = true,Fn Try.prog 165 [(false, E24 r_.Sums)] (E24 r2) [],(true || ((E24 r2).nv && nvL [])) = true]) (by kernel_rfl) (cj (slices_Clone_int_ok r_.Counts r1 h1) (cj rfl (cj (slices_Clone_int_ok r_.Sums r2 h2) (cj1 rfl)))))))
def slices_Clone_byte (s_ : List Int) : Option (List Int) := if capOk s_.length = true then some s_ else none
theorem slices_Clone_byte_ok : ∀ (s_ : List Int), Pn (fun y => Fn Try.prog 164 [(false, E22 s_)] (E22 y) []) (slices_Clone_byte s_)
  | [] => by
    unfold slices_Clone_byte
    exact Pn.ite (fun h => Pn.some (Fn.two [] [.bit true] [.bit false, .cp (List.map E5 []), .nb 1 (.row 5 (List.map E5 []) [])] (p := []) (pT := [true = true]) (pF := [false = false, (List.map E5 []).map V.vw = (List.map E5 []), ([] : List V).length + (List.map E5 []).length ≤ 9223372036854775807, (([] : List V).length + (List.map E5 []).length) * 1 ≤ 140737488355328, Blk.row 5 (([] : List V) ++ (List.map E5 [])) [] = Blk.row 5 (List.map E5 []) []]) (by kernel_rfl) trivial (cj1 rfl) (cj rfl (cj (vw_id (fun _ => rfl) _) (cj (cap1 (capN (by simp) h)) (cj (cap2 (capN (by simp) h) (by decide)) (cj1 rfl))))))) (fun _ => Pn.none)
  | x :: t => by
    unfold slices_Clone_byte
    exact Pn.ite (fun h => Pn.some (Fn.two [] [.bit true] [.bit false, .cp (List.map E5 (x :: t)), .nb 1 (.row 5 (List.map E5 (x :: t)) [])] (p := []) (pT := [false = false, (List.map E5 (x :: t)).map V.vw = (List.map E5 (x :: t)), ([] : List V).length + (List.map E5 (x :: t)).length ≤ 9223372036854775807, (([] : List V).length + (List.map E5 (x :: t)).length) * 1 ≤ 140737488355328, Blk.row 5 (([] : List V) ++ (List.map E5 (x :: t))) [] = Blk.row 5 (List.map E5 (x :: t)) []]) (pF := [false = false, (List.map E5 (x :: t)).map V.vw = (List.map E5 (x :: t)), ([] : List V).length + (List.map E5 (x :: t)).length ≤ 9223372036854775807, (([] : List V).length + (List.map E5 (x :: t)).length) * 1 ≤ 140737488355328, Blk.row 5 (([] : List V) ++ (List.map E5 (x :: t))) [] = Blk.row 5 (List.map E5 (x :: t)) []]) (by kernel_rfl) trivial (cj rfl (cj (vw_id (fun _ => rfl) _) (cj (cap1 (capN (by simp) h)) (cj (cap2 (capN (by simp) h) (by decide)) (cj1 rfl))))) (cj rfl (cj (vw_id (fun _ => rfl) _) (cj (cap1 (capN (by simp) h)) (cj (cap2 (capN (by simp) h) (by decide)) (cj1 rfl))))))) (fun _ => Pn.none)
def impl_copySlots_l0 (l : List Slot) : List Slot → (List Slot) → Option ((List Slot))
  | [], v1 =>
   some v1
  | x1 :: t1, v1 =>
   (slices_Clone_byte x1.Reply).bind fun r1 =>
   if (capOk (v1.length + 1)) = true then
   impl_copySlots_l0 l t1 (v1 ++ [(Slot.mk x1.Trace x1.Mti r1)])
   else none
theorem impl_copySlots_l0_ok (l : List Slot) (h2 : capOk l.length = true) : ∀ (t1 p1 : List Slot) (_ : l = p1 ++ t1) (v1 : List Slot), Pn (LpO Try.prog (sub (codeOf Try.prog 139) [1, 1, 0, 1, 0, 0]) (st 26 [(3, V.ow 0), (7, V.sl false 164 (List.map E164 l)), (8, vI (l.length : Int)), (9, vI (p1.length : Int))] [Blk.row 164 (List.map E164 v1) []] []) (fun (y : (List Slot)) => (X.out 0, st 26 [(3, V.ow 0)] [Blk.row 164 (List.map E164 y) []] []))) (impl_copySlots_l0 l t1 v1)
  | [], p1, h1, v1 => by
    unfold impl_copySlots_l0
    exact
     Pn.some (LpO.out [.bit false, .mask [3], .ren [0]] (p := [(decide ((p1.length : Int) < (l.length : Int))) = false]) (by kernel_rfl) (show X.out 0 ≠ X.go from nofun) (cj1 (rng_end h1)))
  | x1 :: t1, p1, h1, v1 => by
    unfold impl_copySlots_l0
    exact
     Pn.bind (fun r1 h3 =>
     Pn.ite (fun h4 =>
     LpO.go [.bit true, .el (E164 x1), .draw [10], .call [] (E22 r1) [], .wait 2, .shut 3, .mv, .nb 4 (.row 164 (List.map E164 (v1 ++ [(Slot.mk x1.Trace x1.Mti r1)])) []), .wait 4, .mask [3, 7, 8, 9], .ren [4], .nm 9 (vI ((p1 ++ [x1]).length : Int))] (p := [(decide ((p1.length : Int) < (l.length : Int))) = true,(0 : Int) ≤ (p1.length : Int),(List.map E164 l)[(p1.length : Int).toNat]? = some (E164 x1),Fn Try.prog 164 [(false, E22 x1.Reply)] (E22 r1) [],(true || ((E22 r1).nv && nvL [])) = true,(List.map E164 v1).length + [V.agg [V.sc (.string x1.Trace), V.sc (.string x1.Mti), V.sl true 5 (List.map E5 r1)]].length ≤ 9223372036854775807,((List.map E164 v1).length + [V.agg [V.sc (.string x1.Trace), V.sc (.string x1.Mti), V.sl true 5 (List.map E5 r1)]].length) * 56 ≤ 140737488355328,Blk.row 164 ((List.map E164 v1) ++ [V.agg [V.sc (.string x1.Trace), V.sc (.string x1.Mti), V.sl true 5 (List.map E5 r1)]]) [] = Blk.row 164 (List.map E164 (v1 ++ [(Slot.mk x1.Trace x1.Mti r1)])) [],vI (i64 ((p1.length : Int) + 1)) = vI ((p1 ++ [x1]).length : Int)]) (by kernel_rfl) (cj (rng_lt h1) (cj (by omega) (cj (rng_get _ h1) (cj (slices_Clone_byte_ok x1.Reply r1 h3) (cj rfl (cj (cap1 (capN (by simp) h4)) (cj (cap2 (capN (by simp) h4) (by decide)) (cj (nb_app E164 v1 [(Slot.mk x1.Trace x1.Mti r1)]) (cj1 (rng_next h1 h2)))))))))) (impl_copySlots_l0_ok l h2 t1 (p1 ++ [x1]) (rng_step h1) (v1 ++ [(Slot.mk x1.Trace x1.Mti r1)]))) (fun h4 =>
     Pn.none))
def impl_copySlots (l : List Slot) : Option ((List Slot)) :=
 if (capOk l.length) = true then
 (impl_copySlots_l0 l l []).bind fun r2 =>
 some r2
 else none
theorem impl_copySlots_ok (l : List Slot) : Pn (fun y => Fn Try.prog 139 [(false, E27 l)] (E27 y) []) (impl_copySlots l) := by
  unfold impl_copySlots
  exact
   Pn.ite (fun h5 =>
   Pn.bind (fun r2 h6 =>
   Pn.some (Fn.of [.wait 5, .nm 8 (vI (l.length : Int)), .wait 2, .mask [3, 7, 8, 9], .ren [0], .loop (X.out 0) (st 26 [(3, V.ow 0)] [Blk.row 164 (List.map E164 r2) []] [])] (p := [vI ((List.map E164 l).length : Int) = vI (l.length : Int),Loop Try.prog (sub (codeOf Try.prog 139) [1, 1, 0, 1, 0, 0]) (st 26 [(3, V.ow 0), (7, V.sl false 164 (List.map E164 l)), (8, vI (l.length : Int)), (9, vI 0)] [Blk.row 164 ([] : List V) []] []) (X.out 0) (st 26 [(3, V.ow 0)] [Blk.row 164 (List.map E164 r2) []] [])]) (by kernel_rfl) (cj (len_nm _ _) (cj1 (impl_copySlots_l0_ok l h5 l [] rfl [] r2 h6)))))) (fun h5 =>
   Pn.none)
def impl_Acct_copied (a : Acct) : Option (Acct) :=
 (slices_Clone_impl_Hold a.Holds).bind fun r1 =>
 (impl_Ring_copied a.Ring).bind fun r2 =>
 (impl_copySlots a.Slots).bind fun r3 =>
 some (Acct.mk a.Id a.Limit a.Posted a.Most a.MostSum r1 r2 r3)
theorem impl_Acct_copied_ok (a : Acct) : Pn (fun y => Fn Try.prog 78 [(false, E29 a)] (E29 y) []) (impl_Acct_copied a) := by
  unfold impl_Acct_copied
  exact
   Pn.bind (fun r1 h1 =>
   Pn.bind (fun r2 h2 =>
   Pn.bind (fun r3 h3 =>
   Pn.some (Fn.of [.draw [10, 12, 14], .call [] (E23 r1) [], .call [] (E26 r2) [], .call [] (E27 r3) []] (p := [Fn Try.prog 131 [(false, E23 a.Holds)] (E23 r1) [],(true || ((E23 r1).nv && nvL [])) = true,Fn Try.prog 138 [(false, E26 a.Ring)] (E26 r2) [],(true || ((E26 r2).nv && nvL [])) = true,Fn Try.prog 139 [(false, E27 a.Slots)] (E27 r3) [],(true || ((E27 r3).nv && nvL [])) = true]) (by kernel_rfl) (cj (slices_Clone_impl_Hold_ok a.Holds r1 h1) (cj rfl (cj (impl_Ring_copied_ok a.Ring r2 h2) (cj rfl (cj (impl_copySlots_ok a.Slots r3 h3) (cj1 rfl))))))))))
def impl_Spread_s3 (n : Int) (r4 : Int) (b : Book) (p1 : List Acct) (x1 : Acct) (r5 : Acct) (v3 : List Stripe) (x2 : Stripe) : St := st 52 [(1, vI n), (5, V.ow 0), (7, V.ptr 2 0), (8, vI r4), (27, V.sl false 29 (List.map E29 b.Accts)), (28, vI (b.Accts.length : Int)), (29, vI (p1.length : Int)), (30, V.sc (.bool (decide ((p1.length : Int) < (b.Accts.length : Int))))), (31, V.cp [V.sc (.string x1.Id), vI x1.Limit, vI x1.Posted, vI x1.Most, vI x1.MostSum, V.sl true 36 (List.map E36 x1.Holds), vI x1.Ring.Span, vI x1.Ring.Head, V.sl true 3 (List.map E3 x1.Ring.Counts), V.sl true 3 (List.map E3 x1.Ring.Sums), V.sl true 164 (List.map E164 x1.Slots)]), (32, V.agg [V.sc (.string x1.Id), vI x1.Limit, vI x1.Posted, vI x1.Most, vI x1.MostSum, V.sl false 36 (List.map E36 x1.Holds), vI x1.Ring.Span, vI x1.Ring.Head, V.sl false 3 (List.map E3 x1.Ring.Counts), V.sl false 3 (List.map E3 x1.Ring.Sums), V.sl false 164 (List.map E164 x1.Slots)]), (33, V.ptr 2 0), (34, V.sc (.string x1.Id)), (35, vI n), (36, vI r4), (37, V.ow 0), (38, vI r4), (39, V.ow 0), (40, vI r4), (41, V.ep 0 2 r4.toNat 0), (42, V.ep 0 2 r4.toNat 1), (44, V.agg [V.sc (.string x1.Id), vI x1.Limit, vI x1.Posted, vI x1.Most, vI x1.MostSum, V.sl false 36 (List.map E36 x1.Holds), vI x1.Ring.Span, vI x1.Ring.Head, V.sl false 3 (List.map E3 x1.Ring.Counts), V.sl false 3 (List.map E3 x1.Ring.Sums), V.sl false 164 (List.map E164 x1.Slots)]), (45, V.agg [V.sc (.string r5.Id), vI r5.Limit, vI r5.Posted, vI r5.Most, vI r5.MostSum, V.un, vI r5.Ring.Span, vI r5.Ring.Head, V.un, V.un, V.un]), (47, V.ow 1), (48, V.ep 0 2 r4.toNat 0), (49, V.ep 0 2 r4.toNat 1)] [Blk.row 58 (List.map E58 v3) [(r4.toNat, V.agg [vI x2.Owner, V.ow 1])], Blk.row 29 (List.map E29 (x2.Accts ++ [r5])) [], Blk.box 29 [V.sc (.string x1.Id), vI x1.Limit, vI x1.Posted, vI x1.Most, vI x1.MostSum, V.sl false 36 (List.map E36 x1.Holds), vI x1.Ring.Span, vI x1.Ring.Head, V.sl false 3 (List.map E3 x1.Ring.Counts), V.sl false 3 (List.map E3 x1.Ring.Sums), V.sl false 164 (List.map E164 x1.Slots)]] []
def impl_Spread_l0 (b : Book) (n : Int) : Nat → Int → (List Stripe) → Option ((List Stripe))
  | 0, _, _ => none
  | fuel + 1, v1, v2 =>
   if (decide (v1 < n)) = true then
   if (capOk (v2.length + 1)) = true then
   impl_Spread_l0 b n fuel (i64 (v1 + 1)) (v2 ++ [(Stripe.mk (-1) [])])
   else none
   else
   some v2
theorem impl_Spread_l0_ok (b : Book) (n : Int) : ∀ (fuel : Nat) (v1 : Int) (v2 : List Stripe), Pn (LpO Try.prog (sub (codeOf Try.prog 25) [1, 1, 1, 0, 1, 0, 0]) (st 52 [(1, vI n), (2, V.ptr 0 0), (5, V.ow 1), (18, vI n), (19, vI v1)] [Blk.box 50 [V.sl false 29 (List.map E29 b.Accts)], Blk.row 58 (List.map E58 v2) []] []) (fun (y : (List Stripe)) => (X.out 0, st 52 [(1, vI n), (2, V.ptr 0 0), (5, V.ow 1)] [Blk.box 50 [V.sl false 29 (List.map E29 b.Accts)], Blk.row 58 (List.map E58 y) []] []))) (impl_Spread_l0 b n fuel v1 v2)
  | 0, _, _ => Pn.none
  | fuel + 1, v1, v2 => by
    unfold impl_Spread_l0
    exact
     Pn.ite (fun h5 =>
     Pn.ite (fun h6 =>
     LpO.go [.bit true, .mv, .nb 3 (.row 58 (List.map E58 (v2 ++ [(Stripe.mk (-1) [])])) []), .wait 4, .mask [1, 2, 5, 18, 19], .ren [0, 3]] (p := [(decide (v1 < n)) = true,(List.map E58 v2).length + [V.agg [vI (-1), V.sl true 29 ([] : List V)]].length ≤ 9223372036854775807,((List.map E58 v2).length + [V.agg [vI (-1), V.sl true 29 ([] : List V)]].length) * 32 ≤ 140737488355328,Blk.row 58 ((List.map E58 v2) ++ [V.agg [vI (-1), V.sl true 29 ([] : List V)]]) [] = Blk.row 58 (List.map E58 (v2 ++ [(Stripe.mk (-1) [])])) []]) (by kernel_rfl) (cj h5 (cj (cap1 (capN (by simp) h6)) (cj (cap2 (capN (by simp) h6) (by decide)) (cj1 (nb_app E58 v2 [(Stripe.mk (-1) [])]))))) (impl_Spread_l0_ok b n fuel (i64 (v1 + 1)) (v2 ++ [(Stripe.mk (-1) [])]))) (fun h6 =>
     Pn.none)) (fun h5 =>
     Pn.some (LpO.out [.bit false, .mask [1, 2, 5], .ren [0, 1]] (p := [(decide (v1 < n)) = false]) (by kernel_rfl) (show X.out 0 ≠ X.go from nofun) (cj1 h5)))
def impl_Spread_l1 (b : Book) (n : Int) : List Acct → (List Stripe) → Option ((List Stripe))
  | [], v3 =>
   some v3
  | x1 :: t1, v3 =>
   (impl_StripeNo x1.Id n).bind fun r4 =>
   if (decide (0 ≤ r4)) = true then
   (v3[r4.toNat]?).bind fun x2 =>
   (impl_Acct_copied x1).bind fun r5 =>
   if (capOk (x2.Accts.length + 1)) = true then
   impl_Spread_l1 b n t1 (v3.set r4.toNat (Stripe.mk x2.Owner (x2.Accts ++ [r5])))
   else none
   else none
theorem impl_Spread_l1_ok (b : Book) (n : Int) (h9 : capOk b.Accts.length = true) : ∀ (t1 p1 : List Acct) (_ : b.Accts = p1 ++ t1) (v3 : List Stripe), Pn (LpO Try.prog (sub (codeOf Try.prog 25) [1, 1, 1, 1, 0, 1, 0, 0]) (st 52 [(1, vI n), (5, V.ow 0), (27, V.sl false 29 (List.map E29 b.Accts)), (28, vI (b.Accts.length : Int)), (29, vI (p1.length : Int))] [Blk.row 58 (List.map E58 v3) []] []) (fun (y : (List Stripe)) => (X.out 2, st 52 [(5, V.ow 0)] [Blk.row 58 (List.map E58 y) []] []))) (impl_Spread_l1 b n t1 v3)
  | [], p1, h8, v3 => by
    unfold impl_Spread_l1
    exact
     Pn.some (LpO.out [.bit false, .mask [5], .ren [0]] (p := [(decide ((p1.length : Int) < (b.Accts.length : Int))) = false]) (by kernel_rfl) (show X.out 2 ≠ X.go from nofun) (cj1 (rng_end h8)))
  | x1 :: t1, p1, h8, v3 => by
    unfold impl_Spread_l1
    exact
     Pn.bind (fun r4 h10 =>
     Pn.ite (fun h11 =>
     Pn.bind (fun x2 h12 =>
     Pn.bind (fun r5 h13 =>
     Pn.ite (fun h14 =>
     LpO.go [.bit true, .el (E29 x1), .call [] (E3 r4) [], .draw [10, 13], .wait 2, .foc 0 r4.toNat (E58 x2), .fo 0, .loop .go ((impl_Spread_s3 n r4 b p1 x1 r5 v3 x2)), .loop .go ((impl_Spread_s3 n r4 b p1 x1 r5 v3 x2)), .call [] (E29 r5) [], .wait 1, .shut 7, .mv, .nb 8 (.row 29 (List.map E29 (x2.Accts ++ [r5])) []), .fo 0, .ren [0, 8, 1], .call [] (E29 r5) [], .loop .go ((impl_Spread_s3 n r4 b p1 x1 r5 v3 x2)), .wait 1, .shut 7, .mv, .nb 8 (.row 29 (List.map E29 (x2.Accts ++ [r5])) []), .fo 0, .ren [0, 8, 1], .wait 1, .shut 7, .loop .go ((impl_Spread_s3 n r4 b p1 x1 r5 v3 x2)), .mv, .nb 8 (.row 29 (List.map E29 (x2.Accts ++ [r5])) []), .fo 0, .ren [0, 8, 1], .mv, .nb 8 (.row 29 (List.map E29 (x2.Accts ++ [r5])) []), .fo 0, .ren [0, 8, 1], .ren [0, 1, 2], .ren [0, 1, 2], .ren [0, 1, 2], .loop .go ((impl_Spread_s3 n r4 b p1 x1 r5 v3 x2)), .call [] (E29 r5) [], .wait 1, .shut 7, .mv, .nb 8 (.row 29 (List.map E29 (x2.Accts ++ [r5])) []), .fo 0, .ren [0, 8, 1], .call [] (E29 r5) [], .loop .go ((impl_Spread_s3 n r4 b p1 x1 r5 v3 x2)), .wait 1, .shut 7, .mv, .nb 8 (.row 29 (List.map E29 (x2.Accts ++ [r5])) []), .fo 0, .ren [0, 8, 1], .wait 1, .shut 7, .loop .go ((impl_Spread_s3 n r4 b p1 x1 r5 v3 x2)), .mv, .nb 8 (.row 29 (List.map E29 (x2.Accts ++ [r5])) []), .fo 0, .ren [0, 8, 1], .mv, .nb 8 (.row 29 (List.map E29 (x2.Accts ++ [r5])) []), .fo 0, .ren [0, 8, 1], .ren [0, 1, 2], .ren [0, 1, 2], .ren [0, 1, 2], .call [] (E29 r5) [], .loop .go ((impl_Spread_s3 n r4 b p1 x1 r5 v3 x2)), .loop .go ((impl_Spread_s3 n r4 b p1 x1 r5 v3 x2)), .wait 1, .shut 7, .mv, .nb 8 (.row 29 (List.map E29 (x2.Accts ++ [r5])) []), .fo 0, .ren [0, 8, 1], .wait 1, .shut 7, .loop .go ((impl_Spread_s3 n r4 b p1 x1 r5 v3 x2)), .mv, .nb 8 (.row 29 (List.map E29 (x2.Accts ++ [r5])) []), .fo 0, .ren [0, 8, 1], .mv, .nb 8 (.row 29 (List.map E29 (x2.Accts ++ [r5])) []), .fo 0, .ren [0, 8, 1], .ren [0, 1, 2], .ren [0, 1, 2], .loop .go ((impl_Spread_s3 n r4 b p1 x1 r5 v3 x2)), .wait 1, .shut 7, .mv, .nb 8 (.row 29 (List.map E29 (x2.Accts ++ [r5])) []), .fo 0, .ren [0, 8, 1], .wait 1, .shut 7, .loop .go ((impl_Spread_s3 n r4 b p1 x1 r5 v3 x2)), .mv, .nb 8 (.row 29 (List.map E29 (x2.Accts ++ [r5])) []), .fo 0, .ren [0, 8, 1], .mv, .nb 8 (.row 29 (List.map E29 (x2.Accts ++ [r5])) []), .fo 0, .ren [0, 8, 1], .ren [0, 1, 2], .ren [0, 1, 2], .wait 1, .shut 7, .loop .go ((impl_Spread_s3 n r4 b p1 x1 r5 v3 x2)), .loop .go ((impl_Spread_s3 n r4 b p1 x1 r5 v3 x2)), .mv, .nb 8 (.row 29 (List.map E29 (x2.Accts ++ [r5])) []), .fo 0, .ren [0, 8, 1], .mv, .nb 8 (.row 29 (List.map E29 (x2.Accts ++ [r5])) []), .fo 0, .ren [0, 8, 1], .ren [0, 1, 2], .loop .go ((impl_Spread_s3 n r4 b p1 x1 r5 v3 x2)), .mv, .nb 8 (.row 29 (List.map E29 (x2.Accts ++ [r5])) []), .fo 0, .ren [0, 8, 1], .mv, .nb 8 (.row 29 (List.map E29 (x2.Accts ++ [r5])) []), .fo 0, .ren [0, 8, 1], .ren [0, 1, 2], .mv, .nb 8 (.row 29 (List.map E29 (x2.Accts ++ [r5])) []), .fo 0, .ren [0, 8, 1], .ren [0, 1, 2], .ren [0, 1, 2], .wait 3, .shut 0, .nb 0 (.row 58 (List.map E58 (v3.set r4.toNat (Stripe.mk x2.Owner (x2.Accts ++ [r5])))) []), .mask [1, 5, 27, 28, 29], .ren [0], .nm 29 (vI ((p1 ++ [x1]).length : Int))] (p := [(decide ((p1.length : Int) < (b.Accts.length : Int))) = true,(0 : Int) ≤ (p1.length : Int),(List.map E29 b.Accts)[(p1.length : Int).toNat]? = some (E29 x1),Fn Try.prog 84 [(false, E9 x1.Id), (false, E3 n)] (E3 r4) [],(true || ((E3 r4).nv && nvL [])) = true,(0 : Int) ≤ r4,(r4 : Int) < ((List.map E58 v3).length : Int),look [] r4.toNat = none,(List.map E58 v3)[r4.toNat]? = some (E58 x2),look [(r4.toNat, V.agg [vI x2.Owner, V.ow 2])] r4.toNat = some (V.agg [vI x2.Owner, V.ow 2]),r4.toNat < (List.map E58 v3).length,Fn Try.prog 78 [(false, E29 x1)] (E29 r5) [],(true || ((E29 r5).nv && nvL [])) = true,(List.map E29 x2.Accts).length + [bA r5].length ≤ 9223372036854775807,((List.map E29 x2.Accts).length + [bA r5].length) * 160 ≤ 140737488355328,Blk.row 29 ((List.map E29 x2.Accts) ++ [bA r5]) [] = Blk.row 29 (List.map E29 (x2.Accts ++ [r5])) [],(0 : Int) ≤ r4,(r4 : Int) < ((List.map E58 v3).length : Int),look [(r4.toNat, V.agg [vI x2.Owner, V.ow 2])] r4.toNat = some (V.agg [vI x2.Owner, V.ow 2]),r4.toNat < (List.map E58 v3).length,r4.toNat = r4.toNat,(impl_Spread_s3 n r4 b p1 x1 r5 v3 x2) = (impl_Spread_s3 n r4 b p1 x1 r5 v3 x2),Fn Try.prog 78 [(false, E29 x1)] (E29 r5) [],(true || ((E29 r5).nv && nvL [])) = true,(List.map E29 x2.Accts).length + [bA r5].length ≤ 9223372036854775807,((List.map E29 x2.Accts).length + [bA r5].length) * 160 ≤ 140737488355328,Blk.row 29 ((List.map E29 x2.Accts) ++ [bA r5]) [] = Blk.row 29 (List.map E29 (x2.Accts ++ [r5])) [],(0 : Int) ≤ r4,(r4 : Int) < ((List.map E58 v3).length : Int),look [(r4.toNat, V.agg [vI x2.Owner, V.ow 2])] r4.toNat = some (V.agg [vI x2.Owner, V.ow 2]),r4.toNat < (List.map E58 v3).length,r4.toNat = r4.toNat,(impl_Spread_s3 n r4 b p1 x1 r5 v3 x2) = (impl_Spread_s3 n r4 b p1 x1 r5 v3 x2),(List.map E29 x2.Accts).length + [bA r5].length ≤ 9223372036854775807,((List.map E29 x2.Accts).length + [bA r5].length) * 160 ≤ 140737488355328,Blk.row 29 ((List.map E29 x2.Accts) ++ [bA r5]) [] = Blk.row 29 (List.map E29 (x2.Accts ++ [r5])) [],(0 : Int) ≤ r4,(r4 : Int) < ((List.map E58 v3).length : Int),look [(r4.toNat, V.agg [vI x2.Owner, V.ow 2])] r4.toNat = some (V.agg [vI x2.Owner, V.ow 2]),r4.toNat < (List.map E58 v3).length,r4.toNat = r4.toNat,(impl_Spread_s3 n r4 b p1 x1 r5 v3 x2) = (impl_Spread_s3 n r4 b p1 x1 r5 v3 x2),(List.map E29 x2.Accts).length + [bA r5].length ≤ 9223372036854775807,((List.map E29 x2.Accts).length + [bA r5].length) * 160 ≤ 140737488355328,Blk.row 29 ((List.map E29 x2.Accts) ++ [bA r5]) [] = Blk.row 29 (List.map E29 (x2.Accts ++ [r5])) [],(0 : Int) ≤ r4,(r4 : Int) < ((List.map E58 v3).length : Int),look [(r4.toNat, V.agg [vI x2.Owner, V.ow 2])] r4.toNat = some (V.agg [vI x2.Owner, V.ow 2]),r4.toNat < (List.map E58 v3).length,r4.toNat = r4.toNat,(impl_Spread_s3 n r4 b p1 x1 r5 v3 x2) = (impl_Spread_s3 n r4 b p1 x1 r5 v3 x2),(impl_Spread_s3 n r4 b p1 x1 r5 v3 x2) = (impl_Spread_s3 n r4 b p1 x1 r5 v3 x2),(impl_Spread_s3 n r4 b p1 x1 r5 v3 x2) = (impl_Spread_s3 n r4 b p1 x1 r5 v3 x2),(impl_Spread_s3 n r4 b p1 x1 r5 v3 x2) = (impl_Spread_s3 n r4 b p1 x1 r5 v3 x2),Fn Try.prog 78 [(false, E29 x1)] (E29 r5) [],(true || ((E29 r5).nv && nvL [])) = true,(List.map E29 x2.Accts).length + [bA r5].length ≤ 9223372036854775807,((List.map E29 x2.Accts).length + [bA r5].length) * 160 ≤ 140737488355328,Blk.row 29 ((List.map E29 x2.Accts) ++ [bA r5]) [] = Blk.row 29 (List.map E29 (x2.Accts ++ [r5])) [],(0 : Int) ≤ r4,(r4 : Int) < ((List.map E58 v3).length : Int),look [(r4.toNat, V.agg [vI x2.Owner, V.ow 2])] r4.toNat = some (V.agg [vI x2.Owner, V.ow 2]),r4.toNat < (List.map E58 v3).length,r4.toNat = r4.toNat,(impl_Spread_s3 n r4 b p1 x1 r5 v3 x2) = (impl_Spread_s3 n r4 b p1 x1 r5 v3 x2),Fn Try.prog 78 [(false, E29 x1)] (E29 r5) [],(true || ((E29 r5).nv && nvL [])) = true,(List.map E29 x2.Accts).length + [bA r5].length ≤ 9223372036854775807,((List.map E29 x2.Accts).length + [bA r5].length) * 160 ≤ 140737488355328,Blk.row 29 ((List.map E29 x2.Accts) ++ [bA r5]) [] = Blk.row 29 (List.map E29 (x2.Accts ++ [r5])) [],(0 : Int) ≤ r4,(r4 : Int) < ((List.map E58 v3).length : Int),look [(r4.toNat, V.agg [vI x2.Owner, V.ow 2])] r4.toNat = some (V.agg [vI x2.Owner, V.ow 2]),r4.toNat < (List.map E58 v3).length,r4.toNat = r4.toNat,(impl_Spread_s3 n r4 b p1 x1 r5 v3 x2) = (impl_Spread_s3 n r4 b p1 x1 r5 v3 x2),(List.map E29 x2.Accts).length + [bA r5].length ≤ 9223372036854775807,((List.map E29 x2.Accts).length + [bA r5].length) * 160 ≤ 140737488355328,Blk.row 29 ((List.map E29 x2.Accts) ++ [bA r5]) [] = Blk.row 29 (List.map E29 (x2.Accts ++ [r5])) [],(0 : Int) ≤ r4,(r4 : Int) < ((List.map E58 v3).length : Int),look [(r4.toNat, V.agg [vI x2.Owner, V.ow 2])] r4.toNat = some (V.agg [vI x2.Owner, V.ow 2]),r4.toNat < (List.map E58 v3).length,r4.toNat = r4.toNat,(impl_Spread_s3 n r4 b p1 x1 r5 v3 x2) = (impl_Spread_s3 n r4 b p1 x1 r5 v3 x2),(List.map E29 x2.Accts).length + [bA r5].length ≤ 9223372036854775807,((List.map E29 x2.Accts).length + [bA r5].length) * 160 ≤ 140737488355328,Blk.row 29 ((List.map E29 x2.Accts) ++ [bA r5]) [] = Blk.row 29 (List.map E29 (x2.Accts ++ [r5])) [],(0 : Int) ≤ r4,(r4 : Int) < ((List.map E58 v3).length : Int),look [(r4.toNat, V.agg [vI x2.Owner, V.ow 2])] r4.toNat = some (V.agg [vI x2.Owner, V.ow 2]),r4.toNat < (List.map E58 v3).length,r4.toNat = r4.toNat,(impl_Spread_s3 n r4 b p1 x1 r5 v3 x2) = (impl_Spread_s3 n r4 b p1 x1 r5 v3 x2),(impl_Spread_s3 n r4 b p1 x1 r5 v3 x2) = (impl_Spread_s3 n r4 b p1 x1 r5 v3 x2),(impl_Spread_s3 n r4 b p1 x1 r5 v3 x2) = (impl_Spread_s3 n r4 b p1 x1 r5 v3 x2),(impl_Spread_s3 n r4 b p1 x1 r5 v3 x2) = (impl_Spread_s3 n r4 b p1 x1 r5 v3 x2),Fn Try.prog 78 [(false, E29 x1)] (E29 r5) [],(true || ((E29 r5).nv && nvL [])) = true,(List.map E29 x2.Accts).length + [bA r5].length ≤ 9223372036854775807,((List.map E29 x2.Accts).length + [bA r5].length) * 160 ≤ 140737488355328,Blk.row 29 ((List.map E29 x2.Accts) ++ [bA r5]) [] = Blk.row 29 (List.map E29 (x2.Accts ++ [r5])) [],(0 : Int) ≤ r4,(r4 : Int) < ((List.map E58 v3).length : Int),look [(r4.toNat, V.agg [vI x2.Owner, V.ow 2])] r4.toNat = some (V.agg [vI x2.Owner, V.ow 2]),r4.toNat < (List.map E58 v3).length,r4.toNat = r4.toNat,(impl_Spread_s3 n r4 b p1 x1 r5 v3 x2) = (impl_Spread_s3 n r4 b p1 x1 r5 v3 x2),(List.map E29 x2.Accts).length + [bA r5].length ≤ 9223372036854775807,((List.map E29 x2.Accts).length + [bA r5].length) * 160 ≤ 140737488355328,Blk.row 29 ((List.map E29 x2.Accts) ++ [bA r5]) [] = Blk.row 29 (List.map E29 (x2.Accts ++ [r5])) [],(0 : Int) ≤ r4,(r4 : Int) < ((List.map E58 v3).length : Int),look [(r4.toNat, V.agg [vI x2.Owner, V.ow 2])] r4.toNat = some (V.agg [vI x2.Owner, V.ow 2]),r4.toNat < (List.map E58 v3).length,r4.toNat = r4.toNat,(impl_Spread_s3 n r4 b p1 x1 r5 v3 x2) = (impl_Spread_s3 n r4 b p1 x1 r5 v3 x2),(List.map E29 x2.Accts).length + [bA r5].length ≤ 9223372036854775807,((List.map E29 x2.Accts).length + [bA r5].length) * 160 ≤ 140737488355328,Blk.row 29 ((List.map E29 x2.Accts) ++ [bA r5]) [] = Blk.row 29 (List.map E29 (x2.Accts ++ [r5])) [],(0 : Int) ≤ r4,(r4 : Int) < ((List.map E58 v3).length : Int),look [(r4.toNat, V.agg [vI x2.Owner, V.ow 2])] r4.toNat = some (V.agg [vI x2.Owner, V.ow 2]),r4.toNat < (List.map E58 v3).length,r4.toNat = r4.toNat,(impl_Spread_s3 n r4 b p1 x1 r5 v3 x2) = (impl_Spread_s3 n r4 b p1 x1 r5 v3 x2),(impl_Spread_s3 n r4 b p1 x1 r5 v3 x2) = (impl_Spread_s3 n r4 b p1 x1 r5 v3 x2),(impl_Spread_s3 n r4 b p1 x1 r5 v3 x2) = (impl_Spread_s3 n r4 b p1 x1 r5 v3 x2),(List.map E29 x2.Accts).length + [bA r5].length ≤ 9223372036854775807,((List.map E29 x2.Accts).length + [bA r5].length) * 160 ≤ 140737488355328,Blk.row 29 ((List.map E29 x2.Accts) ++ [bA r5]) [] = Blk.row 29 (List.map E29 (x2.Accts ++ [r5])) [],(0 : Int) ≤ r4,(r4 : Int) < ((List.map E58 v3).length : Int),look [(r4.toNat, V.agg [vI x2.Owner, V.ow 2])] r4.toNat = some (V.agg [vI x2.Owner, V.ow 2]),r4.toNat < (List.map E58 v3).length,r4.toNat = r4.toNat,(impl_Spread_s3 n r4 b p1 x1 r5 v3 x2) = (impl_Spread_s3 n r4 b p1 x1 r5 v3 x2),(List.map E29 x2.Accts).length + [bA r5].length ≤ 9223372036854775807,((List.map E29 x2.Accts).length + [bA r5].length) * 160 ≤ 140737488355328,Blk.row 29 ((List.map E29 x2.Accts) ++ [bA r5]) [] = Blk.row 29 (List.map E29 (x2.Accts ++ [r5])) [],(0 : Int) ≤ r4,(r4 : Int) < ((List.map E58 v3).length : Int),look [(r4.toNat, V.agg [vI x2.Owner, V.ow 2])] r4.toNat = some (V.agg [vI x2.Owner, V.ow 2]),r4.toNat < (List.map E58 v3).length,r4.toNat = r4.toNat,(impl_Spread_s3 n r4 b p1 x1 r5 v3 x2) = (impl_Spread_s3 n r4 b p1 x1 r5 v3 x2),(List.map E29 x2.Accts).length + [bA r5].length ≤ 9223372036854775807,((List.map E29 x2.Accts).length + [bA r5].length) * 160 ≤ 140737488355328,Blk.row 29 ((List.map E29 x2.Accts) ++ [bA r5]) [] = Blk.row 29 (List.map E29 (x2.Accts ++ [r5])) [],(0 : Int) ≤ r4,(r4 : Int) < ((List.map E58 v3).length : Int),look [(r4.toNat, V.agg [vI x2.Owner, V.ow 2])] r4.toNat = some (V.agg [vI x2.Owner, V.ow 2]),r4.toNat < (List.map E58 v3).length,r4.toNat = r4.toNat,(impl_Spread_s3 n r4 b p1 x1 r5 v3 x2) = (impl_Spread_s3 n r4 b p1 x1 r5 v3 x2),(impl_Spread_s3 n r4 b p1 x1 r5 v3 x2) = (impl_Spread_s3 n r4 b p1 x1 r5 v3 x2),(impl_Spread_s3 n r4 b p1 x1 r5 v3 x2) = (impl_Spread_s3 n r4 b p1 x1 r5 v3 x2),(List.map E29 x2.Accts).length + [bA r5].length ≤ 9223372036854775807,((List.map E29 x2.Accts).length + [bA r5].length) * 160 ≤ 140737488355328,Blk.row 29 ((List.map E29 x2.Accts) ++ [bA r5]) [] = Blk.row 29 (List.map E29 (x2.Accts ++ [r5])) [],(0 : Int) ≤ r4,(r4 : Int) < ((List.map E58 v3).length : Int),look [(r4.toNat, V.agg [vI x2.Owner, V.ow 2])] r4.toNat = some (V.agg [vI x2.Owner, V.ow 2]),r4.toNat < (List.map E58 v3).length,r4.toNat = r4.toNat,(impl_Spread_s3 n r4 b p1 x1 r5 v3 x2) = (impl_Spread_s3 n r4 b p1 x1 r5 v3 x2),(List.map E29 x2.Accts).length + [bA r5].length ≤ 9223372036854775807,((List.map E29 x2.Accts).length + [bA r5].length) * 160 ≤ 140737488355328,Blk.row 29 ((List.map E29 x2.Accts) ++ [bA r5]) [] = Blk.row 29 (List.map E29 (x2.Accts ++ [r5])) [],(0 : Int) ≤ r4,(r4 : Int) < ((List.map E58 v3).length : Int),look [(r4.toNat, V.agg [vI x2.Owner, V.ow 2])] r4.toNat = some (V.agg [vI x2.Owner, V.ow 2]),r4.toNat < (List.map E58 v3).length,r4.toNat = r4.toNat,(impl_Spread_s3 n r4 b p1 x1 r5 v3 x2) = (impl_Spread_s3 n r4 b p1 x1 r5 v3 x2),(impl_Spread_s3 n r4 b p1 x1 r5 v3 x2) = (impl_Spread_s3 n r4 b p1 x1 r5 v3 x2),(List.map E29 x2.Accts).length + [bA r5].length ≤ 9223372036854775807,((List.map E29 x2.Accts).length + [bA r5].length) * 160 ≤ 140737488355328,Blk.row 29 ((List.map E29 x2.Accts) ++ [bA r5]) [] = Blk.row 29 (List.map E29 (x2.Accts ++ [r5])) [],(0 : Int) ≤ r4,(r4 : Int) < ((List.map E58 v3).length : Int),look [(r4.toNat, V.agg [vI x2.Owner, V.ow 2])] r4.toNat = some (V.agg [vI x2.Owner, V.ow 2]),r4.toNat < (List.map E58 v3).length,r4.toNat = r4.toNat,(impl_Spread_s3 n r4 b p1 x1 r5 v3 x2) = (impl_Spread_s3 n r4 b p1 x1 r5 v3 x2),(List.map E29 x2.Accts).length + [bA r5].length ≤ 9223372036854775807,((List.map E29 x2.Accts).length + [bA r5].length) * 160 ≤ 140737488355328,Blk.row 29 ((List.map E29 x2.Accts) ++ [bA r5]) [] = Blk.row 29 (List.map E29 (x2.Accts ++ [r5])) [],(0 : Int) ≤ r4,(r4 : Int) < ((List.map E58 v3).length : Int),look [(r4.toNat, V.agg [vI x2.Owner, V.ow 2])] r4.toNat = some (V.agg [vI x2.Owner, V.ow 2]),r4.toNat < (List.map E58 v3).length,r4.toNat = r4.toNat,(impl_Spread_s3 n r4 b p1 x1 r5 v3 x2) = (impl_Spread_s3 n r4 b p1 x1 r5 v3 x2),(impl_Spread_s3 n r4 b p1 x1 r5 v3 x2) = (impl_Spread_s3 n r4 b p1 x1 r5 v3 x2),(List.map E29 x2.Accts).length + [bA r5].length ≤ 9223372036854775807,((List.map E29 x2.Accts).length + [bA r5].length) * 160 ≤ 140737488355328,Blk.row 29 ((List.map E29 x2.Accts) ++ [bA r5]) [] = Blk.row 29 (List.map E29 (x2.Accts ++ [r5])) [],(0 : Int) ≤ r4,(r4 : Int) < ((List.map E58 v3).length : Int),look [(r4.toNat, V.agg [vI x2.Owner, V.ow 2])] r4.toNat = some (V.agg [vI x2.Owner, V.ow 2]),r4.toNat < (List.map E58 v3).length,r4.toNat = r4.toNat,(impl_Spread_s3 n r4 b p1 x1 r5 v3 x2) = (impl_Spread_s3 n r4 b p1 x1 r5 v3 x2),(impl_Spread_s3 n r4 b p1 x1 r5 v3 x2) = (impl_Spread_s3 n r4 b p1 x1 r5 v3 x2),(impl_Spread_s3 n r4 b p1 x1 r5 v3 x2) = (impl_Spread_s3 n r4 b p1 x1 r5 v3 x2),Blk.row 58 ((List.map E58 v3).set r4.toNat (V.agg [vI x2.Owner, V.sl true 29 (List.map E29 (x2.Accts ++ [r5]))])) [] = Blk.row 58 (List.map E58 (v3.set r4.toNat (Stripe.mk x2.Owner (x2.Accts ++ [r5])))) [],vI (i64 ((p1.length : Int) + 1)) = vI ((p1 ++ [x1]).length : Int)]) (by kernel_rfl) (cj (rng_lt h8) (cj (by omega) (cj (rng_get _ h8) (cj (impl_StripeNo_ok x1.Id n r4 h10) (cj rfl (cj (od h11) (cj (map_ltN (od h11) h12) (cj rfl (cj (map_get h12) (cj (look_cons_self _ _ _) (cj (map_lt h12) (cj (impl_Acct_copied_ok x1 r5 h13) (cj rfl (cj (cap1 (capN (by simp) h14)) (cj (cap2 (capN (by simp) h14) (by decide)) (cj (nb_app E29 x2.Accts [r5]) (cj (od h11) (cj (map_ltN (od h11) h12) (cj (look_cons_self _ _ _) (cj (map_lt h12) (cj rfl (cj rfl (cj (impl_Acct_copied_ok x1 r5 h13) (cj rfl (cj (cap1 (capN (by simp) h14)) (cj (cap2 (capN (by simp) h14) (by decide)) (cj (nb_app E29 x2.Accts [r5]) (cj (od h11) (cj (map_ltN (od h11) h12) (cj (look_cons_self _ _ _) (cj (map_lt h12) (cj rfl (cj rfl (cj (cap1 (capN (by simp) h14)) (cj (cap2 (capN (by simp) h14) (by decide)) (cj (nb_app E29 x2.Accts [r5]) (cj (od h11) (cj (map_ltN (od h11) h12) (cj (look_cons_self _ _ _) (cj (map_lt h12) (cj rfl (cj rfl (cj (cap1 (capN (by simp) h14)) (cj (cap2 (capN (by simp) h14) (by decide)) (cj (nb_app E29 x2.Accts [r5]) (cj (od h11) (cj (map_ltN (od h11) h12) (cj (look_cons_self _ _ _) (cj (map_lt h12) (cj rfl (cj rfl (cj rfl (cj rfl (cj rfl (cj (impl_Acct_copied_ok x1 r5 h13) (cj rfl (cj (cap1 (capN (by simp) h14)) (cj (cap2 (capN (by simp) h14) (by decide)) (cj (nb_app E29 x2.Accts [r5]) (cj (od h11) (cj (map_ltN (od h11) h12) (cj (look_cons_self _ _ _) (cj (map_lt h12) (cj rfl (cj rfl (cj (impl_Acct_copied_ok x1 r5 h13) (cj rfl (cj (cap1 (capN (by simp) h14)) (cj (cap2 (capN (by simp) h14) (by decide)) (cj (nb_app E29 x2.Accts [r5]) (cj (od h11) (cj (map_ltN (od h11) h12) (cj (look_cons_self _ _ _) (cj (map_lt h12) (cj rfl (cj rfl (cj (cap1 (capN (by simp) h14)) (cj (cap2 (capN (by simp) h14) (by decide)) (cj (nb_app E29 x2.Accts [r5]) (cj (od h11) (cj (map_ltN (od h11) h12) (cj (look_cons_self _ _ _) (cj (map_lt h12) (cj rfl (cj rfl (cj (cap1 (capN (by simp) h14)) (cj (cap2 (capN (by simp) h14) (by decide)) (cj (nb_app E29 x2.Accts [r5]) (cj (od h11) (cj (map_ltN (od h11) h12) (cj (look_cons_self _ _ _) (cj (map_lt h12) (cj rfl (cj rfl (cj rfl (cj rfl (cj rfl (cj (impl_Acct_copied_ok x1 r5 h13) (cj rfl (cj (cap1 (capN (by simp) h14)) (cj (cap2 (capN (by simp) h14) (by decide)) (cj (nb_app E29 x2.Accts [r5]) (cj (od h11) (cj (map_ltN (od h11) h12) (cj (look_cons_self _ _ _) (cj (map_lt h12) (cj rfl (cj rfl (cj (cap1 (capN (by simp) h14)) (cj (cap2 (capN (by simp) h14) (by decide)) (cj (nb_app E29 x2.Accts [r5]) (cj (od h11) (cj (map_ltN (od h11) h12) (cj (look_cons_self _ _ _) (cj (map_lt h12) (cj rfl (cj rfl (cj (cap1 (capN (by simp) h14)) (cj (cap2 (capN (by simp) h14) (by decide)) (cj (nb_app E29 x2.Accts [r5]) (cj (od h11) (cj (map_ltN (od h11) h12) (cj (look_cons_self _ _ _) (cj (map_lt h12) (cj rfl (cj rfl (cj rfl (cj rfl (cj (cap1 (capN (by simp) h14)) (cj (cap2 (capN (by simp) h14) (by decide)) (cj (nb_app E29 x2.Accts [r5]) (cj (od h11) (cj (map_ltN (od h11) h12) (cj (look_cons_self _ _ _) (cj (map_lt h12) (cj rfl (cj rfl (cj (cap1 (capN (by simp) h14)) (cj (cap2 (capN (by simp) h14) (by decide)) (cj (nb_app E29 x2.Accts [r5]) (cj (od h11) (cj (map_ltN (od h11) h12) (cj (look_cons_self _ _ _) (cj (map_lt h12) (cj rfl (cj rfl (cj (cap1 (capN (by simp) h14)) (cj (cap2 (capN (by simp) h14) (by decide)) (cj (nb_app E29 x2.Accts [r5]) (cj (od h11) (cj (map_ltN (od h11) h12) (cj (look_cons_self _ _ _) (cj (map_lt h12) (cj rfl (cj rfl (cj rfl (cj rfl (cj (cap1 (capN (by simp) h14)) (cj (cap2 (capN (by simp) h14) (by decide)) (cj (nb_app E29 x2.Accts [r5]) (cj (od h11) (cj (map_ltN (od h11) h12) (cj (look_cons_self _ _ _) (cj (map_lt h12) (cj rfl (cj rfl (cj (cap1 (capN (by simp) h14)) (cj (cap2 (capN (by simp) h14) (by decide)) (cj (nb_app E29 x2.Accts [r5]) (cj (od h11) (cj (map_ltN (od h11) h12) (cj (look_cons_self _ _ _) (cj (map_lt h12) (cj rfl (cj rfl (cj rfl (cj (cap1 (capN (by simp) h14)) (cj (cap2 (capN (by simp) h14) (by decide)) (cj (nb_app E29 x2.Accts [r5]) (cj (od h11) (cj (map_ltN (od h11) h12) (cj (look_cons_self _ _ _) (cj (map_lt h12) (cj rfl (cj rfl (cj (cap1 (capN (by simp) h14)) (cj (cap2 (capN (by simp) h14) (by decide)) (cj (nb_app E29 x2.Accts [r5]) (cj (od h11) (cj (map_ltN (od h11) h12) (cj (look_cons_self _ _ _) (cj (map_lt h12) (cj rfl (cj rfl (cj rfl (cj (cap1 (capN (by simp) h14)) (cj (cap2 (capN (by simp) h14) (by decide)) (cj (nb_app E29 x2.Accts [r5]) (cj (od h11) (cj (map_ltN (od h11) h12) (cj (look_cons_self _ _ _) (cj (map_lt h12) (cj rfl (cj rfl (cj rfl (cj rfl (cj (nb_set E58 _ _ (Stripe.mk x2.Owner (x2.Accts ++ [r5]))) (cj1 (rng_next h8 h9))))))))))))))))))))))))))))))))))))))))))))))))))))))))))))))))))))))))))))))))))))))))))))))))))))))))))))))))))))))))))))))))))))))))))))))))))))))))))))))))))))))))))))))))))))))))))))))))))))))))))))))))) (impl_Spread_l1_ok b n h9 t1 (p1 ++ [x1]) (rng_step h8) (v3.set r4.toNat (Stripe.mk x2.Owner (x2.Accts ++ [r5]))))) (fun h14 =>
     Pn.none)))) (fun h11 =>
     Pn.none))
def impl_Spread (b : Book) (n : Int) : Option ((List Stripe)) :=
 (impl_BookOk b).bind fun r1 =>
 if r1 = true then
 (impl_within n 1 5).bind fun r2 =>
 if r2 = true then
 (impl_Spread_l0 b n FUEL 0 []).bind fun r3 =>
 if (capOk b.Accts.length) = true then
 (impl_Spread_l1 b n b.Accts r3).bind fun r6 =>
 some r6
 else none
 else
 some []
 else
 some []
theorem impl_Spread_ok (b : Book) (n : Int) : Pn (fun y => Fn Try.prog 25 [(false, E50 b), (false, E3 n)] (E53 y) []) (impl_Spread b n) := by
  unfold impl_Spread
  exact
   Pn.bind (fun r1 h1 =>
   Pn.ite (fun h2 =>
   Pn.bind (fun r2 h3 =>
   Pn.ite (fun h4 =>
   Pn.bind (fun r3 h7 =>
   Pn.ite (fun h15 =>
   Pn.bind (fun r6 h16 =>
   Pn.some (Fn.of [.call [] (E4 r1) [], .bit false, .bit false, .call [] (E4 r2) [], .bit false, .bit false, .bit false, .wait 4, .mask [1, 2, 5, 18, 19], .ren [0, 1], .loop (X.out 0) (st 52 [(1, vI n), (2, V.ptr 0 0), (5, V.ow 1)] [Blk.box 50 [V.sl false 29 (List.map E29 b.Accts)], Blk.row 58 (List.map E58 r3) []] []), .wait 3, .nm 28 (vI (b.Accts.length : Int)), .wait 2, .mask [1, 5, 27, 28, 29], .ren [1], .loop (X.out 2) (st 52 [(5, V.ow 0)] [Blk.row 58 (List.map E58 r6) []] [])] (p := [Fn Try.prog 83 [(false, E50 b)] (E4 r1) [],(true || ((E4 r1).nv && nvL [])) = true,(!r1) = false,(!r1) = false,Fn Try.prog 70 [(false, E3 n), (false, E3 1), (false, E3 5)] (E4 r2) [],(true || ((E4 r2).nv && nvL [])) = true,(!r1) = false,(!r1) = false,(!r2) = false,Loop Try.prog (sub (codeOf Try.prog 25) [1, 1, 1, 0, 1, 0, 0]) (st 52 [(1, vI n), (2, V.ptr 0 0), (5, V.ow 1), (18, vI n), (19, vI 0)] [Blk.box 50 [V.sl false 29 (List.map E29 b.Accts)], Blk.row 58 ([] : List V) []] []) (X.out 0) (st 52 [(1, vI n), (2, V.ptr 0 0), (5, V.ow 1)] [Blk.box 50 [V.sl false 29 (List.map E29 b.Accts)], Blk.row 58 (List.map E58 r3) []] []),vI ((List.map E29 b.Accts).length : Int) = vI (b.Accts.length : Int),Loop Try.prog (sub (codeOf Try.prog 25) [1, 1, 1, 1, 0, 1, 0, 0]) (st 52 [(1, vI n), (5, V.ow 0), (27, V.sl false 29 (List.map E29 b.Accts)), (28, vI (b.Accts.length : Int)), (29, vI 0)] [Blk.row 58 (List.map E58 r3) []] []) (X.out 2) (st 52 [(5, V.ow 0)] [Blk.row 58 (List.map E58 r6) []] [])]) (by kernel_rfl) (cj (impl_BookOk_ok b r1 h1) (cj rfl (cj (nf h2) (cj (nf h2) (cj (impl_within_ok n 1 5 r2 h3) (cj rfl (cj (nf h2) (cj (nf h2) (cj (nf h4) (cj (impl_Spread_l0_ok b n FUEL 0 [] r3 h7) (cj (len_nm _ _) (cj1 (impl_Spread_l1_ok b n h15 b.Accts [] rfl r3 r6 h16)))))))))))))))) (fun h15 =>
   Pn.none))) (fun h4 =>
   Pn.some (Fn.of [.call [] (E4 r1) [], .bit false, .bit false, .call [] (E4 r2) [], .bit false, .bit false, .bit true] (p := [Fn Try.prog 83 [(false, E50 b)] (E4 r1) [],(true || ((E4 r1).nv && nvL [])) = true,(!r1) = false,(!r1) = false,Fn Try.prog 70 [(false, E3 n), (false, E3 1), (false, E3 5)] (E4 r2) [],(true || ((E4 r2).nv && nvL [])) = true,(!r1) = false,(!r1) = false,(!r2) = true]) (by kernel_rfl) (cj (impl_BookOk_ok b r1 h1) (cj rfl (cj (nf h2) (cj (nf h2) (cj (impl_within_ok n 1 5 r2 h3) (cj rfl (cj (nf h2) (cj (nf h2) (cj1 (nt h4)))))))))))))) (fun h2 =>
   Pn.some (Fn.of [.call [] (E4 r1) [], .bit true, .bit true, .bit true, .bit true, .bit true] (p := [Fn Try.prog 83 [(false, E50 b)] (E4 r1) [],(true || ((E4 r1).nv && nvL [])) = true,(!r1) = true,(!r1) = true,(!r1) = true,(!r1) = true,true = true]) (by kernel_rfl) (cj (impl_BookOk_ok b r1 h1) (cj rfl (cj (nt h2) (cj (nt h2) (cj (nt h2) (cj (nt h2) (cj1 rfl))))))))))
def impl_Book_each_impl_Acct_copied_l0 (b : Book) : List Acct → (List Acct) → Option ((List Acct))
  | [], v1 =>
   some v1
  | x1 :: t1, v1 =>
   (impl_Acct_copied x1).bind fun r1 =>
   if (capOk (v1.length + 1)) = true then
   impl_Book_each_impl_Acct_copied_l0 b t1 (v1 ++ [r1])
   else none
theorem impl_Book_each_impl_Acct_copied_l0_ok (b : Book) (h2 : capOk b.Accts.length = true) : ∀ (t1 p1 : List Acct) (_ : b.Accts = p1 ++ t1) (v1 : List Acct), Pn (LpO Try.prog (sub (codeOf Try.prog 148) [1, 1, 0, 1, 0, 0]) (st 26 [(1, V.fn 78 []), (4, V.ptr 0 0), (5, V.ptr 1 0), (10, V.sl false 29 (List.map E29 b.Accts)), (11, vI (b.Accts.length : Int)), (12, vI (p1.length : Int))] [Blk.box 50 [V.nl 29], Blk.box 50 [V.ow 2], Blk.row 29 (List.map E29 v1) []] []) (fun (y : (List Acct)) => (X.out 0, st 26 [(4, V.ptr 0 0), (5, V.ptr 1 0)] [Blk.box 50 [V.nl 29], Blk.box 50 [V.ow 2], Blk.row 29 (List.map E29 y) []] []))) (impl_Book_each_impl_Acct_copied_l0 b t1 v1)
  | [], p1, h1, v1 => by
    unfold impl_Book_each_impl_Acct_copied_l0
    exact
     Pn.some (LpO.out [.bit false, .mask [4, 5], .ren [0, 1, 2]] (p := [(decide ((p1.length : Int) < (b.Accts.length : Int))) = false]) (by kernel_rfl) (show X.out 0 ≠ X.go from nofun) (cj1 (rng_end h1)))
  | x1 :: t1, p1, h1, v1 => by
    unfold impl_Book_each_impl_Acct_copied_l0
    exact
     Pn.bind (fun r1 h3 =>
     Pn.ite (fun h4 =>
     LpO.go [.bit true, .el (E29 x1), .draw [6, 8], .call [] (E29 r1) [], .wait 1, .shut 8, .mv, .nb 9 (.row 29 (List.map E29 (v1 ++ [r1])) []), .wait 5, .mask [1, 4, 5, 10, 11, 12], .ren [0, 1, 9], .nm 12 (vI ((p1 ++ [x1]).length : Int))] (p := [(decide ((p1.length : Int) < (b.Accts.length : Int))) = true,(0 : Int) ≤ (p1.length : Int),(List.map E29 b.Accts)[(p1.length : Int).toNat]? = some (E29 x1),Fn Try.prog 78 [(false, E29 x1)] (E29 r1) [],(true || ((E29 r1).nv && nvL [])) = true,(List.map E29 v1).length + [bA r1].length ≤ 9223372036854775807,((List.map E29 v1).length + [bA r1].length) * 160 ≤ 140737488355328,Blk.row 29 ((List.map E29 v1) ++ [bA r1]) [] = Blk.row 29 (List.map E29 (v1 ++ [r1])) [],vI (i64 ((p1.length : Int) + 1)) = vI ((p1 ++ [x1]).length : Int)]) (by kernel_rfl) (cj (rng_lt h1) (cj (by omega) (cj (rng_get _ h1) (cj (impl_Acct_copied_ok x1 r1 h3) (cj rfl (cj (cap1 (capN (by simp) h4)) (cj (cap2 (capN (by simp) h4) (by decide)) (cj (nb_app E29 v1 [r1]) (cj1 (rng_next h1 h2)))))))))) (impl_Book_each_impl_Acct_copied_l0_ok b h2 t1 (p1 ++ [x1]) (rng_step h1) (v1 ++ [r1]))) (fun h4 =>
     Pn.none))
def impl_Book_each_impl_Acct_copied (b : Book) : Option (Book) :=
 if (capOk b.Accts.length) = true then
 (impl_Book_each_impl_Acct_copied_l0 b b.Accts []).bind fun r2 =>
 some (Book.mk r2)
 else none
theorem impl_Book_each_impl_Acct_copied_ok (b : Book) : Pn (fun y => Fn Try.prog 148 [(false, E50 b), (false, V.fn 78 [])] (E50 y) []) (impl_Book_each_impl_Acct_copied b) := by
  unfold impl_Book_each_impl_Acct_copied
  exact
   Pn.ite (fun h5 =>
   Pn.bind (fun r2 h6 =>
   Pn.some (Fn.of [.wait 8, .nm 11 (vI (b.Accts.length : Int)), .wait 2, .mask [1, 4, 5, 10, 11, 12], .ren [1, 2], .ownb 1 0, .mask [1, 4, 5, 10, 11, 12], .ren [0, 1, 2], .loop (X.out 0) (st 26 [(4, V.ptr 0 0), (5, V.ptr 1 0)] [Blk.box 50 [V.nl 29], Blk.box 50 [V.ow 2], Blk.row 29 (List.map E29 r2) []] [])] (p := [vI ((List.map E29 b.Accts).length : Int) = vI (b.Accts.length : Int),Loop Try.prog (sub (codeOf Try.prog 148) [1, 1, 0, 1, 0, 0]) (st 26 [(1, V.fn 78 []), (4, V.ptr 0 0), (5, V.ptr 1 0), (10, V.sl false 29 (List.map E29 b.Accts)), (11, vI (b.Accts.length : Int)), (12, vI 0)] [Blk.box 50 [V.nl 29], Blk.box 50 [V.ow 2], Blk.row 29 ([] : List V) []] []) (X.out 0) (st 26 [(4, V.ptr 0 0), (5, V.ptr 1 0)] [Blk.box 50 [V.nl 29], Blk.box 50 [V.ow 2], Blk.row 29 (List.map E29 r2) []] [])]) (by kernel_rfl) (cj (len_nm _ _) (cj1 (impl_Book_each_impl_Acct_copied_l0_ok b h5 b.Accts [] rfl [] r2 h6)))))) (fun h5 =>
   Pn.none)
def impl_Book_copied (b : Book) : Option (Book) :=
 (impl_Book_each_impl_Acct_copied b).bind fun r1 =>
 some r1
theorem impl_Book_copied_ok (b : Book) : Pn (fun y => Fn Try.prog 88 [(false, E50 b)] (E50 y) []) (impl_Book_copied b) := by
  unfold impl_Book_copied
  exact
   Pn.bind (fun r1 h1 =>
   Pn.some (Fn.of [.call [] (E50 r1) []] (p := [Fn Try.prog 148 [(false, E50 b), (false, V.fn 78 [])] (E50 r1) [],(true || ((E50 r1).nv && nvL [])) = true]) (by kernel_rfl) (cj (impl_Book_each_impl_Acct_copied_ok b r1 h1) (cj1 rfl))))
def impl_copyStripes_l0 (l : List Stripe) : List Stripe → (List Stripe) → Option ((List Stripe))
  | [], v1 =>
   some v1
  | x1 :: t1, v1 =>
   (impl_Book_copied (Book.mk x1.Accts)).bind fun r1 =>
   if (capOk (v1.length + 1)) = true then
   impl_copyStripes_l0 l t1 (v1 ++ [(Stripe.mk x1.Owner r1.Accts)])
   else none
theorem impl_copyStripes_l0_ok (l : List Stripe) (h2 : capOk l.length = true) : ∀ (t1 p1 : List Stripe) (_ : l = p1 ++ t1) (v1 : List Stripe), Pn (LpO Try.prog (sub (codeOf Try.prog 144) [1, 1, 0, 1, 0, 0]) (st 26 [(3, V.ow 0), (7, V.sl false 58 (List.map E58 l)), (8, vI (l.length : Int)), (9, vI (p1.length : Int))] [Blk.row 58 (List.map E58 v1) []] []) (fun (y : (List Stripe)) => (X.out 0, st 26 [(3, V.ow 0)] [Blk.row 58 (List.map E58 y) []] []))) (impl_copyStripes_l0 l t1 v1)
  | [], p1, h1, v1 => by
    unfold impl_copyStripes_l0
    exact
     Pn.some (LpO.out [.bit false, .mask [3], .ren [0]] (p := [(decide ((p1.length : Int) < (l.length : Int))) = false]) (by kernel_rfl) (show X.out 0 ≠ X.go from nofun) (cj1 (rng_end h1)))
  | x1 :: t1, p1, h1, v1 => by
    unfold impl_copyStripes_l0
    exact
     Pn.bind (fun r1 h3 =>
     Pn.ite (fun h4 =>
     LpO.go [.bit true, .el (E58 x1), .draw [10], .call [] (E50 r1) [], .wait 3, .shut 3, .mv, .nb 4 (.row 58 (List.map E58 (v1 ++ [(Stripe.mk x1.Owner r1.Accts)])) []), .wait 4, .mask [3, 7, 8, 9], .ren [4], .nm 9 (vI ((p1 ++ [x1]).length : Int))] (p := [(decide ((p1.length : Int) < (l.length : Int))) = true,(0 : Int) ≤ (p1.length : Int),(List.map E58 l)[(p1.length : Int).toNat]? = some (E58 x1),Fn Try.prog 88 [(false, E50 (Book.mk x1.Accts))] (E50 r1) [],(true || ((E50 r1).nv && nvL [])) = true,(List.map E58 v1).length + [V.agg [vI x1.Owner, V.sl true 29 (List.map E29 r1.Accts)]].length ≤ 9223372036854775807,((List.map E58 v1).length + [V.agg [vI x1.Owner, V.sl true 29 (List.map E29 r1.Accts)]].length) * 32 ≤ 140737488355328,Blk.row 58 ((List.map E58 v1) ++ [V.agg [vI x1.Owner, V.sl true 29 (List.map E29 r1.Accts)]]) [] = Blk.row 58 (List.map E58 (v1 ++ [(Stripe.mk x1.Owner r1.Accts)])) [],vI (i64 ((p1.length : Int) + 1)) = vI ((p1 ++ [x1]).length : Int)]) (by kernel_rfl) (cj (rng_lt h1) (cj (by omega) (cj (rng_get _ h1) (cj (impl_Book_copied_ok (Book.mk x1.Accts) r1 h3) (cj rfl (cj (cap1 (capN (by simp) h4)) (cj (cap2 (capN (by simp) h4) (by decide)) (cj (nb_app E58 v1 [(Stripe.mk x1.Owner r1.Accts)]) (cj1 (rng_next h1 h2)))))))))) (impl_copyStripes_l0_ok l h2 t1 (p1 ++ [x1]) (rng_step h1) (v1 ++ [(Stripe.mk x1.Owner r1.Accts)]))) (fun h4 =>
     Pn.none))
def impl_copyStripes (l : List Stripe) : Option ((List Stripe)) :=
 if (capOk l.length) = true then
 (impl_copyStripes_l0 l l []).bind fun r2 =>
 some r2
 else none
theorem impl_copyStripes_ok (l : List Stripe) : Pn (fun y => Fn Try.prog 144 [(false, E53 l)] (E53 y) []) (impl_copyStripes l) := by
  unfold impl_copyStripes
  exact
   Pn.ite (fun h5 =>
   Pn.bind (fun r2 h6 =>
   Pn.some (Fn.of [.wait 5, .nm 8 (vI (l.length : Int)), .wait 2, .mask [3, 7, 8, 9], .ren [0], .loop (X.out 0) (st 26 [(3, V.ow 0)] [Blk.row 58 (List.map E58 r2) []] [])] (p := [vI ((List.map E58 l).length : Int) = vI (l.length : Int),Loop Try.prog (sub (codeOf Try.prog 144) [1, 1, 0, 1, 0, 0]) (st 26 [(3, V.ow 0), (7, V.sl false 58 (List.map E58 l)), (8, vI (l.length : Int)), (9, vI 0)] [Blk.row 58 ([] : List V) []] []) (X.out 0) (st 26 [(3, V.ow 0)] [Blk.row 58 (List.map E58 r2) []] [])]) (by kernel_rfl) (cj (len_nm _ _) (cj1 (impl_copyStripes_l0_ok l h5 l [] rfl [] r2 h6)))))) (fun h5 =>
   Pn.none)
def impl_owned (l : List Stripe) (k : Int) (owner : Int) : Option ((List Stripe)) :=
 (impl_copyStripes l).bind fun r1 =>
 if (decide (0 ≤ k)) = true then
 (r1[k.toNat]?).bind fun x1 =>
 some (r1.set k.toNat (Stripe.mk owner x1.Accts))
 else none
theorem impl_owned_ok (l : List Stripe) (k : Int) (owner : Int) : Pn (fun y => Fn Try.prog 85 [(false, E53 l), (false, E3 k), (false, E3 owner)] (E53 y) []) (impl_owned l k owner) := by
  unfold impl_owned
  exact
   Pn.bind (fun r1 h1 =>
   Pn.ite (fun h2 =>
   Pn.bind (fun x1 h3 =>
   Pn.some (Fn.of [.call [] (E53 r1) [], .wait 5, .foc 0 k.toNat (E58 x1), .fo 0, .wait 3, .shut 0, .nb 0 (.row 58 (List.map E58 (r1.set k.toNat (Stripe.mk owner x1.Accts))) [])] (p := [Fn Try.prog 144 [(false, E53 l)] (E53 r1) [],(true || ((E53 r1).nv && nvL [])) = true,(0 : Int) ≤ k,(k : Int) < ((List.map E58 r1).length : Int),look [] k.toNat = none,(List.map E58 r1)[k.toNat]? = some (E58 x1),look [(k.toNat, V.agg [vI x1.Owner, V.ow 1])] k.toNat = some (V.agg [vI x1.Owner, V.ow 1]),k.toNat < (List.map E58 r1).length,k.toNat = k.toNat,Blk.row 58 ((List.map E58 r1).set k.toNat (V.agg [vI owner, V.sl true 29 (List.map E29 x1.Accts)])) [] = Blk.row 58 (List.map E58 (r1.set k.toNat (Stripe.mk owner x1.Accts))) []]) (by kernel_rfl) (cj (impl_copyStripes_ok l r1 h1) (cj rfl (cj (od h2) (cj (map_ltN (od h2) h3) (cj rfl (cj (map_get h3) (cj (look_cons_self _ _ _) (cj (map_lt h3) (cj rfl (cj1 (nb_set E58 _ _ (Stripe.mk owner x1.Accts))))))))))))))) (fun h2 =>
   Pn.none))
def impl_TakeLock (l : List Stripe) (k : Int) (task : Int) : Option ((List Stripe) × Bool) :=
 (impl_within k 0 (i64 ((l.length : Int) - 1))).bind fun r1 =>
 if r1 = true then
 if (decide (0 ≤ k)) = true then
 (l[k.toNat]?).bind fun x1 =>
 if (x1.Owner != (-1)) = true then
 some ([], false)
 else
 (impl_within task 0 11).bind fun r2 =>
 if r2 = true then
 (impl_owned l k task).bind fun r3 =>
 some (r3, true)
 else
 some ([], false)
 else none
 else
 some ([], false)
theorem impl_TakeLock_ok (l : List Stripe) (k : Int) (task : Int) : Pn (fun y => Fn Try.prog 26 [(false, E53 l), (false, E3 k), (false, E3 task)] (V.tup [E53 y.1, E4 y.2]) []) (impl_TakeLock l k task) := by
  unfold impl_TakeLock
  exact
   Pn.bind (fun r1 h1 =>
   Pn.ite (fun h2 =>
   Pn.ite (fun h3 =>
   Pn.bind (fun x1 h4 =>
   Pn.ite (fun h5 =>
   Pn.some (Fn.of [.wait 5, .nm 10 (vI (l.length : Int)), .call [] (E4 r1) [], .bit false, .bit false, .bit false, .el (E58 x1), .bit false, .bit false, .bit false, .bit false, .bit true, .bit true, .bit true, .bit true, .bit true] (p := [vI ((List.map E58 l).length : Int) = vI (l.length : Int),Fn Try.prog 70 [(false, E3 k), (false, E3 0), (false, E3 (i64 ((l.length : Int) - 1)))] (E4 r1) [],(true || ((E4 r1).nv && nvL [])) = true,(!r1) = false,(!r1) = false,(!r1) = false,(0 : Int) ≤ k,(List.map E58 l)[k.toNat]? = some (E58 x1),(!r1) = false,(!r1) = false,(!r1) = false,(!r1) = false,(x1.Owner != (-1)) = true,(x1.Owner != (-1)) = true,(x1.Owner != (-1)) = true,(x1.Owner != (-1)) = true,true = true]) (by kernel_rfl) (cj (len_nm _ _) (cj (impl_within_ok k 0 (i64 ((l.length : Int) - 1)) r1 h1) (cj rfl (cj (nf h2) (cj (nf h2) (cj (nf h2) (cj (od h3) (cj (map_get h4) (cj (nf h2) (cj (nf h2) (cj (nf h2) (cj (nf h2) (cj h5 (cj h5 (cj h5 (cj h5 (cj1 rfl))))))))))))))))))) (fun h5 =>
   Pn.bind (fun r2 h6 =>
   Pn.ite (fun h7 =>
   Pn.bind (fun r3 h8 =>
   Pn.some (Fn.of [.wait 5, .nm 10 (vI (l.length : Int)), .call [] (E4 r1) [], .bit false, .bit false, .bit false, .el (E58 x1), .bit false, .bit false, .bit false, .bit false, .bit false, .bit false, .call [] (E4 r2) [], .bit false, .bit false, .bit false, .call [] (E53 r3) []] (p := [vI ((List.map E58 l).length : Int) = vI (l.length : Int),Fn Try.prog 70 [(false, E3 k), (false, E3 0), (false, E3 (i64 ((l.length : Int) - 1)))] (E4 r1) [],(true || ((E4 r1).nv && nvL [])) = true,(!r1) = false,(!r1) = false,(!r1) = false,(0 : Int) ≤ k,(List.map E58 l)[k.toNat]? = some (E58 x1),(!r1) = false,(!r1) = false,(!r1) = false,(!r1) = false,(x1.Owner != (-1)) = false,(x1.Owner != (-1)) = false,Fn Try.prog 70 [(false, E3 task), (false, E3 0), (false, E3 11)] (E4 r2) [],(true || ((E4 r2).nv && nvL [])) = true,(x1.Owner != (-1)) = false,(x1.Owner != (-1)) = false,(!r2) = false,Fn Try.prog 85 [(false, E53 l), (false, E3 k), (false, E3 task)] (E53 r3) [],(true || ((E53 r3).nv && nvL [])) = true]) (by kernel_rfl) (cj (len_nm _ _) (cj (impl_within_ok k 0 (i64 ((l.length : Int) - 1)) r1 h1) (cj rfl (cj (nf h2) (cj (nf h2) (cj (nf h2) (cj (od h3) (cj (map_get h4) (cj (nf h2) (cj (nf h2) (cj (nf h2) (cj (nf h2) (cj h5 (cj h5 (cj (impl_within_ok task 0 11 r2 h6) (cj rfl (cj h5 (cj h5 (cj (nf h7) (cj (impl_owned_ok l k task r3 h8) (cj1 rfl)))))))))))))))))))))))) (fun h7 =>
   Pn.some (Fn.of [.wait 5, .nm 10 (vI (l.length : Int)), .call [] (E4 r1) [], .bit false, .bit false, .bit false, .el (E58 x1), .bit false, .bit false, .bit false, .bit false, .bit false, .bit false, .call [] (E4 r2) [], .bit false, .bit false, .bit true] (p := [vI ((List.map E58 l).length : Int) = vI (l.length : Int),Fn Try.prog 70 [(false, E3 k), (false, E3 0), (false, E3 (i64 ((l.length : Int) - 1)))] (E4 r1) [],(true || ((E4 r1).nv && nvL [])) = true,(!r1) = false,(!r1) = false,(!r1) = false,(0 : Int) ≤ k,(List.map E58 l)[k.toNat]? = some (E58 x1),(!r1) = false,(!r1) = false,(!r1) = false,(!r1) = false,(x1.Owner != (-1)) = false,(x1.Owner != (-1)) = false,Fn Try.prog 70 [(false, E3 task), (false, E3 0), (false, E3 11)] (E4 r2) [],(true || ((E4 r2).nv && nvL [])) = true,(x1.Owner != (-1)) = false,(x1.Owner != (-1)) = false,(!r2) = true]) (by kernel_rfl) (cj (len_nm _ _) (cj (impl_within_ok k 0 (i64 ((l.length : Int) - 1)) r1 h1) (cj rfl (cj (nf h2) (cj (nf h2) (cj (nf h2) (cj (od h3) (cj (map_get h4) (cj (nf h2) (cj (nf h2) (cj (nf h2) (cj (nf h2) (cj h5 (cj h5 (cj (impl_within_ok task 0 11 r2 h6) (cj rfl (cj h5 (cj h5 (cj1 (nt h7)))))))))))))))))))))))))) (fun h3 =>
   Pn.none)) (fun h2 =>
   Pn.some (Fn.of [.wait 5, .nm 10 (vI (l.length : Int)), .call [] (E4 r1) [], .bit true, .bit true, .bit true, .bit true, .bit true, .bit true, .bit true, .bit true, .bit true, .bit true, .bit true, .bit true] (p := [vI ((List.map E58 l).length : Int) = vI (l.length : Int),Fn Try.prog 70 [(false, E3 k), (false, E3 0), (false, E3 (i64 ((l.length : Int) - 1)))] (E4 r1) [],(true || ((E4 r1).nv && nvL [])) = true,(!r1) = true,(!r1) = true,(!r1) = true,(!r1) = true,(!r1) = true,(!r1) = true,(!r1) = true,true = true,true = true,true = true,true = true,true = true]) (by kernel_rfl) (cj (len_nm _ _) (cj (impl_within_ok k 0 (i64 ((l.length : Int) - 1)) r1 h1) (cj rfl (cj (nt h2) (cj (nt h2) (cj (nt h2) (cj (nt h2) (cj (nt h2) (cj (nt h2) (cj (nt h2) (cj rfl (cj rfl (cj rfl (cj rfl (cj1 rfl))))))))))))))))))
def impl_GiveLock (l : List Stripe) (k : Int) (task : Int) : Option ((List Stripe) × Bool) :=
 (impl_within k 0 (i64 ((l.length : Int) - 1))).bind fun r1 =>
 if r1 = true then
 if (decide (task < 0)) = true then
 some ([], false)
 else
 if (decide (0 ≤ k)) = true then
 (l[k.toNat]?).bind fun x1 =>
 if (x1.Owner != task) = true then
 some ([], false)
 else
 (impl_owned l k (-1)).bind fun r2 =>
 some (r2, true)
 else none
 else
 some ([], false)
theorem impl_GiveLock_ok (l : List Stripe) (k : Int) (task : Int) : Pn (fun y => Fn Try.prog 27 [(false, E53 l), (false, E3 k), (false, E3 task)] (V.tup [E53 y.1, E4 y.2]) []) (impl_GiveLock l k task) := by
  unfold impl_GiveLock
  exact
   Pn.bind (fun r1 h1 =>
   Pn.ite (fun h2 =>
   Pn.ite (fun h3 =>
   Pn.some (Fn.of [.wait 5, .nm 10 (vI (l.length : Int)), .call [] (E4 r1) [], .bit false, .bit false, .bit false, .bit true, .bit true, .bit true, .bit true, .bit true, .bit true, .bit true, .bit true, .bit true] (p := [vI ((List.map E58 l).length : Int) = vI (l.length : Int),Fn Try.prog 70 [(false, E3 k), (false, E3 0), (false, E3 (i64 ((l.length : Int) - 1)))] (E4 r1) [],(true || ((E4 r1).nv && nvL [])) = true,(!r1) = false,(!r1) = false,(!r1) = false,(decide (task < 0)) = true,(decide (task < 0)) = true,(decide (task < 0)) = true,(decide (task < 0)) = true,(decide (task < 0)) = true,(decide (task < 0)) = true,(decide (task < 0)) = true,(decide (task < 0)) = true,true = true]) (by kernel_rfl) (cj (len_nm _ _) (cj (impl_within_ok k 0 (i64 ((l.length : Int) - 1)) r1 h1) (cj rfl (cj (nf h2) (cj (nf h2) (cj (nf h2) (cj h3 (cj h3 (cj h3 (cj h3 (cj h3 (cj h3 (cj h3 (cj h3 (cj1 rfl))))))))))))))))) (fun h3 =>
   Pn.ite (fun h4 =>
   Pn.bind (fun x1 h5 =>
   Pn.ite (fun h6 =>
   Pn.some (Fn.of [.wait 5, .nm 10 (vI (l.length : Int)), .call [] (E4 r1) [], .bit false, .bit false, .bit false, .bit false, .bit false, .bit false, .el (E58 x1), .bit false, .bit false, .bit false, .bit false, .bit false, .bit true] (p := [vI ((List.map E58 l).length : Int) = vI (l.length : Int),Fn Try.prog 70 [(false, E3 k), (false, E3 0), (false, E3 (i64 ((l.length : Int) - 1)))] (E4 r1) [],(true || ((E4 r1).nv && nvL [])) = true,(!r1) = false,(!r1) = false,(!r1) = false,(decide (task < 0)) = false,(decide (task < 0)) = false,(decide (task < 0)) = false,(0 : Int) ≤ k,(List.map E58 l)[k.toNat]? = some (E58 x1),(decide (task < 0)) = false,(decide (task < 0)) = false,(decide (task < 0)) = false,(decide (task < 0)) = false,(decide (task < 0)) = false,(x1.Owner != task) = true]) (by kernel_rfl) (cj (len_nm _ _) (cj (impl_within_ok k 0 (i64 ((l.length : Int) - 1)) r1 h1) (cj rfl (cj (nf h2) (cj (nf h2) (cj (nf h2) (cj h3 (cj h3 (cj h3 (cj (od h4) (cj (map_get h5) (cj h3 (cj h3 (cj h3 (cj h3 (cj h3 (cj1 h6))))))))))))))))))) (fun h6 =>
   Pn.bind (fun r2 h7 =>
   Pn.some (Fn.of [.wait 5, .nm 10 (vI (l.length : Int)), .call [] (E4 r1) [], .bit false, .bit false, .bit false, .bit false, .bit false, .bit false, .el (E58 x1), .bit false, .bit false, .bit false, .bit false, .bit false, .bit false, .call [] (E53 r2) []] (p := [vI ((List.map E58 l).length : Int) = vI (l.length : Int),Fn Try.prog 70 [(false, E3 k), (false, E3 0), (false, E3 (i64 ((l.length : Int) - 1)))] (E4 r1) [],(true || ((E4 r1).nv && nvL [])) = true,(!r1) = false,(!r1) = false,(!r1) = false,(decide (task < 0)) = false,(decide (task < 0)) = false,(decide (task < 0)) = false,(0 : Int) ≤ k,(List.map E58 l)[k.toNat]? = some (E58 x1),(decide (task < 0)) = false,(decide (task < 0)) = false,(decide (task < 0)) = false,(decide (task < 0)) = false,(decide (task < 0)) = false,(x1.Owner != task) = false,Fn Try.prog 85 [(false, E53 l), (false, E3 k), (false, E3 (-1))] (E53 r2) [],(true || ((E53 r2).nv && nvL [])) = true]) (by kernel_rfl) (cj (len_nm _ _) (cj (impl_within_ok k 0 (i64 ((l.length : Int) - 1)) r1 h1) (cj rfl (cj (nf h2) (cj (nf h2) (cj (nf h2) (cj h3 (cj h3 (cj h3 (cj (od h4) (cj (map_get h5) (cj h3 (cj h3 (cj h3 (cj h3 (cj h3 (cj h6 (cj (impl_owned_ok l k (-1) r2 h7) (cj1 rfl)))))))))))))))))))))))) (fun h4 =>
   Pn.none))) (fun h2 =>
   Pn.some (Fn.of [.wait 5, .nm 10 (vI (l.length : Int)), .call [] (E4 r1) [], .bit true, .bit true, .bit true, .bit true, .bit true, .bit true, .bit true, .bit true, .bit true, .bit true, .bit true, .bit true] (p := [vI ((List.map E58 l).length : Int) = vI (l.length : Int),Fn Try.prog 70 [(false, E3 k), (false, E3 0), (false, E3 (i64 ((l.length : Int) - 1)))] (E4 r1) [],(true || ((E4 r1).nv && nvL [])) = true,(!r1) = true,(!r1) = true,(!r1) = true,true = true,true = true,true = true,true = true,true = true,true = true,true = true,true = true,true = true]) (by kernel_rfl) (cj (len_nm _ _) (cj (impl_within_ok k 0 (i64 ((l.length : Int) - 1)) r1 h1) (cj rfl (cj (nt h2) (cj (nt h2) (cj (nt h2) (cj rfl (cj rfl (cj rfl (cj rfl (cj rfl (cj rfl (cj rfl (cj rfl (cj1 rfl))))))))))))))))))
def impl_Gather_1 (a : Acct) (b : Acct) : Option (Int) :=
 if (Op.bytesLess a.Id.toList b.Id.toList) = true then
 some (-1)
 else
 if (Op.bytesLess a.Id.toList b.Id.toList || (a.Id == b.Id)) = true then
 some 0
 else
 some 1
theorem impl_Gather_1_ok (a : Acct) (b : Acct) : Pn (fun y => Fn Try.prog 90 [(false, E29 a), (false, E29 b)] (E3 y) []) (impl_Gather_1 a b) := by
  unfold impl_Gather_1
  exact
   Pn.ite (fun h1 =>
   Pn.some (Fn.of [.bit true] (p := [(Op.bytesLess a.Id.toList b.Id.toList) = true]) (by kernel_rfl) (cj1 h1))) (fun h1 =>
   Pn.ite (fun h2 =>
   Pn.some (Fn.of [.bit false, .bit false] (p := [(Op.bytesLess a.Id.toList b.Id.toList) = false,(!(Op.bytesLess a.Id.toList b.Id.toList || (a.Id == b.Id))) = false]) (by kernel_rfl) (cj h1 (cj1 (nf h2))))) (fun h2 =>
   Pn.some (Fn.of [.bit false, .bit true] (p := [(Op.bytesLess a.Id.toList b.Id.toList) = false,(!(Op.bytesLess a.Id.toList b.Id.toList || (a.Id == b.Id))) = true]) (by kernel_rfl) (cj h1 (cj1 (nt h2))))))
def slices_insertionSortCmpFunc_impl_Acct_impl_Gather_1_s4 (a : Int) (b : Int) (v1 : Int) (v3 : Int) (x1 : Acct) (x2 : Acct) (r1 : Int) (v4 : List Acct) : St := st 53 [(0, V.ow 0), (1, vI a), (2, vI b), (3, V.fn 90 []), (8, vI v1), (9, vI v3), (18, vI v3), (19, vI a), (20, V.sc (.bool (decide (a < v3)))), (21, V.sc (.bool (decide (a < v3)))), (22, V.fn 90 []), (23, V.ow 0), (24, vI v3), (25, V.ep 0 11 v3.toNat 0), (26, aA x1 1 2 3 4), (27, V.ow 0), (28, vI v3), (29, vI (i64 (v3 - 1))), (30, V.ep 0 11 ((i64 (v3 - 1)).toNat) 0), (31, aA x2 5 6 7 8), (32, vI r1), (33, V.sc (.bool (decide (r1 < 0)))), (34, V.sc (.bool (decide (r1 < 0)))), (37, V.ow 0), (38, vI v3), (39, V.ow 0), (40, vI v3), (41, vI (i64 (v3 - 1))), (42, V.ow 0), (43, vI v3), (44, vI (i64 (v3 - 1))), (45, V.ep 0 11 ((i64 (v3 - 1)).toNat) 0), (46, aA x2 5 6 7 8), (47, V.ow 0), (48, vI v3), (49, V.ep 0 11 v3.toNat 0), (50, aA x1 1 2 3 4), (51, V.ep 0 11 v3.toNat 0), (52, V.ep 0 11 ((i64 (v3 - 1)).toNat) 0)] [Blk.row 29 (List.map E29 v4) [((i64 (v3 - 1)).toNat, aA x1 1 2 3 4), (v3.toNat, aA x2 5 6 7 8)], Blk.row 36 (List.map E36 x1.Holds) [], Blk.row 3 (List.map E3 x1.Ring.Counts) [], Blk.row 3 (List.map E3 x1.Ring.Sums) [], Blk.row 164 (List.map E164 x1.Slots) [], Blk.row 36 (List.map E36 x2.Holds) [], Blk.row 3 (List.map E3 x2.Ring.Counts) [], Blk.row 3 (List.map E3 x2.Ring.Sums) [], Blk.row 164 (List.map E164 x2.Slots) []] [some 0]
def slices_insertionSortCmpFunc_impl_Acct_impl_Gather_1_l1 (a : Int) (b : Int) (v1 : Int) : Nat → Int → (List Acct) → Option ((List Acct))
  | 0, _, _ => none
  | fuel + 1, v3, v4 =>
   if (decide (a < v3)) = true then
   if (decide (0 ≤ v3)) = true then
   (v4[v3.toNat]?).bind fun x1 =>
   if (decide (0 ≤ (i64 (v3 - 1)))) = true then
   (v4[(i64 (v3 - 1)).toNat]?).bind fun x2 =>
   if (decide (¬ ((i64 (v3 - 1)).toNat) = v3.toNat)) = true then
   (impl_Gather_1 x1 x2).bind fun r1 =>
   if (decide (r1 < 0)) = true then
   slices_insertionSortCmpFunc_impl_Acct_impl_Gather_1_l1 a b v1 fuel (i64 (v3 - 1)) ((v4.set v3.toNat x2).set ((i64 (v3 - 1)).toNat) x1)
   else
   some ((v4.set v3.toNat x1).set ((i64 (v3 - 1)).toNat) x2)
   else none
   else none
   else none
   else
   some v4
theorem slices_insertionSortCmpFunc_impl_Acct_impl_Gather_1_l1_ok (a : Int) (b : Int) (v1 : Int) : ∀ (fuel : Nat) (v3 : Int) (v4 : List Acct), Pn (LpO Try.prog (sub (codeOf Try.prog 191) [1, 0, 0, 1, 0, 0, 1, 0, 0]) (st 53 [(0, V.ow 0), (1, vI a), (2, vI b), (3, V.fn 90 []), (8, vI v1), (9, vI v3)] [Blk.row 29 (List.map E29 v4) []] [some 0]) (fun (y : (List Acct)) => (X.out 2, st 53 [(0, V.ow 0), (1, vI a), (2, vI b), (3, V.fn 90 []), (8, vI v1)] [Blk.row 29 (List.map E29 y) []] [some 0]))) (slices_insertionSortCmpFunc_impl_Acct_impl_Gather_1_l1 a b v1 fuel v3 v4)
  | 0, _, _ => Pn.none
  | fuel + 1, v3, v4 => by
    unfold slices_insertionSortCmpFunc_impl_Acct_impl_Gather_1_l1
    exact
     Pn.ite (fun h2 =>
     Pn.ite (fun h3 =>
     Pn.bind (fun x1 h4 =>
     Pn.ite (fun h5 =>
     Pn.bind (fun x2 h6 =>
     Pn.ite (fun h7 =>
     Pn.bind (fun r1 h8 =>
     Pn.ite (fun h9 =>
     LpO.go [.draw [], .bit true, .bit true, .bit true, .bit true, .foc 0 v3.toNat (E29 x1), .bit true, .fo 0, .bit true, .bit true, .bit true, .bit true, .foc 0 ((i64 (v3 - 1)).toNat) (E29 x2), .bit true, .fo 0, .bit true, .call [] (E3 r1) [], .bit true, .bit true, .bit true, .draw [15, 17], .fo 0, .fo 1, .loop .go ((slices_insertionSortCmpFunc_impl_Acct_impl_Gather_1_s4 a b v1 v3 x1 x2 r1 v4)), .loop .go ((slices_insertionSortCmpFunc_impl_Acct_impl_Gather_1_s4 a b v1 v3 x1 x2 r1 v4)), .loop .go ((slices_insertionSortCmpFunc_impl_Acct_impl_Gather_1_s4 a b v1 v3 x1 x2 r1 v4)), .fo 1, .fo 1, .ren [0, 1, 2, 3, 4, 5, 6, 7, 8], .fo 1, .fo 1, .ren [0, 1, 2, 3, 4, 5, 6, 7, 8], .ren [0, 1, 2, 3, 4, 5, 6, 7, 8], .fo 1, .fo 1, .ren [0, 1, 2, 3, 4, 5, 6, 7, 8], .ren [0, 1, 2, 3, 4, 5, 6, 7, 8], .loop .go ((slices_insertionSortCmpFunc_impl_Acct_impl_Gather_1_s4 a b v1 v3 x1 x2 r1 v4)), .loop .go ((slices_insertionSortCmpFunc_impl_Acct_impl_Gather_1_s4 a b v1 v3 x1 x2 r1 v4)), .fo 1, .fo 1, .ren [0, 1, 2, 3, 4, 5, 6, 7, 8], .fo 1, .fo 1, .ren [0, 1, 2, 3, 4, 5, 6, 7, 8], .ren [0, 1, 2, 3, 4, 5, 6, 7, 8], .loop .go ((slices_insertionSortCmpFunc_impl_Acct_impl_Gather_1_s4 a b v1 v3 x1 x2 r1 v4)), .fo 1, .fo 1, .ren [0, 1, 2, 3, 4, 5, 6, 7, 8], .fo 1, .fo 1, .ren [0, 1, 2, 3, 4, 5, 6, 7, 8], .ren [0, 1, 2, 3, 4, 5, 6, 7, 8], .fo 1, .fo 1, .ren [0, 1, 2, 3, 4, 5, 6, 7, 8], .ren [0, 1, 2, 3, 4, 5, 6, 7, 8], .fo 1, .fo 1, .ren [0, 1, 2, 3, 4, 5, 6, 7, 8], .wait 4, .shut 0, .nb 0 (.row 29 (List.map E29 ((v4.set v3.toNat x2).set ((i64 (v3 - 1)).toNat) x1)) []), .mask [0, 1, 2, 3, 8, 9], .ren [0]] (p := [(decide (a < v3)) = true,(decide (a < v3)) = true,(decide (a < v3)) = true,(decide (a < v3)) = true,(0 : Int) ≤ v3,(v3 : Int) < ((List.map E29 v4).length : Int),look [] v3.toNat = none,(List.map E29 v4)[v3.toNat]? = some (E29 x1),(decide (a < v3)) = true,look [(v3.toNat, aA x1 1 2 3 4)] v3.toNat = some (aA x1 1 2 3 4),v3.toNat < (List.map E29 v4).length,(decide (a < v3)) = true,(decide (a < v3)) = true,(decide (a < v3)) = true,(decide (a < v3)) = true,(0 : Int) ≤ (i64 (v3 - 1)),((i64 (v3 - 1)) : Int) < ((List.map E29 v4).length : Int),look [(v3.toNat, aA x1 1 2 3 4)] ((i64 (v3 - 1)).toNat) = none,(List.map E29 v4)[(i64 (v3 - 1)).toNat]? = some (E29 x2),(decide (a < v3)) = true,look [((i64 (v3 - 1)).toNat, aA x2 5 6 7 8), (v3.toNat, aA x1 1 2 3 4)] ((i64 (v3 - 1)).toNat) = some (aA x2 5 6 7 8),((i64 (v3 - 1)).toNat) < (List.map E29 v4).length,(decide (a < v3)) = true,Fn Try.prog 90 [(false, E29 x1), (false, E29 x2)] (E3 r1) [],(false || ((E3 r1).nv && nvL [])) = true,(decide (a < v3)) = true,(decide (a < v3)) = true,(decide (r1 < 0)) = true,(0 : Int) ≤ (i64 (v3 - 1)),((i64 (v3 - 1)) : Int) < ((List.map E29 v4).length : Int),look [((i64 (v3 - 1)).toNat, aA x2 5 6 7 8), (v3.toNat, aA x1 1 2 3 4)] ((i64 (v3 - 1)).toNat) = some (aA x2 5 6 7 8),((i64 (v3 - 1)).toNat) < (List.map E29 v4).length,(0 : Int) ≤ v3,(v3 : Int) < ((List.map E29 v4).length : Int),look [((i64 (v3 - 1)).toNat, aA x2 5 6 7 8), (v3.toNat, aA x1 1 2 3 4)] v3.toNat = some (aA x1 1 2 3 4),v3.toNat < (List.map E29 v4).length,(0 : Int) ≤ v3,(v3 : Int) < ((List.map E29 v4).length : Int),look [((i64 (v3 - 1)).toNat, aA x2 5 6 7 8), (v3.toNat, aA x1 1 2 3 4)] v3.toNat = some (aA x1 1 2 3 4),v3.toNat < (List.map E29 v4).length,v3.toNat = v3.toNat,(0 : Int) ≤ (i64 (v3 - 1)),((i64 (v3 - 1)) : Int) < ((List.map E29 v4).length : Int),look [(v3.toNat, aA x2 5 6 7 8), ((i64 (v3 - 1)).toNat, aA x2 5 6 7 8)] ((i64 (v3 - 1)).toNat) = some (aA x2 5 6 7 8),((i64 (v3 - 1)).toNat) < (List.map E29 v4).length,((i64 (v3 - 1)).toNat) = ((i64 (v3 - 1)).toNat),(slices_insertionSortCmpFunc_impl_Acct_impl_Gather_1_s4 a b v1 v3 x1 x2 r1 v4) = (slices_insertionSortCmpFunc_impl_Acct_impl_Gather_1_s4 a b v1 v3 x1 x2 r1 v4),look [((i64 (v3 - 1)).toNat, aA x2 5 6 7 8), (v3.toNat, aA x1 1 2 3 4)] v3.toNat = some (aA x1 1 2 3 4),v3.toNat < (List.map E29 v4).length,v3.toNat = v3.toNat,(0 : Int) ≤ (i64 (v3 - 1)),((i64 (v3 - 1)) : Int) < ((List.map E29 v4).length : Int),look [(v3.toNat, aA x2 5 6 7 8), ((i64 (v3 - 1)).toNat, aA x2 5 6 7 8)] ((i64 (v3 - 1)).toNat) = some (aA x2 5 6 7 8),((i64 (v3 - 1)).toNat) < (List.map E29 v4).length,((i64 (v3 - 1)).toNat) = ((i64 (v3 - 1)).toNat),(slices_insertionSortCmpFunc_impl_Acct_impl_Gather_1_s4 a b v1 v3 x1 x2 r1 v4) = (slices_insertionSortCmpFunc_impl_Acct_impl_Gather_1_s4 a b v1 v3 x1 x2 r1 v4),(slices_insertionSortCmpFunc_impl_Acct_impl_Gather_1_s4 a b v1 v3 x1 x2 r1 v4) = (slices_insertionSortCmpFunc_impl_Acct_impl_Gather_1_s4 a b v1 v3 x1 x2 r1 v4),look [((i64 (v3 - 1)).toNat, aA x2 5 6 7 8), (v3.toNat, aA x1 1 2 3 4)] v3.toNat = some (aA x1 1 2 3 4),v3.toNat < (List.map E29 v4).length,v3.toNat = v3.toNat,(0 : Int) ≤ (i64 (v3 - 1)),((i64 (v3 - 1)) : Int) < ((List.map E29 v4).length : Int),look [(v3.toNat, aA x2 5 6 7 8), ((i64 (v3 - 1)).toNat, aA x2 5 6 7 8)] ((i64 (v3 - 1)).toNat) = some (aA x2 5 6 7 8),((i64 (v3 - 1)).toNat) < (List.map E29 v4).length,((i64 (v3 - 1)).toNat) = ((i64 (v3 - 1)).toNat),(slices_insertionSortCmpFunc_impl_Acct_impl_Gather_1_s4 a b v1 v3 x1 x2 r1 v4) = (slices_insertionSortCmpFunc_impl_Acct_impl_Gather_1_s4 a b v1 v3 x1 x2 r1 v4),(slices_insertionSortCmpFunc_impl_Acct_impl_Gather_1_s4 a b v1 v3 x1 x2 r1 v4) = (slices_insertionSortCmpFunc_impl_Acct_impl_Gather_1_s4 a b v1 v3 x1 x2 r1 v4),look [((i64 (v3 - 1)).toNat, aA x2 5 6 7 8), (v3.toNat, aA x1 1 2 3 4)] v3.toNat = some (aA x1 1 2 3 4),v3.toNat < (List.map E29 v4).length,v3.toNat = v3.toNat,(0 : Int) ≤ (i64 (v3 - 1)),((i64 (v3 - 1)) : Int) < ((List.map E29 v4).length : Int),look [(v3.toNat, aA x2 5 6 7 8), ((i64 (v3 - 1)).toNat, aA x2 5 6 7 8)] ((i64 (v3 - 1)).toNat) = some (aA x2 5 6 7 8),((i64 (v3 - 1)).toNat) < (List.map E29 v4).length,((i64 (v3 - 1)).toNat) = ((i64 (v3 - 1)).toNat),(slices_insertionSortCmpFunc_impl_Acct_impl_Gather_1_s4 a b v1 v3 x1 x2 r1 v4) = (slices_insertionSortCmpFunc_impl_Acct_impl_Gather_1_s4 a b v1 v3 x1 x2 r1 v4),look [((i64 (v3 - 1)).toNat, aA x2 5 6 7 8), (v3.toNat, aA x1 1 2 3 4)] v3.toNat = some (aA x1 1 2 3 4),v3.toNat < (List.map E29 v4).length,v3.toNat = v3.toNat,(0 : Int) ≤ (i64 (v3 - 1)),((i64 (v3 - 1)) : Int) < ((List.map E29 v4).length : Int),look [(v3.toNat, aA x2 5 6 7 8), ((i64 (v3 - 1)).toNat, aA x2 5 6 7 8)] ((i64 (v3 - 1)).toNat) = some (aA x2 5 6 7 8),((i64 (v3 - 1)).toNat) < (List.map E29 v4).length,((i64 (v3 - 1)).toNat) = ((i64 (v3 - 1)).toNat),(slices_insertionSortCmpFunc_impl_Acct_impl_Gather_1_s4 a b v1 v3 x1 x2 r1 v4) = (slices_insertionSortCmpFunc_impl_Acct_impl_Gather_1_s4 a b v1 v3 x1 x2 r1 v4),(slices_insertionSortCmpFunc_impl_Acct_impl_Gather_1_s4 a b v1 v3 x1 x2 r1 v4) = (slices_insertionSortCmpFunc_impl_Acct_impl_Gather_1_s4 a b v1 v3 x1 x2 r1 v4),look [((i64 (v3 - 1)).toNat, aA x2 5 6 7 8), (v3.toNat, aA x1 1 2 3 4)] v3.toNat = some (aA x1 1 2 3 4),v3.toNat < (List.map E29 v4).length,v3.toNat = v3.toNat,(0 : Int) ≤ (i64 (v3 - 1)),((i64 (v3 - 1)) : Int) < ((List.map E29 v4).length : Int),look [(v3.toNat, aA x2 5 6 7 8), ((i64 (v3 - 1)).toNat, aA x2 5 6 7 8)] ((i64 (v3 - 1)).toNat) = some (aA x2 5 6 7 8),((i64 (v3 - 1)).toNat) < (List.map E29 v4).length,((i64 (v3 - 1)).toNat) = ((i64 (v3 - 1)).toNat),(slices_insertionSortCmpFunc_impl_Acct_impl_Gather_1_s4 a b v1 v3 x1 x2 r1 v4) = (slices_insertionSortCmpFunc_impl_Acct_impl_Gather_1_s4 a b v1 v3 x1 x2 r1 v4),look [((i64 (v3 - 1)).toNat, aA x2 5 6 7 8), (v3.toNat, aA x1 1 2 3 4)] v3.toNat = some (aA x1 1 2 3 4),v3.toNat < (List.map E29 v4).length,v3.toNat = v3.toNat,(0 : Int) ≤ (i64 (v3 - 1)),((i64 (v3 - 1)) : Int) < ((List.map E29 v4).length : Int),look [(v3.toNat, aA x2 5 6 7 8), ((i64 (v3 - 1)).toNat, aA x2 5 6 7 8)] ((i64 (v3 - 1)).toNat) = some (aA x2 5 6 7 8),((i64 (v3 - 1)).toNat) < (List.map E29 v4).length,((i64 (v3 - 1)).toNat) = ((i64 (v3 - 1)).toNat),(slices_insertionSortCmpFunc_impl_Acct_impl_Gather_1_s4 a b v1 v3 x1 x2 r1 v4) = (slices_insertionSortCmpFunc_impl_Acct_impl_Gather_1_s4 a b v1 v3 x1 x2 r1 v4),(slices_insertionSortCmpFunc_impl_Acct_impl_Gather_1_s4 a b v1 v3 x1 x2 r1 v4) = (slices_insertionSortCmpFunc_impl_Acct_impl_Gather_1_s4 a b v1 v3 x1 x2 r1 v4),look [((i64 (v3 - 1)).toNat, aA x2 5 6 7 8), (v3.toNat, aA x1 1 2 3 4)] v3.toNat = some (aA x1 1 2 3 4),v3.toNat < (List.map E29 v4).length,v3.toNat = v3.toNat,(0 : Int) ≤ (i64 (v3 - 1)),((i64 (v3 - 1)) : Int) < ((List.map E29 v4).length : Int),look [(v3.toNat, aA x2 5 6 7 8), ((i64 (v3 - 1)).toNat, aA x2 5 6 7 8)] ((i64 (v3 - 1)).toNat) = some (aA x2 5 6 7 8),((i64 (v3 - 1)).toNat) < (List.map E29 v4).length,((i64 (v3 - 1)).toNat) = ((i64 (v3 - 1)).toNat),(slices_insertionSortCmpFunc_impl_Acct_impl_Gather_1_s4 a b v1 v3 x1 x2 r1 v4) = (slices_insertionSortCmpFunc_impl_Acct_impl_Gather_1_s4 a b v1 v3 x1 x2 r1 v4),(slices_insertionSortCmpFunc_impl_Acct_impl_Gather_1_s4 a b v1 v3 x1 x2 r1 v4) = (slices_insertionSortCmpFunc_impl_Acct_impl_Gather_1_s4 a b v1 v3 x1 x2 r1 v4),look [((i64 (v3 - 1)).toNat, aA x2 5 6 7 8), (v3.toNat, aA x1 1 2 3 4)] v3.toNat = some (aA x1 1 2 3 4),v3.toNat < (List.map E29 v4).length,v3.toNat = v3.toNat,(0 : Int) ≤ (i64 (v3 - 1)),((i64 (v3 - 1)) : Int) < ((List.map E29 v4).length : Int),look [(v3.toNat, aA x2 5 6 7 8), ((i64 (v3 - 1)).toNat, aA x2 5 6 7 8)] ((i64 (v3 - 1)).toNat) = some (aA x2 5 6 7 8),((i64 (v3 - 1)).toNat) < (List.map E29 v4).length,((i64 (v3 - 1)).toNat) = ((i64 (v3 - 1)).toNat),(slices_insertionSortCmpFunc_impl_Acct_impl_Gather_1_s4 a b v1 v3 x1 x2 r1 v4) = (slices_insertionSortCmpFunc_impl_Acct_impl_Gather_1_s4 a b v1 v3 x1 x2 r1 v4),Blk.row 29 (((List.map E29 v4).set v3.toNat (bA x2)).set ((i64 (v3 - 1)).toNat) (bA x1)) [] = Blk.row 29 (List.map E29 ((v4.set v3.toNat x2).set ((i64 (v3 - 1)).toNat) x1)) []]) (by kernel_rfl) (cj h2 (cj h2 (cj h2 (cj h2 (cj (od h3) (cj (map_ltN (od h3) h4) (cj rfl (cj (map_get h4) (cj h2 (cj (look_cons_self _ _ _) (cj (map_lt h4) (cj h2 (cj h2 (cj h2 (cj h2 (cj (od h5) (cj (map_ltN (od h5) h6) (cj ((look_cons_ne _ _ (od h7)).trans rfl) (cj (map_get h6) (cj h2 (cj (look_cons_self _ _ _) (cj (map_lt h6) (cj h2 (cj (impl_Gather_1_ok x1 x2 r1 h8) (cj (by simp [V.nv, nvL, nvL_all, nv_E3]) (cj h2 (cj h2 (cj h9 (cj (od h5) (cj (map_ltN (od h5) h6) (cj (look_cons_self _ _ _) (cj (map_lt h6) (cj (od h3) (cj (map_ltN (od h3) h4) (cj ((look_cons_ne _ _ (fun z => od h7 z.symm)).trans (look_cons_self _ _ _)) (cj (map_lt h4) (cj (od h3) (cj (map_ltN (od h3) h4) (cj ((look_cons_ne _ _ (fun z => od h7 z.symm)).trans (look_cons_self _ _ _)) (cj (map_lt h4) (cj rfl (cj (od h5) (cj (map_ltN (od h5) h6) (cj ((look_cons_ne _ _ (od h7)).trans (look_cons_self _ _ _)) (cj (map_lt h6) (cj rfl (cj rfl (cj ((look_cons_ne _ _ (fun z => od h7 z.symm)).trans (look_cons_self _ _ _)) (cj (map_lt h4) (cj rfl (cj (od h5) (cj (map_ltN (od h5) h6) (cj ((look_cons_ne _ _ (od h7)).trans (look_cons_self _ _ _)) (cj (map_lt h6) (cj rfl (cj rfl (cj rfl (cj ((look_cons_ne _ _ (fun z => od h7 z.symm)).trans (look_cons_self _ _ _)) (cj (map_lt h4) (cj rfl (cj (od h5) (cj (map_ltN (od h5) h6) (cj ((look_cons_ne _ _ (od h7)).trans (look_cons_self _ _ _)) (cj (map_lt h6) (cj rfl (cj rfl (cj rfl (cj ((look_cons_ne _ _ (fun z => od h7 z.symm)).trans (look_cons_self _ _ _)) (cj (map_lt h4) (cj rfl (cj (od h5) (cj (map_ltN (od h5) h6) (cj ((look_cons_ne _ _ (od h7)).trans (look_cons_self _ _ _)) (cj (map_lt h6) (cj rfl (cj rfl (cj ((look_cons_ne _ _ (fun z => od h7 z.symm)).trans (look_cons_self _ _ _)) (cj (map_lt h4) (cj rfl (cj (od h5) (cj (map_ltN (od h5) h6) (cj ((look_cons_ne _ _ (od h7)).trans (look_cons_self _ _ _)) (cj (map_lt h6) (cj rfl (cj rfl (cj rfl (cj ((look_cons_ne _ _ (fun z => od h7 z.symm)).trans (look_cons_self _ _ _)) (cj (map_lt h4) (cj rfl (cj (od h5) (cj (map_ltN (od h5) h6) (cj ((look_cons_ne _ _ (od h7)).trans (look_cons_self _ _ _)) (cj (map_lt h6) (cj rfl (cj rfl (cj ((look_cons_ne _ _ (fun z => od h7 z.symm)).trans (look_cons_self _ _ _)) (cj (map_lt h4) (cj rfl (cj (od h5) (cj (map_ltN (od h5) h6) (cj ((look_cons_ne _ _ (od h7)).trans (look_cons_self _ _ _)) (cj (map_lt h6) (cj rfl (cj rfl (cj rfl (cj ((look_cons_ne _ _ (fun z => od h7 z.symm)).trans (look_cons_self _ _ _)) (cj (map_lt h4) (cj rfl (cj (od h5) (cj (map_ltN (od h5) h6) (cj ((look_cons_ne _ _ (od h7)).trans (look_cons_self _ _ _)) (cj (map_lt h6) (cj rfl (cj rfl (cj rfl (cj ((look_cons_ne _ _ (fun z => od h7 z.symm)).trans (look_cons_self _ _ _)) (cj (map_lt h4) (cj rfl (cj (od h5) (cj (map_ltN (od h5) h6) (cj ((look_cons_ne _ _ (od h7)).trans (look_cons_self _ _ _)) (cj (map_lt h6) (cj rfl (cj rfl (cj1 (nb_set2 E29 _ _ x2 _ x1)))))))))))))))))))))))))))))))))))))))))))))))))))))))))))))))))))))))))))))))))))))))))))))))))))))))))))))))))))))))))))))) (slices_insertionSortCmpFunc_impl_Acct_impl_Gather_1_l1_ok a b v1 fuel (i64 (v3 - 1)) ((v4.set v3.toNat x2).set ((i64 (v3 - 1)).toNat) x1))) (fun h9 =>
     Pn.some (LpO.out [.draw [], .bit true, .bit true, .bit true, .bit true, .foc 0 v3.toNat (E29 x1), .bit true, .fo 0, .bit true, .bit true, .bit true, .bit true, .foc 0 ((i64 (v3 - 1)).toNat) (E29 x2), .bit true, .fo 0, .bit true, .call [] (E3 r1) [], .bit true, .bit true, .bit false, .shut 0, .nb 0 (.row 29 (List.map E29 ((v4.set v3.toNat x1).set ((i64 (v3 - 1)).toNat) x2)) []), .mask [0, 1, 2, 3, 8], .ren [0]] (p := [(decide (a < v3)) = true,(decide (a < v3)) = true,(decide (a < v3)) = true,(decide (a < v3)) = true,(0 : Int) ≤ v3,(v3 : Int) < ((List.map E29 v4).length : Int),look [] v3.toNat = none,(List.map E29 v4)[v3.toNat]? = some (E29 x1),(decide (a < v3)) = true,look [(v3.toNat, aA x1 1 2 3 4)] v3.toNat = some (aA x1 1 2 3 4),v3.toNat < (List.map E29 v4).length,(decide (a < v3)) = true,(decide (a < v3)) = true,(decide (a < v3)) = true,(decide (a < v3)) = true,(0 : Int) ≤ (i64 (v3 - 1)),((i64 (v3 - 1)) : Int) < ((List.map E29 v4).length : Int),look [(v3.toNat, aA x1 1 2 3 4)] ((i64 (v3 - 1)).toNat) = none,(List.map E29 v4)[(i64 (v3 - 1)).toNat]? = some (E29 x2),(decide (a < v3)) = true,look [((i64 (v3 - 1)).toNat, aA x2 5 6 7 8), (v3.toNat, aA x1 1 2 3 4)] ((i64 (v3 - 1)).toNat) = some (aA x2 5 6 7 8),((i64 (v3 - 1)).toNat) < (List.map E29 v4).length,(decide (a < v3)) = true,Fn Try.prog 90 [(false, E29 x1), (false, E29 x2)] (E3 r1) [],(false || ((E3 r1).nv && nvL [])) = true,(decide (a < v3)) = true,(decide (a < v3)) = true,(decide (r1 < 0)) = false,Blk.row 29 (((List.map E29 v4).set v3.toNat (bA x1)).set ((i64 (v3 - 1)).toNat) (bA x2)) [] = Blk.row 29 (List.map E29 ((v4.set v3.toNat x1).set ((i64 (v3 - 1)).toNat) x2)) []]) (by kernel_rfl) (show X.out 2 ≠ X.go from nofun) (cj h2 (cj h2 (cj h2 (cj h2 (cj (od h3) (cj (map_ltN (od h3) h4) (cj rfl (cj (map_get h4) (cj h2 (cj (look_cons_self _ _ _) (cj (map_lt h4) (cj h2 (cj h2 (cj h2 (cj h2 (cj (od h5) (cj (map_ltN (od h5) h6) (cj ((look_cons_ne _ _ (od h7)).trans rfl) (cj (map_get h6) (cj h2 (cj (look_cons_self _ _ _) (cj (map_lt h6) (cj h2 (cj (impl_Gather_1_ok x1 x2 r1 h8) (cj (by simp [V.nv, nvL, nvL_all, nv_E3]) (cj h2 (cj h2 (cj h9 (cj1 (nb_set2 E29 _ _ x1 _ x2)))))))))))))))))))))))))))))))))) (fun h7 =>
     Pn.none))) (fun h5 =>
     Pn.none))) (fun h3 =>
     Pn.none)) (fun h2 =>
     Pn.some (LpO.out [.draw [], .bit false, .bit false, .bit false, .bit false, .bit false, .bit false, .bit false, .bit false, .bit false, .bit false, .bit false, .bit false, .bit false, .bit false, .mask [0, 1, 2, 3, 8], .ren [0]] (p := [(decide (a < v3)) = false,(decide (a < v3)) = false,(decide (a < v3)) = false,(decide (a < v3)) = false,(decide (a < v3)) = false,(decide (a < v3)) = false,(decide (a < v3)) = false,(decide (a < v3)) = false,(decide (a < v3)) = false,(decide (a < v3)) = false,(decide (a < v3)) = false,(decide (a < v3)) = false,(decide (a < v3)) = false,false = false]) (by kernel_rfl) (show X.out 2 ≠ X.go from nofun) (cj h2 (cj h2 (cj h2 (cj h2 (cj h2 (cj h2 (cj h2 (cj h2 (cj h2 (cj h2 (cj h2 (cj h2 (cj h2 (cj1 rfl))))))))))))))))
def slices_insertionSortCmpFunc_impl_Acct_impl_Gather_1_l0 (a : Int) (b : Int) : Nat → Int → (List Acct) → Option ((List Acct))
  | 0, _, _ => none
  | fuel + 1, v1, v2 =>
   if (decide (v1 < b)) = true then
   (slices_insertionSortCmpFunc_impl_Acct_impl_Gather_1_l1 a b v1 FUEL v1 v2).bind fun r2 =>
   slices_insertionSortCmpFunc_impl_Acct_impl_Gather_1_l0 a b fuel (i64 (v1 + 1)) r2
   else
   some v2
theorem slices_insertionSortCmpFunc_impl_Acct_impl_Gather_1_l0_ok (a : Int) (b : Int) : ∀ (fuel : Nat) (v1 : Int) (v2 : List Acct), Pn (LpO Try.prog (sub (codeOf Try.prog 191) [1, 0, 0]) (st 53 [(0, V.ow 0), (1, vI a), (2, vI b), (3, V.fn 90 []), (8, vI v1)] [Blk.row 29 (List.map E29 v2) []] [some 0]) (fun (y : (List Acct)) => (X.out 0, st 53 [] [Blk.row 29 (List.map E29 y) []] [some 0]))) (slices_insertionSortCmpFunc_impl_Acct_impl_Gather_1_l0 a b fuel v1 v2)
  | 0, _, _ => Pn.none
  | fuel + 1, v1, v2 => by
    unfold slices_insertionSortCmpFunc_impl_Acct_impl_Gather_1_l0
    exact
     Pn.ite (fun h1 =>
     Pn.bind (fun r2 h10 =>
     LpO.go [.bit true, .wait 2, .mask [0, 1, 2, 3, 8, 9], .ren [0], .loop (X.out 2) (st 53 [(0, V.ow 0), (1, vI a), (2, vI b), (3, V.fn 90 []), (8, vI v1)] [Blk.row 29 (List.map E29 r2) []] [some 0]), .wait 4, .mask [0, 1, 2, 3, 8], .ren [0]] (p := [(decide (v1 < b)) = true,Loop Try.prog (sub (codeOf Try.prog 191) [1, 0, 0, 1, 0, 0, 1, 0, 0]) (st 53 [(0, V.ow 0), (1, vI a), (2, vI b), (3, V.fn 90 []), (8, vI v1), (9, vI v1)] [Blk.row 29 (List.map E29 v2) []] [some 0]) (X.out 2) (st 53 [(0, V.ow 0), (1, vI a), (2, vI b), (3, V.fn 90 []), (8, vI v1)] [Blk.row 29 (List.map E29 r2) []] [some 0])]) (by kernel_rfl) (cj h1 (cj1 (slices_insertionSortCmpFunc_impl_Acct_impl_Gather_1_l1_ok a b v1 FUEL v1 v2 r2 h10))) (slices_insertionSortCmpFunc_impl_Acct_impl_Gather_1_l0_ok a b fuel (i64 (v1 + 1)) r2))) (fun h1 =>
     Pn.some (LpO.out [.bit false, .mask [], .ren [0]] (p := [(decide (v1 < b)) = false]) (by kernel_rfl) (show X.out 0 ≠ X.go from nofun) (cj1 h1)))
def slices_insertionSortCmpFunc_impl_Acct_impl_Gather_1 (data : List Acct) (a : Int) (b : Int) : Option ((List Acct)) :=
 (slices_insertionSortCmpFunc_impl_Acct_impl_Gather_1_l0 a b FUEL (i64 (a + 1)) data).bind fun r3 =>
 some r3
theorem slices_insertionSortCmpFunc_impl_Acct_impl_Gather_1_ok (data : List Acct) (a : Int) (b : Int) : Pn (fun y => Fn Try.prog 191 [(true, E48 data), (false, E3 a), (false, E3 b), (false, V.fn 90 [])] (V.tup []) [V.sl true 29 (List.map E29 y)]) (slices_insertionSortCmpFunc_impl_Acct_impl_Gather_1 data a b) := by
  unfold slices_insertionSortCmpFunc_impl_Acct_impl_Gather_1
  exact
   Pn.bind (fun r3 h11 =>
   Pn.some (Fn.of [.wait 4, .mask [0, 1, 2, 3, 8], .ren [0], .loop (X.out 0) (st 53 [] [Blk.row 29 (List.map E29 r3) []] [some 0])] (p := [Loop Try.prog (sub (codeOf Try.prog 191) [1, 0, 0]) (st 53 [(0, V.ow 0), (1, vI a), (2, vI b), (3, V.fn 90 []), (8, vI (i64 (a + 1)))] [Blk.row 29 (List.map E29 data) []] [some 0]) (X.out 0) (st 53 [] [Blk.row 29 (List.map E29 r3) []] [some 0])]) (by kernel_rfl) (cj1 (slices_insertionSortCmpFunc_impl_Acct_impl_Gather_1_l0_ok a b FUEL (i64 (a + 1)) data r3 h11))))
end Go.Proofs.YtdcejeemommkfaaM
