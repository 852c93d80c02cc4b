/- Printed by gen.py: functions on plain data, and that the program computes them. No condition. -/
import Derived.Test.YthonbclgdbigpaaDoorX1
import Derived.Test.YthonbclgdbigpaaDoorProg
namespace Go.Proofs.YthonbclgdbigpaaDoorM
set_option linter.unusedVariables false
set_option linter.unusedSimpArgs false
open Go.RowKit
set_option maxRecDepth 100000

structure Hold where
  Id : ByteArray
  Amount : Int
  Due : Int
def E9 (x : ByteArray) : V := V.sc (.string x)
def E3 (x : Int) : V := V.sc (.int .i64 x)
def E23 (x : Hold) : V := V.agg [V.sc (.string x.Id), V.sc (.int .i64 x.Amount), V.sc (.int .i64 x.Due)]
def E4 (x : Bool) : V := V.sc (.bool x)
def E26 (x : Hold) : V := V.agg [V.sc (.string x.Id), V.sc (.int .i64 x.Amount), V.sc (.int .i64 x.Due)]
theorem nv_E9 (x : ByteArray) : (E9 x).nv = true := by
  simp [E9, V.nv, nvL, nvL_all]
theorem nv_E3 (x : Int) : (E3 x).nv = true := by
  simp [E3, V.nv, nvL, nvL_all]
theorem nv_E23 (x : Hold) : (E23 x).nv = true := by
  simp [E23, V.nv, nvL, nvL_all]
theorem nv_E4 (x : Bool) : (E4 x).nv = true := by
  simp [E4, V.nv, nvL, nvL_all]
theorem nv_E26 (x : Hold) : (E26 x).nv = true := by
  simp [E26, V.nv, nvL, nvL_all]
def laws_szHold (a : Hold) (left : Int) : Option (Int) :=
 if (decide ((i64 (left - (a.Id.size : Int))) < 0)) = true then
  some (-1)
 else
  some (i64 (left - (a.Id.size : Int)))
theorem laws_szHold_ok (a : Hold) (left : Int) : Pn (fun y => Fn Tryd.prog 7 [(false, E23 a), (false, E3 left)] (E3 y) []) (laws_szHold a left) := by
  unfold laws_szHold
  exact
   Pn.ite (fun h1 =>
    Pn.some (Fn.of [.bit true] (p := [(decide ((i64 (left - (a.Id.size : Int))) < 0)) = true]) (by kernel_rfl) (cj1 h1))) (fun h1 =>
    Pn.some (Fn.of [.bit false] (p := [(decide ((i64 (left - (a.Id.size : Int))) < 0)) = false]) (by kernel_rfl) (cj1 h1)))
def laws_toHold (a : Hold) : Option (Hold) :=
 some a
theorem laws_toHold_ok (a : Hold) : Pn (fun y => Fn Tryd.prog 9 [(false, E23 a)] (E26 y) []) (laws_toHold a) := by
  unfold laws_toHold
  exact
   Pn.some (Fn.of [] (p := []) (by kernel_rfl) trivial)
def spec_l01Money (n : Int) : Option (Bool) :=
 if (decide (0 ≤ n)) = true then
  some (decide (n ≤ 4611686018427387904))
 else
  some false
theorem spec_l01Money_ok (n : Int) : Pn (fun y => Fn Tryd.prog 42 [(false, E3 n)] (E4 y) []) (spec_l01Money n) := by
  unfold spec_l01Money
  exact
   Pn.ite (fun h1 =>
    Pn.some (Fn.of [.bit true, .bit true, .bit true] (p := [(decide (0 ≤ n)) = true,
     (decide (0 ≤ n)) = true,
     (decide (0 ≤ n)) = true]) (by kernel_rfl) (cj h1 (cj h1 (cj1 h1))))) (fun h1 =>
    Pn.some (Fn.of [.bit false, .bit false, .bit false] (p := [(decide (0 ≤ n)) = false,
     (decide (0 ≤ n)) = false,
     (decide (0 ≤ n)) = false]) (by kernel_rfl) (cj h1 (cj h1 (cj1 h1)))))
def spec_NumText_l0 (n : Int) : Nat → Int → ByteArray → Option (Int × ByteArray)
  | 0, _, _ => none
  | fuel + 1, v1, v2 =>
   if (decide (9 < v1)) = true then
    if (decide ((bstr [u8 (i64 (48 + (Int.tmod v1 10)))]).size + v2.size ≤ 9223372036854775807)) = true then
     spec_NumText_l0 n fuel (i64 (Int.tdiv v1 10)) ((bstr [u8 (i64 (48 + (Int.tmod v1 10)))]) ++ v2)
    else none
   else
    some (v1, v2)
theorem spec_NumText_l0_ok (n : Int) : ∀ (fuel : Nat) (v1 : Int) (v2 : ByteArray), Pn (LpO Tryd.prog (sub (codeOf Tryd.prog 25) [1, 1, 1, 0, 0, 0]) (st 26 [(0, V.sc (.int .i64 v1)), (3, V.sc (.string v2))] [] []) (fun (y : Int × ByteArray) => (X.out 0, st 26 [(0, V.sc (.int .i64 y.1)), (3, V.sc (.string y.2))] [] []))) (spec_NumText_l0 n fuel v1 v2)
  | 0, _, _ => Pn.none
  | fuel + 1, v1, v2 => by
    unfold spec_NumText_l0
    exact
     Pn.ite (fun h3 =>
      Pn.ite (fun h4 =>
       LpO.go [.bit true, .ints [u8 (i64 (48 + (Int.tmod v1 10)))], .wait 7, .mask [0, 3], .ren []] (p := [(decide (9 < v1)) = true,
        (10 : Int) ≠ 0,
        [V.sc (.int .u8 (u8 (i64 (48 + (Int.tmod v1 10)))))] = [u8 (i64 (48 + (Int.tmod v1 10)))].map fun n => V.sc (.int .u8 n),
        (bstr [u8 (i64 (48 + (Int.tmod v1 10)))]).size + v2.size ≤ 9223372036854775807,
        (10 : Int) ≠ 0]) (by kernel_rfl) (cj h3 (cj (by decide) (cj rfl (cj (od h4) (cj1 (by decide)))))) (spec_NumText_l0_ok n fuel (i64 (Int.tdiv v1 10)) ((bstr [u8 (i64 (48 + (Int.tmod v1 10)))]) ++ v2))) (fun h4 =>
       Pn.none)) (fun h3 =>
      Pn.some (LpO.out [.bit false, .mask [0, 3], .ren []] (p := [(decide (9 < v1)) = false]) (by kernel_rfl) (show X.out 0 ≠ X.go from nofun) (cj1 h3)))
def spec_NumText (n : Int) : Option (ByteArray) :=
 (spec_l01Money n).bind fun r1 =>
 if r1 = true then
  (spec_NumText_l0 n FUEL n (bs [])).bind fun r2 =>
  if (decide ((bstr [u8 (i64 (48 + r2.1))]).size + r2.2.size ≤ 9223372036854775807)) = true then
   some ((bstr [u8 (i64 (48 + r2.1))]) ++ r2.2)
  else none
 else
  some (bs [])
theorem spec_NumText_ok (n : Int) : Pn (fun y => Fn Tryd.prog 25 [(false, E3 n)] (E9 y) []) (spec_NumText n) := by
  unfold spec_NumText
  exact
   Pn.bind (fun r1 h1 =>
    Pn.ite (fun h2 =>
     Pn.bind (fun r2 h5 =>
      Pn.ite (fun h6 =>
       Pn.some (Fn.of [.call [] (E4 r1) [], .bit false, .wait 1, .mask [0, 3], .ren [], .loop (X.out 0) (st 26 [(0, V.sc (.int .i64 r2.1)), (3, V.sc (.string r2.2))] [] []), .ints [u8 (i64 (48 + r2.1))]] (p := [Fn Tryd.prog 42 [(false, E3 n)] (E4 r1) [],
        (true || ((E4 r1).nv && nvL [])) = true,
        (!r1) = false,
        Loop Tryd.prog (sub (codeOf Tryd.prog 25) [1, 1, 1, 0, 0, 0]) (st 26 [(0, V.sc (.int .i64 n)), (3, V.sc (.string (bs [])))] [] []) (X.out 0) (st 26 [(0, V.sc (.int .i64 r2.1)), (3, V.sc (.string r2.2))] [] []),
        [V.sc (.int .u8 (u8 (i64 (48 + r2.1))))] = [u8 (i64 (48 + r2.1))].map fun n => V.sc (.int .u8 n),
        (bstr [u8 (i64 (48 + r2.1))]).size + r2.2.size ≤ 9223372036854775807]) (by kernel_rfl) (cj (spec_l01Money_ok n r1 h1) (cj rfl (cj (nf h2) (cj (spec_NumText_l0_ok n FUEL n (bs []) r2 h5) (cj rfl (cj1 (od h6))))))))) (fun h6 =>
       Pn.none))) (fun h2 =>
     Pn.some (Fn.of [.call [] (E4 r1) [], .bit true] (p := [Fn Tryd.prog 42 [(false, E3 n)] (E4 r1) [],
      (true || ((E4 r1).nv && nvL [])) = true,
      (!r1) = true]) (by kernel_rfl) (cj (spec_l01Money_ok n r1 h1) (cj rfl (cj1 (nt h2)))))))
def spec_HoldShow (h_ : Hold) : Option (ByteArray) :=
 if (decide (h_.Id.size + (bs [58]).size ≤ 9223372036854775807)) = true then
  (spec_NumText h_.Amount).bind fun r1 =>
  if (decide ((h_.Id ++ (bs [58])).size + r1.size ≤ 9223372036854775807)) = true then
   if (decide (((h_.Id ++ (bs [58])) ++ r1).size + (bs [64]).size ≤ 9223372036854775807)) = true then
    (spec_NumText h_.Due).bind fun r2 =>
    if (decide ((((h_.Id ++ (bs [58])) ++ r1) ++ (bs [64])).size + r2.size ≤ 9223372036854775807)) = true then
     some ((((h_.Id ++ (bs [58])) ++ r1) ++ (bs [64])) ++ r2)
    else none
   else none
  else none
 else none
theorem spec_HoldShow_ok (h_ : Hold) : Pn (fun y => Fn Tryd.prog 8 [(false, E26 h_)] (E9 y) []) (spec_HoldShow h_) := by
  unfold spec_HoldShow
  exact
   Pn.ite (fun h1 =>
    Pn.bind (fun r1 h2 =>
     Pn.ite (fun h3 =>
      Pn.ite (fun h4 =>
       Pn.bind (fun r2 h5 =>
        Pn.ite (fun h6 =>
         Pn.some (Fn.of [.draw [], .call [] (E9 r1) [], .call [] (E9 r2) []] (p := [h_.Id.size + (bs [58]).size ≤ 9223372036854775807,
          Fn Tryd.prog 25 [(false, E3 h_.Amount)] (E9 r1) [],
          (true || ((E9 r1).nv && nvL [])) = true,
          (h_.Id ++ (bs [58])).size + r1.size ≤ 9223372036854775807,
          ((h_.Id ++ (bs [58])) ++ r1).size + (bs [64]).size ≤ 9223372036854775807,
          Fn Tryd.prog 25 [(false, E3 h_.Due)] (E9 r2) [],
          (true || ((E9 r2).nv && nvL [])) = true,
          (((h_.Id ++ (bs [58])) ++ r1) ++ (bs [64])).size + r2.size ≤ 9223372036854775807]) (by kernel_rfl) (cj (od h1) (cj (spec_NumText_ok h_.Amount r1 h2) (cj rfl (cj (od h3) (cj (od h4) (cj (spec_NumText_ok h_.Due r2 h5) (cj rfl (cj1 (od h6))))))))))) (fun h6 =>
         Pn.none))) (fun h4 =>
       Pn.none)) (fun h3 =>
      Pn.none))) (fun h1 =>
    Pn.none)
def impl_within (n : Int) (low : Int) (high : Int) : Option (Bool) :=
 if (decide (low ≤ n)) = true then
  some (decide (n ≤ high))
 else
  some false
theorem impl_within_ok (n : Int) (low : Int) (high : Int) : Pn (fun y => Fn Tryd.prog 46 [(false, E3 n), (false, E3 low), (false, E3 high)] (E4 y) []) (impl_within n low high) := by
  unfold impl_within
  exact
   Pn.ite (fun h1 =>
    Pn.some (Fn.of [.bit true, .bit true, .bit true, .bit true] (p := [(decide (low ≤ n)) = true,
     (decide (low ≤ n)) = true,
     (decide (low ≤ n)) = true,
     (decide (low ≤ n)) = true]) (by kernel_rfl) (cj h1 (cj h1 (cj h1 (cj1 h1)))))) (fun h1 =>
    Pn.some (Fn.of [.bit false, .bit false, .bit false, .bit false] (p := [(decide (low ≤ n)) = false,
     (decide (low ≤ n)) = false,
     (decide (low ≤ n)) = false,
     (decide (low ≤ n)) = false]) (by kernel_rfl) (cj h1 (cj h1 (cj h1 (cj1 h1))))))
def impl_isMoney (n : Int) : Option (Bool) :=
 (impl_within n 0 4611686018427387904).bind fun r1 =>
 some r1
theorem impl_isMoney_ok (n : Int) : Pn (fun y => Fn Tryd.prog 43 [(false, E3 n)] (E4 y) []) (impl_isMoney n) := by
  unfold impl_isMoney
  exact
   Pn.bind (fun r1 h1 =>
    Pn.some (Fn.of [.call [] (E4 r1) []] (p := [Fn Tryd.prog 46 [(false, E3 n), (false, E3 0), (false, E3 4611686018427387904)] (E4 r1) [],
     (true || ((E4 r1).nv && nvL [])) = true]) (by kernel_rfl) (cj (impl_within_ok n 0 4611686018427387904 r1 h1) (cj1 rfl))))
def strconv_Itoa (i : Int) : Option ByteArray := if (decide (-9223372036854775808 ≤ i) && decide (i ≤ 9223372036854775807)) = true then some ⟨(Lib.itoa i).toArray⟩ else none
theorem strconv_Itoa_ok (i : Int) : Pn (fun y => Fn Tryd.prog 44 [(false, E3 i)] (E9 y) []) (strconv_Itoa i) := by
  unfold strconv_Itoa
  exact Pn.ite (fun h => Pn.some (Fn.flat [.int .i64 i] (by kernel_rfl) rfl fun w hw => by
    simp only [Bool.and_eq_true, decide_eq_true_eq] at h
    obtain ⟨cs, t, z, e1, e2⟩ := hw _ (List.Mem.head _)
    exact (Go.Proofs.Any.strconv_Itoa Tryd.laysM171 i h.1 h.2 w (tab_of (by kernel_rfl) e1 e2)).mono fun e w2 ⟨h1, k, os, h2⟩ => ⟨h1, h2 ▸ Lib.below_grow _ w (Nat.le_refl _) k os⟩)) (fun _ => Pn.none)
def impl_NumText (n : Int) : Option (ByteArray) :=
 (impl_isMoney n).bind fun r1 =>
 if r1 = true then
  (strconv_Itoa n).bind fun r2 =>
  some r2
 else
  some (bs [])
theorem impl_NumText_ok (n : Int) : Pn (fun y => Fn Tryd.prog 26 [(false, E3 n)] (E9 y) []) (impl_NumText n) := by
  unfold impl_NumText
  exact
   Pn.bind (fun r1 h1 =>
    Pn.ite (fun h2 =>
     Pn.bind (fun r2 h3 =>
      Pn.some (Fn.of [.call [] (E4 r1) [], .bit false, .call [] (E9 r2) []] (p := [Fn Tryd.prog 43 [(false, E3 n)] (E4 r1) [],
       (true || ((E4 r1).nv && nvL [])) = true,
       (!r1) = false,
       Fn Tryd.prog 44 [(false, E3 n)] (E9 r2) [],
       (true || ((E9 r2).nv && nvL [])) = true]) (by kernel_rfl) (cj (impl_isMoney_ok n r1 h1) (cj rfl (cj (nf h2) (cj (strconv_Itoa_ok n r2 h3) (cj1 rfl)))))))) (fun h2 =>
     Pn.some (Fn.of [.call [] (E4 r1) [], .bit true] (p := [Fn Tryd.prog 43 [(false, E3 n)] (E4 r1) [],
      (true || ((E4 r1).nv && nvL [])) = true,
      (!r1) = true]) (by kernel_rfl) (cj (impl_isMoney_ok n r1 h1) (cj rfl (cj1 (nt h2)))))))
def impl_HoldShow (h_ : Hold) : Option (ByteArray) :=
 if (decide (h_.Id.size + (bs [58]).size ≤ 9223372036854775807)) = true then
  (impl_NumText h_.Amount).bind fun r1 =>
  if (decide ((h_.Id ++ (bs [58])).size + r1.size ≤ 9223372036854775807)) = true then
   if (decide (((h_.Id ++ (bs [58])) ++ r1).size + (bs [64]).size ≤ 9223372036854775807)) = true then
    (impl_NumText h_.Due).bind fun r2 =>
    if (decide ((((h_.Id ++ (bs [58])) ++ r1) ++ (bs [64])).size + r2.size ≤ 9223372036854775807)) = true then
     some ((((h_.Id ++ (bs [58])) ++ r1) ++ (bs [64])) ++ r2)
    else none
   else none
  else none
 else none
theorem impl_HoldShow_ok (h_ : Hold) : Pn (fun y => Fn Tryd.prog 10 [(false, E26 h_)] (E9 y) []) (impl_HoldShow h_) := by
  unfold impl_HoldShow
  exact
   Pn.ite (fun h1 =>
    Pn.bind (fun r1 h2 =>
     Pn.ite (fun h3 =>
      Pn.ite (fun h4 =>
       Pn.bind (fun r2 h5 =>
        Pn.ite (fun h6 =>
         Pn.some (Fn.of [.draw [], .call [] (E9 r1) [], .call [] (E9 r2) []] (p := [h_.Id.size + (bs [58]).size ≤ 9223372036854775807,
          Fn Tryd.prog 26 [(false, E3 h_.Amount)] (E9 r1) [],
          (true || ((E9 r1).nv && nvL [])) = true,
          (h_.Id ++ (bs [58])).size + r1.size ≤ 9223372036854775807,
          ((h_.Id ++ (bs [58])) ++ r1).size + (bs [64]).size ≤ 9223372036854775807,
          Fn Tryd.prog 26 [(false, E3 h_.Due)] (E9 r2) [],
          (true || ((E9 r2).nv && nvL [])) = true,
          (((h_.Id ++ (bs [58])) ++ r1) ++ (bs [64])).size + r2.size ≤ 9223372036854775807]) (by kernel_rfl) (cj (od h1) (cj (impl_NumText_ok h_.Amount r1 h2) (cj rfl (cj (od h3) (cj (od h4) (cj (impl_NumText_ok h_.Due r2 h5) (cj rfl (cj1 (od h6))))))))))) (fun h6 =>
         Pn.none))) (fun h4 =>
       Pn.none)) (fun h3 =>
      Pn.none))) (fun h1 =>
    Pn.none)
def laws_FnExactHoldShow (aH : Hold) : Option (Bool) :=
 (laws_szHold aH 1048576).bind fun r1 =>
 if (decide (r1 < 0)) = true then
  some true
 else
  (laws_toHold aH).bind fun r2 =>
  (spec_HoldShow r2).bind fun r3 =>
  (laws_toHold aH).bind fun r4 =>
  (impl_HoldShow r4).bind fun r5 =>
  if (r5 == r3) = true then
   some true
  else
   some false
theorem laws_FnExactHoldShow_ok (aH : Hold) : Pn (fun y => Fn Tryd.prog 3 [(false, E23 aH)] (E4 y) []) (laws_FnExactHoldShow aH) := by
  unfold laws_FnExactHoldShow
  exact
   Pn.bind (fun r1 h1 =>
    Pn.ite (fun h2 =>
     Pn.some (Fn.of [.call [] (E3 r1) [], .bit true] (p := [Fn Tryd.prog 7 [(false, E23 aH), (false, E3 1048576)] (E3 r1) [],
      (true || ((E3 r1).nv && nvL [])) = true,
      (decide (r1 < 0)) = true]) (by kernel_rfl) (cj (laws_szHold_ok aH 1048576 r1 h1) (cj rfl (cj1 h2))))) (fun h2 =>
     Pn.bind (fun r2 h3 =>
      Pn.bind (fun r3 h4 =>
       Pn.bind (fun r4 h5 =>
        Pn.bind (fun r5 h6 =>
         Pn.ite (fun h7 =>
          Pn.some (Fn.of [.call [] (E3 r1) [], .bit false, .call [] (E26 r2) [], .call [] (E9 r3) [], .call [] (E26 r4) [], .call [] (E9 r5) [], .bit false] (p := [Fn Tryd.prog 7 [(false, E23 aH), (false, E3 1048576)] (E3 r1) [],
           (true || ((E3 r1).nv && nvL [])) = true,
           (decide (r1 < 0)) = false,
           Fn Tryd.prog 9 [(false, E23 aH)] (E26 r2) [],
           (true || ((E26 r2).nv && nvL [])) = true,
           Fn Tryd.prog 8 [(false, E26 r2)] (E9 r3) [],
           (true || ((E9 r3).nv && nvL [])) = true,
           Fn Tryd.prog 9 [(false, E23 aH)] (E26 r4) [],
           (true || ((E26 r4).nv && nvL [])) = true,
           Fn Tryd.prog 10 [(false, E26 r4)] (E9 r5) [],
           (true || ((E9 r5).nv && nvL [])) = true,
           (!(r5 == r3)) = false]) (by kernel_rfl) (cj (laws_szHold_ok aH 1048576 r1 h1) (cj rfl (cj h2 (cj (laws_toHold_ok aH r2 h3) (cj rfl (cj (spec_HoldShow_ok r2 r3 h4) (cj rfl (cj (laws_toHold_ok aH r4 h5) (cj rfl (cj (impl_HoldShow_ok r4 r5 h6) (cj rfl (cj1 (nf h7))))))))))))))) (fun h7 =>
          Pn.some (Fn.of [.call [] (E3 r1) [], .bit false, .call [] (E26 r2) [], .call [] (E9 r3) [], .call [] (E26 r4) [], .call [] (E9 r5) [], .bit true] (p := [Fn Tryd.prog 7 [(false, E23 aH), (false, E3 1048576)] (E3 r1) [],
           (true || ((E3 r1).nv && nvL [])) = true,
           (decide (r1 < 0)) = false,
           Fn Tryd.prog 9 [(false, E23 aH)] (E26 r2) [],
           (true || ((E26 r2).nv && nvL [])) = true,
           Fn Tryd.prog 8 [(false, E26 r2)] (E9 r3) [],
           (true || ((E9 r3).nv && nvL [])) = true,
           Fn Tryd.prog 9 [(false, E23 aH)] (E26 r4) [],
           (true || ((E26 r4).nv && nvL [])) = true,
           Fn Tryd.prog 10 [(false, E26 r4)] (E9 r5) [],
           (true || ((E9 r5).nv && nvL [])) = true,
           (!(r5 == r3)) = true]) (by kernel_rfl) (cj (laws_szHold_ok aH 1048576 r1 h1) (cj rfl (cj h2 (cj (laws_toHold_ok aH r2 h3) (cj rfl (cj (spec_HoldShow_ok r2 r3 h4) (cj rfl (cj (laws_toHold_ok aH r4 h5) (cj rfl (cj (impl_HoldShow_ok r4 r5 h6) (cj rfl (cj1 (nt h7)))))))))))))))))))))
end Go.Proofs.YthonbclgdbigpaaDoorM
