/- Printed by gen.py: functions on plain data, and that the program computes them. No condition. -/
import Derived.Test.YtephmimhaokhlaaGreatM18
import Derived.Test.YtephmimhaokhlaaGreatProg
namespace Go.Proofs.YtephmimhaokhlaaGreatM
set_option linter.unusedVariables false
set_option linter.unusedSimpArgs false
open Go.RowKit
set_option maxRecDepth 100000

structure Hold where
  Id : ByteArray
  Amount : Int
  Due : Int
structure Ring where
  Span : Int
  Head : Int
  Counts : List Int
  Sums : List Int
structure Slot where
  Trace : ByteArray
  Mti : ByteArray
  Reply : List Int
structure Acct where
  Id : ByteArray
  Limit : Int
  Posted : Int
  Most : Int
  MostSum : Int
  Holds : List Hold
  Ring : Ring
  Slots : List Slot
structure Book where
  Accts : List Acct
structure Stripe where
  Owner : Int
  Accts : List Acct
structure Task where
  Data : List Int
  Pc : Int
  Set : List Int
  Held : Int
  Inv : Int
  Lin : Int
  Res : Int
  At : Int
  Reply : List Int
structure World where
  Stripes : List Stripe
  Now : Int
  Step : Int
  Tasks : List Task
structure Desk where
  Book : Book
  Parts : Int
  World : World
def E3 (x : Int) : V := V.sc (.int .i64 x)
def E4 (x : Bool) : V := V.sc (.bool x)
def E9 (x : ByteArray) : V := V.sc (.string x)
def E129 (x : Hold) : V := V.agg [V.sc (.string x.Id), V.sc (.int .i64 x.Amount), V.sc (.int .i64 x.Due)]
def E44 (x : List Hold) : V := V.sl true 129 (List.map E129 x)
def E35 (x : List Int) : V := V.sl true 3 (List.map E3 x)
def E45 (x : Ring) : V := V.agg [V.sc (.int .i64 x.Span), V.sc (.int .i64 x.Head), V.sl true 3 (List.map E3 x.Counts), V.sl true 3 (List.map E3 x.Sums)]
def E5 (x : Int) : V := V.sc (.int .u8 x)
def E118 (x : List Int) : V := V.sl true 5 (List.map E5 x)
def E132 (x : Slot) : V := V.agg [V.sc (.string x.Trace), V.sc (.string x.Mti), V.sl true 5 (List.map E5 x.Reply)]
def E46 (x : List Slot) : V := V.sl true 132 (List.map E132 x)
def E48 (x : Acct) : V := V.agg [V.sc (.string x.Id), V.sc (.int .i64 x.Limit), V.sc (.int .i64 x.Posted), V.sc (.int .i64 x.Most), V.sc (.int .i64 x.MostSum), V.sl true 129 (List.map E129 x.Holds), V.sc (.int .i64 x.Ring.Span), V.sc (.int .i64 x.Ring.Head), V.sl true 3 (List.map E3 x.Ring.Counts), V.sl true 3 (List.map E3 x.Ring.Sums), V.sl true 132 (List.map E132 x.Slots)]
def E26 (x : List Acct) : V := V.sl true 48 (List.map E48 x)
def E28 (x : Book) : V := V.agg [V.sl true 48 (List.map E48 x.Accts)]
def E102 (x : Stripe) : V := V.agg [V.sc (.int .i64 x.Owner), V.sl true 48 (List.map E48 x.Accts)]
def E56 (x : List Stripe) : V := V.sl true 102 (List.map E102 x)
def E163 (x : Task) : V := V.agg [V.sl true 5 (List.map E5 x.Data), V.sc (.int .i64 x.Pc), V.sl true 3 (List.map E3 x.Set), V.sc (.int .i64 x.Held), V.sc (.int .i64 x.Inv), V.sc (.int .i64 x.Lin), V.sc (.int .i64 x.Res), V.sc (.int .i64 x.At), V.sl true 5 (List.map E5 x.Reply)]
def E62 (x : List Task) : V := V.sl true 163 (List.map E163 x)
def E64 (x : World) : V := V.agg [V.sl true 102 (List.map E102 x.Stripes), V.sc (.int .i64 x.Now), V.sc (.int .i64 x.Step), V.sl true 163 (List.map E163 x.Tasks)]
def E66 (x : Desk) : V := V.agg [V.sl true 48 (List.map E48 x.Book.Accts), V.sc (.int .i64 x.Parts), V.sl true 102 (List.map E102 x.World.Stripes), V.sc (.int .i64 x.World.Now), V.sc (.int .i64 x.World.Step), V.sl true 163 (List.map E163 x.World.Tasks)]
def E165 (x : List (List Int)) : V := V.sl true 35 (List.map E35 x)
theorem nv_E3 (x : Int) : (E3 x).nv = true := by
  simp [E3, V.nv, nvL, nvL_all]
theorem nv_E4 (x : Bool) : (E4 x).nv = true := by
  simp [E4, V.nv, nvL, nvL_all]
theorem nv_E9 (x : ByteArray) : (E9 x).nv = true := by
  simp [E9, V.nv, nvL, nvL_all]
theorem nv_E129 (x : Hold) : (E129 x).nv = true := by
  simp [E129, V.nv, nvL, nvL_all]
theorem nv_E44 (x : List Hold) : (E44 x).nv = true := by
  simp [E44, V.nv, nvL, nvL_all, nv_E129]
theorem nv_E35 (x : List Int) : (E35 x).nv = true := by
  simp [E35, V.nv, nvL, nvL_all, nv_E3]
theorem nv_E45 (x : Ring) : (E45 x).nv = true := by
  simp [E45, V.nv, nvL, nvL_all, nv_E3, nv_E3]
theorem nv_E5 (x : Int) : (E5 x).nv = true := by
  simp [E5, V.nv, nvL, nvL_all]
theorem nv_E118 (x : List Int) : (E118 x).nv = true := by
  simp [E118, V.nv, nvL, nvL_all, nv_E5]
theorem nv_E132 (x : Slot) : (E132 x).nv = true := by
  simp [E132, V.nv, nvL, nvL_all, nv_E5]
theorem nv_E46 (x : List Slot) : (E46 x).nv = true := by
  simp [E46, V.nv, nvL, nvL_all, nv_E132]
theorem nv_E48 (x : Acct) : (E48 x).nv = true := by
  simp [E48, V.nv, nvL, nvL_all, nv_E129, nv_E3, nv_E3, nv_E132]
theorem nv_E26 (x : List Acct) : (E26 x).nv = true := by
  simp [E26, V.nv, nvL, nvL_all, nv_E48]
theorem nv_E28 (x : Book) : (E28 x).nv = true := by
  simp [E28, V.nv, nvL, nvL_all, nv_E48]
theorem nv_E102 (x : Stripe) : (E102 x).nv = true := by
  simp [E102, V.nv, nvL, nvL_all, nv_E48]
theorem nv_E56 (x : List Stripe) : (E56 x).nv = true := by
  simp [E56, V.nv, nvL, nvL_all, nv_E102]
theorem nv_E163 (x : Task) : (E163 x).nv = true := by
  simp [E163, V.nv, nvL, nvL_all, nv_E5, nv_E3, nv_E5]
theorem nv_E62 (x : List Task) : (E62 x).nv = true := by
  simp [E62, V.nv, nvL, nvL_all, nv_E163]
theorem nv_E64 (x : World) : (E64 x).nv = true := by
  simp [E64, V.nv, nvL, nvL_all, nv_E102, nv_E163]
theorem nv_E66 (x : Desk) : (E66 x).nv = true := by
  simp [E66, V.nv, nvL, nvL_all, nv_E48, nv_E102, nv_E163]
theorem nv_E165 (x : List (List Int)) : (E165 x).nv = true := by
  simp [E165, V.nv, nvL, nvL_all, nv_E35]
def spec_Digits_l0 (s_ : ByteArray) : Nat → Int → Option (Lo Unit Unit)
  | 0, _ => none
  | fuel + 1, v1 =>
   if (decide (v1 < (s_.size : Int))) = true then
    if (decide (0 ≤ v1)) = true then
     if (decide ((v1 : Int) < (s_.size : Int))) = true then
      if (decide ((sAt s_ v1) < 48)) = true then
       some (.ret ())
      else
       if (decide (57 < (sAt s_ v1))) = true then
        some (.ret ())
       else
        spec_Digits_l0 s_ fuel (i64 (v1 + 1))
     else none
    else none
   else
    some (.out ())
theorem spec_Digits_l0_ok (s_ : ByteArray) : ∀ (fuel : Nat) (v1 : Int), Pn (LpO Tryz.prog (sub (codeOf Tryz.prog 159) [1, 0, 1, 0, 0]) (st 23 [(0, V.sc (.string s_)), (3, V.sc (.int .i64 v1))] [] []) (fun (y : Lo Unit Unit) => Lo.elim y (fun s => (X.out 0, st 23 [(0, V.sc (.string s_))] [] [])) (fun s => (X.ret, st 23 [(2, V.sc (.bool false))] [] [])))) (spec_Digits_l0 s_ fuel v1)
  | 0, _ => Pn.none
  | fuel + 1, v1 => by
    unfold spec_Digits_l0
    exact
     Pn.ite (fun h1 =>
      Pn.ite (fun h2 =>
       Pn.ite (fun h3 =>
        Pn.ite (fun h4 =>
         Pn.some (LpO.out [.bit true, .bit true, .bit true, .bit true, .bit true, .bit true, .bit true, .wait 1, .mask [2], .ren []] (p := [(decide (v1 < (s_.size : Int))) = true,
          (0 : Int) ≤ v1,
          (v1 : Int) < s_.size,
          (decide ((sAt s_ v1) < 48)) = true,
          (decide ((sAt s_ v1) < 48)) = true,
          (decide ((sAt s_ v1) < 48)) = true,
          (decide ((sAt s_ v1) < 48)) = true,
          (decide ((sAt s_ v1) < 48)) = true,
          true = true]) (by kernel_rfl) (show X.ret ≠ X.go from nofun) (cj h1 (cj (od h2) (cj (od h3) (cj h4 (cj h4 (cj h4 (cj h4 (cj h4 (cj1 rfl))))))))))) (fun h4 =>
         Pn.ite (fun h5 =>
          Pn.some (LpO.out [.bit true, .bit false, .bit false, .bit false, .bit false, .bit false, .bit true, .wait 1, .mask [2], .ren []] (p := [(decide (v1 < (s_.size : Int))) = true,
           (0 : Int) ≤ v1,
           (v1 : Int) < s_.size,
           (decide ((sAt s_ v1) < 48)) = false,
           (decide ((sAt s_ v1) < 48)) = false,
           (decide ((sAt s_ v1) < 48)) = false,
           (0 : Int) ≤ v1,
           (v1 : Int) < s_.size,
           (decide ((sAt s_ v1) < 48)) = false,
           (decide ((sAt s_ v1) < 48)) = false,
           (decide (57 < (sAt s_ v1))) = true]) (by kernel_rfl) (show X.ret ≠ X.go from nofun) (cj h1 (cj (od h2) (cj (od h3) (cj h4 (cj h4 (cj h4 (cj (od h2) (cj (od h3) (cj h4 (cj h4 (cj1 h5))))))))))))) (fun h5 =>
          LpO.go [.bit true, .bit false, .bit false, .bit false, .bit false, .bit false, .bit false, .wait 3, .mask [0, 3], .ren []] (p := [(decide (v1 < (s_.size : Int))) = true,
           (0 : Int) ≤ v1,
           (v1 : Int) < s_.size,
           (decide ((sAt s_ v1) < 48)) = false,
           (decide ((sAt s_ v1) < 48)) = false,
           (decide ((sAt s_ v1) < 48)) = false,
           (0 : Int) ≤ v1,
           (v1 : Int) < s_.size,
           (decide ((sAt s_ v1) < 48)) = false,
           (decide ((sAt s_ v1) < 48)) = false,
           (decide (57 < (sAt s_ v1))) = false]) (by kernel_rfl) (cj h1 (cj (od h2) (cj (od h3) (cj h4 (cj h4 (cj h4 (cj (od h2) (cj (od h3) (cj h4 (cj h4 (cj1 h5))))))))))) (spec_Digits_l0_ok s_ fuel (i64 (v1 + 1)))))) (fun h3 =>
        Pn.none)) (fun h2 =>
       Pn.none)) (fun h1 =>
      Pn.some (LpO.out [.bit false, .mask [0], .ren []] (p := [(decide (v1 < (s_.size : Int))) = false]) (by kernel_rfl) (show X.out 0 ≠ X.go from nofun) (cj1 h1)))
def spec_Digits (s_ : ByteArray) : Option (Bool) :=
 (spec_Digits_l0 s_ FUEL 0).bind fun r1 =>
 Lo.elim r1 (fun s1 =>
  some (decide (0 < (s_.size : Int)))) (fun s2 =>
  some false)
theorem spec_Digits_ok (s_ : ByteArray) : Pn (fun y => Fn Tryz.prog 159 [(false, E9 s_)] (E4 y) []) (spec_Digits s_) := by
  unfold spec_Digits
  exact
   Pn.bind (fun r1 h6 =>
    Pn.lo (fun s1 h7 =>
     Pn.some (Fn.of [.wait 3, .mask [0, 3], .ren [], .loop (X.out 0) (st 23 [(0, V.sc (.string s_))] [] [])] (p := [Loop Tryz.prog (sub (codeOf Tryz.prog 159) [1, 0, 1, 0, 0]) (st 23 [(0, V.sc (.string s_)), (3, V.sc (.int .i64 0))] [] []) (X.out 0) (st 23 [(0, V.sc (.string s_))] [] [])]) (by kernel_rfl) (cj1 ((spec_Digits_l0_ok s_ FUEL 0 r1 h6).at h7)))) (fun s2 h8 =>
     Pn.some (Fn.of [.wait 3, .mask [0, 3], .ren [], .loop (X.ret) (st 23 [(2, V.sc (.bool false))] [] [])] (p := [Loop Tryz.prog (sub (codeOf Tryz.prog 159) [1, 0, 1, 0, 0]) (st 23 [(0, V.sc (.string s_)), (3, V.sc (.int .i64 0))] [] []) (X.ret) (st 23 [(2, V.sc (.bool false))] [] [])]) (by kernel_rfl) (cj1 ((spec_Digits_l0_ok s_ FUEL 0 r1 h6).at h8)))))
def spec_Luhn_l0 (s_ : ByteArray) : Nat → Int → Bool → Int → Option (Int)
  | 0, _, _, _ => none
  | fuel + 1, v1, v2, v3 =>
   if (decide (0 ≤ v3)) = true then
    if (decide ((v3 : Int) < (s_.size : Int))) = true then
     if v2 = true then
      if (decide (9 < (i64 (2 * (i64 ((i64 (sAt s_ v3)) - 48)))))) = true then
       spec_Luhn_l0 s_ fuel (Int.tmod (i64 (v1 + (i64 ((i64 (2 * (i64 ((i64 (sAt s_ v3)) - 48)))) - 9)))) 10) (!v2) (i64 (v3 - 1))
      else
       spec_Luhn_l0 s_ fuel (Int.tmod (i64 (v1 + (i64 (2 * (i64 ((i64 (sAt s_ v3)) - 48)))))) 10) (!v2) (i64 (v3 - 1))
     else
      spec_Luhn_l0 s_ fuel (Int.tmod (i64 (v1 + (i64 ((i64 (sAt s_ v3)) - 48)))) 10) (!v2) (i64 (v3 - 1))
    else none
   else
    some v1
theorem spec_Luhn_l0_ok (s_ : ByteArray) : ∀ (fuel : Nat) (v1 : Int) (v2 : Bool) (v3 : Int), Pn (LpO Tryz.prog (sub (codeOf Tryz.prog 160) [1, 1, 1, 1, 0, 1, 0, 0]) (st 38 [(0, V.sc (.string s_)), (3, V.sc (.int .i64 v1)), (4, V.sc (.bool v2)), (5, V.sc (.int .i64 v3))] [] []) (fun (y : Int) => (X.out 0, st 38 [(3, V.sc (.int .i64 y))] [] []))) (spec_Luhn_l0 s_ fuel v1 v2 v3)
  | 0, _, _, _ => Pn.none
  | fuel + 1, v1, v2, v3 => by
    unfold spec_Luhn_l0
    exact
     Pn.ite (fun h3 =>
      Pn.ite (fun h4 =>
       Pn.ite (fun h5 =>
        Pn.ite (fun h6 =>
         LpO.go [.bit true, .bit true, .bit true, .wait 14, .mask [0, 3, 4, 5], .ren []] (p := [(decide (0 ≤ v3)) = true,
          (0 : Int) ≤ v3,
          (v3 : Int) < s_.size,
          v2 = true,
          (decide (9 < (i64 (2 * (i64 ((i64 (sAt s_ v3)) - 48)))))) = true,
          (10 : Int) ≠ 0]) (by kernel_rfl) (cj h3 (cj (od h3) (cj (od h4) (cj h5 (cj h6 (cj1 (by decide))))))) (spec_Luhn_l0_ok s_ fuel (Int.tmod (i64 (v1 + (i64 ((i64 (2 * (i64 ((i64 (sAt s_ v3)) - 48)))) - 9)))) 10) (!v2) (i64 (v3 - 1)))) (fun h6 =>
         LpO.go [.bit true, .bit true, .bit false, .wait 11, .mask [0, 3, 4, 5], .ren []] (p := [(decide (0 ≤ v3)) = true,
          (0 : Int) ≤ v3,
          (v3 : Int) < s_.size,
          v2 = true,
          (decide (9 < (i64 (2 * (i64 ((i64 (sAt s_ v3)) - 48)))))) = false,
          (10 : Int) ≠ 0]) (by kernel_rfl) (cj h3 (cj (od h3) (cj (od h4) (cj h5 (cj h6 (cj1 (by decide))))))) (spec_Luhn_l0_ok s_ fuel (Int.tmod (i64 (v1 + (i64 (2 * (i64 ((i64 (sAt s_ v3)) - 48)))))) 10) (!v2) (i64 (v3 - 1))))) (fun h5 =>
        LpO.go [.bit true, .bit false, .wait 11, .mask [0, 3, 4, 5], .ren []] (p := [(decide (0 ≤ v3)) = true,
         (0 : Int) ≤ v3,
         (v3 : Int) < s_.size,
         v2 = false,
         (10 : Int) ≠ 0]) (by kernel_rfl) (cj h3 (cj (od h3) (cj (od h4) (cj h5 (cj1 (by decide)))))) (spec_Luhn_l0_ok s_ fuel (Int.tmod (i64 (v1 + (i64 ((i64 (sAt s_ v3)) - 48)))) 10) (!v2) (i64 (v3 - 1))))) (fun h4 =>
       Pn.none)) (fun h3 =>
      Pn.some (LpO.out [.bit false, .mask [3], .ren []] (p := [(decide (0 ≤ v3)) = false]) (by kernel_rfl) (show X.out 0 ≠ X.go from nofun) (cj1 h3)))
def spec_Luhn (s_ : ByteArray) : Option (Int) :=
 (spec_Digits s_).bind fun r1 =>
 if r1 = true then
  (spec_Luhn_l0 s_ FUEL 0 true (i64 ((s_.size : Int) - 1))).bind fun r2 =>
  some (Int.tmod (i64 (10 - r2)) 10)
 else
  some (-1)
theorem spec_Luhn_ok (s_ : ByteArray) : Pn (fun y => Fn Tryz.prog 160 [(false, E9 s_)] (E3 y) []) (spec_Luhn s_) := by
  unfold spec_Luhn
  exact
   Pn.bind (fun r1 h1 =>
    Pn.ite (fun h2 =>
     Pn.bind (fun r2 h7 =>
      Pn.some (Fn.of [.call [] (E4 r1) [], .bit false, .wait 6, .mask [0, 3, 4, 5], .ren [], .loop (X.out 0) (st 38 [(3, V.sc (.int .i64 r2))] [] [])] (p := [Fn Tryz.prog 159 [(false, E9 s_)] (E4 r1) [],
       (true || ((E4 r1).nv && nvL [])) = true,
       (!r1) = false,
       Loop Tryz.prog (sub (codeOf Tryz.prog 160) [1, 1, 1, 1, 0, 1, 0, 0]) (st 38 [(0, V.sc (.string s_)), (3, V.sc (.int .i64 0)), (4, V.sc (.bool true)), (5, V.sc (.int .i64 (i64 ((s_.size : Int) - 1))))] [] []) (X.out 0) (st 38 [(3, V.sc (.int .i64 r2))] [] []),
       (10 : Int) ≠ 0]) (by kernel_rfl) (cj (spec_Digits_ok s_ r1 h1) (cj rfl (cj (nf h2) (cj (spec_Luhn_l0_ok s_ FUEL 0 true (i64 ((s_.size : Int) - 1)) r2 h7) (cj1 (by decide))))))))) (fun h2 =>
     Pn.some (Fn.of [.call [] (E4 r1) [], .bit true] (p := [Fn Tryz.prog 159 [(false, E9 s_)] (E4 r1) [],
      (true || ((E4 r1).nv && nvL [])) = true,
      (!r1) = true]) (by kernel_rfl) (cj (spec_Digits_ok s_ r1 h1) (cj rfl (cj1 (nt h2)))))))
def spec_LuhnOk (s_ : ByteArray) : Option (Bool) :=
 (spec_Digits s_).bind fun r1 =>
 if r1 = true then
  if (decide ((s_.size : Int) < 2)) = true then
   some false
  else
   if (decide (0 ≤ (i64 ((s_.size : Int) - 1)))) = true then
    if (decide ((i64 ((s_.size : Int) - 1)) ≤ (s_.size : Int))) = true then
     if (decide (0 ≤ i64 ((s_.size : Int) - 1))) = true then
      if (decide ((i64 ((s_.size : Int) - 1) : Int) < (s_.size : Int))) = true then
       (spec_Luhn (s_.extract 0 (i64 ((s_.size : Int) - 1)).toNat)).bind fun r2 =>
       some (r2 == (i64 ((i64 (sAt s_ (i64 ((s_.size : Int) - 1)))) - 48)))
      else none
     else none
    else none
   else none
 else
  some false
theorem spec_LuhnOk_ok (s_ : ByteArray) : Pn (fun y => Fn Tryz.prog 141 [(false, E9 s_)] (E4 y) []) (spec_LuhnOk s_) := by
  unfold spec_LuhnOk
  exact
   Pn.bind (fun r1 h1 =>
    Pn.ite (fun h2 =>
     Pn.ite (fun h3 =>
      Pn.some (Fn.of [.call [] (E4 r1) [], .bit false, .bit false, .bit false, .bit false, .bit true] (p := [Fn Tryz.prog 159 [(false, E9 s_)] (E4 r1) [],
       (true || ((E4 r1).nv && nvL [])) = true,
       (!r1) = false,
       (!r1) = false,
       (!r1) = false,
       (!r1) = false,
       (decide ((s_.size : Int) < 2)) = true]) (by kernel_rfl) (cj (spec_Digits_ok s_ r1 h1) (cj rfl (cj (nf h2) (cj (nf h2) (cj (nf h2) (cj (nf h2) (cj1 h3))))))))) (fun h3 =>
      Pn.ite (fun h4 =>
       Pn.ite (fun h5 =>
        Pn.ite (fun h6 =>
         Pn.ite (fun h7 =>
          Pn.bind (fun r2 h8 =>
           Pn.some (Fn.of [.call [] (E4 r1) [], .bit false, .bit false, .bit false, .bit false, .bit false, .draw [], .call [] (E3 r2) []] (p := [Fn Tryz.prog 159 [(false, E9 s_)] (E4 r1) [],
            (true || ((E4 r1).nv && nvL [])) = true,
            (!r1) = false,
            (!r1) = false,
            (!r1) = false,
            (!r1) = false,
            (decide ((s_.size : Int) < 2)) = false,
            (0 : Int) ≤ 0,
            (0 : Int) ≤ (i64 ((s_.size : Int) - 1)),
            ((i64 ((s_.size : Int) - 1)) : Int) ≤ (s_.size : Int),
            (0 : Int) ≤ i64 ((s_.size : Int) - 1),
            (i64 ((s_.size : Int) - 1) : Int) < s_.size,
            Fn Tryz.prog 160 [(false, E9 (s_.extract 0 (i64 ((s_.size : Int) - 1)).toNat))] (E3 r2) [],
            (true || ((E3 r2).nv && nvL [])) = true]) (by kernel_rfl) (cj (spec_Digits_ok s_ r1 h1) (cj rfl (cj (nf h2) (cj (nf h2) (cj (nf h2) (cj (nf h2) (cj h3 (cj (by decide) (cj (od h4) (cj (od h5) (cj (od h6) (cj (od h7) (cj (spec_Luhn_ok (s_.extract 0 (i64 ((s_.size : Int) - 1)).toNat) r2 h8) (cj1 rfl))))))))))))))))) (fun h7 =>
          Pn.none)) (fun h6 =>
         Pn.none)) (fun h5 =>
        Pn.none)) (fun h4 =>
       Pn.none))) (fun h2 =>
     Pn.some (Fn.of [.call [] (E4 r1) [], .bit true, .bit true, .bit true, .bit true, .bit true] (p := [Fn Tryz.prog 159 [(false, E9 s_)] (E4 r1) [],
      (true || ((E4 r1).nv && nvL [])) = true,
      (!r1) = true,
      (!r1) = true,
      (!r1) = true,
      (!r1) = true,
      true = true]) (by kernel_rfl) (cj (spec_Digits_ok s_ r1 h1) (cj rfl (cj (nt h2) (cj (nt h2) (cj (nt h2) (cj (nt h2) (cj1 rfl))))))))))
def spec_AcctIdOk (s_ : ByteArray) : Option (Bool) :=
 if (decide ((s_.size : Int) ≤ 19)) = true then
  (spec_LuhnOk s_).bind fun r1 =>
  some r1
 else
  some false
theorem spec_AcctIdOk_ok (s_ : ByteArray) : Pn (fun y => Fn Tryz.prog 98 [(false, E9 s_)] (E4 y) []) (spec_AcctIdOk s_) := by
  unfold spec_AcctIdOk
  exact
   Pn.ite (fun h1 =>
    Pn.bind (fun r1 h2 =>
     Pn.some (Fn.of [.bit true, .bit true, .call [] (E4 r1) [], .bit true] (p := [(decide ((s_.size : Int) ≤ 19)) = true,
      (decide ((s_.size : Int) ≤ 19)) = true,
      Fn Tryz.prog 141 [(false, E9 s_)] (E4 r1) [],
      (true || ((E4 r1).nv && nvL [])) = true,
      (decide ((s_.size : Int) ≤ 19)) = true]) (by kernel_rfl) (cj h1 (cj h1 (cj (spec_LuhnOk_ok s_ r1 h2) (cj rfl (cj1 h1)))))))) (fun h1 =>
    Pn.some (Fn.of [.bit false, .bit false, .bit false] (p := [(decide ((s_.size : Int) ≤ 19)) = false,
     (decide ((s_.size : Int) ≤ 19)) = false,
     (decide ((s_.size : Int) ≤ 19)) = false]) (by kernel_rfl) (cj h1 (cj h1 (cj1 h1)))))
def spec_l01In (n : Int) (lo : Int) (hi : Int) : Option (Bool) :=
 if (decide (lo ≤ n)) = true then
  some (decide (n ≤ hi))
 else
  some false
theorem spec_l01In_ok (n : Int) (lo : Int) (hi : Int) : Pn (fun y => Fn Tryz.prog 70 [(false, E3 n), (false, E3 lo), (false, E3 hi)] (E4 y) []) (spec_l01In n lo hi) := by
  unfold spec_l01In
  exact
   Pn.ite (fun h1 =>
    Pn.some (Fn.of [.bit true, .bit true, .bit true, .bit true] (p := [(decide (lo ≤ n)) = true,
     (decide (lo ≤ n)) = true,
     (decide (lo ≤ n)) = true,
     (decide (lo ≤ n)) = true]) (by kernel_rfl) (cj h1 (cj h1 (cj h1 (cj1 h1)))))) (fun h1 =>
    Pn.some (Fn.of [.bit false, .bit false, .bit false, .bit false] (p := [(decide (lo ≤ n)) = false,
     (decide (lo ≤ n)) = false,
     (decide (lo ≤ n)) = false,
     (decide (lo ≤ n)) = false]) (by kernel_rfl) (cj h1 (cj h1 (cj h1 (cj1 h1))))))
def spec_l01Money (n : Int) : Option (Bool) :=
 if (decide (0 ≤ n)) = true then
  some (decide (n ≤ 4611686018427387904))
 else
  some false
theorem spec_l01Money_ok (n : Int) : Pn (fun y => Fn Tryz.prog 99 [(false, E3 n)] (E4 y) []) (spec_l01Money n) := by
  unfold spec_l01Money
  exact
   Pn.ite (fun h1 =>
    Pn.some (Fn.of [.bit true, .bit true, .bit true] (p := [(decide (0 ≤ n)) = true,
     (decide (0 ≤ n)) = true,
     (decide (0 ≤ n)) = true]) (by kernel_rfl) (cj h1 (cj h1 (cj1 h1))))) (fun h1 =>
    Pn.some (Fn.of [.bit false, .bit false, .bit false] (p := [(decide (0 ≤ n)) = false,
     (decide (0 ≤ n)) = false,
     (decide (0 ≤ n)) = false]) (by kernel_rfl) (cj h1 (cj h1 (cj1 h1)))))
def spec_HoldIdOk_l0 (s_ : ByteArray) : Nat → Int → Option (Lo Unit Unit)
  | 0, _ => none
  | fuel + 1, v1 =>
   if (decide (v1 < (s_.size : Int))) = true then
    if (decide (0 ≤ v1)) = true then
     if (decide ((v1 : Int) < (s_.size : Int))) = true then
      if (decide ((sAt s_ v1) < 48)) = true then
       if (decide ((sAt s_ v1) < 97)) = true then
        some (.ret ())
       else
        if (decide (122 < (sAt s_ v1))) = true then
         some (.ret ())
        else
         spec_HoldIdOk_l0 s_ fuel (i64 (v1 + 1))
      else
       if (decide (57 < (sAt s_ v1))) = true then
        if (decide ((sAt s_ v1) < 97)) = true then
         some (.ret ())
        else
         if (decide (122 < (sAt s_ v1))) = true then
          some (.ret ())
         else
          spec_HoldIdOk_l0 s_ fuel (i64 (v1 + 1))
       else
        spec_HoldIdOk_l0 s_ fuel (i64 (v1 + 1))
     else none
    else none
   else
    some (.out ())
theorem spec_HoldIdOk_l0_ok (s_ : ByteArray) : ∀ (fuel : Nat) (v1 : Int), Pn (LpO Tryz.prog (sub (codeOf Tryz.prog 161) [1, 0, 1, 0, 0]) (st 35 [(0, V.sc (.string s_)), (3, V.sc (.int .i64 v1))] [] []) (fun (y : Lo Unit Unit) => Lo.elim y (fun s => (X.out 0, st 35 [(0, V.sc (.string s_))] [] [])) (fun s => (X.ret, st 35 [(2, V.sc (.bool false))] [] [])))) (spec_HoldIdOk_l0 s_ fuel v1)
  | 0, _ => Pn.none
  | fuel + 1, v1 => by
    unfold spec_HoldIdOk_l0
    exact
     Pn.ite (fun h1 =>
      Pn.ite (fun h2 =>
       Pn.ite (fun h3 =>
        Pn.ite (fun h4 =>
         Pn.ite (fun h5 =>
          Pn.some (LpO.out [.bit true, .bit true, .bit true, .bit true, .bit true, .bit true, .bit true, .bit true, .bit true, .bit true, .bit true, .bit true, .bit true, .bit true, .bit true, .bit true, .bit true, .bit true, .bit true, .wait 1, .mask [2], .ren []] (p := [(decide (v1 < (s_.size : Int))) = true,
           (0 : Int) ≤ v1,
           (v1 : Int) < s_.size,
           (decide ((sAt s_ v1) < 48)) = true,
           (decide ((sAt s_ v1) < 48)) = true,
           (decide ((sAt s_ v1) < 48)) = true,
           (decide ((sAt s_ v1) < 48)) = true,
           (decide ((sAt s_ v1) < 48)) = true,
           true = true,
           true = true,
           true = true,
           (0 : Int) ≤ v1,
           (v1 : Int) < s_.size,
           true = true,
           true = true,
           (decide ((sAt s_ v1) < 97)) = true,
           (decide ((sAt s_ v1) < 97)) = true,
           (decide ((sAt s_ v1) < 97)) = true,
           (decide ((sAt s_ v1) < 97)) = true,
           true = true,
           (decide ((sAt s_ v1) < 97)) = true,
           true = true,
           true = true]) (by kernel_rfl) (show X.ret ≠ X.go from nofun) (cj h1 (cj (od h2) (cj (od h3) (cj h4 (cj h4 (cj h4 (cj h4 (cj h4 (cj rfl (cj rfl (cj rfl (cj (od h2) (cj (od h3) (cj rfl (cj rfl (cj h5 (cj h5 (cj h5 (cj h5 (cj rfl (cj h5 (cj rfl (cj1 rfl))))))))))))))))))))))))) (fun h5 =>
          Pn.ite (fun h6 =>
           Pn.some (LpO.out [.bit true, .bit true, .bit true, .bit true, .bit true, .bit true, .bit true, .bit true, .bit true, .bit true, .bit true, .bit false, .bit false, .bit false, .bit false, .bit true, .bit false, .bit true, .bit true, .wait 1, .mask [2], .ren []] (p := [(decide (v1 < (s_.size : Int))) = true,
            (0 : Int) ≤ v1,
            (v1 : Int) < s_.size,
            (decide ((sAt s_ v1) < 48)) = true,
            (decide ((sAt s_ v1) < 48)) = true,
            (decide ((sAt s_ v1) < 48)) = true,
            (decide ((sAt s_ v1) < 48)) = true,
            (decide ((sAt s_ v1) < 48)) = true,
            true = true,
            true = true,
            true = true,
            (0 : Int) ≤ v1,
            (v1 : Int) < s_.size,
            true = true,
            true = true,
            (decide ((sAt s_ v1) < 97)) = false,
            (decide ((sAt s_ v1) < 97)) = false,
            (decide ((sAt s_ v1) < 97)) = false,
            (0 : Int) ≤ v1,
            (v1 : Int) < s_.size,
            (decide ((sAt s_ v1) < 97)) = false,
            true = true,
            (decide ((sAt s_ v1) < 97)) = false,
            true = true,
            (decide (122 < (sAt s_ v1))) = true]) (by kernel_rfl) (show X.ret ≠ X.go from nofun) (cj h1 (cj (od h2) (cj (od h3) (cj h4 (cj h4 (cj h4 (cj h4 (cj h4 (cj rfl (cj rfl (cj rfl (cj (od h2) (cj (od h3) (cj rfl (cj rfl (cj h5 (cj h5 (cj h5 (cj (od h2) (cj (od h3) (cj h5 (cj rfl (cj h5 (cj rfl (cj1 h6))))))))))))))))))))))))))) (fun h6 =>
           LpO.go [.bit true, .bit true, .bit true, .bit true, .bit true, .bit true, .bit true, .bit true, .bit true, .bit true, .bit true, .bit false, .bit false, .bit false, .bit false, .bit true, .bit false, .bit true, .bit false, .wait 3, .mask [0, 3], .ren []] (p := [(decide (v1 < (s_.size : Int))) = true,
            (0 : Int) ≤ v1,
            (v1 : Int) < s_.size,
            (decide ((sAt s_ v1) < 48)) = true,
            (decide ((sAt s_ v1) < 48)) = true,
            (decide ((sAt s_ v1) < 48)) = true,
            (decide ((sAt s_ v1) < 48)) = true,
            (decide ((sAt s_ v1) < 48)) = true,
            true = true,
            true = true,
            true = true,
            (0 : Int) ≤ v1,
            (v1 : Int) < s_.size,
            true = true,
            true = true,
            (decide ((sAt s_ v1) < 97)) = false,
            (decide ((sAt s_ v1) < 97)) = false,
            (decide ((sAt s_ v1) < 97)) = false,
            (0 : Int) ≤ v1,
            (v1 : Int) < s_.size,
            (decide ((sAt s_ v1) < 97)) = false,
            true = true,
            (decide ((sAt s_ v1) < 97)) = false,
            true = true,
            (decide (122 < (sAt s_ v1))) = false]) (by kernel_rfl) (cj h1 (cj (od h2) (cj (od h3) (cj h4 (cj h4 (cj h4 (cj h4 (cj h4 (cj rfl (cj rfl (cj rfl (cj (od h2) (cj (od h3) (cj rfl (cj rfl (cj h5 (cj h5 (cj h5 (cj (od h2) (cj (od h3) (cj h5 (cj rfl (cj h5 (cj rfl (cj1 h6))))))))))))))))))))))))) (spec_HoldIdOk_l0_ok s_ fuel (i64 (v1 + 1)))))) (fun h4 =>
         Pn.ite (fun h7 =>
          Pn.ite (fun h8 =>
           Pn.some (LpO.out [.bit true, .bit false, .bit false, .bit false, .bit false, .bit false, .bit true, .bit true, .bit true, .bit true, .bit true, .bit true, .bit true, .bit true, .bit true, .bit true, .bit true, .bit true, .bit true, .wait 1, .mask [2], .ren []] (p := [(decide (v1 < (s_.size : Int))) = true,
            (0 : Int) ≤ v1,
            (v1 : Int) < s_.size,
            (decide ((sAt s_ v1) < 48)) = false,
            (decide ((sAt s_ v1) < 48)) = false,
            (decide ((sAt s_ v1) < 48)) = false,
            (0 : Int) ≤ v1,
            (v1 : Int) < s_.size,
            (decide ((sAt s_ v1) < 48)) = false,
            (decide ((sAt s_ v1) < 48)) = false,
            (decide (57 < (sAt s_ v1))) = true,
            (decide (57 < (sAt s_ v1))) = true,
            (decide (57 < (sAt s_ v1))) = true,
            (0 : Int) ≤ v1,
            (v1 : Int) < s_.size,
            (decide (57 < (sAt s_ v1))) = true,
            (decide (57 < (sAt s_ v1))) = true,
            (decide ((sAt s_ v1) < 97)) = true,
            (decide ((sAt s_ v1) < 97)) = true,
            (decide ((sAt s_ v1) < 97)) = true,
            (decide ((sAt s_ v1) < 97)) = true,
            (decide (57 < (sAt s_ v1))) = true,
            (decide ((sAt s_ v1) < 97)) = true,
            (decide (57 < (sAt s_ v1))) = true,
            true = true]) (by kernel_rfl) (show X.ret ≠ X.go from nofun) (cj h1 (cj (od h2) (cj (od h3) (cj h4 (cj h4 (cj h4 (cj (od h2) (cj (od h3) (cj h4 (cj h4 (cj h7 (cj h7 (cj h7 (cj (od h2) (cj (od h3) (cj h7 (cj h7 (cj h8 (cj h8 (cj h8 (cj h8 (cj h7 (cj h8 (cj h7 (cj1 rfl))))))))))))))))))))))))))) (fun h8 =>
           Pn.ite (fun h9 =>
            Pn.some (LpO.out [.bit true, .bit false, .bit false, .bit false, .bit false, .bit false, .bit true, .bit true, .bit true, .bit true, .bit true, .bit false, .bit false, .bit false, .bit false, .bit true, .bit false, .bit true, .bit true, .wait 1, .mask [2], .ren []] (p := [(decide (v1 < (s_.size : Int))) = true,
             (0 : Int) ≤ v1,
             (v1 : Int) < s_.size,
             (decide ((sAt s_ v1) < 48)) = false,
             (decide ((sAt s_ v1) < 48)) = false,
             (decide ((sAt s_ v1) < 48)) = false,
             (0 : Int) ≤ v1,
             (v1 : Int) < s_.size,
             (decide ((sAt s_ v1) < 48)) = false,
             (decide ((sAt s_ v1) < 48)) = false,
             (decide (57 < (sAt s_ v1))) = true,
             (decide (57 < (sAt s_ v1))) = true,
             (decide (57 < (sAt s_ v1))) = true,
             (0 : Int) ≤ v1,
             (v1 : Int) < s_.size,
             (decide (57 < (sAt s_ v1))) = true,
             (decide (57 < (sAt s_ v1))) = true,
             (decide ((sAt s_ v1) < 97)) = false,
             (decide ((sAt s_ v1) < 97)) = false,
             (decide ((sAt s_ v1) < 97)) = false,
             (0 : Int) ≤ v1,
             (v1 : Int) < s_.size,
             (decide ((sAt s_ v1) < 97)) = false,
             (decide (57 < (sAt s_ v1))) = true,
             (decide ((sAt s_ v1) < 97)) = false,
             (decide (57 < (sAt s_ v1))) = true,
             (decide (122 < (sAt s_ v1))) = true]) (by kernel_rfl) (show X.ret ≠ X.go from nofun) (cj h1 (cj (od h2) (cj (od h3) (cj h4 (cj h4 (cj h4 (cj (od h2) (cj (od h3) (cj h4 (cj h4 (cj h7 (cj h7 (cj h7 (cj (od h2) (cj (od h3) (cj h7 (cj h7 (cj h8 (cj h8 (cj h8 (cj (od h2) (cj (od h3) (cj h8 (cj h7 (cj h8 (cj h7 (cj1 h9))))))))))))))))))))))))))))) (fun h9 =>
            LpO.go [.bit true, .bit false, .bit false, .bit false, .bit false, .bit false, .bit true, .bit true, .bit true, .bit true, .bit true, .bit false, .bit false, .bit false, .bit false, .bit true, .bit false, .bit true, .bit false, .wait 3, .mask [0, 3], .ren []] (p := [(decide (v1 < (s_.size : Int))) = true,
             (0 : Int) ≤ v1,
             (v1 : Int) < s_.size,
             (decide ((sAt s_ v1) < 48)) = false,
             (decide ((sAt s_ v1) < 48)) = false,
             (decide ((sAt s_ v1) < 48)) = false,
             (0 : Int) ≤ v1,
             (v1 : Int) < s_.size,
             (decide ((sAt s_ v1) < 48)) = false,
             (decide ((sAt s_ v1) < 48)) = false,
             (decide (57 < (sAt s_ v1))) = true,
             (decide (57 < (sAt s_ v1))) = true,
             (decide (57 < (sAt s_ v1))) = true,
             (0 : Int) ≤ v1,
             (v1 : Int) < s_.size,
             (decide (57 < (sAt s_ v1))) = true,
             (decide (57 < (sAt s_ v1))) = true,
             (decide ((sAt s_ v1) < 97)) = false,
             (decide ((sAt s_ v1) < 97)) = false,
             (decide ((sAt s_ v1) < 97)) = false,
             (0 : Int) ≤ v1,
             (v1 : Int) < s_.size,
             (decide ((sAt s_ v1) < 97)) = false,
             (decide (57 < (sAt s_ v1))) = true,
             (decide ((sAt s_ v1) < 97)) = false,
             (decide (57 < (sAt s_ v1))) = true,
             (decide (122 < (sAt s_ v1))) = false]) (by kernel_rfl) (cj h1 (cj (od h2) (cj (od h3) (cj h4 (cj h4 (cj h4 (cj (od h2) (cj (od h3) (cj h4 (cj h4 (cj h7 (cj h7 (cj h7 (cj (od h2) (cj (od h3) (cj h7 (cj h7 (cj h8 (cj h8 (cj h8 (cj (od h2) (cj (od h3) (cj h8 (cj h7 (cj h8 (cj h7 (cj1 h9))))))))))))))))))))))))))) (spec_HoldIdOk_l0_ok s_ fuel (i64 (v1 + 1)))))) (fun h7 =>
          LpO.go [.bit true, .bit false, .bit false, .bit false, .bit false, .bit false, .bit false, .bit false, .bit false, .bit false, .bit false, .bit false, .bit false, .bit false, .wait 3, .mask [0, 3], .ren []] (p := [(decide (v1 < (s_.size : Int))) = true,
           (0 : Int) ≤ v1,
           (v1 : Int) < s_.size,
           (decide ((sAt s_ v1) < 48)) = false,
           (decide ((sAt s_ v1) < 48)) = false,
           (decide ((sAt s_ v1) < 48)) = false,
           (0 : Int) ≤ v1,
           (v1 : Int) < s_.size,
           (decide ((sAt s_ v1) < 48)) = false,
           (decide ((sAt s_ v1) < 48)) = false,
           (decide (57 < (sAt s_ v1))) = false,
           (decide (57 < (sAt s_ v1))) = false,
           (decide (57 < (sAt s_ v1))) = false,
           (decide (57 < (sAt s_ v1))) = false,
           (decide (57 < (sAt s_ v1))) = false,
           (decide (57 < (sAt s_ v1))) = false,
           (decide (57 < (sAt s_ v1))) = false,
           false = false]) (by kernel_rfl) (cj h1 (cj (od h2) (cj (od h3) (cj h4 (cj h4 (cj h4 (cj (od h2) (cj (od h3) (cj h4 (cj h4 (cj h7 (cj h7 (cj h7 (cj h7 (cj h7 (cj h7 (cj h7 (cj1 rfl)))))))))))))))))) (spec_HoldIdOk_l0_ok s_ fuel (i64 (v1 + 1)))))) (fun h3 =>
        Pn.none)) (fun h2 =>
       Pn.none)) (fun h1 =>
      Pn.some (LpO.out [.bit false, .mask [0], .ren []] (p := [(decide (v1 < (s_.size : Int))) = false]) (by kernel_rfl) (show X.out 0 ≠ X.go from nofun) (cj1 h1)))
def spec_HoldIdOk (s_ : ByteArray) : Option (Bool) :=
 (spec_HoldIdOk_l0 s_ FUEL 0).bind fun r1 =>
 Lo.elim r1 (fun s1 =>
  (spec_l01In (s_.size : Int) 1 6).bind fun r2 =>
  some r2) (fun s2 =>
  some false)
theorem spec_HoldIdOk_ok (s_ : ByteArray) : Pn (fun y => Fn Tryz.prog 161 [(false, E9 s_)] (E4 y) []) (spec_HoldIdOk s_) := by
  unfold spec_HoldIdOk
  exact
   Pn.bind (fun r1 h10 =>
    Pn.lo (fun s1 h11 =>
     Pn.bind (fun r2 h13 =>
      Pn.some (Fn.of [.wait 3, .mask [0, 3], .ren [], .loop (X.out 0) (st 35 [(0, V.sc (.string s_))] [] []), .call [] (E4 r2) []] (p := [Loop Tryz.prog (sub (codeOf Tryz.prog 161) [1, 0, 1, 0, 0]) (st 35 [(0, V.sc (.string s_)), (3, V.sc (.int .i64 0))] [] []) (X.out 0) (st 35 [(0, V.sc (.string s_))] [] []),
       Fn Tryz.prog 70 [(false, E3 (s_.size : Int)), (false, E3 1), (false, E3 6)] (E4 r2) [],
       (true || ((E4 r2).nv && nvL [])) = true]) (by kernel_rfl) (cj ((spec_HoldIdOk_l0_ok s_ FUEL 0 r1 h10).at h11) (cj (spec_l01In_ok (s_.size : Int) 1 6 r2 h13) (cj1 rfl)))))) (fun s2 h12 =>
     Pn.some (Fn.of [.wait 3, .mask [0, 3], .ren [], .loop (X.ret) (st 35 [(2, V.sc (.bool false))] [] [])] (p := [Loop Tryz.prog (sub (codeOf Tryz.prog 161) [1, 0, 1, 0, 0]) (st 35 [(0, V.sc (.string s_)), (3, V.sc (.int .i64 0))] [] []) (X.ret) (st 35 [(2, V.sc (.bool false))] [] [])]) (by kernel_rfl) (cj1 ((spec_HoldIdOk_l0_ok s_ FUEL 0 r1 h10).at h12)))))
def spec_l06Time (n : Int) : Option (Bool) :=
 (spec_l01In n 0 1000000000).bind fun r1 =>
 some r1
theorem spec_l06Time_ok (n : Int) : Pn (fun y => Fn Tryz.prog 86 [(false, E3 n)] (E4 y) []) (spec_l06Time n) := by
  unfold spec_l06Time
  exact
   Pn.bind (fun r1 h1 =>
    Pn.some (Fn.of [.call [] (E4 r1) []] (p := [Fn Tryz.prog 70 [(false, E3 n), (false, E3 0), (false, E3 1000000000)] (E4 r1) [],
     (true || ((E4 r1).nv && nvL [])) = true]) (by kernel_rfl) (cj (spec_l01In_ok n 0 1000000000 r1 h1) (cj1 rfl))))
def spec_HoldOk (h_ : Hold) : Option (Bool) :=
 (spec_HoldIdOk h_.Id).bind fun r1 =>
 if r1 = true then
  (spec_l01In h_.Amount 1 9007199254740992).bind fun r2 =>
  if r2 = true then
   (spec_l06Time h_.Due).bind fun r3 =>
   some r3
  else
   some false
 else
  some false
theorem spec_HoldOk_ok (h_ : Hold) : Pn (fun y => Fn Tryz.prog 142 [(false, E129 h_)] (E4 y) []) (spec_HoldOk h_) := by
  unfold spec_HoldOk
  exact
   Pn.bind (fun r1 h1 =>
    Pn.ite (fun h2 =>
     Pn.bind (fun r2 h3 =>
      Pn.ite (fun h4 =>
       Pn.bind (fun r3 h5 =>
        Pn.some (Fn.of [.call [] (E4 r1) [], .bit true, .bit true, .bit true, .call [] (E4 r2) [], .bit true, .bit true, .bit true, .bit true, .call [] (E4 r3) [], .bit true] (p := [Fn Tryz.prog 161 [(false, E9 h_.Id)] (E4 r1) [],
         (true || ((E4 r1).nv && nvL [])) = true,
         r1 = true,
         r1 = true,
         r1 = true,
         Fn Tryz.prog 70 [(false, E3 h_.Amount), (false, E3 1), (false, E3 9007199254740992)] (E4 r2) [],
         (true || ((E4 r2).nv && nvL [])) = true,
         r1 = true,
         r2 = true,
         r2 = true,
         r2 = true,
         Fn Tryz.prog 86 [(false, E3 h_.Due)] (E4 r3) [],
         (true || ((E4 r3).nv && nvL [])) = true,
         r2 = true]) (by kernel_rfl) (cj (spec_HoldIdOk_ok h_.Id r1 h1) (cj rfl (cj h2 (cj h2 (cj h2 (cj (spec_l01In_ok h_.Amount 1 9007199254740992 r2 h3) (cj rfl (cj h2 (cj h4 (cj h4 (cj h4 (cj (spec_l06Time_ok h_.Due r3 h5) (cj rfl (cj1 h4))))))))))))))))) (fun h4 =>
       Pn.some (Fn.of [.call [] (E4 r1) [], .bit true, .bit true, .bit true, .call [] (E4 r2) [], .bit true, .bit false, .bit false, .bit false, .bit false] (p := [Fn Tryz.prog 161 [(false, E9 h_.Id)] (E4 r1) [],
        (true || ((E4 r1).nv && nvL [])) = true,
        r1 = true,
        r1 = true,
        r1 = true,
        Fn Tryz.prog 70 [(false, E3 h_.Amount), (false, E3 1), (false, E3 9007199254740992)] (E4 r2) [],
        (true || ((E4 r2).nv && nvL [])) = true,
        r1 = true,
        r2 = false,
        r2 = false,
        r2 = false,
        r2 = false]) (by kernel_rfl) (cj (spec_HoldIdOk_ok h_.Id r1 h1) (cj rfl (cj h2 (cj h2 (cj h2 (cj (spec_l01In_ok h_.Amount 1 9007199254740992 r2 h3) (cj rfl (cj h2 (cj h4 (cj h4 (cj h4 (cj1 h4)))))))))))))))) (fun h2 =>
     Pn.some (Fn.of [.call [] (E4 r1) [], .bit false, .bit false, .bit false, .bit false, .bit false, .bit false, .bit false, .bit false] (p := [Fn Tryz.prog 161 [(false, E9 h_.Id)] (E4 r1) [],
      (true || ((E4 r1).nv && nvL [])) = true,
      r1 = false,
      r1 = false,
      r1 = false,
      r1 = false,
      false = false,
      false = false,
      false = false,
      false = false]) (by kernel_rfl) (cj (spec_HoldIdOk_ok h_.Id r1 h1) (cj rfl (cj h2 (cj h2 (cj h2 (cj h2 (cj rfl (cj rfl (cj rfl (cj1 rfl)))))))))))))
def spec_HoldsOk_l0 (l : List Hold) : List Hold → List Hold → Option (Lo Unit Unit)
  | [], p1 =>
   some (.out ())
  | x1 :: t1, p1 =>
   (spec_HoldOk x1).bind fun r1 =>
   if r1 = true then
    if (decide (0 < (p1.length : Int))) = true then
     if (decide (0 ≤ (i64 ((p1.length : Int) - 1)))) = true then
      (l[(i64 ((p1.length : Int) - 1)).toNat]?).bind fun x2 =>
      if (Op.bytesLess x2.Id.toList x1.Id.toList) = true then
       spec_HoldsOk_l0 l t1 (p1 ++ [x1])
      else
       some (.ret ())
     else none
    else
     spec_HoldsOk_l0 l t1 (p1 ++ [x1])
   else
    some (.ret ())
theorem spec_HoldsOk_l0_ok (l : List Hold) (h2 : capOk l.length = true) : ∀ (t1 p1 : List Hold) (_ : l = p1 ++ t1) , Pn (LpO Tryz.prog (sub (codeOf Tryz.prog 100) [1, 0, 1, 0, 0]) (st 34 [(0, V.sl false 129 (List.map E129 l)), (5, V.sl false 129 (List.map E129 l)), (6, V.sc (.int .i64 (l.length : Int))), (7, V.sc (.int .i64 (p1.length : Int)))] [] []) (fun (y : Lo Unit Unit) => Lo.elim y (fun s => (X.out 0, st 34 [(0, V.sl false 129 (List.map E129 l))] [] [])) (fun s => (X.ret, st 34 [(2, V.sc (.bool false))] [] [])))) (spec_HoldsOk_l0 l t1 p1)
  | [], p1, h1 => by
    unfold spec_HoldsOk_l0
    exact
     Pn.some (LpO.out [.bit false, .mask [0], .ren []] (p := [(decide ((p1.length : Int) < (l.length : Int))) = false]) (by kernel_rfl) (show X.out 0 ≠ X.go from nofun) (cj1 (rng_end h1)))
  | x1 :: t1, p1, h1 => by
    unfold spec_HoldsOk_l0
    exact
     Pn.bind (fun r1 h3 =>
      Pn.ite (fun h4 =>
       Pn.ite (fun h5 =>
        Pn.ite (fun h6 =>
         Pn.bind (fun x2 h7 =>
          Pn.ite (fun h8 =>
           LpO.go [.bit true, .el (E129 x1), .draw [], .call [] (E4 r1) [], .bit false, .bit false, .bit false, .bit true, .bit true, .bit true, .bit true, .el (E129 x2), .bit true, .bit true, .bit true, .bit true, .bit true, .bit false, .bit true, .bit false, .bit false, .wait 2, .mask [0, 5, 6, 7], .ren [], .nm 7 (V.sc (.int .i64 ((p1 ++ [x1]).length : Int)))] (p := [(decide ((p1.length : Int) < (l.length : Int))) = true,
            (0 : Int) ≤ (p1.length : Int),
            (List.map E129 l)[(p1.length : Int).toNat]? = some (E129 x1),
            Fn Tryz.prog 142 [(false, E129 x1)] (E4 r1) [],
            (true || ((E4 r1).nv && nvL [])) = true,
            (!r1) = false,
            (!r1) = false,
            (!r1) = false,
            (decide (0 < (p1.length : Int))) = true,
            (decide (0 < (p1.length : Int))) = true,
            (decide (0 < (p1.length : Int))) = true,
            (decide (0 < (p1.length : Int))) = true,
            (0 : Int) ≤ (i64 ((p1.length : Int) - 1)),
            (List.map E129 l)[(i64 ((p1.length : Int) - 1)).toNat]? = some (E129 x2),
            (decide (0 < (p1.length : Int))) = true,
            (decide (0 < (p1.length : Int))) = true,
            (decide (0 < (p1.length : Int))) = true,
            (decide (0 < (p1.length : Int))) = true,
            (decide (0 < (p1.length : Int))) = true,
            (!r1) = false,
            (decide (0 < (p1.length : Int))) = true,
            (!r1) = false,
            (!(Op.bytesLess x2.Id.toList x1.Id.toList)) = false,
            V.sc (.int .i64 (i64 ((p1.length : Int) + 1))) = V.sc (.int .i64 ((p1 ++ [x1]).length : Int))]) (by kernel_rfl) (cj (rng_lt h1) (cj (by omega) (cj (rng_get _ h1) (cj (spec_HoldOk_ok x1 r1 h3) (cj rfl (cj (nf h4) (cj (nf h4) (cj (nf h4) (cj h5 (cj h5 (cj h5 (cj h5 (cj (od h6) (cj (map_get h7) (cj h5 (cj h5 (cj h5 (cj h5 (cj h5 (cj (nf h4) (cj h5 (cj (nf h4) (cj (nf h8) (cj1 (rng_next h1 h2))))))))))))))))))))))))) (spec_HoldsOk_l0_ok l h2 t1 (p1 ++ [x1]) (rng_step h1))) (fun h8 =>
           Pn.some (LpO.out [.bit true, .el (E129 x1), .draw [], .call [] (E4 r1) [], .bit false, .bit false, .bit false, .bit true, .bit true, .bit true, .bit true, .el (E129 x2), .bit true, .bit true, .bit true, .bit true, .bit true, .bit false, .bit true, .bit false, .bit true, .wait 1, .mask [2], .ren []] (p := [(decide ((p1.length : Int) < (l.length : Int))) = true,
            (0 : Int) ≤ (p1.length : Int),
            (List.map E129 l)[(p1.length : Int).toNat]? = some (E129 x1),
            Fn Tryz.prog 142 [(false, E129 x1)] (E4 r1) [],
            (true || ((E4 r1).nv && nvL [])) = true,
            (!r1) = false,
            (!r1) = false,
            (!r1) = false,
            (decide (0 < (p1.length : Int))) = true,
            (decide (0 < (p1.length : Int))) = true,
            (decide (0 < (p1.length : Int))) = true,
            (decide (0 < (p1.length : Int))) = true,
            (0 : Int) ≤ (i64 ((p1.length : Int) - 1)),
            (List.map E129 l)[(i64 ((p1.length : Int) - 1)).toNat]? = some (E129 x2),
            (decide (0 < (p1.length : Int))) = true,
            (decide (0 < (p1.length : Int))) = true,
            (decide (0 < (p1.length : Int))) = true,
            (decide (0 < (p1.length : Int))) = true,
            (decide (0 < (p1.length : Int))) = true,
            (!r1) = false,
            (decide (0 < (p1.length : Int))) = true,
            (!r1) = false,
            (!(Op.bytesLess x2.Id.toList x1.Id.toList)) = true]) (by kernel_rfl) (show X.ret ≠ X.go from nofun) (cj (rng_lt h1) (cj (by omega) (cj (rng_get _ h1) (cj (spec_HoldOk_ok x1 r1 h3) (cj rfl (cj (nf h4) (cj (nf h4) (cj (nf h4) (cj h5 (cj h5 (cj h5 (cj h5 (cj (od h6) (cj (map_get h7) (cj h5 (cj h5 (cj h5 (cj h5 (cj h5 (cj (nf h4) (cj h5 (cj (nf h4) (cj1 (nt h8)))))))))))))))))))))))))))) (fun h6 =>
         Pn.none)) (fun h5 =>
        LpO.go [.bit true, .el (E129 x1), .draw [], .call [] (E4 r1) [], .bit false, .bit false, .bit false, .bit false, .bit false, .bit false, .bit false, .bit false, .bit false, .bit false, .bit false, .bit false, .bit false, .bit false, .bit false, .bit false, .wait 2, .mask [0, 5, 6, 7], .ren [], .nm 7 (V.sc (.int .i64 ((p1 ++ [x1]).length : Int)))] (p := [(decide ((p1.length : Int) < (l.length : Int))) = true,
         (0 : Int) ≤ (p1.length : Int),
         (List.map E129 l)[(p1.length : Int).toNat]? = some (E129 x1),
         Fn Tryz.prog 142 [(false, E129 x1)] (E4 r1) [],
         (true || ((E4 r1).nv && nvL [])) = true,
         (!r1) = false,
         (!r1) = false,
         (!r1) = false,
         (decide (0 < (p1.length : Int))) = false,
         (decide (0 < (p1.length : Int))) = false,
         (decide (0 < (p1.length : Int))) = false,
         (decide (0 < (p1.length : Int))) = false,
         (decide (0 < (p1.length : Int))) = false,
         (decide (0 < (p1.length : Int))) = false,
         (decide (0 < (p1.length : Int))) = false,
         (decide (0 < (p1.length : Int))) = false,
         (decide (0 < (p1.length : Int))) = false,
         (!r1) = false,
         (decide (0 < (p1.length : Int))) = false,
         (!r1) = false,
         false = false,
         V.sc (.int .i64 (i64 ((p1.length : Int) + 1))) = V.sc (.int .i64 ((p1 ++ [x1]).length : Int))]) (by kernel_rfl) (cj (rng_lt h1) (cj (by omega) (cj (rng_get _ h1) (cj (spec_HoldOk_ok x1 r1 h3) (cj rfl (cj (nf h4) (cj (nf h4) (cj (nf h4) (cj h5 (cj h5 (cj h5 (cj h5 (cj h5 (cj h5 (cj h5 (cj h5 (cj h5 (cj (nf h4) (cj h5 (cj (nf h4) (cj rfl (cj1 (rng_next h1 h2))))))))))))))))))))))) (spec_HoldsOk_l0_ok l h2 t1 (p1 ++ [x1]) (rng_step h1)))) (fun h4 =>
       Pn.some (LpO.out [.bit true, .el (E129 x1), .draw [], .call [] (E4 r1) [], .bit true, .bit true, .bit true, .bit true, .bit true, .bit true, .wait 1, .mask [2], .ren []] (p := [(decide ((p1.length : Int) < (l.length : Int))) = true,
        (0 : Int) ≤ (p1.length : Int),
        (List.map E129 l)[(p1.length : Int).toNat]? = some (E129 x1),
        Fn Tryz.prog 142 [(false, E129 x1)] (E4 r1) [],
        (true || ((E4 r1).nv && nvL [])) = true,
        (!r1) = true,
        (!r1) = true,
        (!r1) = true,
        (!r1) = true,
        (!r1) = true,
        true = true]) (by kernel_rfl) (show X.ret ≠ X.go from nofun) (cj (rng_lt h1) (cj (by omega) (cj (rng_get _ h1) (cj (spec_HoldOk_ok x1 r1 h3) (cj rfl (cj (nt h4) (cj (nt h4) (cj (nt h4) (cj (nt h4) (cj (nt h4) (cj1 rfl))))))))))))))
def spec_HoldsOk (l : List Hold) : Option (Bool) :=
 if (capOk l.length) = true then
  (spec_HoldsOk_l0 l l []).bind fun r2 =>
  Lo.elim r2 (fun s1 =>
   some (decide ((l.length : Int) ≤ 4))) (fun s2 =>
   some false)
 else none
theorem spec_HoldsOk_ok (l : List Hold) : Pn (fun y => Fn Tryz.prog 100 [(false, E44 l)] (E4 y) []) (spec_HoldsOk l) := by
  unfold spec_HoldsOk
  exact
   Pn.ite (fun h9 =>
    Pn.bind (fun r2 h10 =>
     Pn.lo (fun s1 h11 =>
      Pn.some (Fn.of [.wait 3, .nm 6 (V.sc (.int .i64 (l.length : Int))), .wait 2, .mask [0, 5, 6, 7], .ren [], .loop (X.out 0) (st 34 [(0, V.sl false 129 (List.map E129 l))] [] []), .wait 2, .nm 32 (V.sc (.int .i64 (l.length : Int)))] (p := [V.sc (.int .i64 ((List.map E129 l).length : Int)) = V.sc (.int .i64 (l.length : Int)),
       Loop Tryz.prog (sub (codeOf Tryz.prog 100) [1, 0, 1, 0, 0]) (st 34 [(0, V.sl false 129 (List.map E129 l)), (5, V.sl false 129 (List.map E129 l)), (6, V.sc (.int .i64 (l.length : Int))), (7, V.sc (.int .i64 0))] [] []) (X.out 0) (st 34 [(0, V.sl false 129 (List.map E129 l))] [] []),
       V.sc (.int .i64 ((List.map E129 l).length : Int)) = V.sc (.int .i64 (l.length : Int))]) (by kernel_rfl) (cj (len_nm _ _) (cj ((spec_HoldsOk_l0_ok l h9 l [] rfl r2 h10).at h11) (cj1 (len_nm _ _)))))) (fun s2 h12 =>
      Pn.some (Fn.of [.wait 3, .nm 6 (V.sc (.int .i64 (l.length : Int))), .wait 2, .mask [0, 5, 6, 7], .ren [], .loop (X.ret) (st 34 [(2, V.sc (.bool false))] [] [])] (p := [V.sc (.int .i64 ((List.map E129 l).length : Int)) = V.sc (.int .i64 (l.length : Int)),
       Loop Tryz.prog (sub (codeOf Tryz.prog 100) [1, 0, 1, 0, 0]) (st 34 [(0, V.sl false 129 (List.map E129 l)), (5, V.sl false 129 (List.map E129 l)), (6, V.sc (.int .i64 (l.length : Int))), (7, V.sc (.int .i64 0))] [] []) (X.ret) (st 34 [(2, V.sc (.bool false))] [] [])]) (by kernel_rfl) (cj (len_nm _ _) (cj1 ((spec_HoldsOk_l0_ok l h9 l [] rfl r2 h10).at h12))))))) (fun h9 =>
    Pn.none)
def spec_RingOk_l0 (r_ : Ring) : List Int → List Int → Option (Lo Unit Unit)
  | [], p1 =>
   some (.out ())
  | x1 :: t1, p1 =>
   (spec_l01Money x1).bind fun r4 =>
   if r4 = true then
    (r_.Sums[(p1.length : Int).toNat]?).bind fun x2 =>
    (spec_l01Money x2).bind fun r5 =>
    if r5 = true then
     spec_RingOk_l0 r_ t1 (p1 ++ [x1])
    else
     some (.ret ())
   else
    some (.ret ())
theorem spec_RingOk_l0_ok (r_ : Ring) (h9 : capOk r_.Counts.length = true) : ∀ (t1 p1 : List Int) (_ : r_.Counts = p1 ++ t1) , Pn (LpO Tryz.prog (sub (codeOf Tryz.prog 101) [1, 1, 0, 1, 0, 0]) (st 53 [(1, V.ptr 0 0), (32, V.sc (.int .i64 (r_.Counts.length : Int))), (33, V.sc (.int .i64 (p1.length : Int)))] [Blk.box 45 [V.sc (.int .i64 r_.Span), V.sc (.int .i64 r_.Head), V.sl false 3 (List.map E3 r_.Counts), V.sl false 3 (List.map E3 r_.Sums)]] []) (fun (y : Lo Unit Unit) => Lo.elim y (fun s => (X.out 0, st 53 [] [] [])) (fun s => (X.ret, st 53 [(2, V.sc (.bool false))] [] [])))) (spec_RingOk_l0 r_ t1 p1)
  | [], p1, h8 => by
    unfold spec_RingOk_l0
    exact
     Pn.some (LpO.out [.bit false, .mask [], .ren []] (p := [(decide ((p1.length : Int) < (r_.Counts.length : Int))) = false]) (by kernel_rfl) (show X.out 0 ≠ X.go from nofun) (cj1 (rng_end h8)))
  | x1 :: t1, p1, h8 => by
    unfold spec_RingOk_l0
    exact
     Pn.bind (fun r4 h10 =>
      Pn.ite (fun h11 =>
       Pn.bind (fun x2 h12 =>
        Pn.bind (fun r5 h13 =>
         Pn.ite (fun h14 =>
          LpO.go [.bit true, .el (E3 x1), .call [] (E4 r4) [], .bit false, .bit false, .bit false, .bit false, .el (E3 x2), .bit false, .bit false, .call [] (E4 r5) [], .bit false, .bit false, .bit false, .wait 2, .mask [1, 32, 33], .ren [0], .nm 33 (V.sc (.int .i64 ((p1 ++ [x1]).length : Int)))] (p := [(decide ((p1.length : Int) < (r_.Counts.length : Int))) = true,
           (0 : Int) ≤ (p1.length : Int),
           (List.map E3 r_.Counts)[(p1.length : Int).toNat]? = some (E3 x1),
           Fn Tryz.prog 99 [(false, E3 x1)] (E4 r4) [],
           (true || ((E4 r4).nv && nvL [])) = true,
           (!r4) = false,
           (!r4) = false,
           (!r4) = false,
           (!r4) = false,
           (0 : Int) ≤ (p1.length : Int),
           (List.map E3 r_.Sums)[(p1.length : Int).toNat]? = some (E3 x2),
           (!r4) = false,
           (!r4) = false,
           Fn Tryz.prog 99 [(false, E3 x2)] (E4 r5) [],
           (true || ((E4 r5).nv && nvL [])) = true,
           (!r4) = false,
           (!r4) = false,
           (!r5) = false,
           V.sc (.int .i64 (i64 ((p1.length : Int) + 1))) = V.sc (.int .i64 ((p1 ++ [x1]).length : Int))]) (by kernel_rfl) (cj (rng_lt h8) (cj (by omega) (cj (rng_get _ h8) (cj (spec_l01Money_ok x1 r4 h10) (cj rfl (cj (nf h11) (cj (nf h11) (cj (nf h11) (cj (nf h11) (cj (by omega) (cj (map_get h12) (cj (nf h11) (cj (nf h11) (cj (spec_l01Money_ok x2 r5 h13) (cj rfl (cj (nf h11) (cj (nf h11) (cj (nf h14) (cj1 (rng_next h8 h9)))))))))))))))))))) (spec_RingOk_l0_ok r_ h9 t1 (p1 ++ [x1]) (rng_step h8))) (fun h14 =>
          Pn.some (LpO.out [.bit true, .el (E3 x1), .call [] (E4 r4) [], .bit false, .bit false, .bit false, .bit false, .el (E3 x2), .bit false, .bit false, .call [] (E4 r5) [], .bit false, .bit false, .bit true, .wait 1, .mask [2], .ren []] (p := [(decide ((p1.length : Int) < (r_.Counts.length : Int))) = true,
           (0 : Int) ≤ (p1.length : Int),
           (List.map E3 r_.Counts)[(p1.length : Int).toNat]? = some (E3 x1),
           Fn Tryz.prog 99 [(false, E3 x1)] (E4 r4) [],
           (true || ((E4 r4).nv && nvL [])) = true,
           (!r4) = false,
           (!r4) = false,
           (!r4) = false,
           (!r4) = false,
           (0 : Int) ≤ (p1.length : Int),
           (List.map E3 r_.Sums)[(p1.length : Int).toNat]? = some (E3 x2),
           (!r4) = false,
           (!r4) = false,
           Fn Tryz.prog 99 [(false, E3 x2)] (E4 r5) [],
           (true || ((E4 r5).nv && nvL [])) = true,
           (!r4) = false,
           (!r4) = false,
           (!r5) = true]) (by kernel_rfl) (show X.ret ≠ X.go from nofun) (cj (rng_lt h8) (cj (by omega) (cj (rng_get _ h8) (cj (spec_l01Money_ok x1 r4 h10) (cj rfl (cj (nf h11) (cj (nf h11) (cj (nf h11) (cj (nf h11) (cj (by omega) (cj (map_get h12) (cj (nf h11) (cj (nf h11) (cj (spec_l01Money_ok x2 r5 h13) (cj rfl (cj (nf h11) (cj (nf h11) (cj1 (nt h14)))))))))))))))))))))))) (fun h11 =>
       Pn.some (LpO.out [.bit true, .el (E3 x1), .call [] (E4 r4) [], .bit true, .bit true, .bit true, .bit true, .bit true, .bit true, .bit true, .bit true, .bit true, .wait 1, .mask [2], .ren []] (p := [(decide ((p1.length : Int) < (r_.Counts.length : Int))) = true,
        (0 : Int) ≤ (p1.length : Int),
        (List.map E3 r_.Counts)[(p1.length : Int).toNat]? = some (E3 x1),
        Fn Tryz.prog 99 [(false, E3 x1)] (E4 r4) [],
        (true || ((E4 r4).nv && nvL [])) = true,
        (!r4) = true,
        (!r4) = true,
        (!r4) = true,
        (!r4) = true,
        (!r4) = true,
        (!r4) = true,
        (!r4) = true,
        (!r4) = true,
        true = true]) (by kernel_rfl) (show X.ret ≠ X.go from nofun) (cj (rng_lt h8) (cj (by omega) (cj (rng_get _ h8) (cj (spec_l01Money_ok x1 r4 h10) (cj rfl (cj (nt h11) (cj (nt h11) (cj (nt h11) (cj (nt h11) (cj (nt h11) (cj (nt h11) (cj (nt h11) (cj (nt h11) (cj1 rfl)))))))))))))))))
def spec_RingOk (r_ : Ring) : Option (Bool) :=
 (spec_l01In r_.Span 1 1000).bind fun r1 =>
 if r1 = true then
  (spec_l01In (r_.Counts.length : Int) 1 8).bind fun r2 =>
  if r2 = true then
   if ((r_.Sums.length : Int) != (r_.Counts.length : Int)) = true then
    some false
   else
    (spec_l06Time r_.Head).bind fun r3 =>
    if r3 = true then
     if (capOk r_.Counts.length) = true then
      (spec_RingOk_l0 r_ r_.Counts []).bind fun r6 =>
      Lo.elim r6 (fun s1 =>
       some true) (fun s2 =>
       some false)
     else none
    else
     some false
  else
   some false
 else
  some false
theorem spec_RingOk_ok (r_ : Ring) : Pn (fun y => Fn Tryz.prog 101 [(false, E45 r_)] (E4 y) []) (spec_RingOk r_) := by
  unfold spec_RingOk
  exact
   Pn.bind (fun r1 h1 =>
    Pn.ite (fun h2 =>
     Pn.bind (fun r2 h3 =>
      Pn.ite (fun h4 =>
       Pn.ite (fun h5 =>
        Pn.some (Fn.of [.call [] (E4 r1) [], .bit false, .bit false, .bit false, .nm 11 (V.sc (.int .i64 (r_.Counts.length : Int))), .bit false, .call [] (E4 r2) [], .bit false, .bit false, .bit false, .bit false, .bit false, .nm 18 (V.sc (.int .i64 (r_.Sums.length : Int))), .bit false, .bit false, .bit false, .nm 21 (V.sc (.int .i64 (r_.Counts.length : Int))), .bit false, .bit false, .bit true, .bit true, .bit true, .bit true, .bit true, .bit true] (p := [Fn Tryz.prog 70 [(false, E3 r_.Span), (false, E3 1), (false, E3 1000)] (E4 r1) [],
         (true || ((E4 r1).nv && nvL [])) = true,
         (!r1) = false,
         (!r1) = false,
         (!r1) = false,
         V.sc (.int .i64 ((List.map E3 r_.Counts).length : Int)) = V.sc (.int .i64 (r_.Counts.length : Int)),
         (!r1) = false,
         Fn Tryz.prog 70 [(false, E3 (r_.Counts.length : Int)), (false, E3 1), (false, E3 8)] (E4 r2) [],
         (true || ((E4 r2).nv && nvL [])) = true,
         (!r1) = false,
         (!r1) = false,
         (!r2) = false,
         (!r2) = false,
         (!r2) = false,
         V.sc (.int .i64 ((List.map E3 r_.Sums).length : Int)) = V.sc (.int .i64 (r_.Sums.length : Int)),
         (!r2) = false,
         (!r2) = false,
         (!r2) = false,
         V.sc (.int .i64 ((List.map E3 r_.Counts).length : Int)) = V.sc (.int .i64 (r_.Counts.length : Int)),
         (!r2) = false,
         (!r2) = false,
         ((r_.Sums.length : Int) != (r_.Counts.length : Int)) = true,
         ((r_.Sums.length : Int) != (r_.Counts.length : Int)) = true,
         ((r_.Sums.length : Int) != (r_.Counts.length : Int)) = true,
         ((r_.Sums.length : Int) != (r_.Counts.length : Int)) = true,
         ((r_.Sums.length : Int) != (r_.Counts.length : Int)) = true,
         true = true]) (by kernel_rfl) (cj (spec_l01In_ok r_.Span 1 1000 r1 h1) (cj rfl (cj (nf h2) (cj (nf h2) (cj (nf h2) (cj (len_nm _ _) (cj (nf h2) (cj (spec_l01In_ok (r_.Counts.length : Int) 1 8 r2 h3) (cj rfl (cj (nf h2) (cj (nf h2) (cj (nf h4) (cj (nf h4) (cj (nf h4) (cj (len_nm _ _) (cj (nf h4) (cj (nf h4) (cj (nf h4) (cj (len_nm _ _) (cj (nf h4) (cj (nf h4) (cj h5 (cj h5 (cj h5 (cj h5 (cj h5 (cj1 rfl))))))))))))))))))))))))))))) (fun h5 =>
        Pn.bind (fun r3 h6 =>
         Pn.ite (fun h7 =>
          Pn.ite (fun h15 =>
           Pn.bind (fun r6 h16 =>
            Pn.lo (fun s1 h17 =>
             Pn.some (Fn.of [.call [] (E4 r1) [], .bit false, .bit false, .bit false, .nm 11 (V.sc (.int .i64 (r_.Counts.length : Int))), .bit false, .call [] (E4 r2) [], .bit false, .bit false, .bit false, .bit false, .bit false, .nm 18 (V.sc (.int .i64 (r_.Sums.length : Int))), .bit false, .bit false, .bit false, .nm 21 (V.sc (.int .i64 (r_.Counts.length : Int))), .bit false, .bit false, .bit false, .bit false, .bit false, .call [] (E4 r3) [], .bit false, .bit false, .bit false, .wait 2, .nm 32 (V.sc (.int .i64 (r_.Counts.length : Int))), .wait 2, .mask [1, 32, 33], .ren [0], .loop (X.out 0) (st 53 [] [] [])] (p := [Fn Tryz.prog 70 [(false, E3 r_.Span), (false, E3 1), (false, E3 1000)] (E4 r1) [],
              (true || ((E4 r1).nv && nvL [])) = true,
              (!r1) = false,
              (!r1) = false,
              (!r1) = false,
              V.sc (.int .i64 ((List.map E3 r_.Counts).length : Int)) = V.sc (.int .i64 (r_.Counts.length : Int)),
              (!r1) = false,
              Fn Tryz.prog 70 [(false, E3 (r_.Counts.length : Int)), (false, E3 1), (false, E3 8)] (E4 r2) [],
              (true || ((E4 r2).nv && nvL [])) = true,
              (!r1) = false,
              (!r1) = false,
              (!r2) = false,
              (!r2) = false,
              (!r2) = false,
              V.sc (.int .i64 ((List.map E3 r_.Sums).length : Int)) = V.sc (.int .i64 (r_.Sums.length : Int)),
              (!r2) = false,
              (!r2) = false,
              (!r2) = false,
              V.sc (.int .i64 ((List.map E3 r_.Counts).length : Int)) = V.sc (.int .i64 (r_.Counts.length : Int)),
              (!r2) = false,
              (!r2) = false,
              ((r_.Sums.length : Int) != (r_.Counts.length : Int)) = false,
              ((r_.Sums.length : Int) != (r_.Counts.length : Int)) = false,
              ((r_.Sums.length : Int) != (r_.Counts.length : Int)) = false,
              Fn Tryz.prog 86 [(false, E3 r_.Head)] (E4 r3) [],
              (true || ((E4 r3).nv && nvL [])) = true,
              ((r_.Sums.length : Int) != (r_.Counts.length : Int)) = false,
              ((r_.Sums.length : Int) != (r_.Counts.length : Int)) = false,
              (!r3) = false,
              V.sc (.int .i64 ((List.map E3 r_.Counts).length : Int)) = V.sc (.int .i64 (r_.Counts.length : Int)),
              Loop Tryz.prog (sub (codeOf Tryz.prog 101) [1, 1, 0, 1, 0, 0]) (st 53 [(1, V.ptr 0 0), (32, V.sc (.int .i64 (r_.Counts.length : Int))), (33, V.sc (.int .i64 0))] [Blk.box 45 [V.sc (.int .i64 r_.Span), V.sc (.int .i64 r_.Head), V.sl false 3 (List.map E3 r_.Counts), V.sl false 3 (List.map E3 r_.Sums)]] []) (X.out 0) (st 53 [] [] [])]) (by kernel_rfl) (cj (spec_l01In_ok r_.Span 1 1000 r1 h1) (cj rfl (cj (nf h2) (cj (nf h2) (cj (nf h2) (cj (len_nm _ _) (cj (nf h2) (cj (spec_l01In_ok (r_.Counts.length : Int) 1 8 r2 h3) (cj rfl (cj (nf h2) (cj (nf h2) (cj (nf h4) (cj (nf h4) (cj (nf h4) (cj (len_nm _ _) (cj (nf h4) (cj (nf h4) (cj (nf h4) (cj (len_nm _ _) (cj (nf h4) (cj (nf h4) (cj h5 (cj h5 (cj h5 (cj (spec_l06Time_ok r_.Head r3 h6) (cj rfl (cj h5 (cj h5 (cj (nf h7) (cj (len_nm _ _) (cj1 ((spec_RingOk_l0_ok r_ h15 r_.Counts [] rfl r6 h16).at h17)))))))))))))))))))))))))))))))))) (fun s2 h18 =>
             Pn.some (Fn.of [.call [] (E4 r1) [], .bit false, .bit false, .bit false, .nm 11 (V.sc (.int .i64 (r_.Counts.length : Int))), .bit false, .call [] (E4 r2) [], .bit false, .bit false, .bit false, .bit false, .bit false, .nm 18 (V.sc (.int .i64 (r_.Sums.length : Int))), .bit false, .bit false, .bit false, .nm 21 (V.sc (.int .i64 (r_.Counts.length : Int))), .bit false, .bit false, .bit false, .bit false, .bit false, .call [] (E4 r3) [], .bit false, .bit false, .bit false, .wait 2, .nm 32 (V.sc (.int .i64 (r_.Counts.length : Int))), .wait 2, .mask [1, 32, 33], .ren [0], .loop (X.ret) (st 53 [(2, V.sc (.bool false))] [] [])] (p := [Fn Tryz.prog 70 [(false, E3 r_.Span), (false, E3 1), (false, E3 1000)] (E4 r1) [],
              (true || ((E4 r1).nv && nvL [])) = true,
              (!r1) = false,
              (!r1) = false,
              (!r1) = false,
              V.sc (.int .i64 ((List.map E3 r_.Counts).length : Int)) = V.sc (.int .i64 (r_.Counts.length : Int)),
              (!r1) = false,
              Fn Tryz.prog 70 [(false, E3 (r_.Counts.length : Int)), (false, E3 1), (false, E3 8)] (E4 r2) [],
              (true || ((E4 r2).nv && nvL [])) = true,
              (!r1) = false,
              (!r1) = false,
              (!r2) = false,
              (!r2) = false,
              (!r2) = false,
              V.sc (.int .i64 ((List.map E3 r_.Sums).length : Int)) = V.sc (.int .i64 (r_.Sums.length : Int)),
              (!r2) = false,
              (!r2) = false,
              (!r2) = false,
              V.sc (.int .i64 ((List.map E3 r_.Counts).length : Int)) = V.sc (.int .i64 (r_.Counts.length : Int)),
              (!r2) = false,
              (!r2) = false,
              ((r_.Sums.length : Int) != (r_.Counts.length : Int)) = false,
              ((r_.Sums.length : Int) != (r_.Counts.length : Int)) = false,
              ((r_.Sums.length : Int) != (r_.Counts.length : Int)) = false,
              Fn Tryz.prog 86 [(false, E3 r_.Head)] (E4 r3) [],
              (true || ((E4 r3).nv && nvL [])) = true,
              ((r_.Sums.length : Int) != (r_.Counts.length : Int)) = false,
              ((r_.Sums.length : Int) != (r_.Counts.length : Int)) = false,
              (!r3) = false,
              V.sc (.int .i64 ((List.map E3 r_.Counts).length : Int)) = V.sc (.int .i64 (r_.Counts.length : Int)),
              Loop Tryz.prog (sub (codeOf Tryz.prog 101) [1, 1, 0, 1, 0, 0]) (st 53 [(1, V.ptr 0 0), (32, V.sc (.int .i64 (r_.Counts.length : Int))), (33, V.sc (.int .i64 0))] [Blk.box 45 [V.sc (.int .i64 r_.Span), V.sc (.int .i64 r_.Head), V.sl false 3 (List.map E3 r_.Counts), V.sl false 3 (List.map E3 r_.Sums)]] []) (X.ret) (st 53 [(2, V.sc (.bool false))] [] [])]) (by kernel_rfl) (cj (spec_l01In_ok r_.Span 1 1000 r1 h1) (cj rfl (cj (nf h2) (cj (nf h2) (cj (nf h2) (cj (len_nm _ _) (cj (nf h2) (cj (spec_l01In_ok (r_.Counts.length : Int) 1 8 r2 h3) (cj rfl (cj (nf h2) (cj (nf h2) (cj (nf h4) (cj (nf h4) (cj (nf h4) (cj (len_nm _ _) (cj (nf h4) (cj (nf h4) (cj (nf h4) (cj (len_nm _ _) (cj (nf h4) (cj (nf h4) (cj h5 (cj h5 (cj h5 (cj (spec_l06Time_ok r_.Head r3 h6) (cj rfl (cj h5 (cj h5 (cj (nf h7) (cj (len_nm _ _) (cj1 ((spec_RingOk_l0_ok r_ h15 r_.Counts [] rfl r6 h16).at h18)))))))))))))))))))))))))))))))))))) (fun h15 =>
           Pn.none)) (fun h7 =>
          Pn.some (Fn.of [.call [] (E4 r1) [], .bit false, .bit false, .bit false, .nm 11 (V.sc (.int .i64 (r_.Counts.length : Int))), .bit false, .call [] (E4 r2) [], .bit false, .bit false, .bit false, .bit false, .bit false, .nm 18 (V.sc (.int .i64 (r_.Sums.length : Int))), .bit false, .bit false, .bit false, .nm 21 (V.sc (.int .i64 (r_.Counts.length : Int))), .bit false, .bit false, .bit false, .bit false, .bit false, .call [] (E4 r3) [], .bit false, .bit false, .bit true] (p := [Fn Tryz.prog 70 [(false, E3 r_.Span), (false, E3 1), (false, E3 1000)] (E4 r1) [],
           (true || ((E4 r1).nv && nvL [])) = true,
           (!r1) = false,
           (!r1) = false,
           (!r1) = false,
           V.sc (.int .i64 ((List.map E3 r_.Counts).length : Int)) = V.sc (.int .i64 (r_.Counts.length : Int)),
           (!r1) = false,
           Fn Tryz.prog 70 [(false, E3 (r_.Counts.length : Int)), (false, E3 1), (false, E3 8)] (E4 r2) [],
           (true || ((E4 r2).nv && nvL [])) = true,
           (!r1) = false,
           (!r1) = false,
           (!r2) = false,
           (!r2) = false,
           (!r2) = false,
           V.sc (.int .i64 ((List.map E3 r_.Sums).length : Int)) = V.sc (.int .i64 (r_.Sums.length : Int)),
           (!r2) = false,
           (!r2) = false,
           (!r2) = false,
           V.sc (.int .i64 ((List.map E3 r_.Counts).length : Int)) = V.sc (.int .i64 (r_.Counts.length : Int)),
           (!r2) = false,
           (!r2) = false,
           ((r_.Sums.length : Int) != (r_.Counts.length : Int)) = false,
           ((r_.Sums.length : Int) != (r_.Counts.length : Int)) = false,
           ((r_.Sums.length : Int) != (r_.Counts.length : Int)) = false,
           Fn Tryz.prog 86 [(false, E3 r_.Head)] (E4 r3) [],
           (true || ((E4 r3).nv && nvL [])) = true,
           ((r_.Sums.length : Int) != (r_.Counts.length : Int)) = false,
           ((r_.Sums.length : Int) != (r_.Counts.length : Int)) = false,
           (!r3) = true]) (by kernel_rfl) (cj (spec_l01In_ok r_.Span 1 1000 r1 h1) (cj rfl (cj (nf h2) (cj (nf h2) (cj (nf h2) (cj (len_nm _ _) (cj (nf h2) (cj (spec_l01In_ok (r_.Counts.length : Int) 1 8 r2 h3) (cj rfl (cj (nf h2) (cj (nf h2) (cj (nf h4) (cj (nf h4) (cj (nf h4) (cj (len_nm _ _) (cj (nf h4) (cj (nf h4) (cj (nf h4) (cj (len_nm _ _) (cj (nf h4) (cj (nf h4) (cj h5 (cj h5 (cj h5 (cj (spec_l06Time_ok r_.Head r3 h6) (cj rfl (cj h5 (cj h5 (cj1 (nt h7))))))))))))))))))))))))))))))))))) (fun h4 =>
       Pn.some (Fn.of [.call [] (E4 r1) [], .bit false, .bit false, .bit false, .nm 11 (V.sc (.int .i64 (r_.Counts.length : Int))), .bit false, .call [] (E4 r2) [], .bit false, .bit false, .bit true, .bit true, .bit true, .bit true, .bit true, .bit true, .bit true, .bit true, .bit true, .bit true, .bit true, .bit true, .bit true, .bit true] (p := [Fn Tryz.prog 70 [(false, E3 r_.Span), (false, E3 1), (false, E3 1000)] (E4 r1) [],
        (true || ((E4 r1).nv && nvL [])) = true,
        (!r1) = false,
        (!r1) = false,
        (!r1) = false,
        V.sc (.int .i64 ((List.map E3 r_.Counts).length : Int)) = V.sc (.int .i64 (r_.Counts.length : Int)),
        (!r1) = false,
        Fn Tryz.prog 70 [(false, E3 (r_.Counts.length : Int)), (false, E3 1), (false, E3 8)] (E4 r2) [],
        (true || ((E4 r2).nv && nvL [])) = true,
        (!r1) = false,
        (!r1) = false,
        (!r2) = true,
        (!r2) = true,
        (!r2) = true,
        (!r2) = true,
        (!r2) = true,
        (!r2) = true,
        (!r2) = true,
        (!r2) = true,
        true = true,
        true = true,
        true = true,
        true = true,
        true = true,
        true = true]) (by kernel_rfl) (cj (spec_l01In_ok r_.Span 1 1000 r1 h1) (cj rfl (cj (nf h2) (cj (nf h2) (cj (nf h2) (cj (len_nm _ _) (cj (nf h2) (cj (spec_l01In_ok (r_.Counts.length : Int) 1 8 r2 h3) (cj rfl (cj (nf h2) (cj (nf h2) (cj (nt h4) (cj (nt h4) (cj (nt h4) (cj (nt h4) (cj (nt h4) (cj (nt h4) (cj (nt h4) (cj (nt h4) (cj rfl (cj rfl (cj rfl (cj rfl (cj rfl (cj1 rfl))))))))))))))))))))))))))))) (fun h2 =>
     Pn.some (Fn.of [.call [] (E4 r1) [], .bit true, .bit true, .bit true, .bit true, .bit true, .bit true, .bit true, .bit true, .bit true, .bit true, .bit true, .bit true, .bit true, .bit true, .bit true, .bit true, .bit true, .bit true, .bit true, .bit true] (p := [Fn Tryz.prog 70 [(false, E3 r_.Span), (false, E3 1), (false, E3 1000)] (E4 r1) [],
      (true || ((E4 r1).nv && nvL [])) = true,
      (!r1) = true,
      (!r1) = true,
      (!r1) = true,
      (!r1) = true,
      (!r1) = true,
      (!r1) = true,
      true = true,
      true = true,
      true = true,
      true = true,
      true = true,
      true = true,
      true = true,
      true = true,
      true = true,
      true = true,
      true = true,
      true = true,
      true = true,
      true = true]) (by kernel_rfl) (cj (spec_l01In_ok r_.Span 1 1000 r1 h1) (cj rfl (cj (nt h2) (cj (nt h2) (cj (nt h2) (cj (nt h2) (cj (nt h2) (cj (nt h2) (cj rfl (cj rfl (cj rfl (cj rfl (cj rfl (cj rfl (cj rfl (cj rfl (cj rfl (cj rfl (cj rfl (cj rfl (cj rfl (cj1 rfl)))))))))))))))))))))))))
def spec_SlotOk (s_ : Slot) : Option (Bool) :=
 (spec_Digits s_.Trace).bind fun r1 =>
 if r1 = true then
  if ((s_.Trace.size : Int) == 6) = true then
   (spec_Digits s_.Mti).bind fun r2 =>
   if r2 = true then
    if ((s_.Mti.size : Int) == 4) = true then
     (spec_l01In (s_.Reply.length : Int) 1 200).bind fun r3 =>
     some r3
    else
     some false
   else
    some false
  else
   some false
 else
  some false
theorem spec_SlotOk_ok (s_ : Slot) : Pn (fun y => Fn Tryz.prog 143 [(false, E132 s_)] (E4 y) []) (spec_SlotOk s_) := by
  unfold spec_SlotOk
  exact
   Pn.bind (fun r1 h1 =>
    Pn.ite (fun h2 =>
     Pn.ite (fun h3 =>
      Pn.bind (fun r2 h4 =>
       Pn.ite (fun h5 =>
        Pn.ite (fun h6 =>
         Pn.bind (fun r3 h7 =>
          Pn.some (Fn.of [.call [] (E4 r1) [], .bit true, .bit true, .bit true, .bit true, .bit true, .bit true, .bit true, .bit true, .call [] (E4 r2) [], .bit true, .bit true, .bit true, .bit true, .bit true, .bit true, .bit true, .bit true, .bit true, .nm 26 (V.sc (.int .i64 (s_.Reply.length : Int))), .bit true, .call [] (E4 r3) [], .bit true] (p := [Fn Tryz.prog 159 [(false, E9 s_.Trace)] (E4 r1) [],
           (true || ((E4 r1).nv && nvL [])) = true,
           r1 = true,
           r1 = true,
           r1 = true,
           r1 = true,
           r1 = true,
           ((s_.Trace.size : Int) == 6) = true,
           ((s_.Trace.size : Int) == 6) = true,
           ((s_.Trace.size : Int) == 6) = true,
           Fn Tryz.prog 159 [(false, E9 s_.Mti)] (E4 r2) [],
           (true || ((E4 r2).nv && nvL [])) = true,
           ((s_.Trace.size : Int) == 6) = true,
           r2 = true,
           r2 = true,
           r2 = true,
           r2 = true,
           r2 = true,
           ((s_.Mti.size : Int) == 4) = true,
           ((s_.Mti.size : Int) == 4) = true,
           ((s_.Mti.size : Int) == 4) = true,
           V.sc (.int .i64 ((List.map E5 s_.Reply).length : Int)) = V.sc (.int .i64 (s_.Reply.length : Int)),
           ((s_.Mti.size : Int) == 4) = true,
           Fn Tryz.prog 70 [(false, E3 (s_.Reply.length : Int)), (false, E3 1), (false, E3 200)] (E4 r3) [],
           (true || ((E4 r3).nv && nvL [])) = true,
           ((s_.Mti.size : Int) == 4) = true]) (by kernel_rfl) (cj (spec_Digits_ok s_.Trace r1 h1) (cj rfl (cj h2 (cj h2 (cj h2 (cj h2 (cj h2 (cj h3 (cj h3 (cj h3 (cj (spec_Digits_ok s_.Mti r2 h4) (cj rfl (cj h3 (cj h5 (cj h5 (cj h5 (cj h5 (cj h5 (cj h6 (cj h6 (cj h6 (cj (len_nm _ _) (cj h6 (cj (spec_l01In_ok (s_.Reply.length : Int) 1 200 r3 h7) (cj rfl (cj1 h6))))))))))))))))))))))))))))) (fun h6 =>
         Pn.some (Fn.of [.call [] (E4 r1) [], .bit true, .bit true, .bit true, .bit true, .bit true, .bit true, .bit true, .bit true, .call [] (E4 r2) [], .bit true, .bit true, .bit true, .bit true, .bit true, .bit true, .bit false, .bit false, .bit false, .bit false, .bit false] (p := [Fn Tryz.prog 159 [(false, E9 s_.Trace)] (E4 r1) [],
          (true || ((E4 r1).nv && nvL [])) = true,
          r1 = true,
          r1 = true,
          r1 = true,
          r1 = true,
          r1 = true,
          ((s_.Trace.size : Int) == 6) = true,
          ((s_.Trace.size : Int) == 6) = true,
          ((s_.Trace.size : Int) == 6) = true,
          Fn Tryz.prog 159 [(false, E9 s_.Mti)] (E4 r2) [],
          (true || ((E4 r2).nv && nvL [])) = true,
          ((s_.Trace.size : Int) == 6) = true,
          r2 = true,
          r2 = true,
          r2 = true,
          r2 = true,
          r2 = true,
          ((s_.Mti.size : Int) == 4) = false,
          ((s_.Mti.size : Int) == 4) = false,
          ((s_.Mti.size : Int) == 4) = false,
          ((s_.Mti.size : Int) == 4) = false,
          ((s_.Mti.size : Int) == 4) = false]) (by kernel_rfl) (cj (spec_Digits_ok s_.Trace r1 h1) (cj rfl (cj h2 (cj h2 (cj h2 (cj h2 (cj h2 (cj h3 (cj h3 (cj h3 (cj (spec_Digits_ok s_.Mti r2 h4) (cj rfl (cj h3 (cj h5 (cj h5 (cj h5 (cj h5 (cj h5 (cj h6 (cj h6 (cj h6 (cj h6 (cj1 h6)))))))))))))))))))))))))) (fun h5 =>
        Pn.some (Fn.of [.call [] (E4 r1) [], .bit true, .bit true, .bit true, .bit true, .bit true, .bit true, .bit true, .bit true, .call [] (E4 r2) [], .bit true, .bit false, .bit false, .bit false, .bit false, .bit false, .bit false, .bit false, .bit false, .bit false, .bit false] (p := [Fn Tryz.prog 159 [(false, E9 s_.Trace)] (E4 r1) [],
         (true || ((E4 r1).nv && nvL [])) = true,
         r1 = true,
         r1 = true,
         r1 = true,
         r1 = true,
         r1 = true,
         ((s_.Trace.size : Int) == 6) = true,
         ((s_.Trace.size : Int) == 6) = true,
         ((s_.Trace.size : Int) == 6) = true,
         Fn Tryz.prog 159 [(false, E9 s_.Mti)] (E4 r2) [],
         (true || ((E4 r2).nv && nvL [])) = true,
         ((s_.Trace.size : Int) == 6) = true,
         r2 = false,
         r2 = false,
         r2 = false,
         r2 = false,
         r2 = false,
         false = false,
         false = false,
         false = false,
         false = false,
         false = false]) (by kernel_rfl) (cj (spec_Digits_ok s_.Trace r1 h1) (cj rfl (cj h2 (cj h2 (cj h2 (cj h2 (cj h2 (cj h3 (cj h3 (cj h3 (cj (spec_Digits_ok s_.Mti r2 h4) (cj rfl (cj h3 (cj h5 (cj h5 (cj h5 (cj h5 (cj h5 (cj rfl (cj rfl (cj rfl (cj rfl (cj1 rfl))))))))))))))))))))))))))) (fun h3 =>
      Pn.some (Fn.of [.call [] (E4 r1) [], .bit true, .bit true, .bit true, .bit true, .bit true, .bit false, .bit false, .bit false, .bit false, .bit false, .bit false, .bit false, .bit false, .bit false, .bit false, .bit false, .bit false, .bit false, .bit false] (p := [Fn Tryz.prog 159 [(false, E9 s_.Trace)] (E4 r1) [],
       (true || ((E4 r1).nv && nvL [])) = true,
       r1 = true,
       r1 = true,
       r1 = true,
       r1 = true,
       r1 = true,
       ((s_.Trace.size : Int) == 6) = false,
       ((s_.Trace.size : Int) == 6) = false,
       ((s_.Trace.size : Int) == 6) = false,
       ((s_.Trace.size : Int) == 6) = false,
       false = false,
       false = false,
       false = false,
       false = false,
       false = false,
       false = false,
       false = false,
       false = false,
       false = false,
       false = false]) (by kernel_rfl) (cj (spec_Digits_ok s_.Trace r1 h1) (cj rfl (cj h2 (cj h2 (cj h2 (cj h2 (cj h2 (cj h3 (cj h3 (cj h3 (cj h3 (cj rfl (cj rfl (cj rfl (cj rfl (cj rfl (cj rfl (cj rfl (cj rfl (cj rfl (cj1 rfl)))))))))))))))))))))))) (fun h2 =>
     Pn.some (Fn.of [.call [] (E4 r1) [], .bit false, .bit false, .bit false, .bit false, .bit false, .bit false, .bit false, .bit false, .bit false, .bit false, .bit false, .bit false, .bit false, .bit false, .bit false, .bit false, .bit false, .bit false, .bit false] (p := [Fn Tryz.prog 159 [(false, E9 s_.Trace)] (E4 r1) [],
      (true || ((E4 r1).nv && nvL [])) = true,
      r1 = false,
      r1 = false,
      r1 = false,
      r1 = false,
      r1 = false,
      false = false,
      false = false,
      false = false,
      false = false,
      false = false,
      false = false,
      false = false,
      false = false,
      false = false,
      false = false,
      false = false,
      false = false,
      false = false,
      false = false]) (by kernel_rfl) (cj (spec_Digits_ok s_.Trace r1 h1) (cj rfl (cj h2 (cj h2 (cj h2 (cj h2 (cj h2 (cj rfl (cj rfl (cj rfl (cj rfl (cj rfl (cj rfl (cj rfl (cj rfl (cj rfl (cj rfl (cj rfl (cj rfl (cj rfl (cj1 rfl))))))))))))))))))))))))
def spec_SlotsOk_l1 (l : List Slot) (p1 : List Slot) (x1 : Slot) : List Slot → Option (Lo Unit Unit)
  | [] =>
   some (.out ())
  | x2 :: t2 =>
   if (x2.Trace == x1.Trace) = true then
    if (x2.Mti == x1.Mti) = true then
     some (.ret ())
    else
     spec_SlotsOk_l1 l p1 x1 t2
   else
    spec_SlotsOk_l1 l p1 x1 t2
theorem spec_SlotsOk_l1_ok (l : List Slot) (p1 : List Slot) (x1 : Slot) (h8 : capOk ((l.take ((p1.length : Int).toNat)).drop 0).length = true) : ∀ (t2 p2 : List Slot) (_ : ((l.take ((p1.length : Int).toNat)).drop 0) = p2 ++ t2) , Pn (LpO Tryz.prog (sub (codeOf Tryz.prog 102) [1, 0, 1, 0, 0, 1, 1, 0, 0, 1, 1, 1, 0, 0]) (st 42 [(0, V.sl false 132 (List.map E132 l)), (4, V.ptr 0 0), (7, V.sl false 132 (List.map E132 l)), (8, V.sc (.int .i64 (l.length : Int))), (9, V.sc (.int .i64 (p1.length : Int))), (19, V.sl false 132 (List.map E132 ((l.take ((p1.length : Int).toNat)).drop 0))), (20, V.sc (.int .i64 (((l.take ((p1.length : Int).toNat)).drop 0).length : Int))), (21, V.sc (.int .i64 (p2.length : Int)))] [Blk.box 132 [V.sc (.string x1.Trace), V.sc (.string x1.Mti), V.sl false 5 (List.map E5 x1.Reply)]] []) (fun (y : Lo Unit Unit) => Lo.elim y (fun s => (X.out 2, st 42 [(0, V.sl false 132 (List.map E132 l)), (7, V.sl false 132 (List.map E132 l)), (8, V.sc (.int .i64 (l.length : Int))), (9, V.sc (.int .i64 (p1.length : Int)))] [] [])) (fun s => (X.ret, st 42 [(2, V.sc (.bool false))] [] [])))) (spec_SlotsOk_l1 l p1 x1 t2)
  | [], p2, h7 => by
    unfold spec_SlotsOk_l1
    exact
     Pn.some (LpO.out [.bit false, .mask [0, 7, 8, 9], .ren []] (p := [(decide ((p2.length : Int) < (((l.take ((p1.length : Int).toNat)).drop 0).length : Int))) = false]) (by kernel_rfl) (show X.out 2 ≠ X.go from nofun) (cj1 (rng_end h7)))
  | x2 :: t2, p2, h7 => by
    unfold spec_SlotsOk_l1
    exact
     Pn.ite (fun h9 =>
      Pn.ite (fun h10 =>
       Pn.some (LpO.out [.bit true, .el (E132 x2), .bit true, .bit true, .bit true, .bit true, .bit true, .bit true, .bit true, .wait 1, .mask [2], .ren []] (p := [(decide ((p2.length : Int) < (((l.take ((p1.length : Int).toNat)).drop 0).length : Int))) = true,
        (0 : Int) ≤ (p2.length : Int),
        (List.map E132 ((l.take ((p1.length : Int).toNat)).drop 0))[(p2.length : Int).toNat]? = some (E132 x2),
        (x2.Trace == x1.Trace) = true,
        (x2.Trace == x1.Trace) = true,
        (x2.Trace == x1.Trace) = true,
        (x2.Trace == x1.Trace) = true,
        (x2.Trace == x1.Trace) = true,
        (x2.Trace == x1.Trace) = true,
        (x2.Mti == x1.Mti) = true]) (by kernel_rfl) (show X.ret ≠ X.go from nofun) (cj (rng_lt h7) (cj (by omega) (cj (rng_get _ h7) (cj h9 (cj h9 (cj h9 (cj h9 (cj h9 (cj h9 (cj1 h10)))))))))))) (fun h10 =>
       LpO.go [.bit true, .el (E132 x2), .bit true, .bit true, .bit true, .bit true, .bit true, .bit true, .bit false, .wait 2, .mask [0, 4, 7, 8, 9, 19, 20, 21], .ren [0], .nm 21 (V.sc (.int .i64 ((p2 ++ [x2]).length : Int)))] (p := [(decide ((p2.length : Int) < (((l.take ((p1.length : Int).toNat)).drop 0).length : Int))) = true,
        (0 : Int) ≤ (p2.length : Int),
        (List.map E132 ((l.take ((p1.length : Int).toNat)).drop 0))[(p2.length : Int).toNat]? = some (E132 x2),
        (x2.Trace == x1.Trace) = true,
        (x2.Trace == x1.Trace) = true,
        (x2.Trace == x1.Trace) = true,
        (x2.Trace == x1.Trace) = true,
        (x2.Trace == x1.Trace) = true,
        (x2.Trace == x1.Trace) = true,
        (x2.Mti == x1.Mti) = false,
        V.sc (.int .i64 (i64 ((p2.length : Int) + 1))) = V.sc (.int .i64 ((p2 ++ [x2]).length : Int))]) (by kernel_rfl) (cj (rng_lt h7) (cj (by omega) (cj (rng_get _ h7) (cj h9 (cj h9 (cj h9 (cj h9 (cj h9 (cj h9 (cj h10 (cj1 (rng_next h7 h8)))))))))))) (spec_SlotsOk_l1_ok l p1 x1 h8 t2 (p2 ++ [x2]) (rng_step h7)))) (fun h9 =>
      LpO.go [.bit true, .el (E132 x2), .bit false, .bit false, .bit false, .bit false, .bit false, .bit false, .bit false, .wait 2, .mask [0, 4, 7, 8, 9, 19, 20, 21], .ren [0], .nm 21 (V.sc (.int .i64 ((p2 ++ [x2]).length : Int)))] (p := [(decide ((p2.length : Int) < (((l.take ((p1.length : Int).toNat)).drop 0).length : Int))) = true,
       (0 : Int) ≤ (p2.length : Int),
       (List.map E132 ((l.take ((p1.length : Int).toNat)).drop 0))[(p2.length : Int).toNat]? = some (E132 x2),
       (x2.Trace == x1.Trace) = false,
       (x2.Trace == x1.Trace) = false,
       (x2.Trace == x1.Trace) = false,
       (x2.Trace == x1.Trace) = false,
       (x2.Trace == x1.Trace) = false,
       (x2.Trace == x1.Trace) = false,
       false = false,
       V.sc (.int .i64 (i64 ((p2.length : Int) + 1))) = V.sc (.int .i64 ((p2 ++ [x2]).length : Int))]) (by kernel_rfl) (cj (rng_lt h7) (cj (by omega) (cj (rng_get _ h7) (cj h9 (cj h9 (cj h9 (cj h9 (cj h9 (cj h9 (cj rfl (cj1 (rng_next h7 h8)))))))))))) (spec_SlotsOk_l1_ok l p1 x1 h8 t2 (p2 ++ [x2]) (rng_step h7)))
def spec_SlotsOk_l0 (l : List Slot) : List Slot → List Slot → Option (Lo Unit Unit)
  | [], p1 =>
   some (.out ())
  | x1 :: t1, p1 =>
   (spec_SlotOk x1).bind fun r1 =>
   if r1 = true then
    if (decide (0 ≤ (p1.length : Int))) = true then
     if (decide ((p1.length : Int) ≤ (l.length : Int))) = true then
      if (capOk ((l.take ((p1.length : Int).toNat)).drop 0).length) = true then
       (spec_SlotsOk_l1 l p1 x1 ((l.take ((p1.length : Int).toNat)).drop 0)).bind fun r2 =>
       Lo.elim r2 (fun s1 =>
        spec_SlotsOk_l0 l t1 (p1 ++ [x1])) (fun s2 =>
        some (.ret ()))
      else none
     else none
    else none
   else
    some (.ret ())
theorem spec_SlotsOk_l0_ok (l : List Slot) (h2 : capOk l.length = true) : ∀ (t1 p1 : List Slot) (_ : l = p1 ++ t1) , Pn (LpO Tryz.prog (sub (codeOf Tryz.prog 102) [1, 0, 1, 0, 0]) (st 42 [(0, V.sl false 132 (List.map E132 l)), (7, V.sl false 132 (List.map E132 l)), (8, V.sc (.int .i64 (l.length : Int))), (9, V.sc (.int .i64 (p1.length : Int)))] [] []) (fun (y : Lo Unit Unit) => Lo.elim y (fun s => (X.out 0, st 42 [(0, V.sl false 132 (List.map E132 l))] [] [])) (fun s => (X.ret, st 42 [(2, V.sc (.bool false))] [] [])))) (spec_SlotsOk_l0 l t1 p1)
  | [], p1, h1 => by
    unfold spec_SlotsOk_l0
    exact
     Pn.some (LpO.out [.bit false, .mask [0], .ren []] (p := [(decide ((p1.length : Int) < (l.length : Int))) = false]) (by kernel_rfl) (show X.out 0 ≠ X.go from nofun) (cj1 (rng_end h1)))
  | x1 :: t1, p1, h1 => by
    unfold spec_SlotsOk_l0
    exact
     Pn.bind (fun r1 h3 =>
      Pn.ite (fun h4 =>
       Pn.ite (fun h5 =>
        Pn.ite (fun h6 =>
         Pn.ite (fun h11 =>
          Pn.bind (fun r2 h12 =>
           Pn.lo (fun s1 h13 =>
            LpO.go [.bit true, .el (E132 x1), .call [] (E4 r1) [], .bit false, .wait 2, .nm 19 (V.sl false 132 (List.map E132 ((l.take ((p1.length : Int).toNat)).drop 0))), .wait 1, .nm 20 (V.sc (.int .i64 (((l.take ((p1.length : Int).toNat)).drop 0).length : Int))), .wait 2, .mask [0, 4, 7, 8, 9, 19, 20, 21], .ren [0], .loop (X.out 2) (st 42 [(0, V.sl false 132 (List.map E132 l)), (7, V.sl false 132 (List.map E132 l)), (8, V.sc (.int .i64 (l.length : Int))), (9, V.sc (.int .i64 (p1.length : Int)))] [] []), .wait 3, .mask [0, 7, 8, 9], .ren [], .nm 9 (V.sc (.int .i64 ((p1 ++ [x1]).length : Int)))] (p := [(decide ((p1.length : Int) < (l.length : Int))) = true,
             (0 : Int) ≤ (p1.length : Int),
             (List.map E132 l)[(p1.length : Int).toNat]? = some (E132 x1),
             Fn Tryz.prog 143 [(false, E132 x1)] (E4 r1) [],
             (true || ((E4 r1).nv && nvL [])) = true,
             (!r1) = false,
             (0 : Int) ≤ 0,
             (0 : Int) ≤ (p1.length : Int),
             ((p1.length : Int) : Int) ≤ ((List.map E132 l).length : Int),
             V.sl false 132 (((List.map E132 l).take ((p1.length : Int).toNat)).drop 0) = V.sl false 132 (List.map E132 ((l.take ((p1.length : Int).toNat)).drop 0)),
             V.sc (.int .i64 ((List.map E132 ((l.take ((p1.length : Int).toNat)).drop 0)).length : Int)) = V.sc (.int .i64 (((l.take ((p1.length : Int).toNat)).drop 0).length : Int)),
             Loop Tryz.prog (sub (codeOf Tryz.prog 102) [1, 0, 1, 0, 0, 1, 1, 0, 0, 1, 1, 1, 0, 0]) (st 42 [(0, V.sl false 132 (List.map E132 l)), (4, V.ptr 0 0), (7, V.sl false 132 (List.map E132 l)), (8, V.sc (.int .i64 (l.length : Int))), (9, V.sc (.int .i64 (p1.length : Int))), (19, V.sl false 132 (List.map E132 ((l.take ((p1.length : Int).toNat)).drop 0))), (20, V.sc (.int .i64 (((l.take ((p1.length : Int).toNat)).drop 0).length : Int))), (21, V.sc (.int .i64 0))] [Blk.box 132 [V.sc (.string x1.Trace), V.sc (.string x1.Mti), V.sl false 5 (List.map E5 x1.Reply)]] []) (X.out 2) (st 42 [(0, V.sl false 132 (List.map E132 l)), (7, V.sl false 132 (List.map E132 l)), (8, V.sc (.int .i64 (l.length : Int))), (9, V.sc (.int .i64 (p1.length : Int)))] [] []),
             V.sc (.int .i64 (i64 ((p1.length : Int) + 1))) = V.sc (.int .i64 ((p1 ++ [x1]).length : Int))]) (by kernel_rfl) (cj (rng_lt h1) (cj (by omega) (cj (rng_get _ h1) (cj (spec_SlotOk_ok x1 r1 h3) (cj rfl (cj (nf h4) (cj (by decide) (cj (od h5) (cj (by rw [List.length_map]; exact (od h6)) (cj (nm_cut _ _ _ _ _) (cj (len_nm _ _) (cj ((spec_SlotsOk_l1_ok l p1 x1 h11 ((l.take ((p1.length : Int).toNat)).drop 0) [] rfl r2 h12).at h13) (cj1 (rng_next h1 h2)))))))))))))) (spec_SlotsOk_l0_ok l h2 t1 (p1 ++ [x1]) (rng_step h1))) (fun s2 h14 =>
            Pn.some (LpO.out [.bit true, .el (E132 x1), .call [] (E4 r1) [], .bit false, .wait 2, .nm 19 (V.sl false 132 (List.map E132 ((l.take ((p1.length : Int).toNat)).drop 0))), .wait 1, .nm 20 (V.sc (.int .i64 (((l.take ((p1.length : Int).toNat)).drop 0).length : Int))), .wait 2, .mask [0, 4, 7, 8, 9, 19, 20, 21], .ren [0], .loop (X.ret) (st 42 [(2, V.sc (.bool false))] [] []), .wait 1, .mask [2], .ren []] (p := [(decide ((p1.length : Int) < (l.length : Int))) = true,
             (0 : Int) ≤ (p1.length : Int),
             (List.map E132 l)[(p1.length : Int).toNat]? = some (E132 x1),
             Fn Tryz.prog 143 [(false, E132 x1)] (E4 r1) [],
             (true || ((E4 r1).nv && nvL [])) = true,
             (!r1) = false,
             (0 : Int) ≤ 0,
             (0 : Int) ≤ (p1.length : Int),
             ((p1.length : Int) : Int) ≤ ((List.map E132 l).length : Int),
             V.sl false 132 (((List.map E132 l).take ((p1.length : Int).toNat)).drop 0) = V.sl false 132 (List.map E132 ((l.take ((p1.length : Int).toNat)).drop 0)),
             V.sc (.int .i64 ((List.map E132 ((l.take ((p1.length : Int).toNat)).drop 0)).length : Int)) = V.sc (.int .i64 (((l.take ((p1.length : Int).toNat)).drop 0).length : Int)),
             Loop Tryz.prog (sub (codeOf Tryz.prog 102) [1, 0, 1, 0, 0, 1, 1, 0, 0, 1, 1, 1, 0, 0]) (st 42 [(0, V.sl false 132 (List.map E132 l)), (4, V.ptr 0 0), (7, V.sl false 132 (List.map E132 l)), (8, V.sc (.int .i64 (l.length : Int))), (9, V.sc (.int .i64 (p1.length : Int))), (19, V.sl false 132 (List.map E132 ((l.take ((p1.length : Int).toNat)).drop 0))), (20, V.sc (.int .i64 (((l.take ((p1.length : Int).toNat)).drop 0).length : Int))), (21, V.sc (.int .i64 0))] [Blk.box 132 [V.sc (.string x1.Trace), V.sc (.string x1.Mti), V.sl false 5 (List.map E5 x1.Reply)]] []) (X.ret) (st 42 [(2, V.sc (.bool false))] [] [])]) (by kernel_rfl) (show X.ret ≠ X.go from nofun) (cj (rng_lt h1) (cj (by omega) (cj (rng_get _ h1) (cj (spec_SlotOk_ok x1 r1 h3) (cj rfl (cj (nf h4) (cj (by decide) (cj (od h5) (cj (by rw [List.length_map]; exact (od h6)) (cj (nm_cut _ _ _ _ _) (cj (len_nm _ _) (cj1 ((spec_SlotsOk_l1_ok l p1 x1 h11 ((l.take ((p1.length : Int).toNat)).drop 0) [] rfl r2 h12).at h14))))))))))))))))) (fun h11 =>
          Pn.none)) (fun h6 =>
         Pn.none)) (fun h5 =>
        Pn.none)) (fun h4 =>
       Pn.some (LpO.out [.bit true, .el (E132 x1), .call [] (E4 r1) [], .bit true, .wait 1, .mask [2], .ren []] (p := [(decide ((p1.length : Int) < (l.length : Int))) = true,
        (0 : Int) ≤ (p1.length : Int),
        (List.map E132 l)[(p1.length : Int).toNat]? = some (E132 x1),
        Fn Tryz.prog 143 [(false, E132 x1)] (E4 r1) [],
        (true || ((E4 r1).nv && nvL [])) = true,
        (!r1) = true]) (by kernel_rfl) (show X.ret ≠ X.go from nofun) (cj (rng_lt h1) (cj (by omega) (cj (rng_get _ h1) (cj (spec_SlotOk_ok x1 r1 h3) (cj rfl (cj1 (nt h4))))))))))
def spec_SlotsOk (l : List Slot) : Option (Bool) :=
 if (capOk l.length) = true then
  (spec_SlotsOk_l0 l l []).bind fun r3 =>
  Lo.elim r3 (fun s3 =>
   some (decide ((l.length : Int) ≤ 6))) (fun s4 =>
   some false)
 else none
theorem spec_SlotsOk_ok (l : List Slot) : Pn (fun y => Fn Tryz.prog 102 [(false, E46 l)] (E4 y) []) (spec_SlotsOk l) := by
  unfold spec_SlotsOk
  exact
   Pn.ite (fun h15 =>
    Pn.bind (fun r3 h16 =>
     Pn.lo (fun s3 h17 =>
      Pn.some (Fn.of [.wait 3, .nm 8 (V.sc (.int .i64 (l.length : Int))), .wait 2, .mask [0, 7, 8, 9], .ren [], .loop (X.out 0) (st 42 [(0, V.sl false 132 (List.map E132 l))] [] []), .wait 2, .nm 40 (V.sc (.int .i64 (l.length : Int)))] (p := [V.sc (.int .i64 ((List.map E132 l).length : Int)) = V.sc (.int .i64 (l.length : Int)),
       Loop Tryz.prog (sub (codeOf Tryz.prog 102) [1, 0, 1, 0, 0]) (st 42 [(0, V.sl false 132 (List.map E132 l)), (7, V.sl false 132 (List.map E132 l)), (8, V.sc (.int .i64 (l.length : Int))), (9, V.sc (.int .i64 0))] [] []) (X.out 0) (st 42 [(0, V.sl false 132 (List.map E132 l))] [] []),
       V.sc (.int .i64 ((List.map E132 l).length : Int)) = V.sc (.int .i64 (l.length : Int))]) (by kernel_rfl) (cj (len_nm _ _) (cj ((spec_SlotsOk_l0_ok l h15 l [] rfl r3 h16).at h17) (cj1 (len_nm _ _)))))) (fun s4 h18 =>
      Pn.some (Fn.of [.wait 3, .nm 8 (V.sc (.int .i64 (l.length : Int))), .wait 2, .mask [0, 7, 8, 9], .ren [], .loop (X.ret) (st 42 [(2, V.sc (.bool false))] [] [])] (p := [V.sc (.int .i64 ((List.map E132 l).length : Int)) = V.sc (.int .i64 (l.length : Int)),
       Loop Tryz.prog (sub (codeOf Tryz.prog 102) [1, 0, 1, 0, 0]) (st 42 [(0, V.sl false 132 (List.map E132 l)), (7, V.sl false 132 (List.map E132 l)), (8, V.sc (.int .i64 (l.length : Int))), (9, V.sc (.int .i64 0))] [] []) (X.ret) (st 42 [(2, V.sc (.bool false))] [] [])]) (by kernel_rfl) (cj (len_nm _ _) (cj1 ((spec_SlotsOk_l0_ok l h15 l [] rfl r3 h16).at h18))))))) (fun h15 =>
    Pn.none)
def spec_l01Clamp (n : Int) (lo : Int) (hi : Int) : Option (Int) :=
 if (decide (n < lo)) = true then
  some lo
 else
  if (decide (hi < n)) = true then
   some hi
  else
   some n
theorem spec_l01Clamp_ok (n : Int) (lo : Int) (hi : Int) : Pn (fun y => Fn Tryz.prog 145 [(false, E3 n), (false, E3 lo), (false, E3 hi)] (E3 y) []) (spec_l01Clamp n lo hi) := by
  unfold spec_l01Clamp
  exact
   Pn.ite (fun h1 =>
    Pn.some (Fn.of [.bit true] (p := [(decide (n < lo)) = true]) (by kernel_rfl) (cj1 h1))) (fun h1 =>
    Pn.ite (fun h2 =>
     Pn.some (Fn.of [.bit false, .bit true] (p := [(decide (n < lo)) = false,
      (decide (hi < n)) = true]) (by kernel_rfl) (cj h1 (cj1 h2)))) (fun h2 =>
     Pn.some (Fn.of [.bit false, .bit false] (p := [(decide (n < lo)) = false,
      (decide (hi < n)) = false]) (by kernel_rfl) (cj h1 (cj1 h2)))))
def spec_AddMoney (a : Int) (b : Int) : Option (Int × Bool) :=
 (spec_l01Money a).bind fun r1 =>
 if r1 = true then
  (spec_l01Money b).bind fun r2 =>
  if r2 = true then
   if (decide ((i64 (4611686018427387904 - b)) < a)) = true then
    some (0, false)
   else
    some (i64 (a + b), true)
  else
   some (0, false)
 else
  some (0, false)
theorem spec_AddMoney_ok (a : Int) (b : Int) : Pn (fun y => Fn Tryz.prog 144 [(false, E3 a), (false, E3 b)] (V.tup [E3 y.1, E4 y.2]) []) (spec_AddMoney a b) := by
  unfold spec_AddMoney
  exact
   Pn.bind (fun r1 h1 =>
    Pn.ite (fun h2 =>
     Pn.bind (fun r2 h3 =>
      Pn.ite (fun h4 =>
       Pn.ite (fun h5 =>
        Pn.some (Fn.of [.call [] (E4 r1) [], .bit false, .bit false, .call [] (E4 r2) [], .bit false, .bit false, .bit false, .bit false, .bit false, .bit false, .bit false, .bit true] (p := [Fn Tryz.prog 99 [(false, E3 a)] (E4 r1) [],
         (true || ((E4 r1).nv && nvL [])) = true,
         (!r1) = false,
         (!r1) = false,
         Fn Tryz.prog 99 [(false, E3 b)] (E4 r2) [],
         (true || ((E4 r2).nv && nvL [])) = true,
         (!r1) = false,
         (!r1) = false,
         (!r2) = false,
         (!r2) = false,
         (!r2) = false,
         (!r2) = false,
         (!r2) = false,
         (decide ((i64 (4611686018427387904 - b)) < a)) = true]) (by kernel_rfl) (cj (spec_l01Money_ok a r1 h1) (cj rfl (cj (nf h2) (cj (nf h2) (cj (spec_l01Money_ok b r2 h3) (cj rfl (cj (nf h2) (cj (nf h2) (cj (nf h4) (cj (nf h4) (cj (nf h4) (cj (nf h4) (cj (nf h4) (cj1 h5)))))))))))))))) (fun h5 =>
        Pn.some (Fn.of [.call [] (E4 r1) [], .bit false, .bit false, .call [] (E4 r2) [], .bit false, .bit false, .bit false, .bit false, .bit false, .bit false, .bit false, .bit false] (p := [Fn Tryz.prog 99 [(false, E3 a)] (E4 r1) [],
         (true || ((E4 r1).nv && nvL [])) = true,
         (!r1) = false,
         (!r1) = false,
         Fn Tryz.prog 99 [(false, E3 b)] (E4 r2) [],
         (true || ((E4 r2).nv && nvL [])) = true,
         (!r1) = false,
         (!r1) = false,
         (!r2) = false,
         (!r2) = false,
         (!r2) = false,
         (!r2) = false,
         (!r2) = false,
         (decide ((i64 (4611686018427387904 - b)) < a)) = false]) (by kernel_rfl) (cj (spec_l01Money_ok a r1 h1) (cj rfl (cj (nf h2) (cj (nf h2) (cj (spec_l01Money_ok b r2 h3) (cj rfl (cj (nf h2) (cj (nf h2) (cj (nf h4) (cj (nf h4) (cj (nf h4) (cj (nf h4) (cj (nf h4) (cj1 h5))))))))))))))))) (fun h4 =>
       Pn.some (Fn.of [.call [] (E4 r1) [], .bit false, .bit false, .call [] (E4 r2) [], .bit false, .bit false, .bit true, .bit true, .bit true, .bit true, .bit true, .bit true] (p := [Fn Tryz.prog 99 [(false, E3 a)] (E4 r1) [],
        (true || ((E4 r1).nv && nvL [])) = true,
        (!r1) = false,
        (!r1) = false,
        Fn Tryz.prog 99 [(false, E3 b)] (E4 r2) [],
        (true || ((E4 r2).nv && nvL [])) = true,
        (!r1) = false,
        (!r1) = false,
        (!r2) = true,
        (!r2) = true,
        (!r2) = true,
        (!r2) = true,
        (!r2) = true,
        true = true]) (by kernel_rfl) (cj (spec_l01Money_ok a r1 h1) (cj rfl (cj (nf h2) (cj (nf h2) (cj (spec_l01Money_ok b r2 h3) (cj rfl (cj (nf h2) (cj (nf h2) (cj (nt h4) (cj (nt h4) (cj (nt h4) (cj (nt h4) (cj (nt h4) (cj1 rfl)))))))))))))))))) (fun h2 =>
     Pn.some (Fn.of [.call [] (E4 r1) [], .bit true, .bit true, .bit true, .bit true, .bit true, .bit true, .bit true, .bit true, .bit true, .bit true] (p := [Fn Tryz.prog 99 [(false, E3 a)] (E4 r1) [],
      (true || ((E4 r1).nv && nvL [])) = true,
      (!r1) = true,
      (!r1) = true,
      (!r1) = true,
      (!r1) = true,
      true = true,
      true = true,
      true = true,
      true = true,
      true = true,
      true = true]) (by kernel_rfl) (cj (spec_l01Money_ok a r1 h1) (cj rfl (cj (nt h2) (cj (nt h2) (cj (nt h2) (cj (nt h2) (cj rfl (cj rfl (cj rfl (cj rfl (cj rfl (cj1 rfl)))))))))))))))
def spec_AddSat (a : Int) (b : Int) : Option (Int) :=
 (spec_l01Clamp a 0 4611686018427387904).bind fun r1 =>
 (spec_l01Clamp b 0 4611686018427387904).bind fun r2 =>
 (spec_AddMoney r1 r2).bind fun r3 =>
 if r3.2 = true then
  some r3.1
 else
  some 4611686018427387904
theorem spec_AddSat_ok (a : Int) (b : Int) : Pn (fun y => Fn Tryz.prog 103 [(false, E3 a), (false, E3 b)] (E3 y) []) (spec_AddSat a b) := by
  unfold spec_AddSat
  exact
   Pn.bind (fun r1 h1 =>
    Pn.bind (fun r2 h2 =>
     Pn.bind (fun r3 h3 =>
      Pn.ite (fun h4 =>
       Pn.some (Fn.of [.call [] (E3 r1) [], .call [] (E3 r2) [], .call [] (V.tup [E3 r3.1, E4 r3.2]) [], .bit false] (p := [Fn Tryz.prog 145 [(false, E3 a), (false, E3 0), (false, E3 4611686018427387904)] (E3 r1) [],
        (true || ((E3 r1).nv && nvL [])) = true,
        Fn Tryz.prog 145 [(false, E3 b), (false, E3 0), (false, E3 4611686018427387904)] (E3 r2) [],
        (true || ((E3 r2).nv && nvL [])) = true,
        Fn Tryz.prog 144 [(false, E3 r1), (false, E3 r2)] (V.tup [E3 r3.1, E4 r3.2]) [],
        (true || ((V.tup [E3 r3.1, E4 r3.2]).nv && nvL [])) = true,
        (!r3.2) = false]) (by kernel_rfl) (cj (spec_l01Clamp_ok a 0 4611686018427387904 r1 h1) (cj rfl (cj (spec_l01Clamp_ok b 0 4611686018427387904 r2 h2) (cj rfl (cj (spec_AddMoney_ok r1 r2 r3 h3) (cj rfl (cj1 (nf h4)))))))))) (fun h4 =>
       Pn.some (Fn.of [.call [] (E3 r1) [], .call [] (E3 r2) [], .call [] (V.tup [E3 r3.1, E4 r3.2]) [], .bit true] (p := [Fn Tryz.prog 145 [(false, E3 a), (false, E3 0), (false, E3 4611686018427387904)] (E3 r1) [],
        (true || ((E3 r1).nv && nvL [])) = true,
        Fn Tryz.prog 145 [(false, E3 b), (false, E3 0), (false, E3 4611686018427387904)] (E3 r2) [],
        (true || ((E3 r2).nv && nvL [])) = true,
        Fn Tryz.prog 144 [(false, E3 r1), (false, E3 r2)] (V.tup [E3 r3.1, E4 r3.2]) [],
        (true || ((V.tup [E3 r3.1, E4 r3.2]).nv && nvL [])) = true,
        (!r3.2) = true]) (by kernel_rfl) (cj (spec_l01Clamp_ok a 0 4611686018427387904 r1 h1) (cj rfl (cj (spec_l01Clamp_ok b 0 4611686018427387904 r2 h2) (cj rfl (cj (spec_AddMoney_ok r1 r2 r3 h3) (cj rfl (cj1 (nt h4)))))))))))))
def spec_Stored_l0 (l : List Hold) : List Hold → Int → Option (Int)
  | [], v1 =>
   some v1
  | x1 :: t1, v1 =>
   (spec_AddSat v1 x1.Amount).bind fun r1 =>
   spec_Stored_l0 l t1 r1
theorem spec_Stored_l0_ok (l : List Hold) (h2 : capOk l.length = true) : ∀ (t1 p1 : List Hold) (_ : l = p1 ++ t1) (v1 : Int), Pn (LpO Tryz.prog (sub (codeOf Tryz.prog 104) [1, 1, 0, 1, 0, 0]) (st 18 [(3, V.sc (.int .i64 v1)), (6, V.sl false 129 (List.map E129 l)), (7, V.sc (.int .i64 (l.length : Int))), (8, V.sc (.int .i64 (p1.length : Int)))] [] []) (fun (y : Int) => (X.out 0, st 18 [(3, V.sc (.int .i64 y))] [] []))) (spec_Stored_l0 l t1 v1)
  | [], p1, h1, v1 => by
    unfold spec_Stored_l0
    exact
     Pn.some (LpO.out [.bit false, .mask [3], .ren []] (p := [(decide ((p1.length : Int) < (l.length : Int))) = false]) (by kernel_rfl) (show X.out 0 ≠ X.go from nofun) (cj1 (rng_end h1)))
  | x1 :: t1, p1, h1, v1 => by
    unfold spec_Stored_l0
    exact
     Pn.bind (fun r1 h3 =>
      LpO.go [.bit true, .el (E129 x1), .call [] (E3 r1) [], .wait 4, .mask [3, 6, 7, 8], .ren [], .nm 8 (V.sc (.int .i64 ((p1 ++ [x1]).length : Int)))] (p := [(decide ((p1.length : Int) < (l.length : Int))) = true,
       (0 : Int) ≤ (p1.length : Int),
       (List.map E129 l)[(p1.length : Int).toNat]? = some (E129 x1),
       Fn Tryz.prog 103 [(false, E3 v1), (false, E3 x1.Amount)] (E3 r1) [],
       (true || ((E3 r1).nv && nvL [])) = true,
       V.sc (.int .i64 (i64 ((p1.length : Int) + 1))) = V.sc (.int .i64 ((p1 ++ [x1]).length : Int))]) (by kernel_rfl) (cj (rng_lt h1) (cj (by omega) (cj (rng_get _ h1) (cj (spec_AddSat_ok v1 x1.Amount r1 h3) (cj rfl (cj1 (rng_next h1 h2))))))) (spec_Stored_l0_ok l h2 t1 (p1 ++ [x1]) (rng_step h1) r1))
def spec_Stored (l : List Hold) : Option (Int) :=
 if (capOk l.length) = true then
  (spec_Stored_l0 l l 0).bind fun r2 =>
  some r2
 else none
theorem spec_Stored_ok (l : List Hold) : Pn (fun y => Fn Tryz.prog 104 [(false, E44 l)] (E3 y) []) (spec_Stored l) := by
  unfold spec_Stored
  exact
   Pn.ite (fun h4 =>
    Pn.bind (fun r2 h5 =>
     Pn.some (Fn.of [.wait 4, .nm 7 (V.sc (.int .i64 (l.length : Int))), .wait 2, .mask [3, 6, 7, 8], .ren [], .loop (X.out 0) (st 18 [(3, V.sc (.int .i64 r2))] [] [])] (p := [V.sc (.int .i64 ((List.map E129 l).length : Int)) = V.sc (.int .i64 (l.length : Int)),
      Loop Tryz.prog (sub (codeOf Tryz.prog 104) [1, 1, 0, 1, 0, 0]) (st 18 [(3, V.sc (.int .i64 0)), (6, V.sl false 129 (List.map E129 l)), (7, V.sc (.int .i64 (l.length : Int))), (8, V.sc (.int .i64 0))] [] []) (X.out 0) (st 18 [(3, V.sc (.int .i64 r2))] [] [])]) (by kernel_rfl) (cj (len_nm _ _) (cj1 (spec_Stored_l0_ok l h4 l [] rfl 0 r2 h5)))))) (fun h4 =>
    Pn.none)
def spec_AcctOk (a : Acct) : Option (Bool) :=
 (spec_AcctIdOk a.Id).bind fun r1 =>
 if r1 = true then
  (spec_l01In a.Limit 0 9007199254740992).bind fun r2 =>
  if r2 = true then
   (spec_l01In a.Most 0 1000).bind fun r3 =>
   if r3 = true then
    (spec_l01In a.MostSum 0 9007199254740992).bind fun r4 =>
    if r4 = true then
     (spec_l01Money a.Posted).bind fun r5 =>
     if r5 = true then
      (spec_HoldsOk a.Holds).bind fun r6 =>
      if r6 = true then
       (spec_RingOk a.Ring).bind fun r7 =>
       if r7 = true then
        (spec_SlotsOk a.Slots).bind fun r8 =>
        if r8 = true then
         (spec_Stored a.Holds).bind fun r9 =>
         (spec_AddSat a.Posted r9).bind fun r10 =>
         some (decide (r10 ≤ a.Limit))
        else
         some false
       else
        some false
      else
       some false
     else
      some false
    else
     some false
   else
    some false
  else
   some false
 else
  some false
theorem spec_AcctOk_ok (a : Acct) : Pn (fun y => Fn Tryz.prog 52 [(false, E48 a)] (E4 y) []) (spec_AcctOk a) := by
  unfold spec_AcctOk
  exact
   Pn.bind (fun r1 h1 =>
    Pn.ite (fun h2 =>
     Pn.bind (fun r2 h3 =>
      Pn.ite (fun h4 =>
       Pn.bind (fun r3 h5 =>
        Pn.ite (fun h6 =>
         Pn.bind (fun r4 h7 =>
          Pn.ite (fun h8 =>
           Pn.bind (fun r5 h9 =>
            Pn.ite (fun h10 =>
             Pn.bind (fun r6 h11 =>
              Pn.ite (fun h12 =>
               Pn.bind (fun r7 h13 =>
                Pn.ite (fun h14 =>
                 Pn.bind (fun r8 h15 =>
                  Pn.ite (fun h16 =>
                   Pn.bind (fun r9 h17 =>
                    Pn.bind (fun r10 h18 =>
                     Pn.some (Fn.of [.call [] (E4 r1) [], .bit false, .bit false, .bit false, .call [] (E4 r2) [], .bit false, .bit false, .bit false, .bit false, .bit false, .call [] (E4 r3) [], .bit false, .bit false, .bit false, .bit false, .bit false, .call [] (E4 r4) [], .bit false, .bit false, .bit false, .bit false, .bit false, .call [] (E4 r5) [], .bit false, .bit false, .bit false, .draw [], .call [] (E4 r6) [], .bit true, .bit true, .bit true, .call [] (E4 r7) [], .bit true, .bit true, .bit true, .bit true, .call [] (E4 r8) [], .bit true, .bit true, .bit true, .bit true, .bit true, .bit true, .bit true, .bit true, .call [] (E3 r9) [], .bit true, .call [] (E3 r10) [], .bit true, .bit true] (p := [Fn Tryz.prog 98 [(false, E9 a.Id)] (E4 r1) [],
                      (true || ((E4 r1).nv && nvL [])) = true,
                      (!r1) = false,
                      (!r1) = false,
                      (!r1) = false,
                      Fn Tryz.prog 70 [(false, E3 a.Limit), (false, E3 0), (false, E3 9007199254740992)] (E4 r2) [],
                      (true || ((E4 r2).nv && nvL [])) = true,
                      (!r1) = false,
                      (!r1) = false,
                      (!r2) = false,
                      (!r2) = false,
                      (!r2) = false,
                      Fn Tryz.prog 70 [(false, E3 a.Most), (false, E3 0), (false, E3 1000)] (E4 r3) [],
                      (true || ((E4 r3).nv && nvL [])) = true,
                      (!r2) = false,
                      (!r2) = false,
                      (!r3) = false,
                      (!r3) = false,
                      (!r3) = false,
                      Fn Tryz.prog 70 [(false, E3 a.MostSum), (false, E3 0), (false, E3 9007199254740992)] (E4 r4) [],
                      (true || ((E4 r4).nv && nvL [])) = true,
                      (!r3) = false,
                      (!r3) = false,
                      (!r4) = false,
                      (!r4) = false,
                      (!r4) = false,
                      Fn Tryz.prog 99 [(false, E3 a.Posted)] (E4 r5) [],
                      (true || ((E4 r5).nv && nvL [])) = true,
                      (!r4) = false,
                      (!r4) = false,
                      (!r5) = false,
                      Fn Tryz.prog 100 [(false, E44 a.Holds)] (E4 r6) [],
                      (true || ((E4 r6).nv && nvL [])) = true,
                      r6 = true,
                      r6 = true,
                      r6 = true,
                      Fn Tryz.prog 101 [(false, E45 a.Ring)] (E4 r7) [],
                      (true || ((E4 r7).nv && nvL [])) = true,
                      r6 = true,
                      r7 = true,
                      r7 = true,
                      r7 = true,
                      Fn Tryz.prog 102 [(false, E46 a.Slots)] (E4 r8) [],
                      (true || ((E4 r8).nv && nvL [])) = true,
                      r7 = true,
                      r8 = true,
                      r8 = true,
                      r8 = true,
                      r8 = true,
                      r8 = true,
                      r8 = true,
                      r8 = true,
                      Fn Tryz.prog 104 [(false, E44 a.Holds)] (E3 r9) [],
                      (true || ((E3 r9).nv && nvL [])) = true,
                      r8 = true,
                      Fn Tryz.prog 103 [(false, E3 a.Posted), (false, E3 r9)] (E3 r10) [],
                      (true || ((E3 r10).nv && nvL [])) = true,
                      r8 = true,
                      r8 = true]) (by kernel_rfl) (cj (spec_AcctIdOk_ok a.Id r1 h1) (cj rfl (cj (nf h2) (cj (nf h2) (cj (nf h2) (cj (spec_l01In_ok a.Limit 0 9007199254740992 r2 h3) (cj rfl (cj (nf h2) (cj (nf h2) (cj (nf h4) (cj (nf h4) (cj (nf h4) (cj (spec_l01In_ok a.Most 0 1000 r3 h5) (cj rfl (cj (nf h4) (cj (nf h4) (cj (nf h6) (cj (nf h6) (cj (nf h6) (cj (spec_l01In_ok a.MostSum 0 9007199254740992 r4 h7) (cj rfl (cj (nf h6) (cj (nf h6) (cj (nf h8) (cj (nf h8) (cj (nf h8) (cj (spec_l01Money_ok a.Posted r5 h9) (cj rfl (cj (nf h8) (cj (nf h8) (cj (nf h10) (cj (spec_HoldsOk_ok a.Holds r6 h11) (cj rfl (cj h12 (cj h12 (cj h12 (cj (spec_RingOk_ok a.Ring r7 h13) (cj rfl (cj h12 (cj h14 (cj h14 (cj h14 (cj (spec_SlotsOk_ok a.Slots r8 h15) (cj rfl (cj h14 (cj h16 (cj h16 (cj h16 (cj h16 (cj h16 (cj h16 (cj h16 (cj (spec_Stored_ok a.Holds r9 h17) (cj rfl (cj h16 (cj (spec_AddSat_ok a.Posted r9 r10 h18) (cj rfl (cj h16 (cj1 h16))))))))))))))))))))))))))))))))))))))))))))))))))))))))))))))) (fun h16 =>
                   Pn.some (Fn.of [.call [] (E4 r1) [], .bit false, .bit false, .bit false, .call [] (E4 r2) [], .bit false, .bit false, .bit false, .bit false, .bit false, .call [] (E4 r3) [], .bit false, .bit false, .bit false, .bit false, .bit false, .call [] (E4 r4) [], .bit false, .bit false, .bit false, .bit false, .bit false, .call [] (E4 r5) [], .bit false, .bit false, .bit false, .draw [], .call [] (E4 r6) [], .bit true, .bit true, .bit true, .call [] (E4 r7) [], .bit true, .bit true, .bit true, .bit true, .call [] (E4 r8) [], .bit true, .bit false, .bit false, .bit false, .bit false, .bit false, .bit false, .bit false, .bit false, .bit false, .bit false] (p := [Fn Tryz.prog 98 [(false, E9 a.Id)] (E4 r1) [],
                    (true || ((E4 r1).nv && nvL [])) = true,
                    (!r1) = false,
                    (!r1) = false,
                    (!r1) = false,
                    Fn Tryz.prog 70 [(false, E3 a.Limit), (false, E3 0), (false, E3 9007199254740992)] (E4 r2) [],
                    (true || ((E4 r2).nv && nvL [])) = true,
                    (!r1) = false,
                    (!r1) = false,
                    (!r2) = false,
                    (!r2) = false,
                    (!r2) = false,
                    Fn Tryz.prog 70 [(false, E3 a.Most), (false, E3 0), (false, E3 1000)] (E4 r3) [],
                    (true || ((E4 r3).nv && nvL [])) = true,
                    (!r2) = false,
                    (!r2) = false,
                    (!r3) = false,
                    (!r3) = false,
                    (!r3) = false,
                    Fn Tryz.prog 70 [(false, E3 a.MostSum), (false, E3 0), (false, E3 9007199254740992)] (E4 r4) [],
                    (true || ((E4 r4).nv && nvL [])) = true,
                    (!r3) = false,
                    (!r3) = false,
                    (!r4) = false,
                    (!r4) = false,
                    (!r4) = false,
                    Fn Tryz.prog 99 [(false, E3 a.Posted)] (E4 r5) [],
                    (true || ((E4 r5).nv && nvL [])) = true,
                    (!r4) = false,
                    (!r4) = false,
                    (!r5) = false,
                    Fn Tryz.prog 100 [(false, E44 a.Holds)] (E4 r6) [],
                    (true || ((E4 r6).nv && nvL [])) = true,
                    r6 = true,
                    r6 = true,
                    r6 = true,
                    Fn Tryz.prog 101 [(false, E45 a.Ring)] (E4 r7) [],
                    (true || ((E4 r7).nv && nvL [])) = true,
                    r6 = true,
                    r7 = true,
                    r7 = true,
                    r7 = true,
                    Fn Tryz.prog 102 [(false, E46 a.Slots)] (E4 r8) [],
                    (true || ((E4 r8).nv && nvL [])) = true,
                    r7 = true,
                    r8 = false,
                    r8 = false,
                    r8 = false,
                    r8 = false,
                    r8 = false,
                    r8 = false,
                    r8 = false,
                    r8 = false,
                    r8 = false,
                    r8 = false]) (by kernel_rfl) (cj (spec_AcctIdOk_ok a.Id r1 h1) (cj rfl (cj (nf h2) (cj (nf h2) (cj (nf h2) (cj (spec_l01In_ok a.Limit 0 9007199254740992 r2 h3) (cj rfl (cj (nf h2) (cj (nf h2) (cj (nf h4) (cj (nf h4) (cj (nf h4) (cj (spec_l01In_ok a.Most 0 1000 r3 h5) (cj rfl (cj (nf h4) (cj (nf h4) (cj (nf h6) (cj (nf h6) (cj (nf h6) (cj (spec_l01In_ok a.MostSum 0 9007199254740992 r4 h7) (cj rfl (cj (nf h6) (cj (nf h6) (cj (nf h8) (cj (nf h8) (cj (nf h8) (cj (spec_l01Money_ok a.Posted r5 h9) (cj rfl (cj (nf h8) (cj (nf h8) (cj (nf h10) (cj (spec_HoldsOk_ok a.Holds r6 h11) (cj rfl (cj h12 (cj h12 (cj h12 (cj (spec_RingOk_ok a.Ring r7 h13) (cj rfl (cj h12 (cj h14 (cj h14 (cj h14 (cj (spec_SlotsOk_ok a.Slots r8 h15) (cj rfl (cj h14 (cj h16 (cj h16 (cj h16 (cj h16 (cj h16 (cj h16 (cj h16 (cj h16 (cj h16 (cj1 h16))))))))))))))))))))))))))))))))))))))))))))))))))))))))))) (fun h14 =>
                 Pn.some (Fn.of [.call [] (E4 r1) [], .bit false, .bit false, .bit false, .call [] (E4 r2) [], .bit false, .bit false, .bit false, .bit false, .bit false, .call [] (E4 r3) [], .bit false, .bit false, .bit false, .bit false, .bit false, .call [] (E4 r4) [], .bit false, .bit false, .bit false, .bit false, .bit false, .call [] (E4 r5) [], .bit false, .bit false, .bit false, .draw [], .call [] (E4 r6) [], .bit true, .bit true, .bit true, .call [] (E4 r7) [], .bit true, .bit false, .bit false, .bit false, .bit false, .bit false, .bit false, .bit false, .bit false, .bit false, .bit false, .bit false, .bit false, .bit false, .bit false] (p := [Fn Tryz.prog 98 [(false, E9 a.Id)] (E4 r1) [],
                  (true || ((E4 r1).nv && nvL [])) = true,
                  (!r1) = false,
                  (!r1) = false,
                  (!r1) = false,
                  Fn Tryz.prog 70 [(false, E3 a.Limit), (false, E3 0), (false, E3 9007199254740992)] (E4 r2) [],
                  (true || ((E4 r2).nv && nvL [])) = true,
                  (!r1) = false,
                  (!r1) = false,
                  (!r2) = false,
                  (!r2) = false,
                  (!r2) = false,
                  Fn Tryz.prog 70 [(false, E3 a.Most), (false, E3 0), (false, E3 1000)] (E4 r3) [],
                  (true || ((E4 r3).nv && nvL [])) = true,
                  (!r2) = false,
                  (!r2) = false,
                  (!r3) = false,
                  (!r3) = false,
                  (!r3) = false,
                  Fn Tryz.prog 70 [(false, E3 a.MostSum), (false, E3 0), (false, E3 9007199254740992)] (E4 r4) [],
                  (true || ((E4 r4).nv && nvL [])) = true,
                  (!r3) = false,
                  (!r3) = false,
                  (!r4) = false,
                  (!r4) = false,
                  (!r4) = false,
                  Fn Tryz.prog 99 [(false, E3 a.Posted)] (E4 r5) [],
                  (true || ((E4 r5).nv && nvL [])) = true,
                  (!r4) = false,
                  (!r4) = false,
                  (!r5) = false,
                  Fn Tryz.prog 100 [(false, E44 a.Holds)] (E4 r6) [],
                  (true || ((E4 r6).nv && nvL [])) = true,
                  r6 = true,
                  r6 = true,
                  r6 = true,
                  Fn Tryz.prog 101 [(false, E45 a.Ring)] (E4 r7) [],
                  (true || ((E4 r7).nv && nvL [])) = true,
                  r6 = true,
                  r7 = false,
                  r7 = false,
                  r7 = false,
                  r7 = false,
                  false = false,
                  false = false,
                  false = false,
                  false = false,
                  false = false,
                  false = false,
                  false = false,
                  false = false,
                  false = false,
                  false = false]) (by kernel_rfl) (cj (spec_AcctIdOk_ok a.Id r1 h1) (cj rfl (cj (nf h2) (cj (nf h2) (cj (nf h2) (cj (spec_l01In_ok a.Limit 0 9007199254740992 r2 h3) (cj rfl (cj (nf h2) (cj (nf h2) (cj (nf h4) (cj (nf h4) (cj (nf h4) (cj (spec_l01In_ok a.Most 0 1000 r3 h5) (cj rfl (cj (nf h4) (cj (nf h4) (cj (nf h6) (cj (nf h6) (cj (nf h6) (cj (spec_l01In_ok a.MostSum 0 9007199254740992 r4 h7) (cj rfl (cj (nf h6) (cj (nf h6) (cj (nf h8) (cj (nf h8) (cj (nf h8) (cj (spec_l01Money_ok a.Posted r5 h9) (cj rfl (cj (nf h8) (cj (nf h8) (cj (nf h10) (cj (spec_HoldsOk_ok a.Holds r6 h11) (cj rfl (cj h12 (cj h12 (cj h12 (cj (spec_RingOk_ok a.Ring r7 h13) (cj rfl (cj h12 (cj h14 (cj h14 (cj h14 (cj h14 (cj rfl (cj rfl (cj rfl (cj rfl (cj rfl (cj rfl (cj rfl (cj rfl (cj rfl (cj1 rfl))))))))))))))))))))))))))))))))))))))))))))))))))))))))) (fun h12 =>
               Pn.some (Fn.of [.call [] (E4 r1) [], .bit false, .bit false, .bit false, .call [] (E4 r2) [], .bit false, .bit false, .bit false, .bit false, .bit false, .call [] (E4 r3) [], .bit false, .bit false, .bit false, .bit false, .bit false, .call [] (E4 r4) [], .bit false, .bit false, .bit false, .bit false, .bit false, .call [] (E4 r5) [], .bit false, .bit false, .bit false, .draw [], .call [] (E4 r6) [], .bit false, .bit false, .bit false, .bit false, .bit false, .bit false, .bit false, .bit false, .bit false, .bit false, .bit false, .bit false, .bit false, .bit false, .bit false, .bit false, .bit false, .bit false] (p := [Fn Tryz.prog 98 [(false, E9 a.Id)] (E4 r1) [],
                (true || ((E4 r1).nv && nvL [])) = true,
                (!r1) = false,
                (!r1) = false,
                (!r1) = false,
                Fn Tryz.prog 70 [(false, E3 a.Limit), (false, E3 0), (false, E3 9007199254740992)] (E4 r2) [],
                (true || ((E4 r2).nv && nvL [])) = true,
                (!r1) = false,
                (!r1) = false,
                (!r2) = false,
                (!r2) = false,
                (!r2) = false,
                Fn Tryz.prog 70 [(false, E3 a.Most), (false, E3 0), (false, E3 1000)] (E4 r3) [],
                (true || ((E4 r3).nv && nvL [])) = true,
                (!r2) = false,
                (!r2) = false,
                (!r3) = false,
                (!r3) = false,
                (!r3) = false,
                Fn Tryz.prog 70 [(false, E3 a.MostSum), (false, E3 0), (false, E3 9007199254740992)] (E4 r4) [],
                (true || ((E4 r4).nv && nvL [])) = true,
                (!r3) = false,
                (!r3) = false,
                (!r4) = false,
                (!r4) = false,
                (!r4) = false,
                Fn Tryz.prog 99 [(false, E3 a.Posted)] (E4 r5) [],
                (true || ((E4 r5).nv && nvL [])) = true,
                (!r4) = false,
                (!r4) = false,
                (!r5) = false,
                Fn Tryz.prog 100 [(false, E44 a.Holds)] (E4 r6) [],
                (true || ((E4 r6).nv && nvL [])) = true,
                r6 = false,
                r6 = false,
                r6 = false,
                r6 = false,
                false = false,
                false = false,
                false = false,
                false = false,
                false = false,
                false = false,
                false = false,
                false = false,
                false = false,
                false = false,
                false = false,
                false = false,
                false = false,
                false = false]) (by kernel_rfl) (cj (spec_AcctIdOk_ok a.Id r1 h1) (cj rfl (cj (nf h2) (cj (nf h2) (cj (nf h2) (cj (spec_l01In_ok a.Limit 0 9007199254740992 r2 h3) (cj rfl (cj (nf h2) (cj (nf h2) (cj (nf h4) (cj (nf h4) (cj (nf h4) (cj (spec_l01In_ok a.Most 0 1000 r3 h5) (cj rfl (cj (nf h4) (cj (nf h4) (cj (nf h6) (cj (nf h6) (cj (nf h6) (cj (spec_l01In_ok a.MostSum 0 9007199254740992 r4 h7) (cj rfl (cj (nf h6) (cj (nf h6) (cj (nf h8) (cj (nf h8) (cj (nf h8) (cj (spec_l01Money_ok a.Posted r5 h9) (cj rfl (cj (nf h8) (cj (nf h8) (cj (nf h10) (cj (spec_HoldsOk_ok a.Holds r6 h11) (cj rfl (cj h12 (cj h12 (cj h12 (cj h12 (cj rfl (cj rfl (cj rfl (cj rfl (cj rfl (cj rfl (cj rfl (cj rfl (cj rfl (cj rfl (cj rfl (cj rfl (cj rfl (cj1 rfl))))))))))))))))))))))))))))))))))))))))))))))))))))))) (fun h10 =>
             Pn.some (Fn.of [.call [] (E4 r1) [], .bit false, .bit false, .bit false, .call [] (E4 r2) [], .bit false, .bit false, .bit false, .bit false, .bit false, .call [] (E4 r3) [], .bit false, .bit false, .bit false, .bit false, .bit false, .call [] (E4 r4) [], .bit false, .bit false, .bit false, .bit false, .bit false, .call [] (E4 r5) [], .bit false, .bit false, .bit true] (p := [Fn Tryz.prog 98 [(false, E9 a.Id)] (E4 r1) [],
              (true || ((E4 r1).nv && nvL [])) = true,
              (!r1) = false,
              (!r1) = false,
              (!r1) = false,
              Fn Tryz.prog 70 [(false, E3 a.Limit), (false, E3 0), (false, E3 9007199254740992)] (E4 r2) [],
              (true || ((E4 r2).nv && nvL [])) = true,
              (!r1) = false,
              (!r1) = false,
              (!r2) = false,
              (!r2) = false,
              (!r2) = false,
              Fn Tryz.prog 70 [(false, E3 a.Most), (false, E3 0), (false, E3 1000)] (E4 r3) [],
              (true || ((E4 r3).nv && nvL [])) = true,
              (!r2) = false,
              (!r2) = false,
              (!r3) = false,
              (!r3) = false,
              (!r3) = false,
              Fn Tryz.prog 70 [(false, E3 a.MostSum), (false, E3 0), (false, E3 9007199254740992)] (E4 r4) [],
              (true || ((E4 r4).nv && nvL [])) = true,
              (!r3) = false,
              (!r3) = false,
              (!r4) = false,
              (!r4) = false,
              (!r4) = false,
              Fn Tryz.prog 99 [(false, E3 a.Posted)] (E4 r5) [],
              (true || ((E4 r5).nv && nvL [])) = true,
              (!r4) = false,
              (!r4) = false,
              (!r5) = true]) (by kernel_rfl) (cj (spec_AcctIdOk_ok a.Id r1 h1) (cj rfl (cj (nf h2) (cj (nf h2) (cj (nf h2) (cj (spec_l01In_ok a.Limit 0 9007199254740992 r2 h3) (cj rfl (cj (nf h2) (cj (nf h2) (cj (nf h4) (cj (nf h4) (cj (nf h4) (cj (spec_l01In_ok a.Most 0 1000 r3 h5) (cj rfl (cj (nf h4) (cj (nf h4) (cj (nf h6) (cj (nf h6) (cj (nf h6) (cj (spec_l01In_ok a.MostSum 0 9007199254740992 r4 h7) (cj rfl (cj (nf h6) (cj (nf h6) (cj (nf h8) (cj (nf h8) (cj (nf h8) (cj (spec_l01Money_ok a.Posted r5 h9) (cj rfl (cj (nf h8) (cj (nf h8) (cj1 (nt h10)))))))))))))))))))))))))))))))))))) (fun h8 =>
           Pn.some (Fn.of [.call [] (E4 r1) [], .bit false, .bit false, .bit false, .call [] (E4 r2) [], .bit false, .bit false, .bit false, .bit false, .bit false, .call [] (E4 r3) [], .bit false, .bit false, .bit false, .bit false, .bit false, .call [] (E4 r4) [], .bit false, .bit false, .bit true, .bit true, .bit true, .bit true, .bit true, .bit true] (p := [Fn Tryz.prog 98 [(false, E9 a.Id)] (E4 r1) [],
            (true || ((E4 r1).nv && nvL [])) = true,
            (!r1) = false,
            (!r1) = false,
            (!r1) = false,
            Fn Tryz.prog 70 [(false, E3 a.Limit), (false, E3 0), (false, E3 9007199254740992)] (E4 r2) [],
            (true || ((E4 r2).nv && nvL [])) = true,
            (!r1) = false,
            (!r1) = false,
            (!r2) = false,
            (!r2) = false,
            (!r2) = false,
            Fn Tryz.prog 70 [(false, E3 a.Most), (false, E3 0), (false, E3 1000)] (E4 r3) [],
            (true || ((E4 r3).nv && nvL [])) = true,
            (!r2) = false,
            (!r2) = false,
            (!r3) = false,
            (!r3) = false,
            (!r3) = false,
            Fn Tryz.prog 70 [(false, E3 a.MostSum), (false, E3 0), (false, E3 9007199254740992)] (E4 r4) [],
            (true || ((E4 r4).nv && nvL [])) = true,
            (!r3) = false,
            (!r3) = false,
            (!r4) = true,
            (!r4) = true,
            (!r4) = true,
            (!r4) = true,
            (!r4) = true,
            true = true]) (by kernel_rfl) (cj (spec_AcctIdOk_ok a.Id r1 h1) (cj rfl (cj (nf h2) (cj (nf h2) (cj (nf h2) (cj (spec_l01In_ok a.Limit 0 9007199254740992 r2 h3) (cj rfl (cj (nf h2) (cj (nf h2) (cj (nf h4) (cj (nf h4) (cj (nf h4) (cj (spec_l01In_ok a.Most 0 1000 r3 h5) (cj rfl (cj (nf h4) (cj (nf h4) (cj (nf h6) (cj (nf h6) (cj (nf h6) (cj (spec_l01In_ok a.MostSum 0 9007199254740992 r4 h7) (cj rfl (cj (nf h6) (cj (nf h6) (cj (nt h8) (cj (nt h8) (cj (nt h8) (cj (nt h8) (cj (nt h8) (cj1 rfl))))))))))))))))))))))))))))))))) (fun h6 =>
         Pn.some (Fn.of [.call [] (E4 r1) [], .bit false, .bit false, .bit false, .call [] (E4 r2) [], .bit false, .bit false, .bit false, .bit false, .bit false, .call [] (E4 r3) [], .bit false, .bit false, .bit true, .bit true, .bit true, .bit true, .bit true, .bit true, .bit true, .bit true, .bit true, .bit true, .bit true] (p := [Fn Tryz.prog 98 [(false, E9 a.Id)] (E4 r1) [],
          (true || ((E4 r1).nv && nvL [])) = true,
          (!r1) = false,
          (!r1) = false,
          (!r1) = false,
          Fn Tryz.prog 70 [(false, E3 a.Limit), (false, E3 0), (false, E3 9007199254740992)] (E4 r2) [],
          (true || ((E4 r2).nv && nvL [])) = true,
          (!r1) = false,
          (!r1) = false,
          (!r2) = false,
          (!r2) = false,
          (!r2) = false,
          Fn Tryz.prog 70 [(false, E3 a.Most), (false, E3 0), (false, E3 1000)] (E4 r3) [],
          (true || ((E4 r3).nv && nvL [])) = true,
          (!r2) = false,
          (!r2) = false,
          (!r3) = true,
          (!r3) = true,
          (!r3) = true,
          (!r3) = true,
          (!r3) = true,
          true = true,
          true = true,
          true = true,
          true = true,
          true = true,
          true = true]) (by kernel_rfl) (cj (spec_AcctIdOk_ok a.Id r1 h1) (cj rfl (cj (nf h2) (cj (nf h2) (cj (nf h2) (cj (spec_l01In_ok a.Limit 0 9007199254740992 r2 h3) (cj rfl (cj (nf h2) (cj (nf h2) (cj (nf h4) (cj (nf h4) (cj (nf h4) (cj (spec_l01In_ok a.Most 0 1000 r3 h5) (cj rfl (cj (nf h4) (cj (nf h4) (cj (nt h6) (cj (nt h6) (cj (nt h6) (cj (nt h6) (cj (nt h6) (cj rfl (cj rfl (cj rfl (cj rfl (cj rfl (cj1 rfl))))))))))))))))))))))))))))))) (fun h4 =>
       Pn.some (Fn.of [.call [] (E4 r1) [], .bit false, .bit false, .bit false, .call [] (E4 r2) [], .bit false, .bit false, .bit true, .bit true, .bit true, .bit true, .bit true, .bit true, .bit true, .bit true, .bit true, .bit true, .bit true, .bit true, .bit true, .bit true, .bit true, .bit true] (p := [Fn Tryz.prog 98 [(false, E9 a.Id)] (E4 r1) [],
        (true || ((E4 r1).nv && nvL [])) = true,
        (!r1) = false,
        (!r1) = false,
        (!r1) = false,
        Fn Tryz.prog 70 [(false, E3 a.Limit), (false, E3 0), (false, E3 9007199254740992)] (E4 r2) [],
        (true || ((E4 r2).nv && nvL [])) = true,
        (!r1) = false,
        (!r1) = false,
        (!r2) = true,
        (!r2) = true,
        (!r2) = true,
        (!r2) = true,
        (!r2) = true,
        true = true,
        true = true,
        true = true,
        true = true,
        true = true,
        true = true,
        true = true,
        true = true,
        true = true,
        true = true,
        true = true]) (by kernel_rfl) (cj (spec_AcctIdOk_ok a.Id r1 h1) (cj rfl (cj (nf h2) (cj (nf h2) (cj (nf h2) (cj (spec_l01In_ok a.Limit 0 9007199254740992 r2 h3) (cj rfl (cj (nf h2) (cj (nf h2) (cj (nt h4) (cj (nt h4) (cj (nt h4) (cj (nt h4) (cj (nt h4) (cj rfl (cj rfl (cj rfl (cj rfl (cj rfl (cj rfl (cj rfl (cj rfl (cj rfl (cj rfl (cj1 rfl))))))))))))))))))))))))))))) (fun h2 =>
     Pn.some (Fn.of [.call [] (E4 r1) [], .bit true, .bit true, .bit true, .bit true, .bit true, .bit true, .bit true, .bit true, .bit true, .bit true, .bit true, .bit true, .bit true, .bit true, .bit true, .bit true, .bit true, .bit true, .bit true, .bit true, .bit true] (p := [Fn Tryz.prog 98 [(false, E9 a.Id)] (E4 r1) [],
      (true || ((E4 r1).nv && nvL [])) = true,
      (!r1) = true,
      (!r1) = true,
      (!r1) = true,
      (!r1) = true,
      (!r1) = true,
      true = true,
      true = true,
      true = true,
      true = true,
      true = true,
      true = true,
      true = true,
      true = true,
      true = true,
      true = true,
      true = true,
      true = true,
      true = true,
      true = true,
      true = true,
      true = true]) (by kernel_rfl) (cj (spec_AcctIdOk_ok a.Id r1 h1) (cj rfl (cj (nt h2) (cj (nt h2) (cj (nt h2) (cj (nt h2) (cj (nt h2) (cj rfl (cj rfl (cj rfl (cj rfl (cj rfl (cj rfl (cj rfl (cj rfl (cj rfl (cj rfl (cj rfl (cj rfl (cj rfl (cj rfl (cj rfl (cj1 rfl))))))))))))))))))))))))))
def spec_BookOk_l0 (b : Book) : List Acct → List Acct → Option (Lo Unit Unit)
  | [], p1 =>
   some (.out ())
  | x1 :: t1, p1 =>
   (spec_AcctOk x1).bind fun r1 =>
   if r1 = true then
    if (decide (0 < (p1.length : Int))) = true then
     if (decide (0 ≤ (i64 ((p1.length : Int) - 1)))) = true then
      (b.Accts[(i64 ((p1.length : Int) - 1)).toNat]?).bind fun x2 =>
      if (Op.bytesLess x2.Id.toList x1.Id.toList) = true then
       spec_BookOk_l0 b t1 (p1 ++ [x1])
      else
       some (.ret ())
     else none
    else
     spec_BookOk_l0 b t1 (p1 ++ [x1])
   else
    some (.ret ())
theorem spec_BookOk_l0_ok (b : Book) (h2 : capOk b.Accts.length = true) : ∀ (t1 p1 : List Acct) (_ : b.Accts = p1 ++ t1) , Pn (LpO Tryz.prog (sub (codeOf Tryz.prog 51) [1, 0, 1, 0, 0]) (st 37 [(1, V.ptr 0 0), (6, V.sl false 48 (List.map E48 b.Accts)), (7, V.sc (.int .i64 (b.Accts.length : Int))), (8, V.sc (.int .i64 (p1.length : Int)))] [Blk.box 28 [V.sl false 48 (List.map E48 b.Accts)]] []) (fun (y : Lo Unit Unit) => Lo.elim y (fun s => (X.out 0, st 37 [(1, V.ptr 0 0)] [Blk.box 28 [V.sl false 48 (List.map E48 b.Accts)]] [])) (fun s => (X.ret, st 37 [(2, V.sc (.bool false))] [] [])))) (spec_BookOk_l0 b t1 p1)
  | [], p1, h1 => by
    unfold spec_BookOk_l0
    exact
     Pn.some (LpO.out [.bit false, .mask [1], .ren [0]] (p := [(decide ((p1.length : Int) < (b.Accts.length : Int))) = false]) (by kernel_rfl) (show X.out 0 ≠ X.go from nofun) (cj1 (rng_end h1)))
  | x1 :: t1, p1, h1 => by
    unfold spec_BookOk_l0
    exact
     Pn.bind (fun r1 h3 =>
      Pn.ite (fun h4 =>
       Pn.ite (fun h5 =>
        Pn.ite (fun h6 =>
         Pn.bind (fun x2 h7 =>
          Pn.ite (fun h8 =>
           LpO.go [.bit true, .el (E48 x1), .draw [], .call [] (E4 r1) [], .bit false, .bit false, .bit false, .bit true, .bit true, .bit true, .bit true, .bit true, .el (E48 x2), .bit true, .bit true, .bit true, .bit true, .bit true, .bit false, .bit true, .bit false, .bit false, .wait 2, .mask [1, 6, 7, 8], .ren [0], .nm 8 (V.sc (.int .i64 ((p1 ++ [x1]).length : Int)))] (p := [(decide ((p1.length : Int) < (b.Accts.length : Int))) = true,
            (0 : Int) ≤ (p1.length : Int),
            (List.map E48 b.Accts)[(p1.length : Int).toNat]? = some (E48 x1),
            Fn Tryz.prog 52 [(false, E48 x1)] (E4 r1) [],
            (true || ((E4 r1).nv && nvL [])) = true,
            (!r1) = false,
            (!r1) = false,
            (!r1) = false,
            (decide (0 < (p1.length : Int))) = true,
            (decide (0 < (p1.length : Int))) = true,
            (decide (0 < (p1.length : Int))) = true,
            (decide (0 < (p1.length : Int))) = true,
            (decide (0 < (p1.length : Int))) = true,
            (0 : Int) ≤ (i64 ((p1.length : Int) - 1)),
            (List.map E48 b.Accts)[(i64 ((p1.length : Int) - 1)).toNat]? = some (E48 x2),
            (decide (0 < (p1.length : Int))) = true,
            (decide (0 < (p1.length : Int))) = true,
            (decide (0 < (p1.length : Int))) = true,
            (decide (0 < (p1.length : Int))) = true,
            (decide (0 < (p1.length : Int))) = true,
            (!r1) = false,
            (decide (0 < (p1.length : Int))) = true,
            (!r1) = false,
            (!(Op.bytesLess x2.Id.toList x1.Id.toList)) = false,
            V.sc (.int .i64 (i64 ((p1.length : Int) + 1))) = V.sc (.int .i64 ((p1 ++ [x1]).length : Int))]) (by kernel_rfl) (cj (rng_lt h1) (cj (by omega) (cj (rng_get _ h1) (cj (spec_AcctOk_ok x1 r1 h3) (cj rfl (cj (nf h4) (cj (nf h4) (cj (nf h4) (cj h5 (cj h5 (cj h5 (cj h5 (cj h5 (cj (od h6) (cj (map_get h7) (cj h5 (cj h5 (cj h5 (cj h5 (cj h5 (cj (nf h4) (cj h5 (cj (nf h4) (cj (nf h8) (cj1 (rng_next h1 h2)))))))))))))))))))))))))) (spec_BookOk_l0_ok b h2 t1 (p1 ++ [x1]) (rng_step h1))) (fun h8 =>
           Pn.some (LpO.out [.bit true, .el (E48 x1), .draw [], .call [] (E4 r1) [], .bit false, .bit false, .bit false, .bit true, .bit true, .bit true, .bit true, .bit true, .el (E48 x2), .bit true, .bit true, .bit true, .bit true, .bit true, .bit false, .bit true, .bit false, .bit true, .wait 1, .mask [2], .ren []] (p := [(decide ((p1.length : Int) < (b.Accts.length : Int))) = true,
            (0 : Int) ≤ (p1.length : Int),
            (List.map E48 b.Accts)[(p1.length : Int).toNat]? = some (E48 x1),
            Fn Tryz.prog 52 [(false, E48 x1)] (E4 r1) [],
            (true || ((E4 r1).nv && nvL [])) = true,
            (!r1) = false,
            (!r1) = false,
            (!r1) = false,
            (decide (0 < (p1.length : Int))) = true,
            (decide (0 < (p1.length : Int))) = true,
            (decide (0 < (p1.length : Int))) = true,
            (decide (0 < (p1.length : Int))) = true,
            (decide (0 < (p1.length : Int))) = true,
            (0 : Int) ≤ (i64 ((p1.length : Int) - 1)),
            (List.map E48 b.Accts)[(i64 ((p1.length : Int) - 1)).toNat]? = some (E48 x2),
            (decide (0 < (p1.length : Int))) = true,
            (decide (0 < (p1.length : Int))) = true,
            (decide (0 < (p1.length : Int))) = true,
            (decide (0 < (p1.length : Int))) = true,
            (decide (0 < (p1.length : Int))) = true,
            (!r1) = false,
            (decide (0 < (p1.length : Int))) = true,
            (!r1) = false,
            (!(Op.bytesLess x2.Id.toList x1.Id.toList)) = true]) (by kernel_rfl) (show X.ret ≠ X.go from nofun) (cj (rng_lt h1) (cj (by omega) (cj (rng_get _ h1) (cj (spec_AcctOk_ok x1 r1 h3) (cj rfl (cj (nf h4) (cj (nf h4) (cj (nf h4) (cj h5 (cj h5 (cj h5 (cj h5 (cj h5 (cj (od h6) (cj (map_get h7) (cj h5 (cj h5 (cj h5 (cj h5 (cj h5 (cj (nf h4) (cj h5 (cj (nf h4) (cj1 (nt h8))))))))))))))))))))))))))))) (fun h6 =>
         Pn.none)) (fun h5 =>
        LpO.go [.bit true, .el (E48 x1), .draw [], .call [] (E4 r1) [], .bit false, .bit false, .bit false, .bit false, .bit false, .bit false, .bit false, .bit false, .bit false, .bit false, .bit false, .bit false, .bit false, .bit false, .bit false, .bit false, .bit false, .wait 2, .mask [1, 6, 7, 8], .ren [0], .nm 8 (V.sc (.int .i64 ((p1 ++ [x1]).length : Int)))] (p := [(decide ((p1.length : Int) < (b.Accts.length : Int))) = true,
         (0 : Int) ≤ (p1.length : Int),
         (List.map E48 b.Accts)[(p1.length : Int).toNat]? = some (E48 x1),
         Fn Tryz.prog 52 [(false, E48 x1)] (E4 r1) [],
         (true || ((E4 r1).nv && nvL [])) = true,
         (!r1) = false,
         (!r1) = false,
         (!r1) = false,
         (decide (0 < (p1.length : Int))) = false,
         (decide (0 < (p1.length : Int))) = false,
         (decide (0 < (p1.length : Int))) = false,
         (decide (0 < (p1.length : Int))) = false,
         (decide (0 < (p1.length : Int))) = false,
         (decide (0 < (p1.length : Int))) = false,
         (decide (0 < (p1.length : Int))) = false,
         (decide (0 < (p1.length : Int))) = false,
         (decide (0 < (p1.length : Int))) = false,
         (decide (0 < (p1.length : Int))) = false,
         (!r1) = false,
         (decide (0 < (p1.length : Int))) = false,
         (!r1) = false,
         false = false,
         V.sc (.int .i64 (i64 ((p1.length : Int) + 1))) = V.sc (.int .i64 ((p1 ++ [x1]).length : Int))]) (by kernel_rfl) (cj (rng_lt h1) (cj (by omega) (cj (rng_get _ h1) (cj (spec_AcctOk_ok x1 r1 h3) (cj rfl (cj (nf h4) (cj (nf h4) (cj (nf h4) (cj h5 (cj h5 (cj h5 (cj h5 (cj h5 (cj h5 (cj h5 (cj h5 (cj h5 (cj h5 (cj (nf h4) (cj h5 (cj (nf h4) (cj rfl (cj1 (rng_next h1 h2)))))))))))))))))))))))) (spec_BookOk_l0_ok b h2 t1 (p1 ++ [x1]) (rng_step h1)))) (fun h4 =>
       Pn.some (LpO.out [.bit true, .el (E48 x1), .draw [], .call [] (E4 r1) [], .bit true, .bit true, .bit true, .bit true, .bit true, .bit true, .wait 1, .mask [2], .ren []] (p := [(decide ((p1.length : Int) < (b.Accts.length : Int))) = true,
        (0 : Int) ≤ (p1.length : Int),
        (List.map E48 b.Accts)[(p1.length : Int).toNat]? = some (E48 x1),
        Fn Tryz.prog 52 [(false, E48 x1)] (E4 r1) [],
        (true || ((E4 r1).nv && nvL [])) = true,
        (!r1) = true,
        (!r1) = true,
        (!r1) = true,
        (!r1) = true,
        (!r1) = true,
        true = true]) (by kernel_rfl) (show X.ret ≠ X.go from nofun) (cj (rng_lt h1) (cj (by omega) (cj (rng_get _ h1) (cj (spec_AcctOk_ok x1 r1 h3) (cj rfl (cj (nt h4) (cj (nt h4) (cj (nt h4) (cj (nt h4) (cj (nt h4) (cj1 rfl))))))))))))))
def spec_BookOk (b : Book) : Option (Bool) :=
 if (capOk b.Accts.length) = true then
  (spec_BookOk_l0 b b.Accts []).bind fun r2 =>
  Lo.elim r2 (fun s1 =>
   some (decide ((b.Accts.length : Int) ≤ 6))) (fun s2 =>
   some false)
 else none
theorem spec_BookOk_ok (b : Book) : Pn (fun y => Fn Tryz.prog 51 [(false, E28 b)] (E4 y) []) (spec_BookOk b) := by
  unfold spec_BookOk
  exact
   Pn.ite (fun h9 =>
    Pn.bind (fun r2 h10 =>
     Pn.lo (fun s1 h11 =>
      Pn.some (Fn.of [.wait 5, .nm 7 (V.sc (.int .i64 (b.Accts.length : Int))), .wait 2, .mask [1, 6, 7, 8], .ren [0], .loop (X.out 0) (st 37 [(1, V.ptr 0 0)] [Blk.box 28 [V.sl false 48 (List.map E48 b.Accts)]] []), .wait 3, .nm 35 (V.sc (.int .i64 (b.Accts.length : Int)))] (p := [V.sc (.int .i64 ((List.map E48 b.Accts).length : Int)) = V.sc (.int .i64 (b.Accts.length : Int)),
       Loop Tryz.prog (sub (codeOf Tryz.prog 51) [1, 0, 1, 0, 0]) (st 37 [(1, V.ptr 0 0), (6, V.sl false 48 (List.map E48 b.Accts)), (7, V.sc (.int .i64 (b.Accts.length : Int))), (8, V.sc (.int .i64 0))] [Blk.box 28 [V.sl false 48 (List.map E48 b.Accts)]] []) (X.out 0) (st 37 [(1, V.ptr 0 0)] [Blk.box 28 [V.sl false 48 (List.map E48 b.Accts)]] []),
       V.sc (.int .i64 ((List.map E48 b.Accts).length : Int)) = V.sc (.int .i64 (b.Accts.length : Int))]) (by kernel_rfl) (cj (len_nm _ _) (cj ((spec_BookOk_l0_ok b h9 b.Accts [] rfl r2 h10).at h11) (cj1 (len_nm _ _)))))) (fun s2 h12 =>
      Pn.some (Fn.of [.wait 5, .nm 7 (V.sc (.int .i64 (b.Accts.length : Int))), .wait 2, .mask [1, 6, 7, 8], .ren [0], .loop (X.ret) (st 37 [(2, V.sc (.bool false))] [] [])] (p := [V.sc (.int .i64 ((List.map E48 b.Accts).length : Int)) = V.sc (.int .i64 (b.Accts.length : Int)),
       Loop Tryz.prog (sub (codeOf Tryz.prog 51) [1, 0, 1, 0, 0]) (st 37 [(1, V.ptr 0 0), (6, V.sl false 48 (List.map E48 b.Accts)), (7, V.sc (.int .i64 (b.Accts.length : Int))), (8, V.sc (.int .i64 0))] [Blk.box 28 [V.sl false 48 (List.map E48 b.Accts)]] []) (X.ret) (st 37 [(2, V.sc (.bool false))] [] [])]) (by kernel_rfl) (cj (len_nm _ _) (cj1 ((spec_BookOk_l0_ok b h9 b.Accts [] rfl r2 h10).at h12))))))) (fun h9 =>
    Pn.none)
def spec_Fnv_l0 (s_ : ByteArray) : Nat → Int → Int → Option (Int)
  | 0, _, _ => none
  | fuel + 1, v1, v2 =>
   if (decide (v2 < (s_.size : Int))) = true then
    if (decide (0 ≤ v2)) = true then
     if (decide ((v2 : Int) < (s_.size : Int))) = true then
      spec_Fnv_l0 s_ fuel (band .i64 (i64 ((bxor .i64 v1 (i64 (sAt s_ v2))) * 16777619)) 4294967295) (i64 (v2 + 1))
     else none
    else none
   else
    some v1
theorem spec_Fnv_l0_ok (s_ : ByteArray) : ∀ (fuel : Nat) (v1 : Int) (v2 : Int), Pn (LpO Tryz.prog (sub (codeOf Tryz.prog 126) [1, 1, 0, 1, 0, 0]) (st 20 [(0, V.sc (.string s_)), (3, V.sc (.int .i64 v1)), (4, V.sc (.int .i64 v2))] [] []) (fun (y : Int) => (X.out 0, st 20 [(3, V.sc (.int .i64 y))] [] []))) (spec_Fnv_l0 s_ fuel v1 v2)
  | 0, _, _ => Pn.none
  | fuel + 1, v1, v2 => by
    unfold spec_Fnv_l0
    exact
     Pn.ite (fun h1 =>
      Pn.ite (fun h2 =>
       Pn.ite (fun h3 =>
        LpO.go [.bit true, .wait 12, .mask [0, 3, 4], .ren []] (p := [(decide (v2 < (s_.size : Int))) = true,
         (0 : Int) ≤ v2,
         (v2 : Int) < s_.size]) (by kernel_rfl) (cj h1 (cj (od h2) (cj1 (od h3)))) (spec_Fnv_l0_ok s_ fuel (band .i64 (i64 ((bxor .i64 v1 (i64 (sAt s_ v2))) * 16777619)) 4294967295) (i64 (v2 + 1)))) (fun h3 =>
        Pn.none)) (fun h2 =>
       Pn.none)) (fun h1 =>
      Pn.some (LpO.out [.bit false, .mask [3], .ren []] (p := [(decide (v2 < (s_.size : Int))) = false]) (by kernel_rfl) (show X.out 0 ≠ X.go from nofun) (cj1 h1)))
def spec_Fnv (s_ : ByteArray) : Option (Int) :=
 (spec_Fnv_l0 s_ FUEL 2166136261 0).bind fun r1 =>
 some r1
theorem spec_Fnv_ok (s_ : ByteArray) : Pn (fun y => Fn Tryz.prog 126 [(false, E9 s_)] (E3 y) []) (spec_Fnv s_) := by
  unfold spec_Fnv
  exact
   Pn.bind (fun r1 h4 =>
    Pn.some (Fn.of [.wait 4, .mask [0, 3, 4], .ren [], .loop (X.out 0) (st 20 [(3, V.sc (.int .i64 r1))] [] [])] (p := [Loop Tryz.prog (sub (codeOf Tryz.prog 126) [1, 1, 0, 1, 0, 0]) (st 20 [(0, V.sc (.string s_)), (3, V.sc (.int .i64 2166136261)), (4, V.sc (.int .i64 0))] [] []) (X.out 0) (st 20 [(3, V.sc (.int .i64 r1))] [] [])]) (by kernel_rfl) (cj1 (spec_Fnv_l0_ok s_ FUEL 2166136261 0 r1 h4))))
def spec_StripeNo (id : ByteArray) (n : Int) : Option (Int) :=
 if (decide (n < 1)) = true then
  some 0
 else
  (spec_Fnv id).bind fun r1 =>
  if (decide (n ≠ 0)) = true then
   some (Int.tmod r1 n)
  else none
theorem spec_StripeNo_ok (id : ByteArray) (n : Int) : Pn (fun y => Fn Tryz.prog 71 [(false, E9 id), (false, E3 n)] (E3 y) []) (spec_StripeNo id n) := by
  unfold spec_StripeNo
  exact
   Pn.ite (fun h1 =>
    Pn.some (Fn.of [.bit true] (p := [(decide (n < 1)) = true]) (by kernel_rfl) (cj1 h1))) (fun h1 =>
    Pn.bind (fun r1 h2 =>
     Pn.ite (fun h3 =>
      Pn.some (Fn.of [.bit false, .call [] (E3 r1) []] (p := [(decide (n < 1)) = false,
       Fn Tryz.prog 126 [(false, E9 id)] (E3 r1) [],
       (true || ((E3 r1).nv && nvL [])) = true,
       (n : Int) ≠ 0]) (by kernel_rfl) (cj h1 (cj (spec_Fnv_ok id r1 h2) (cj rfl (cj1 (od h3))))))) (fun h3 =>
      Pn.none)))
def spec_l06Copy (r_ : Ring) : Option (Ring) :=
 if (capOk (0 + r_.Counts.length)) = true then
  if (capOk (0 + r_.Sums.length)) = true then
   some r_
  else none
 else none
theorem spec_l06Copy_ok (r_ : Ring) : Pn (fun y => Fn Tryz.prog 105 [(false, E45 r_)] (E45 y) []) (spec_l06Copy r_) := by
  unfold spec_l06Copy
  exact
   Pn.ite (fun h1 =>
    Pn.ite (fun h2 =>
     Pn.some (Fn.of [.cp (List.map E3 r_.Counts), .nb 3 (.row 3 (List.map E3 r_.Counts) []), .cp (List.map E3 r_.Sums), .nb 5 (.row 3 (List.map E3 r_.Sums) [])] (p := [(List.map E3 r_.Counts).map V.vw = (List.map E3 r_.Counts),
      ([] : List V).length + (List.map E3 r_.Counts).length ≤ 9223372036854775807,
      (([] : List V).length + (List.map E3 r_.Counts).length) * 8 ≤ 140737488355328,
      Blk.row 3 (([] : List V) ++ (List.map E3 r_.Counts)) [] = Blk.row 3 (List.map E3 r_.Counts) [],
      (List.map E3 r_.Sums).map V.vw = (List.map E3 r_.Sums),
      ([] : List V).length + (List.map E3 r_.Sums).length ≤ 9223372036854775807,
      (([] : List V).length + (List.map E3 r_.Sums).length) * 8 ≤ 140737488355328,
      Blk.row 3 (([] : List V) ++ (List.map E3 r_.Sums)) [] = Blk.row 3 (List.map E3 r_.Sums) []]) (by kernel_rfl) (cj (vw_id (fun _ => rfl) _) (cj (cap1 (capN (by simp) h1)) (cj (cap2 (capN (by simp) h1) (by decide)) (cj rfl (cj (vw_id (fun _ => rfl) _) (cj (cap1 (capN (by simp) h2)) (cj (cap2 (capN (by simp) h2) (by decide)) (cj1 rfl)))))))))) (fun h2 =>
     Pn.none)) (fun h1 =>
    Pn.none)
def spec_l08Copy_l0 (l : List Slot) : List Slot → (List Slot) → Option ((List Slot))
  | [], v1 =>
   some v1
  | x1 :: t1, v1 =>
   if (capOk (0 + x1.Reply.length)) = true then
    if (capOk (v1.length + 1)) = true then
     spec_l08Copy_l0 l t1 (v1 ++ [x1])
    else none
   else none
theorem spec_l08Copy_l0_ok (l : List Slot) (h2 : capOk l.length = true) : ∀ (t1 p1 : List Slot) (_ : l = p1 ++ t1) (v1 : List Slot), Pn (LpO Tryz.prog (sub (codeOf Tryz.prog 106) [1, 1, 0, 1, 0, 0]) (st 24 [(3, V.ow 0), (7, V.sl false 132 (List.map E132 l)), (8, V.sc (.int .i64 (l.length : Int))), (9, V.sc (.int .i64 (p1.length : Int)))] [Blk.row 132 (List.map E132 v1) []] []) (fun (y : (List Slot)) => (X.out 0, st 24 [(3, V.ow 0)] [Blk.row 132 (List.map E132 y) []] []))) (spec_l08Copy_l0 l t1 v1)
  | [], p1, h1, v1 => by
    unfold spec_l08Copy_l0
    exact
     Pn.some (LpO.out [.bit false, .mask [3], .ren [0]] (p := [(decide ((p1.length : Int) < (l.length : Int))) = false]) (by kernel_rfl) (show X.out 0 ≠ X.go from nofun) (cj1 (rng_end h1)))
  | x1 :: t1, p1, h1, v1 => by
    unfold spec_l08Copy_l0
    exact
     Pn.ite (fun h3 =>
      Pn.ite (fun h4 =>
       LpO.go [.bit true, .el (E132 x1), .cp (List.map E5 x1.Reply), .nb 3 (.row 5 (List.map E5 x1.Reply) []), .wait 5, .shut 4, .mv, .nb 5 (.row 132 (List.map E132 (v1 ++ [x1])) []), .wait 4, .mask [3, 7, 8, 9], .ren [5], .nm 9 (V.sc (.int .i64 ((p1 ++ [x1]).length : Int)))] (p := [(decide ((p1.length : Int) < (l.length : Int))) = true,
        (0 : Int) ≤ (p1.length : Int),
        (List.map E132 l)[(p1.length : Int).toNat]? = some (E132 x1),
        (List.map E5 x1.Reply).map V.vw = (List.map E5 x1.Reply),
        ([] : List V).length + (List.map E5 x1.Reply).length ≤ 9223372036854775807,
        (([] : List V).length + (List.map E5 x1.Reply).length) * 1 ≤ 140737488355328,
        Blk.row 5 (([] : List V) ++ (List.map E5 x1.Reply)) [] = Blk.row 5 (List.map E5 x1.Reply) [],
        (List.map E132 v1).length + [V.agg [V.sc (.string x1.Trace), V.sc (.string x1.Mti), V.sl true 5 (List.map E5 x1.Reply)]].length ≤ 9223372036854775807,
        ((List.map E132 v1).length + [V.agg [V.sc (.string x1.Trace), V.sc (.string x1.Mti), V.sl true 5 (List.map E5 x1.Reply)]].length) * 56 ≤ 140737488355328,
        Blk.row 132 ((List.map E132 v1) ++ [V.agg [V.sc (.string x1.Trace), V.sc (.string x1.Mti), V.sl true 5 (List.map E5 x1.Reply)]]) [] = Blk.row 132 (List.map E132 (v1 ++ [x1])) [],
        V.sc (.int .i64 (i64 ((p1.length : Int) + 1))) = V.sc (.int .i64 ((p1 ++ [x1]).length : Int))]) (by kernel_rfl) (cj (rng_lt h1) (cj (by omega) (cj (rng_get _ h1) (cj (vw_id (fun _ => rfl) _) (cj (cap1 (capN (by simp) h3)) (cj (cap2 (capN (by simp) h3) (by decide)) (cj rfl (cj (cap1 (capN (by simp) h4)) (cj (cap2 (capN (by simp) h4) (by decide)) (cj (nb_app E132 v1 [x1]) (cj1 (rng_next h1 h2)))))))))))) (spec_l08Copy_l0_ok l h2 t1 (p1 ++ [x1]) (rng_step h1) (v1 ++ [x1]))) (fun h4 =>
       Pn.none)) (fun h3 =>
      Pn.none)
def spec_l08Copy (l : List Slot) : Option ((List Slot)) :=
 if (capOk l.length) = true then
  (spec_l08Copy_l0 l l []).bind fun r1 =>
  some r1
 else none
theorem spec_l08Copy_ok (l : List Slot) : Pn (fun y => Fn Tryz.prog 106 [(false, E46 l)] (E46 y) []) (spec_l08Copy l) := by
  unfold spec_l08Copy
  exact
   Pn.ite (fun h5 =>
    Pn.bind (fun r1 h6 =>
     Pn.some (Fn.of [.wait 5, .nm 8 (V.sc (.int .i64 (l.length : Int))), .wait 2, .mask [3, 7, 8, 9], .ren [0], .loop (X.out 0) (st 24 [(3, V.ow 0)] [Blk.row 132 (List.map E132 r1) []] [])] (p := [V.sc (.int .i64 ((List.map E132 l).length : Int)) = V.sc (.int .i64 (l.length : Int)),
      Loop Tryz.prog (sub (codeOf Tryz.prog 106) [1, 1, 0, 1, 0, 0]) (st 24 [(3, V.ow 0), (7, V.sl false 132 (List.map E132 l)), (8, V.sc (.int .i64 (l.length : Int))), (9, V.sc (.int .i64 0))] [Blk.row 132 ([] : List V) []] []) (X.out 0) (st 24 [(3, V.ow 0)] [Blk.row 132 (List.map E132 r1) []] [])]) (by kernel_rfl) (cj (len_nm _ _) (cj1 (spec_l08Copy_l0_ok l h5 l [] rfl [] r1 h6)))))) (fun h5 =>
    Pn.none)
def spec_l09Copy (a : Acct) : Option (Acct) :=
 if (capOk (0 + a.Holds.length)) = true then
  (spec_l06Copy a.Ring).bind fun r1 =>
  (spec_l08Copy a.Slots).bind fun r2 =>
  some (Acct.mk a.Id a.Limit a.Posted a.Most a.MostSum a.Holds r1 r2)
 else none
theorem spec_l09Copy_ok (a : Acct) : Pn (fun y => Fn Tryz.prog 54 [(false, E48 a)] (E48 y) []) (spec_l09Copy a) := by
  unfold spec_l09Copy
  exact
   Pn.ite (fun h1 =>
    Pn.bind (fun r1 h2 =>
     Pn.bind (fun r2 h3 =>
      Pn.some (Fn.of [.cp (List.map E129 a.Holds), .nb 3 (.row 129 (List.map E129 a.Holds) []), .call [] (E45 r1) [], .call [] (E46 r2) []] (p := [(List.map E129 a.Holds).map V.vw = (List.map E129 a.Holds),
       ([] : List V).length + (List.map E129 a.Holds).length ≤ 9223372036854775807,
       (([] : List V).length + (List.map E129 a.Holds).length) * 32 ≤ 140737488355328,
       Blk.row 129 (([] : List V) ++ (List.map E129 a.Holds)) [] = Blk.row 129 (List.map E129 a.Holds) [],
       Fn Tryz.prog 105 [(false, E45 a.Ring)] (E45 r1) [],
       (true || ((E45 r1).nv && nvL [])) = true,
       Fn Tryz.prog 106 [(false, E46 a.Slots)] (E46 r2) [],
       (true || ((E46 r2).nv && nvL [])) = true]) (by kernel_rfl) (cj (vw_id (fun _ => rfl) _) (cj (cap1 (capN (by simp) h1)) (cj (cap2 (capN (by simp) h1) (by decide)) (cj rfl (cj (spec_l06Copy_ok a.Ring r1 h2) (cj rfl (cj (spec_l08Copy_ok a.Slots r2 h3) (cj1 rfl)))))))))))) (fun h1 =>
    Pn.none)
def spec_Spread_l1 (b : Book) (n : Int) (v1 : Int) (v2 : List Stripe) : List Acct → (List Acct) → Option ((List Acct))
  | [], v3 =>
   some v3
  | x1 :: t1, v3 =>
   (spec_StripeNo x1.Id n).bind fun r3 =>
   if (r3 == v1) = true then
    (spec_l09Copy x1).bind fun r4 =>
    if (capOk (v3.length + 1)) = true then
     spec_Spread_l1 b n v1 v2 t1 (v3 ++ [r4])
    else none
   else
    spec_Spread_l1 b n v1 v2 t1 v3
theorem spec_Spread_l1_ok (b : Book) (n : Int) (v1 : Int) (v2 : List Stripe) (h7 : capOk b.Accts.length = true) : ∀ (t1 p1 : List Acct) (_ : b.Accts = p1 ++ t1) (v3 : List Acct), Pn (LpO Tryz.prog (sub (codeOf Tryz.prog 27) [1, 1, 1, 0, 1, 0, 0, 1, 0, 0, 1, 0, 1, 0, 0]) (st 52 [(1, V.sc (.int .i64 n)), (2, V.ptr 0 0), (5, V.ow 1), (6, V.sc (.int .i64 v1)), (7, V.ptr 2 0), (27, V.sl false 48 (List.map E48 b.Accts)), (28, V.sc (.int .i64 (b.Accts.length : Int))), (29, V.sc (.int .i64 (p1.length : Int)))] [Blk.box 28 [V.sl false 48 (List.map E48 b.Accts)], Blk.row 102 (List.map E102 v2) [], Blk.box 102 [V.sc (.int .i64 (-1)), V.ow 3], Blk.row 48 (List.map E48 v3) []] []) (fun (y : (List Acct)) => (X.out 2, st 52 [(1, V.sc (.int .i64 n)), (2, V.ptr 0 0), (5, V.ow 1), (6, V.sc (.int .i64 v1)), (7, V.ptr 2 0)] [Blk.box 28 [V.sl false 48 (List.map E48 b.Accts)], Blk.row 102 (List.map E102 v2) [], Blk.box 102 [V.sc (.int .i64 (-1)), V.ow 3], Blk.row 48 (List.map E48 y) []] []))) (spec_Spread_l1 b n v1 v2 t1 v3)
  | [], p1, h6, v3 => by
    unfold spec_Spread_l1
    exact
     Pn.some (LpO.out [.bit false, .mask [1, 2, 5, 6, 7], .ren [0, 1, 2, 3]] (p := [(decide ((p1.length : Int) < (b.Accts.length : Int))) = false]) (by kernel_rfl) (show X.out 2 ≠ X.go from nofun) (cj1 (rng_end h6)))
  | x1 :: t1, p1, h6, v3 => by
    unfold spec_Spread_l1
    exact
     Pn.bind (fun r3 h8 =>
      Pn.ite (fun h9 =>
       Pn.bind (fun r4 h10 =>
        Pn.ite (fun h11 =>
         LpO.go [.bit true, .el (E48 x1), .call [] (E3 r3) [], .bit true, .draw [5, 7], .call [] (E48 r4) [], .wait 1, .shut 9, .mv, .nb 10 (.row 48 (List.map E48 (v3 ++ [r4])) []), .wait 5, .mask [1, 2, 5, 6, 7, 27, 28, 29], .ren [0, 1, 2, 10], .nm 29 (V.sc (.int .i64 ((p1 ++ [x1]).length : Int)))] (p := [(decide ((p1.length : Int) < (b.Accts.length : Int))) = true,
          (0 : Int) ≤ (p1.length : Int),
          (List.map E48 b.Accts)[(p1.length : Int).toNat]? = some (E48 x1),
          Fn Tryz.prog 71 [(false, E9 x1.Id), (false, E3 n)] (E3 r3) [],
          (true || ((E3 r3).nv && nvL [])) = true,
          (r3 == v1) = true,
          Fn Tryz.prog 54 [(false, E48 x1)] (E48 r4) [],
          (true || ((E48 r4).nv && nvL [])) = true,
          (List.map E48 v3).length + [V.agg [V.sc (.string r4.Id), V.sc (.int .i64 r4.Limit), V.sc (.int .i64 r4.Posted), V.sc (.int .i64 r4.Most), V.sc (.int .i64 r4.MostSum), V.sl true 129 (List.map E129 r4.Holds), V.sc (.int .i64 r4.Ring.Span), V.sc (.int .i64 r4.Ring.Head), V.sl true 3 (List.map E3 r4.Ring.Counts), V.sl true 3 (List.map E3 r4.Ring.Sums), V.sl true 132 (List.map E132 r4.Slots)]].length ≤ 9223372036854775807,
          ((List.map E48 v3).length + [V.agg [V.sc (.string r4.Id), V.sc (.int .i64 r4.Limit), V.sc (.int .i64 r4.Posted), V.sc (.int .i64 r4.Most), V.sc (.int .i64 r4.MostSum), V.sl true 129 (List.map E129 r4.Holds), V.sc (.int .i64 r4.Ring.Span), V.sc (.int .i64 r4.Ring.Head), V.sl true 3 (List.map E3 r4.Ring.Counts), V.sl true 3 (List.map E3 r4.Ring.Sums), V.sl true 132 (List.map E132 r4.Slots)]].length) * 160 ≤ 140737488355328,
          Blk.row 48 ((List.map E48 v3) ++ [V.agg [V.sc (.string r4.Id), V.sc (.int .i64 r4.Limit), V.sc (.int .i64 r4.Posted), V.sc (.int .i64 r4.Most), V.sc (.int .i64 r4.MostSum), V.sl true 129 (List.map E129 r4.Holds), V.sc (.int .i64 r4.Ring.Span), V.sc (.int .i64 r4.Ring.Head), V.sl true 3 (List.map E3 r4.Ring.Counts), V.sl true 3 (List.map E3 r4.Ring.Sums), V.sl true 132 (List.map E132 r4.Slots)]]) [] = Blk.row 48 (List.map E48 (v3 ++ [r4])) [],
          V.sc (.int .i64 (i64 ((p1.length : Int) + 1))) = V.sc (.int .i64 ((p1 ++ [x1]).length : Int))]) (by kernel_rfl) (cj (rng_lt h6) (cj (by omega) (cj (rng_get _ h6) (cj (spec_StripeNo_ok x1.Id n r3 h8) (cj rfl (cj h9 (cj (spec_l09Copy_ok x1 r4 h10) (cj rfl (cj (cap1 (capN (by simp) h11)) (cj (cap2 (capN (by simp) h11) (by decide)) (cj (nb_app E48 v3 [r4]) (cj1 (rng_next h6 h7))))))))))))) (spec_Spread_l1_ok b n v1 v2 h7 t1 (p1 ++ [x1]) (rng_step h6) (v3 ++ [r4]))) (fun h11 =>
         Pn.none))) (fun h9 =>
       LpO.go [.bit true, .el (E48 x1), .call [] (E3 r3) [], .bit false, .wait 2, .mask [1, 2, 5, 6, 7, 27, 28, 29], .ren [0, 1, 2, 3], .nm 29 (V.sc (.int .i64 ((p1 ++ [x1]).length : Int)))] (p := [(decide ((p1.length : Int) < (b.Accts.length : Int))) = true,
        (0 : Int) ≤ (p1.length : Int),
        (List.map E48 b.Accts)[(p1.length : Int).toNat]? = some (E48 x1),
        Fn Tryz.prog 71 [(false, E9 x1.Id), (false, E3 n)] (E3 r3) [],
        (true || ((E3 r3).nv && nvL [])) = true,
        (r3 == v1) = false,
        V.sc (.int .i64 (i64 ((p1.length : Int) + 1))) = V.sc (.int .i64 ((p1 ++ [x1]).length : Int))]) (by kernel_rfl) (cj (rng_lt h6) (cj (by omega) (cj (rng_get _ h6) (cj (spec_StripeNo_ok x1.Id n r3 h8) (cj rfl (cj h9 (cj1 (rng_next h6 h7)))))))) (spec_Spread_l1_ok b n v1 v2 h7 t1 (p1 ++ [x1]) (rng_step h6) v3)))
def spec_Spread_l0 (b : Book) (n : Int) : Nat → Int → (List Stripe) → Option ((List Stripe))
  | 0, _, _ => none
  | fuel + 1, v1, v2 =>
   if (decide (v1 < n)) = true then
    if (capOk b.Accts.length) = true then
     (spec_Spread_l1 b n v1 v2 b.Accts []).bind fun r5 =>
     if (capOk (v2.length + 1)) = true then
      spec_Spread_l0 b n fuel (i64 (v1 + 1)) (v2 ++ [(Stripe.mk (-1) r5)])
     else none
    else none
   else
    some v2
theorem spec_Spread_l0_ok (b : Book) (n : Int) : ∀ (fuel : Nat) (v1 : Int) (v2 : List Stripe), Pn (LpO Tryz.prog (sub (codeOf Tryz.prog 27) [1, 1, 1, 0, 1, 0, 0]) (st 52 [(1, V.sc (.int .i64 n)), (2, V.ptr 0 0), (5, V.ow 1), (6, V.sc (.int .i64 v1))] [Blk.box 28 [V.sl false 48 (List.map E48 b.Accts)], Blk.row 102 (List.map E102 v2) []] []) (fun (y : (List Stripe)) => (X.out 0, st 52 [(5, V.ow 0)] [Blk.row 102 (List.map E102 y) []] []))) (spec_Spread_l0 b n fuel v1 v2)
  | 0, _, _ => Pn.none
  | fuel + 1, v1, v2 => by
    unfold spec_Spread_l0
    exact
     Pn.ite (fun h5 =>
      Pn.ite (fun h12 =>
       Pn.bind (fun r5 h13 =>
        Pn.ite (fun h14 =>
         LpO.go [.bit true, .wait 5, .nm 28 (V.sc (.int .i64 (b.Accts.length : Int))), .wait 2, .mask [1, 2, 5, 6, 7, 27, 28, 29], .ren [0, 1, 2], .ownb 2 1, .mask [1, 2, 5, 6, 7, 27, 28, 29], .ren [0, 1, 2, 3], .loop (X.out 2) (st 52 [(1, V.sc (.int .i64 n)), (2, V.ptr 0 0), (5, V.ow 1), (6, V.sc (.int .i64 v1)), (7, V.ptr 2 0)] [Blk.box 28 [V.sl false 48 (List.map E48 b.Accts)], Blk.row 102 (List.map E102 v2) [], Blk.box 102 [V.sc (.int .i64 (-1)), V.ow 3], Blk.row 48 (List.map E48 r5) []] []), .wait 3, .shut 4, .mv, .nb 5 (.row 102 (List.map E102 (v2 ++ [(Stripe.mk (-1) r5)])) []), .wait 5, .mask [1, 2, 5, 6], .ren [0, 5]] (p := [(decide (v1 < n)) = true,
          V.sc (.int .i64 ((List.map E48 b.Accts).length : Int)) = V.sc (.int .i64 (b.Accts.length : Int)),
          Loop Tryz.prog (sub (codeOf Tryz.prog 27) [1, 1, 1, 0, 1, 0, 0, 1, 0, 0, 1, 0, 1, 0, 0]) (st 52 [(1, V.sc (.int .i64 n)), (2, V.ptr 0 0), (5, V.ow 1), (6, V.sc (.int .i64 v1)), (7, V.ptr 2 0), (27, V.sl false 48 (List.map E48 b.Accts)), (28, V.sc (.int .i64 (b.Accts.length : Int))), (29, V.sc (.int .i64 0))] [Blk.box 28 [V.sl false 48 (List.map E48 b.Accts)], Blk.row 102 (List.map E102 v2) [], Blk.box 102 [V.sc (.int .i64 (-1)), V.ow 3], Blk.row 48 ([] : List V) []] []) (X.out 2) (st 52 [(1, V.sc (.int .i64 n)), (2, V.ptr 0 0), (5, V.ow 1), (6, V.sc (.int .i64 v1)), (7, V.ptr 2 0)] [Blk.box 28 [V.sl false 48 (List.map E48 b.Accts)], Blk.row 102 (List.map E102 v2) [], Blk.box 102 [V.sc (.int .i64 (-1)), V.ow 3], Blk.row 48 (List.map E48 r5) []] []),
          (List.map E102 v2).length + [V.agg [V.sc (.int .i64 (-1)), V.sl true 48 (List.map E48 r5)]].length ≤ 9223372036854775807,
          ((List.map E102 v2).length + [V.agg [V.sc (.int .i64 (-1)), V.sl true 48 (List.map E48 r5)]].length) * 32 ≤ 140737488355328,
          Blk.row 102 ((List.map E102 v2) ++ [V.agg [V.sc (.int .i64 (-1)), V.sl true 48 (List.map E48 r5)]]) [] = Blk.row 102 (List.map E102 (v2 ++ [(Stripe.mk (-1) r5)])) []]) (by kernel_rfl) (cj h5 (cj (len_nm _ _) (cj (spec_Spread_l1_ok b n v1 v2 h12 b.Accts [] rfl [] r5 h13) (cj (cap1 (capN (by simp) h14)) (cj (cap2 (capN (by simp) h14) (by decide)) (cj1 (nb_app E102 v2 [(Stripe.mk (-1) r5)]))))))) (spec_Spread_l0_ok b n fuel (i64 (v1 + 1)) (v2 ++ [(Stripe.mk (-1) r5)]))) (fun h14 =>
         Pn.none))) (fun h12 =>
       Pn.none)) (fun h5 =>
      Pn.some (LpO.out [.bit false, .mask [5], .ren [1]] (p := [(decide (v1 < n)) = false]) (by kernel_rfl) (show X.out 0 ≠ X.go from nofun) (cj1 h5)))
def spec_Spread (b : Book) (n : Int) : Option ((List Stripe)) :=
 (spec_BookOk b).bind fun r1 =>
 if r1 = true then
  (spec_l01In n 1 5).bind fun r2 =>
  if r2 = true then
   (spec_Spread_l0 b n FUEL 0 []).bind fun r6 =>
   some r6
  else
   some []
 else
  some []
theorem spec_Spread_ok (b : Book) (n : Int) : Pn (fun y => Fn Tryz.prog 27 [(false, E28 b), (false, E3 n)] (E56 y) []) (spec_Spread b n) := by
  unfold spec_Spread
  exact
   Pn.bind (fun r1 h1 =>
    Pn.ite (fun h2 =>
     Pn.bind (fun r2 h3 =>
      Pn.ite (fun h4 =>
       Pn.bind (fun r6 h15 =>
        Pn.some (Fn.of [.call [] (E4 r1) [], .bit false, .bit false, .call [] (E4 r2) [], .bit false, .bit false, .bit false, .wait 1, .mask [1, 2, 5, 6], .ren [0, 1], .loop (X.out 0) (st 52 [(5, V.ow 0)] [Blk.row 102 (List.map E102 r6) []] [])] (p := [Fn Tryz.prog 51 [(false, E28 b)] (E4 r1) [],
         (true || ((E4 r1).nv && nvL [])) = true,
         (!r1) = false,
         (!r1) = false,
         Fn Tryz.prog 70 [(false, E3 n), (false, E3 1), (false, E3 5)] (E4 r2) [],
         (true || ((E4 r2).nv && nvL [])) = true,
         (!r1) = false,
         (!r1) = false,
         (!r2) = false,
         Loop Tryz.prog (sub (codeOf Tryz.prog 27) [1, 1, 1, 0, 1, 0, 0]) (st 52 [(1, V.sc (.int .i64 n)), (2, V.ptr 0 0), (5, V.ow 1), (6, V.sc (.int .i64 0))] [Blk.box 28 [V.sl false 48 (List.map E48 b.Accts)], Blk.row 102 ([] : List V) []] []) (X.out 0) (st 52 [(5, V.ow 0)] [Blk.row 102 (List.map E102 r6) []] [])]) (by kernel_rfl) (cj (spec_BookOk_ok b r1 h1) (cj rfl (cj (nf h2) (cj (nf h2) (cj (spec_l01In_ok n 1 5 r2 h3) (cj rfl (cj (nf h2) (cj (nf h2) (cj (nf h4) (cj1 (spec_Spread_l0_ok b n FUEL 0 [] r6 h15)))))))))))))) (fun h4 =>
       Pn.some (Fn.of [.call [] (E4 r1) [], .bit false, .bit false, .call [] (E4 r2) [], .bit false, .bit false, .bit true] (p := [Fn Tryz.prog 51 [(false, E28 b)] (E4 r1) [],
        (true || ((E4 r1).nv && nvL [])) = true,
        (!r1) = false,
        (!r1) = false,
        Fn Tryz.prog 70 [(false, E3 n), (false, E3 1), (false, E3 5)] (E4 r2) [],
        (true || ((E4 r2).nv && nvL [])) = true,
        (!r1) = false,
        (!r1) = false,
        (!r2) = true]) (by kernel_rfl) (cj (spec_BookOk_ok b r1 h1) (cj rfl (cj (nf h2) (cj (nf h2) (cj (spec_l01In_ok n 1 5 r2 h3) (cj rfl (cj (nf h2) (cj (nf h2) (cj1 (nt h4)))))))))))))) (fun h2 =>
     Pn.some (Fn.of [.call [] (E4 r1) [], .bit true, .bit true, .bit true, .bit true, .bit true] (p := [Fn Tryz.prog 51 [(false, E28 b)] (E4 r1) [],
      (true || ((E4 r1).nv && nvL [])) = true,
      (!r1) = true,
      (!r1) = true,
      (!r1) = true,
      (!r1) = true,
      true = true]) (by kernel_rfl) (cj (spec_BookOk_ok b r1 h1) (cj rfl (cj (nt h2) (cj (nt h2) (cj (nt h2) (cj (nt h2) (cj1 rfl))))))))))
def spec_WorldNew (b : Book) (n : Int) : Option (World × Bool) :=
 (spec_Spread b n).bind fun r1 =>
 if ((r1.length : Int) == 0) = true then
  some ((World.mk [] 0 0 []), false)
 else
  some ((World.mk r1 0 0 []), true)
theorem spec_WorldNew_ok (b : Book) (n : Int) : Pn (fun y => Fn Tryz.prog 81 [(false, E28 b), (false, E3 n)] (V.tup [E64 y.1, E4 y.2]) []) (spec_WorldNew b n) := by
  unfold spec_WorldNew
  exact
   Pn.bind (fun r1 h1 =>
    Pn.ite (fun h2 =>
     Pn.some (Fn.of [.call [] (E56 r1) [], .wait 3, .nm 11 (V.sc (.int .i64 (r1.length : Int))), .bit true] (p := [Fn Tryz.prog 27 [(false, E28 b), (false, E3 n)] (E56 r1) [],
      (true || ((E56 r1).nv && nvL [])) = true,
      V.sc (.int .i64 ((List.map E102 r1).length : Int)) = V.sc (.int .i64 (r1.length : Int)),
      ((r1.length : Int) == 0) = true]) (by kernel_rfl) (cj (spec_Spread_ok b n r1 h1) (cj rfl (cj (len_nm _ _) (cj1 h2)))))) (fun h2 =>
     Pn.some (Fn.of [.call [] (E56 r1) [], .wait 3, .nm 11 (V.sc (.int .i64 (r1.length : Int))), .bit false] (p := [Fn Tryz.prog 27 [(false, E28 b), (false, E3 n)] (E56 r1) [],
      (true || ((E56 r1).nv && nvL [])) = true,
      V.sc (.int .i64 ((List.map E102 r1).length : Int)) = V.sc (.int .i64 (r1.length : Int)),
      ((r1.length : Int) == 0) = false]) (by kernel_rfl) (cj (spec_Spread_ok b n r1 h1) (cj rfl (cj (len_nm _ _) (cj1 h2)))))))
def spec_DeskNew (n : Int) : Option (Desk × Bool) :=
 (spec_WorldNew (Book.mk []) n).bind fun r1 =>
 if r1.2 = true then
  some ((Desk.mk (Book.mk []) n r1.1), true)
 else
  some ((Desk.mk (Book.mk []) 0 (World.mk [] 0 0 [])), false)
theorem spec_DeskNew_ok (n : Int) : Pn (fun y => Fn Tryz.prog 33 [(false, E3 n)] (V.tup [E66 y.1, E4 y.2]) []) (spec_DeskNew n) := by
  unfold spec_DeskNew
  exact
   Pn.bind (fun r1 h1 =>
    Pn.ite (fun h2 =>
     Pn.some (Fn.of [.call [] (V.tup [E64 r1.1, E4 r1.2]) [], .bit false] (p := [Fn Tryz.prog 81 [(false, V.agg [V.nl 48]), (false, E3 n)] (V.tup [E64 r1.1, E4 r1.2]) [],
      (true || ((V.tup [E64 r1.1, E4 r1.2]).nv && nvL [])) = true,
      (!r1.2) = false]) (by kernel_rfl) (cj (Fn.nil [48] (by kernel_rfl) (by kernel_rfl) (spec_WorldNew_ok (Book.mk []) n r1 h1)) (cj rfl (cj1 (nf h2)))))) (fun h2 =>
     Pn.some (Fn.of [.call [] (V.tup [E64 r1.1, E4 r1.2]) [], .bit true] (p := [Fn Tryz.prog 81 [(false, V.agg [V.nl 48]), (false, E3 n)] (V.tup [E64 r1.1, E4 r1.2]) [],
      (true || ((V.tup [E64 r1.1, E4 r1.2]).nv && nvL [])) = true,
      (!r1.2) = true]) (by kernel_rfl) (cj (Fn.nil [48] (by kernel_rfl) (by kernel_rfl) (spec_WorldNew_ok (Book.mk []) n r1 h1)) (cj rfl (cj1 (nt h2)))))))
def impl_Digits_l0 (s_ : ByteArray) : Nat → Int → Option (Lo Unit Unit)
  | 0, _ => none
  | fuel + 1, v1 =>
   if (decide (v1 < (s_.size : Int))) = true then
    if (decide (0 ≤ v1)) = true then
     if (decide ((v1 : Int) < (s_.size : Int))) = true then
      if (decide ((sAt s_ v1) < 48)) = true then
       some (.ret ())
      else
       if (decide (57 < (sAt s_ v1))) = true then
        some (.ret ())
       else
        impl_Digits_l0 s_ fuel (i64 (v1 + 1))
     else none
    else none
   else
    some (.out ())
theorem impl_Digits_l0_ok (s_ : ByteArray) : ∀ (fuel : Nat) (v1 : Int), Pn (LpO Tryz.prog (sub (codeOf Tryz.prog 162) [1, 0, 1, 0, 0]) (st 22 [(0, V.sc (.string s_)), (5, V.sc (.int .i64 (s_.size : Int))), (6, V.sc (.int .i64 v1))] [] []) (fun (y : Lo Unit Unit) => Lo.elim y (fun s => (X.out 0, st 22 [(0, V.sc (.string s_))] [] [])) (fun s => (X.ret, st 22 [(2, V.sc (.bool false))] [] [])))) (impl_Digits_l0 s_ fuel v1)
  | 0, _ => Pn.none
  | fuel + 1, v1 => by
    unfold impl_Digits_l0
    exact
     Pn.ite (fun h1 =>
      Pn.ite (fun h2 =>
       Pn.ite (fun h3 =>
        Pn.ite (fun h4 =>
         Pn.some (LpO.out [.bit true, .bit true, .bit true, .bit true, .bit true, .bit true, .bit true, .wait 1, .mask [2], .ren []] (p := [(decide (v1 < (s_.size : Int))) = true,
          (0 : Int) ≤ v1,
          (v1 : Int) < s_.size,
          (decide ((sAt s_ v1) < 48)) = true,
          (decide ((sAt s_ v1) < 48)) = true,
          (decide ((sAt s_ v1) < 48)) = true,
          (decide ((sAt s_ v1) < 48)) = true,
          (decide ((sAt s_ v1) < 48)) = true,
          true = true]) (by kernel_rfl) (show X.ret ≠ X.go from nofun) (cj h1 (cj (od h2) (cj (od h3) (cj h4 (cj h4 (cj h4 (cj h4 (cj h4 (cj1 rfl))))))))))) (fun h4 =>
         Pn.ite (fun h5 =>
          Pn.some (LpO.out [.bit true, .bit false, .bit false, .bit false, .bit false, .bit false, .bit true, .wait 1, .mask [2], .ren []] (p := [(decide (v1 < (s_.size : Int))) = true,
           (0 : Int) ≤ v1,
           (v1 : Int) < s_.size,
           (decide ((sAt s_ v1) < 48)) = false,
           (decide ((sAt s_ v1) < 48)) = false,
           (decide ((sAt s_ v1) < 48)) = false,
           (0 : Int) ≤ v1,
           (v1 : Int) < s_.size,
           (decide ((sAt s_ v1) < 48)) = false,
           (decide ((sAt s_ v1) < 48)) = false,
           (decide (57 < (sAt s_ v1))) = true]) (by kernel_rfl) (show X.ret ≠ X.go from nofun) (cj h1 (cj (od h2) (cj (od h3) (cj h4 (cj h4 (cj h4 (cj (od h2) (cj (od h3) (cj h4 (cj h4 (cj1 h5))))))))))))) (fun h5 =>
          LpO.go [.bit true, .bit false, .bit false, .bit false, .bit false, .bit false, .bit false, .wait 2, .mask [0, 5, 6], .ren []] (p := [(decide (v1 < (s_.size : Int))) = true,
           (0 : Int) ≤ v1,
           (v1 : Int) < s_.size,
           (decide ((sAt s_ v1) < 48)) = false,
           (decide ((sAt s_ v1) < 48)) = false,
           (decide ((sAt s_ v1) < 48)) = false,
           (0 : Int) ≤ v1,
           (v1 : Int) < s_.size,
           (decide ((sAt s_ v1) < 48)) = false,
           (decide ((sAt s_ v1) < 48)) = false,
           (decide (57 < (sAt s_ v1))) = false]) (by kernel_rfl) (cj h1 (cj (od h2) (cj (od h3) (cj h4 (cj h4 (cj h4 (cj (od h2) (cj (od h3) (cj h4 (cj h4 (cj1 h5))))))))))) (impl_Digits_l0_ok s_ fuel (i64 (v1 + 1)))))) (fun h3 =>
        Pn.none)) (fun h2 =>
       Pn.none)) (fun h1 =>
      Pn.some (LpO.out [.bit false, .mask [0], .ren []] (p := [(decide (v1 < (s_.size : Int))) = false]) (by kernel_rfl) (show X.out 0 ≠ X.go from nofun) (cj1 h1)))
def impl_Digits (s_ : ByteArray) : Option (Bool) :=
 (impl_Digits_l0 s_ FUEL 0).bind fun r1 =>
 Lo.elim r1 (fun s1 =>
  some (!(s_ == (bs [])))) (fun s2 =>
  some false)
theorem impl_Digits_ok (s_ : ByteArray) : Pn (fun y => Fn Tryz.prog 162 [(false, E9 s_)] (E4 y) []) (impl_Digits s_) := by
  unfold impl_Digits
  exact
   Pn.bind (fun r1 h6 =>
    Pn.lo (fun s1 h7 =>
     Pn.some (Fn.of [.wait 5, .mask [0, 5, 6], .ren [], .loop (X.out 0) (st 22 [(0, V.sc (.string s_))] [] [])] (p := [Loop Tryz.prog (sub (codeOf Tryz.prog 162) [1, 0, 1, 0, 0]) (st 22 [(0, V.sc (.string s_)), (5, V.sc (.int .i64 (s_.size : Int))), (6, V.sc (.int .i64 0))] [] []) (X.out 0) (st 22 [(0, V.sc (.string s_))] [] [])]) (by kernel_rfl) (cj1 ((impl_Digits_l0_ok s_ FUEL 0 r1 h6).at h7)))) (fun s2 h8 =>
     Pn.some (Fn.of [.wait 5, .mask [0, 5, 6], .ren [], .loop (X.ret) (st 22 [(2, V.sc (.bool false))] [] [])] (p := [Loop Tryz.prog (sub (codeOf Tryz.prog 162) [1, 0, 1, 0, 0]) (st 22 [(0, V.sc (.string s_)), (5, V.sc (.int .i64 (s_.size : Int))), (6, V.sc (.int .i64 0))] [] []) (X.ret) (st 22 [(2, V.sc (.bool false))] [] [])]) (by kernel_rfl) (cj1 ((impl_Digits_l0_ok s_ FUEL 0 r1 h6).at h8)))))
def impl_Luhn_l0 (s_ : ByteArray) : Nat → Int → Bool → Int → Option (Int)
  | 0, _, _, _ => none
  | fuel + 1, v1, v2, v3 =>
   if (decide (0 ≤ v3)) = true then
    if (decide ((v3 : Int) < (s_.size : Int))) = true then
     if v2 = true then
      if (decide (9 < (i64 ((i64 (u8 ((sAt s_ v3) - 48))) * 2)))) = true then
       impl_Luhn_l0 s_ fuel (i64 (v1 + (i64 ((i64 ((i64 (u8 ((sAt s_ v3) - 48))) * 2)) - 9)))) (!v2) (i64 (v3 - 1))
      else
       impl_Luhn_l0 s_ fuel (i64 (v1 + (i64 ((i64 (u8 ((sAt s_ v3) - 48))) * 2)))) (!v2) (i64 (v3 - 1))
     else
      impl_Luhn_l0 s_ fuel (i64 (v1 + (i64 (u8 ((sAt s_ v3) - 48))))) (!v2) (i64 (v3 - 1))
    else none
   else
    some v1
theorem impl_Luhn_l0_ok (s_ : ByteArray) : ∀ (fuel : Nat) (v1 : Int) (v2 : Bool) (v3 : Int), Pn (LpO Tryz.prog (sub (codeOf Tryz.prog 163) [1, 1, 1, 0, 1, 0, 0]) (st 38 [(0, V.sc (.string s_)), (3, V.sc (.int .i64 v1)), (4, V.sc (.bool v2)), (5, V.sc (.int .i64 v3))] [] []) (fun (y : Int) => (X.out 0, st 38 [(3, V.sc (.int .i64 y))] [] []))) (impl_Luhn_l0 s_ fuel v1 v2 v3)
  | 0, _, _, _ => Pn.none
  | fuel + 1, v1, v2, v3 => by
    unfold impl_Luhn_l0
    exact
     Pn.ite (fun h3 =>
      Pn.ite (fun h4 =>
       Pn.ite (fun h5 =>
        Pn.ite (fun h6 =>
         LpO.go [.bit true, .bit true, .bit true, .wait 13, .mask [0, 3, 4, 5], .ren []] (p := [(decide (0 ≤ v3)) = true,
          (0 : Int) ≤ v3,
          (v3 : Int) < s_.size,
          v2 = true,
          (decide (9 < (i64 ((i64 (u8 ((sAt s_ v3) - 48))) * 2)))) = true]) (by kernel_rfl) (cj h3 (cj (od h3) (cj (od h4) (cj h5 (cj1 h6))))) (impl_Luhn_l0_ok s_ fuel (i64 (v1 + (i64 ((i64 ((i64 (u8 ((sAt s_ v3) - 48))) * 2)) - 9)))) (!v2) (i64 (v3 - 1)))) (fun h6 =>
         LpO.go [.bit true, .bit true, .bit false, .wait 10, .mask [0, 3, 4, 5], .ren []] (p := [(decide (0 ≤ v3)) = true,
          (0 : Int) ≤ v3,
          (v3 : Int) < s_.size,
          v2 = true,
          (decide (9 < (i64 ((i64 (u8 ((sAt s_ v3) - 48))) * 2)))) = false]) (by kernel_rfl) (cj h3 (cj (od h3) (cj (od h4) (cj h5 (cj1 h6))))) (impl_Luhn_l0_ok s_ fuel (i64 (v1 + (i64 ((i64 (u8 ((sAt s_ v3) - 48))) * 2)))) (!v2) (i64 (v3 - 1))))) (fun h5 =>
        LpO.go [.bit true, .bit false, .wait 10, .mask [0, 3, 4, 5], .ren []] (p := [(decide (0 ≤ v3)) = true,
         (0 : Int) ≤ v3,
         (v3 : Int) < s_.size,
         v2 = false]) (by kernel_rfl) (cj h3 (cj (od h3) (cj (od h4) (cj1 h5)))) (impl_Luhn_l0_ok s_ fuel (i64 (v1 + (i64 (u8 ((sAt s_ v3) - 48))))) (!v2) (i64 (v3 - 1))))) (fun h4 =>
       Pn.none)) (fun h3 =>
      Pn.some (LpO.out [.bit false, .mask [3], .ren []] (p := [(decide (0 ≤ v3)) = false]) (by kernel_rfl) (show X.out 0 ≠ X.go from nofun) (cj1 h3)))
def impl_Luhn (s_ : ByteArray) : Option (Int) :=
 (impl_Digits s_).bind fun r1 =>
 if r1 = true then
  (impl_Luhn_l0 s_ FUEL 0 true (i64 ((s_.size : Int) - 1))).bind fun r2 =>
  some (Int.tmod (i64 (10 - (Int.tmod r2 10))) 10)
 else
  some (-1)
theorem impl_Luhn_ok (s_ : ByteArray) : Pn (fun y => Fn Tryz.prog 163 [(false, E9 s_)] (E3 y) []) (impl_Luhn s_) := by
  unfold impl_Luhn
  exact
   Pn.bind (fun r1 h1 =>
    Pn.ite (fun h2 =>
     Pn.bind (fun r2 h7 =>
      Pn.some (Fn.of [.call [] (E4 r1) [], .bit false, .wait 6, .mask [0, 3, 4, 5], .ren [], .loop (X.out 0) (st 38 [(3, V.sc (.int .i64 r2))] [] [])] (p := [Fn Tryz.prog 162 [(false, E9 s_)] (E4 r1) [],
       (true || ((E4 r1).nv && nvL [])) = true,
       (!r1) = false,
       Loop Tryz.prog (sub (codeOf Tryz.prog 163) [1, 1, 1, 0, 1, 0, 0]) (st 38 [(0, V.sc (.string s_)), (3, V.sc (.int .i64 0)), (4, V.sc (.bool true)), (5, V.sc (.int .i64 (i64 ((s_.size : Int) - 1))))] [] []) (X.out 0) (st 38 [(3, V.sc (.int .i64 r2))] [] []),
       (10 : Int) ≠ 0,
       (10 : Int) ≠ 0]) (by kernel_rfl) (cj (impl_Digits_ok s_ r1 h1) (cj rfl (cj (nf h2) (cj (impl_Luhn_l0_ok s_ FUEL 0 true (i64 ((s_.size : Int) - 1)) r2 h7) (cj (by decide) (cj1 (by decide)))))))))) (fun h2 =>
     Pn.some (Fn.of [.call [] (E4 r1) [], .bit true] (p := [Fn Tryz.prog 162 [(false, E9 s_)] (E4 r1) [],
      (true || ((E4 r1).nv && nvL [])) = true,
      (!r1) = true]) (by kernel_rfl) (cj (impl_Digits_ok s_ r1 h1) (cj rfl (cj1 (nt h2)))))))
def impl_LuhnOk (s_ : ByteArray) : Option (Bool) :=
 if (decide (1 ≤ (i64 ((s_.size : Int) - 1)))) = true then
  (impl_Digits s_).bind fun r1 =>
  if r1 = true then
   if (decide (0 ≤ (i64 ((s_.size : Int) - 1)))) = true then
    if (decide ((i64 ((s_.size : Int) - 1)) ≤ (s_.size : Int))) = true then
     if (decide (0 ≤ i64 ((s_.size : Int) - 1))) = true then
      if (decide ((i64 ((s_.size : Int) - 1) : Int) < (s_.size : Int))) = true then
       (impl_Luhn (s_.extract 0 (i64 ((s_.size : Int) - 1)).toNat)).bind fun r2 =>
       some (r2 == (i64 (u8 ((sAt s_ (i64 ((s_.size : Int) - 1))) - 48))))
      else none
     else none
    else none
   else none
  else
   some false
 else
  some false
theorem impl_LuhnOk_ok (s_ : ByteArray) : Pn (fun y => Fn Tryz.prog 147 [(false, E9 s_)] (E4 y) []) (impl_LuhnOk s_) := by
  unfold impl_LuhnOk
  exact
   Pn.ite (fun h1 =>
    Pn.bind (fun r1 h2 =>
     Pn.ite (fun h3 =>
      Pn.ite (fun h4 =>
       Pn.ite (fun h5 =>
        Pn.ite (fun h6 =>
         Pn.ite (fun h7 =>
          Pn.bind (fun r2 h8 =>
           Pn.some (Fn.of [.draw [], .bit true, .bit true, .call [] (E4 r1) [], .bit true, .bit true, .bit true, .bit true, .bit true, .bit true, .bit true, .bit true, .bit true, .bit true, .call [] (E3 r2) [], .bit true, .bit true] (p := [(decide (1 ≤ (i64 ((s_.size : Int) - 1)))) = true,
            (decide (1 ≤ (i64 ((s_.size : Int) - 1)))) = true,
            Fn Tryz.prog 162 [(false, E9 s_)] (E4 r1) [],
            (true || ((E4 r1).nv && nvL [])) = true,
            (decide (1 ≤ (i64 ((s_.size : Int) - 1)))) = true,
            r1 = true,
            r1 = true,
            r1 = true,
            (0 : Int) ≤ 0,
            (0 : Int) ≤ (i64 ((s_.size : Int) - 1)),
            ((i64 ((s_.size : Int) - 1)) : Int) ≤ (s_.size : Int),
            r1 = true,
            r1 = true,
            r1 = true,
            (0 : Int) ≤ i64 ((s_.size : Int) - 1),
            (i64 ((s_.size : Int) - 1) : Int) < s_.size,
            r1 = true,
            r1 = true,
            r1 = true,
            Fn Tryz.prog 163 [(false, E9 (s_.extract 0 (i64 ((s_.size : Int) - 1)).toNat))] (E3 r2) [],
            (true || ((E3 r2).nv && nvL [])) = true,
            r1 = true,
            r1 = true]) (by kernel_rfl) (cj h1 (cj h1 (cj (impl_Digits_ok s_ r1 h2) (cj rfl (cj h1 (cj h3 (cj h3 (cj h3 (cj (by decide) (cj (od h4) (cj (od h5) (cj h3 (cj h3 (cj h3 (cj (od h6) (cj (od h7) (cj h3 (cj h3 (cj h3 (cj (impl_Luhn_ok (s_.extract 0 (i64 ((s_.size : Int) - 1)).toNat) r2 h8) (cj rfl (cj h3 (cj1 h3)))))))))))))))))))))))))) (fun h7 =>
          Pn.none)) (fun h6 =>
         Pn.none)) (fun h5 =>
        Pn.none)) (fun h4 =>
       Pn.none)) (fun h3 =>
      Pn.some (Fn.of [.draw [], .bit true, .bit true, .call [] (E4 r1) [], .bit true, .bit false, .bit false, .bit false, .bit false, .bit false, .bit false, .bit false, .bit false, .bit false, .bit false, .bit false] (p := [(decide (1 ≤ (i64 ((s_.size : Int) - 1)))) = true,
       (decide (1 ≤ (i64 ((s_.size : Int) - 1)))) = true,
       Fn Tryz.prog 162 [(false, E9 s_)] (E4 r1) [],
       (true || ((E4 r1).nv && nvL [])) = true,
       (decide (1 ≤ (i64 ((s_.size : Int) - 1)))) = true,
       r1 = false,
       r1 = false,
       r1 = false,
       r1 = false,
       r1 = false,
       r1 = false,
       r1 = false,
       r1 = false,
       r1 = false,
       r1 = false,
       r1 = false]) (by kernel_rfl) (cj h1 (cj h1 (cj (impl_Digits_ok s_ r1 h2) (cj rfl (cj h1 (cj h3 (cj h3 (cj h3 (cj h3 (cj h3 (cj h3 (cj h3 (cj h3 (cj h3 (cj h3 (cj1 h3)))))))))))))))))))) (fun h1 =>
    Pn.some (Fn.of [.draw [], .bit false, .bit false, .bit false, .bit false, .bit false, .bit false, .bit false, .bit false, .bit false, .bit false, .bit false, .bit false, .bit false, .bit false] (p := [(decide (1 ≤ (i64 ((s_.size : Int) - 1)))) = false,
     (decide (1 ≤ (i64 ((s_.size : Int) - 1)))) = false,
     (decide (1 ≤ (i64 ((s_.size : Int) - 1)))) = false,
     false = false,
     false = false,
     false = false,
     false = false,
     false = false,
     false = false,
     false = false,
     false = false,
     false = false,
     false = false,
     false = false]) (by kernel_rfl) (cj h1 (cj h1 (cj h1 (cj rfl (cj rfl (cj rfl (cj rfl (cj rfl (cj rfl (cj rfl (cj rfl (cj rfl (cj rfl (cj1 rfl))))))))))))))))
def impl_AcctIdOk (s_ : ByteArray) : Option (Bool) :=
 if (decide ((s_.size : Int) ≤ 19)) = true then
  (impl_LuhnOk s_).bind fun r1 =>
  some r1
 else
  some false
theorem impl_AcctIdOk_ok (s_ : ByteArray) : Pn (fun y => Fn Tryz.prog 112 [(false, E9 s_)] (E4 y) []) (impl_AcctIdOk s_) := by
  unfold impl_AcctIdOk
  exact
   Pn.ite (fun h1 =>
    Pn.bind (fun r1 h2 =>
     Pn.some (Fn.of [.bit true, .bit true, .call [] (E4 r1) [], .bit true] (p := [(decide ((s_.size : Int) ≤ 19)) = true,
      (decide ((s_.size : Int) ≤ 19)) = true,
      Fn Tryz.prog 147 [(false, E9 s_)] (E4 r1) [],
      (true || ((E4 r1).nv && nvL [])) = true,
      (decide ((s_.size : Int) ≤ 19)) = true]) (by kernel_rfl) (cj h1 (cj h1 (cj (impl_LuhnOk_ok s_ r1 h2) (cj rfl (cj1 h1)))))))) (fun h1 =>
    Pn.some (Fn.of [.bit false, .bit false, .bit false] (p := [(decide ((s_.size : Int) ≤ 19)) = false,
     (decide ((s_.size : Int) ≤ 19)) = false,
     (decide ((s_.size : Int) ≤ 19)) = false]) (by kernel_rfl) (cj h1 (cj h1 (cj1 h1)))))
def impl_within (n : Int) (low : Int) (high : Int) : Option (Bool) :=
 if (decide (low ≤ n)) = true then
  some (decide (n ≤ high))
 else
  some false
theorem impl_within_ok (n : Int) (low : Int) (high : Int) : Pn (fun y => Fn Tryz.prog 74 [(false, E3 n), (false, E3 low), (false, E3 high)] (E4 y) []) (impl_within n low high) := by
  unfold impl_within
  exact
   Pn.ite (fun h1 =>
    Pn.some (Fn.of [.bit true, .bit true, .bit true, .bit true] (p := [(decide (low ≤ n)) = true,
     (decide (low ≤ n)) = true,
     (decide (low ≤ n)) = true,
     (decide (low ≤ n)) = true]) (by kernel_rfl) (cj h1 (cj h1 (cj h1 (cj1 h1)))))) (fun h1 =>
    Pn.some (Fn.of [.bit false, .bit false, .bit false, .bit false] (p := [(decide (low ≤ n)) = false,
     (decide (low ≤ n)) = false,
     (decide (low ≤ n)) = false,
     (decide (low ≤ n)) = false]) (by kernel_rfl) (cj h1 (cj h1 (cj h1 (cj1 h1))))))
def impl_isMoney (n : Int) : Option (Bool) :=
 (impl_within n 0 4611686018427387904).bind fun r1 =>
 some r1
theorem impl_isMoney_ok (n : Int) : Pn (fun y => Fn Tryz.prog 113 [(false, E3 n)] (E4 y) []) (impl_isMoney n) := by
  unfold impl_isMoney
  exact
   Pn.bind (fun r1 h1 =>
    Pn.some (Fn.of [.call [] (E4 r1) []] (p := [Fn Tryz.prog 74 [(false, E3 n), (false, E3 0), (false, E3 4611686018427387904)] (E4 r1) [],
     (true || ((E4 r1).nv && nvL [])) = true]) (by kernel_rfl) (cj (impl_within_ok n 0 4611686018427387904 r1 h1) (cj1 rfl))))
def impl_HoldIdOk_l0 (s_ : ByteArray) : Nat → Int → Option (Lo Unit Unit)
  | 0, _ => none
  | fuel + 1, v1 =>
   if (decide (v1 < (s_.size : Int))) = true then
    if (decide (0 ≤ v1)) = true then
     if (decide ((v1 : Int) < (s_.size : Int))) = true then
      if (decide ((sAt s_ v1) < 48)) = true then
       if (decide ((sAt s_ v1) < 97)) = true then
        some (.ret ())
       else
        if (decide (122 < (sAt s_ v1))) = true then
         some (.ret ())
        else
         impl_HoldIdOk_l0 s_ fuel (i64 (v1 + 1))
      else
       if (decide (57 < (sAt s_ v1))) = true then
        if (decide ((sAt s_ v1) < 97)) = true then
         some (.ret ())
        else
         if (decide (122 < (sAt s_ v1))) = true then
          some (.ret ())
         else
          impl_HoldIdOk_l0 s_ fuel (i64 (v1 + 1))
       else
        impl_HoldIdOk_l0 s_ fuel (i64 (v1 + 1))
     else none
    else none
   else
    some (.out ())
theorem impl_HoldIdOk_l0_ok (s_ : ByteArray) : ∀ (fuel : Nat) (v1 : Int), Pn (LpO Tryz.prog (sub (codeOf Tryz.prog 164) [1, 0, 1, 0, 0]) (st 35 [(0, V.sc (.string s_)), (5, V.sc (.int .i64 (s_.size : Int))), (6, V.sc (.int .i64 v1))] [] []) (fun (y : Lo Unit Unit) => Lo.elim y (fun s => (X.out 0, st 35 [(0, V.sc (.string s_))] [] [])) (fun s => (X.ret, st 35 [(2, V.sc (.bool false))] [] [])))) (impl_HoldIdOk_l0 s_ fuel v1)
  | 0, _ => Pn.none
  | fuel + 1, v1 => by
    unfold impl_HoldIdOk_l0
    exact
     Pn.ite (fun h1 =>
      Pn.ite (fun h2 =>
       Pn.ite (fun h3 =>
        Pn.ite (fun h4 =>
         Pn.ite (fun h5 =>
          Pn.some (LpO.out [.bit true, .bit true, .bit true, .bit true, .bit true, .bit true, .bit true, .bit true, .bit true, .bit true, .bit true, .bit true, .bit true, .bit true, .bit true, .bit true, .bit true, .bit true, .bit true, .wait 1, .mask [2], .ren []] (p := [(decide (v1 < (s_.size : Int))) = true,
           (0 : Int) ≤ v1,
           (v1 : Int) < s_.size,
           (decide ((sAt s_ v1) < 48)) = true,
           (decide ((sAt s_ v1) < 48)) = true,
           (decide ((sAt s_ v1) < 48)) = true,
           (decide ((sAt s_ v1) < 48)) = true,
           (decide ((sAt s_ v1) < 48)) = true,
           true = true,
           true = true,
           true = true,
           (0 : Int) ≤ v1,
           (v1 : Int) < s_.size,
           true = true,
           true = true,
           (decide ((sAt s_ v1) < 97)) = true,
           (decide ((sAt s_ v1) < 97)) = true,
           (decide ((sAt s_ v1) < 97)) = true,
           (decide ((sAt s_ v1) < 97)) = true,
           true = true,
           (decide ((sAt s_ v1) < 97)) = true,
           true = true,
           true = true]) (by kernel_rfl) (show X.ret ≠ X.go from nofun) (cj h1 (cj (od h2) (cj (od h3) (cj h4 (cj h4 (cj h4 (cj h4 (cj h4 (cj rfl (cj rfl (cj rfl (cj (od h2) (cj (od h3) (cj rfl (cj rfl (cj h5 (cj h5 (cj h5 (cj h5 (cj rfl (cj h5 (cj rfl (cj1 rfl))))))))))))))))))))))))) (fun h5 =>
          Pn.ite (fun h6 =>
           Pn.some (LpO.out [.bit true, .bit true, .bit true, .bit true, .bit true, .bit true, .bit true, .bit true, .bit true, .bit true, .bit true, .bit false, .bit false, .bit false, .bit false, .bit true, .bit false, .bit true, .bit true, .wait 1, .mask [2], .ren []] (p := [(decide (v1 < (s_.size : Int))) = true,
            (0 : Int) ≤ v1,
            (v1 : Int) < s_.size,
            (decide ((sAt s_ v1) < 48)) = true,
            (decide ((sAt s_ v1) < 48)) = true,
            (decide ((sAt s_ v1) < 48)) = true,
            (decide ((sAt s_ v1) < 48)) = true,
            (decide ((sAt s_ v1) < 48)) = true,
            true = true,
            true = true,
            true = true,
            (0 : Int) ≤ v1,
            (v1 : Int) < s_.size,
            true = true,
            true = true,
            (decide ((sAt s_ v1) < 97)) = false,
            (decide ((sAt s_ v1) < 97)) = false,
            (decide ((sAt s_ v1) < 97)) = false,
            (0 : Int) ≤ v1,
            (v1 : Int) < s_.size,
            (decide ((sAt s_ v1) < 97)) = false,
            true = true,
            (decide ((sAt s_ v1) < 97)) = false,
            true = true,
            (decide (122 < (sAt s_ v1))) = true]) (by kernel_rfl) (show X.ret ≠ X.go from nofun) (cj h1 (cj (od h2) (cj (od h3) (cj h4 (cj h4 (cj h4 (cj h4 (cj h4 (cj rfl (cj rfl (cj rfl (cj (od h2) (cj (od h3) (cj rfl (cj rfl (cj h5 (cj h5 (cj h5 (cj (od h2) (cj (od h3) (cj h5 (cj rfl (cj h5 (cj rfl (cj1 h6))))))))))))))))))))))))))) (fun h6 =>
           LpO.go [.bit true, .bit true, .bit true, .bit true, .bit true, .bit true, .bit true, .bit true, .bit true, .bit true, .bit true, .bit false, .bit false, .bit false, .bit false, .bit true, .bit false, .bit true, .bit false, .wait 2, .mask [0, 5, 6], .ren []] (p := [(decide (v1 < (s_.size : Int))) = true,
            (0 : Int) ≤ v1,
            (v1 : Int) < s_.size,
            (decide ((sAt s_ v1) < 48)) = true,
            (decide ((sAt s_ v1) < 48)) = true,
            (decide ((sAt s_ v1) < 48)) = true,
            (decide ((sAt s_ v1) < 48)) = true,
            (decide ((sAt s_ v1) < 48)) = true,
            true = true,
            true = true,
            true = true,
            (0 : Int) ≤ v1,
            (v1 : Int) < s_.size,
            true = true,
            true = true,
            (decide ((sAt s_ v1) < 97)) = false,
            (decide ((sAt s_ v1) < 97)) = false,
            (decide ((sAt s_ v1) < 97)) = false,
            (0 : Int) ≤ v1,
            (v1 : Int) < s_.size,
            (decide ((sAt s_ v1) < 97)) = false,
            true = true,
            (decide ((sAt s_ v1) < 97)) = false,
            true = true,
            (decide (122 < (sAt s_ v1))) = false]) (by kernel_rfl) (cj h1 (cj (od h2) (cj (od h3) (cj h4 (cj h4 (cj h4 (cj h4 (cj h4 (cj rfl (cj rfl (cj rfl (cj (od h2) (cj (od h3) (cj rfl (cj rfl (cj h5 (cj h5 (cj h5 (cj (od h2) (cj (od h3) (cj h5 (cj rfl (cj h5 (cj rfl (cj1 h6))))))))))))))))))))))))) (impl_HoldIdOk_l0_ok s_ fuel (i64 (v1 + 1)))))) (fun h4 =>
         Pn.ite (fun h7 =>
          Pn.ite (fun h8 =>
           Pn.some (LpO.out [.bit true, .bit false, .bit false, .bit false, .bit false, .bit false, .bit true, .bit true, .bit true, .bit true, .bit true, .bit true, .bit true, .bit true, .bit true, .bit true, .bit true, .bit true, .bit true, .wait 1, .mask [2], .ren []] (p := [(decide (v1 < (s_.size : Int))) = true,
            (0 : Int) ≤ v1,
            (v1 : Int) < s_.size,
            (decide ((sAt s_ v1) < 48)) = false,
            (decide ((sAt s_ v1) < 48)) = false,
            (decide ((sAt s_ v1) < 48)) = false,
            (0 : Int) ≤ v1,
            (v1 : Int) < s_.size,
            (decide ((sAt s_ v1) < 48)) = false,
            (decide ((sAt s_ v1) < 48)) = false,
            (decide (57 < (sAt s_ v1))) = true,
            (decide (57 < (sAt s_ v1))) = true,
            (decide (57 < (sAt s_ v1))) = true,
            (0 : Int) ≤ v1,
            (v1 : Int) < s_.size,
            (decide (57 < (sAt s_ v1))) = true,
            (decide (57 < (sAt s_ v1))) = true,
            (decide ((sAt s_ v1) < 97)) = true,
            (decide ((sAt s_ v1) < 97)) = true,
            (decide ((sAt s_ v1) < 97)) = true,
            (decide ((sAt s_ v1) < 97)) = true,
            (decide (57 < (sAt s_ v1))) = true,
            (decide ((sAt s_ v1) < 97)) = true,
            (decide (57 < (sAt s_ v1))) = true,
            true = true]) (by kernel_rfl) (show X.ret ≠ X.go from nofun) (cj h1 (cj (od h2) (cj (od h3) (cj h4 (cj h4 (cj h4 (cj (od h2) (cj (od h3) (cj h4 (cj h4 (cj h7 (cj h7 (cj h7 (cj (od h2) (cj (od h3) (cj h7 (cj h7 (cj h8 (cj h8 (cj h8 (cj h8 (cj h7 (cj h8 (cj h7 (cj1 rfl))))))))))))))))))))))))))) (fun h8 =>
           Pn.ite (fun h9 =>
            Pn.some (LpO.out [.bit true, .bit false, .bit false, .bit false, .bit false, .bit false, .bit true, .bit true, .bit true, .bit true, .bit true, .bit false, .bit false, .bit false, .bit false, .bit true, .bit false, .bit true, .bit true, .wait 1, .mask [2], .ren []] (p := [(decide (v1 < (s_.size : Int))) = true,
             (0 : Int) ≤ v1,
             (v1 : Int) < s_.size,
             (decide ((sAt s_ v1) < 48)) = false,
             (decide ((sAt s_ v1) < 48)) = false,
             (decide ((sAt s_ v1) < 48)) = false,
             (0 : Int) ≤ v1,
             (v1 : Int) < s_.size,
             (decide ((sAt s_ v1) < 48)) = false,
             (decide ((sAt s_ v1) < 48)) = false,
             (decide (57 < (sAt s_ v1))) = true,
             (decide (57 < (sAt s_ v1))) = true,
             (decide (57 < (sAt s_ v1))) = true,
             (0 : Int) ≤ v1,
             (v1 : Int) < s_.size,
             (decide (57 < (sAt s_ v1))) = true,
             (decide (57 < (sAt s_ v1))) = true,
             (decide ((sAt s_ v1) < 97)) = false,
             (decide ((sAt s_ v1) < 97)) = false,
             (decide ((sAt s_ v1) < 97)) = false,
             (0 : Int) ≤ v1,
             (v1 : Int) < s_.size,
             (decide ((sAt s_ v1) < 97)) = false,
             (decide (57 < (sAt s_ v1))) = true,
             (decide ((sAt s_ v1) < 97)) = false,
             (decide (57 < (sAt s_ v1))) = true,
             (decide (122 < (sAt s_ v1))) = true]) (by kernel_rfl) (show X.ret ≠ X.go from nofun) (cj h1 (cj (od h2) (cj (od h3) (cj h4 (cj h4 (cj h4 (cj (od h2) (cj (od h3) (cj h4 (cj h4 (cj h7 (cj h7 (cj h7 (cj (od h2) (cj (od h3) (cj h7 (cj h7 (cj h8 (cj h8 (cj h8 (cj (od h2) (cj (od h3) (cj h8 (cj h7 (cj h8 (cj h7 (cj1 h9))))))))))))))))))))))))))))) (fun h9 =>
            LpO.go [.bit true, .bit false, .bit false, .bit false, .bit false, .bit false, .bit true, .bit true, .bit true, .bit true, .bit true, .bit false, .bit false, .bit false, .bit false, .bit true, .bit false, .bit true, .bit false, .wait 2, .mask [0, 5, 6], .ren []] (p := [(decide (v1 < (s_.size : Int))) = true,
             (0 : Int) ≤ v1,
             (v1 : Int) < s_.size,
             (decide ((sAt s_ v1) < 48)) = false,
             (decide ((sAt s_ v1) < 48)) = false,
             (decide ((sAt s_ v1) < 48)) = false,
             (0 : Int) ≤ v1,
             (v1 : Int) < s_.size,
             (decide ((sAt s_ v1) < 48)) = false,
             (decide ((sAt s_ v1) < 48)) = false,
             (decide (57 < (sAt s_ v1))) = true,
             (decide (57 < (sAt s_ v1))) = true,
             (decide (57 < (sAt s_ v1))) = true,
             (0 : Int) ≤ v1,
             (v1 : Int) < s_.size,
             (decide (57 < (sAt s_ v1))) = true,
             (decide (57 < (sAt s_ v1))) = true,
             (decide ((sAt s_ v1) < 97)) = false,
             (decide ((sAt s_ v1) < 97)) = false,
             (decide ((sAt s_ v1) < 97)) = false,
             (0 : Int) ≤ v1,
             (v1 : Int) < s_.size,
             (decide ((sAt s_ v1) < 97)) = false,
             (decide (57 < (sAt s_ v1))) = true,
             (decide ((sAt s_ v1) < 97)) = false,
             (decide (57 < (sAt s_ v1))) = true,
             (decide (122 < (sAt s_ v1))) = false]) (by kernel_rfl) (cj h1 (cj (od h2) (cj (od h3) (cj h4 (cj h4 (cj h4 (cj (od h2) (cj (od h3) (cj h4 (cj h4 (cj h7 (cj h7 (cj h7 (cj (od h2) (cj (od h3) (cj h7 (cj h7 (cj h8 (cj h8 (cj h8 (cj (od h2) (cj (od h3) (cj h8 (cj h7 (cj h8 (cj h7 (cj1 h9))))))))))))))))))))))))))) (impl_HoldIdOk_l0_ok s_ fuel (i64 (v1 + 1)))))) (fun h7 =>
          LpO.go [.bit true, .bit false, .bit false, .bit false, .bit false, .bit false, .bit false, .bit false, .bit false, .bit false, .bit false, .bit false, .bit false, .bit false, .wait 2, .mask [0, 5, 6], .ren []] (p := [(decide (v1 < (s_.size : Int))) = true,
           (0 : Int) ≤ v1,
           (v1 : Int) < s_.size,
           (decide ((sAt s_ v1) < 48)) = false,
           (decide ((sAt s_ v1) < 48)) = false,
           (decide ((sAt s_ v1) < 48)) = false,
           (0 : Int) ≤ v1,
           (v1 : Int) < s_.size,
           (decide ((sAt s_ v1) < 48)) = false,
           (decide ((sAt s_ v1) < 48)) = false,
           (decide (57 < (sAt s_ v1))) = false,
           (decide (57 < (sAt s_ v1))) = false,
           (decide (57 < (sAt s_ v1))) = false,
           (decide (57 < (sAt s_ v1))) = false,
           (decide (57 < (sAt s_ v1))) = false,
           (decide (57 < (sAt s_ v1))) = false,
           (decide (57 < (sAt s_ v1))) = false,
           false = false]) (by kernel_rfl) (cj h1 (cj (od h2) (cj (od h3) (cj h4 (cj h4 (cj h4 (cj (od h2) (cj (od h3) (cj h4 (cj h4 (cj h7 (cj h7 (cj h7 (cj h7 (cj h7 (cj h7 (cj h7 (cj1 rfl)))))))))))))))))) (impl_HoldIdOk_l0_ok s_ fuel (i64 (v1 + 1)))))) (fun h3 =>
        Pn.none)) (fun h2 =>
       Pn.none)) (fun h1 =>
      Pn.some (LpO.out [.bit false, .mask [0], .ren []] (p := [(decide (v1 < (s_.size : Int))) = false]) (by kernel_rfl) (show X.out 0 ≠ X.go from nofun) (cj1 h1)))
def impl_HoldIdOk (s_ : ByteArray) : Option (Bool) :=
 (impl_HoldIdOk_l0 s_ FUEL 0).bind fun r1 =>
 Lo.elim r1 (fun s1 =>
  (impl_within (s_.size : Int) 1 6).bind fun r2 =>
  some r2) (fun s2 =>
  some false)
theorem impl_HoldIdOk_ok (s_ : ByteArray) : Pn (fun y => Fn Tryz.prog 164 [(false, E9 s_)] (E4 y) []) (impl_HoldIdOk s_) := by
  unfold impl_HoldIdOk
  exact
   Pn.bind (fun r1 h10 =>
    Pn.lo (fun s1 h11 =>
     Pn.bind (fun r2 h13 =>
      Pn.some (Fn.of [.wait 5, .mask [0, 5, 6], .ren [], .loop (X.out 0) (st 35 [(0, V.sc (.string s_))] [] []), .call [] (E4 r2) []] (p := [Loop Tryz.prog (sub (codeOf Tryz.prog 164) [1, 0, 1, 0, 0]) (st 35 [(0, V.sc (.string s_)), (5, V.sc (.int .i64 (s_.size : Int))), (6, V.sc (.int .i64 0))] [] []) (X.out 0) (st 35 [(0, V.sc (.string s_))] [] []),
       Fn Tryz.prog 74 [(false, E3 (s_.size : Int)), (false, E3 1), (false, E3 6)] (E4 r2) [],
       (true || ((E4 r2).nv && nvL [])) = true]) (by kernel_rfl) (cj ((impl_HoldIdOk_l0_ok s_ FUEL 0 r1 h10).at h11) (cj (impl_within_ok (s_.size : Int) 1 6 r2 h13) (cj1 rfl)))))) (fun s2 h12 =>
     Pn.some (Fn.of [.wait 5, .mask [0, 5, 6], .ren [], .loop (X.ret) (st 35 [(2, V.sc (.bool false))] [] [])] (p := [Loop Tryz.prog (sub (codeOf Tryz.prog 164) [1, 0, 1, 0, 0]) (st 35 [(0, V.sc (.string s_)), (5, V.sc (.int .i64 (s_.size : Int))), (6, V.sc (.int .i64 0))] [] []) (X.ret) (st 35 [(2, V.sc (.bool false))] [] [])]) (by kernel_rfl) (cj1 ((impl_HoldIdOk_l0_ok s_ FUEL 0 r1 h10).at h12)))))
def impl_isTime (n : Int) : Option (Bool) :=
 (impl_within n 0 1000000000).bind fun r1 =>
 some r1
theorem impl_isTime_ok (n : Int) : Pn (fun y => Fn Tryz.prog 88 [(false, E3 n)] (E4 y) []) (impl_isTime n) := by
  unfold impl_isTime
  exact
   Pn.bind (fun r1 h1 =>
    Pn.some (Fn.of [.call [] (E4 r1) []] (p := [Fn Tryz.prog 74 [(false, E3 n), (false, E3 0), (false, E3 1000000000)] (E4 r1) [],
     (true || ((E4 r1).nv && nvL [])) = true]) (by kernel_rfl) (cj (impl_within_ok n 0 1000000000 r1 h1) (cj1 rfl))))
def impl_HoldOk (h_ : Hold) : Option (Bool) :=
 (impl_HoldIdOk h_.Id).bind fun r1 =>
 if r1 = true then
  (impl_within h_.Amount 1 9007199254740992).bind fun r2 =>
  if r2 = true then
   (impl_isTime h_.Due).bind fun r3 =>
   some r3
  else
   some false
 else
  some false
theorem impl_HoldOk_ok (h_ : Hold) : Pn (fun y => Fn Tryz.prog 148 [(false, E129 h_)] (E4 y) []) (impl_HoldOk h_) := by
  unfold impl_HoldOk
  exact
   Pn.bind (fun r1 h1 =>
    Pn.ite (fun h2 =>
     Pn.bind (fun r2 h3 =>
      Pn.ite (fun h4 =>
       Pn.bind (fun r3 h5 =>
        Pn.some (Fn.of [.call [] (E4 r1) [], .bit true, .bit true, .bit true, .call [] (E4 r2) [], .bit true, .bit true, .bit true, .bit true, .call [] (E4 r3) [], .bit true] (p := [Fn Tryz.prog 164 [(false, E9 h_.Id)] (E4 r1) [],
         (true || ((E4 r1).nv && nvL [])) = true,
         r1 = true,
         r1 = true,
         r1 = true,
         Fn Tryz.prog 74 [(false, E3 h_.Amount), (false, E3 1), (false, E3 9007199254740992)] (E4 r2) [],
         (true || ((E4 r2).nv && nvL [])) = true,
         r1 = true,
         r2 = true,
         r2 = true,
         r2 = true,
         Fn Tryz.prog 88 [(false, E3 h_.Due)] (E4 r3) [],
         (true || ((E4 r3).nv && nvL [])) = true,
         r2 = true]) (by kernel_rfl) (cj (impl_HoldIdOk_ok h_.Id r1 h1) (cj rfl (cj h2 (cj h2 (cj h2 (cj (impl_within_ok h_.Amount 1 9007199254740992 r2 h3) (cj rfl (cj h2 (cj h4 (cj h4 (cj h4 (cj (impl_isTime_ok h_.Due r3 h5) (cj rfl (cj1 h4))))))))))))))))) (fun h4 =>
       Pn.some (Fn.of [.call [] (E4 r1) [], .bit true, .bit true, .bit true, .call [] (E4 r2) [], .bit true, .bit false, .bit false, .bit false, .bit false] (p := [Fn Tryz.prog 164 [(false, E9 h_.Id)] (E4 r1) [],
        (true || ((E4 r1).nv && nvL [])) = true,
        r1 = true,
        r1 = true,
        r1 = true,
        Fn Tryz.prog 74 [(false, E3 h_.Amount), (false, E3 1), (false, E3 9007199254740992)] (E4 r2) [],
        (true || ((E4 r2).nv && nvL [])) = true,
        r1 = true,
        r2 = false,
        r2 = false,
        r2 = false,
        r2 = false]) (by kernel_rfl) (cj (impl_HoldIdOk_ok h_.Id r1 h1) (cj rfl (cj h2 (cj h2 (cj h2 (cj (impl_within_ok h_.Amount 1 9007199254740992 r2 h3) (cj rfl (cj h2 (cj h4 (cj h4 (cj h4 (cj1 h4)))))))))))))))) (fun h2 =>
     Pn.some (Fn.of [.call [] (E4 r1) [], .bit false, .bit false, .bit false, .bit false, .bit false, .bit false, .bit false, .bit false] (p := [Fn Tryz.prog 164 [(false, E9 h_.Id)] (E4 r1) [],
      (true || ((E4 r1).nv && nvL [])) = true,
      r1 = false,
      r1 = false,
      r1 = false,
      r1 = false,
      false = false,
      false = false,
      false = false,
      false = false]) (by kernel_rfl) (cj (impl_HoldIdOk_ok h_.Id r1 h1) (cj rfl (cj h2 (cj h2 (cj h2 (cj h2 (cj rfl (cj rfl (cj rfl (cj1 rfl)))))))))))))
def impl_HoldsOk_l0 (l : List Hold) : List Hold → List Hold → Option (Lo Unit Unit)
  | [], p1 =>
   some (.out ())
  | x1 :: t1, p1 =>
   (impl_HoldOk x1).bind fun r1 =>
   if r1 = true then
    if (decide (0 < (p1.length : Int))) = true then
     if (decide (0 ≤ (i64 ((p1.length : Int) - 1)))) = true then
      (l[(i64 ((p1.length : Int) - 1)).toNat]?).bind fun x2 =>
      if (Op.bytesLess x1.Id.toList x2.Id.toList || (x1.Id == x2.Id)) = true then
       some (.ret ())
      else
       impl_HoldsOk_l0 l t1 (p1 ++ [x1])
     else none
    else
     impl_HoldsOk_l0 l t1 (p1 ++ [x1])
   else
    some (.ret ())
theorem impl_HoldsOk_l0_ok (l : List Hold) (h2 : capOk l.length = true) : ∀ (t1 p1 : List Hold) (_ : l = p1 ++ t1) , Pn (LpO Tryz.prog (sub (codeOf Tryz.prog 114) [1, 0, 1, 0, 0]) (st 34 [(0, V.sl false 129 (List.map E129 l)), (5, V.sl false 129 (List.map E129 l)), (6, V.sc (.int .i64 (l.length : Int))), (7, V.sc (.int .i64 (p1.length : Int)))] [] []) (fun (y : Lo Unit Unit) => Lo.elim y (fun s => (X.out 0, st 34 [(0, V.sl false 129 (List.map E129 l))] [] [])) (fun s => (X.ret, st 34 [(2, V.sc (.bool false))] [] [])))) (impl_HoldsOk_l0 l t1 p1)
  | [], p1, h1 => by
    unfold impl_HoldsOk_l0
    exact
     Pn.some (LpO.out [.bit false, .mask [0], .ren []] (p := [(decide ((p1.length : Int) < (l.length : Int))) = false]) (by kernel_rfl) (show X.out 0 ≠ X.go from nofun) (cj1 (rng_end h1)))
  | x1 :: t1, p1, h1 => by
    unfold impl_HoldsOk_l0
    exact
     Pn.bind (fun r1 h3 =>
      Pn.ite (fun h4 =>
       Pn.ite (fun h5 =>
        Pn.ite (fun h6 =>
         Pn.bind (fun x2 h7 =>
          Pn.ite (fun h8 =>
           Pn.some (LpO.out [.bit true, .el (E129 x1), .draw [], .call [] (E4 r1) [], .bit false, .bit false, .bit false, .bit true, .bit true, .bit true, .bit true, .bit true, .bit true, .el (E129 x2), .bit true, .bit true, .bit true, .bit false, .bit true, .bit false, .bit true, .wait 1, .mask [2], .ren []] (p := [(decide ((p1.length : Int) < (l.length : Int))) = true,
            (0 : Int) ≤ (p1.length : Int),
            (List.map E129 l)[(p1.length : Int).toNat]? = some (E129 x1),
            Fn Tryz.prog 148 [(false, E129 x1)] (E4 r1) [],
            (true || ((E4 r1).nv && nvL [])) = true,
            (!r1) = false,
            (!r1) = false,
            (!r1) = false,
            (decide (0 < (p1.length : Int))) = true,
            (decide (0 < (p1.length : Int))) = true,
            (decide (0 < (p1.length : Int))) = true,
            (decide (0 < (p1.length : Int))) = true,
            (decide (0 < (p1.length : Int))) = true,
            (decide (0 < (p1.length : Int))) = true,
            (0 : Int) ≤ (i64 ((p1.length : Int) - 1)),
            (List.map E129 l)[(i64 ((p1.length : Int) - 1)).toNat]? = some (E129 x2),
            (decide (0 < (p1.length : Int))) = true,
            (decide (0 < (p1.length : Int))) = true,
            (decide (0 < (p1.length : Int))) = true,
            (!r1) = false,
            (decide (0 < (p1.length : Int))) = true,
            (!r1) = false,
            (Op.bytesLess x1.Id.toList x2.Id.toList || (x1.Id == x2.Id)) = true]) (by kernel_rfl) (show X.ret ≠ X.go from nofun) (cj (rng_lt h1) (cj (by omega) (cj (rng_get _ h1) (cj (impl_HoldOk_ok x1 r1 h3) (cj rfl (cj (nf h4) (cj (nf h4) (cj (nf h4) (cj h5 (cj h5 (cj h5 (cj h5 (cj h5 (cj h5 (cj (od h6) (cj (map_get h7) (cj h5 (cj h5 (cj h5 (cj (nf h4) (cj h5 (cj (nf h4) (cj1 h8))))))))))))))))))))))))) (fun h8 =>
           LpO.go [.bit true, .el (E129 x1), .draw [], .call [] (E4 r1) [], .bit false, .bit false, .bit false, .bit true, .bit true, .bit true, .bit true, .bit true, .bit true, .el (E129 x2), .bit true, .bit true, .bit true, .bit false, .bit true, .bit false, .bit false, .wait 2, .mask [0, 5, 6, 7], .ren [], .nm 7 (V.sc (.int .i64 ((p1 ++ [x1]).length : Int)))] (p := [(decide ((p1.length : Int) < (l.length : Int))) = true,
            (0 : Int) ≤ (p1.length : Int),
            (List.map E129 l)[(p1.length : Int).toNat]? = some (E129 x1),
            Fn Tryz.prog 148 [(false, E129 x1)] (E4 r1) [],
            (true || ((E4 r1).nv && nvL [])) = true,
            (!r1) = false,
            (!r1) = false,
            (!r1) = false,
            (decide (0 < (p1.length : Int))) = true,
            (decide (0 < (p1.length : Int))) = true,
            (decide (0 < (p1.length : Int))) = true,
            (decide (0 < (p1.length : Int))) = true,
            (decide (0 < (p1.length : Int))) = true,
            (decide (0 < (p1.length : Int))) = true,
            (0 : Int) ≤ (i64 ((p1.length : Int) - 1)),
            (List.map E129 l)[(i64 ((p1.length : Int) - 1)).toNat]? = some (E129 x2),
            (decide (0 < (p1.length : Int))) = true,
            (decide (0 < (p1.length : Int))) = true,
            (decide (0 < (p1.length : Int))) = true,
            (!r1) = false,
            (decide (0 < (p1.length : Int))) = true,
            (!r1) = false,
            (Op.bytesLess x1.Id.toList x2.Id.toList || (x1.Id == x2.Id)) = false,
            V.sc (.int .i64 (i64 ((p1.length : Int) + 1))) = V.sc (.int .i64 ((p1 ++ [x1]).length : Int))]) (by kernel_rfl) (cj (rng_lt h1) (cj (by omega) (cj (rng_get _ h1) (cj (impl_HoldOk_ok x1 r1 h3) (cj rfl (cj (nf h4) (cj (nf h4) (cj (nf h4) (cj h5 (cj h5 (cj h5 (cj h5 (cj h5 (cj h5 (cj (od h6) (cj (map_get h7) (cj h5 (cj h5 (cj h5 (cj (nf h4) (cj h5 (cj (nf h4) (cj h8 (cj1 (rng_next h1 h2))))))))))))))))))))))))) (impl_HoldsOk_l0_ok l h2 t1 (p1 ++ [x1]) (rng_step h1))))) (fun h6 =>
         Pn.none)) (fun h5 =>
        LpO.go [.bit true, .el (E129 x1), .draw [], .call [] (E4 r1) [], .bit false, .bit false, .bit false, .bit false, .bit false, .bit false, .bit false, .bit false, .bit false, .bit false, .bit false, .bit false, .bit false, .bit false, .bit false, .bit false, .wait 2, .mask [0, 5, 6, 7], .ren [], .nm 7 (V.sc (.int .i64 ((p1 ++ [x1]).length : Int)))] (p := [(decide ((p1.length : Int) < (l.length : Int))) = true,
         (0 : Int) ≤ (p1.length : Int),
         (List.map E129 l)[(p1.length : Int).toNat]? = some (E129 x1),
         Fn Tryz.prog 148 [(false, E129 x1)] (E4 r1) [],
         (true || ((E4 r1).nv && nvL [])) = true,
         (!r1) = false,
         (!r1) = false,
         (!r1) = false,
         (decide (0 < (p1.length : Int))) = false,
         (decide (0 < (p1.length : Int))) = false,
         (decide (0 < (p1.length : Int))) = false,
         (decide (0 < (p1.length : Int))) = false,
         (decide (0 < (p1.length : Int))) = false,
         (decide (0 < (p1.length : Int))) = false,
         (decide (0 < (p1.length : Int))) = false,
         (decide (0 < (p1.length : Int))) = false,
         (decide (0 < (p1.length : Int))) = false,
         (!r1) = false,
         (decide (0 < (p1.length : Int))) = false,
         (!r1) = false,
         false = false,
         V.sc (.int .i64 (i64 ((p1.length : Int) + 1))) = V.sc (.int .i64 ((p1 ++ [x1]).length : Int))]) (by kernel_rfl) (cj (rng_lt h1) (cj (by omega) (cj (rng_get _ h1) (cj (impl_HoldOk_ok x1 r1 h3) (cj rfl (cj (nf h4) (cj (nf h4) (cj (nf h4) (cj h5 (cj h5 (cj h5 (cj h5 (cj h5 (cj h5 (cj h5 (cj h5 (cj h5 (cj (nf h4) (cj h5 (cj (nf h4) (cj rfl (cj1 (rng_next h1 h2))))))))))))))))))))))) (impl_HoldsOk_l0_ok l h2 t1 (p1 ++ [x1]) (rng_step h1)))) (fun h4 =>
       Pn.some (LpO.out [.bit true, .el (E129 x1), .draw [], .call [] (E4 r1) [], .bit true, .bit true, .bit true, .bit true, .bit true, .bit true, .wait 1, .mask [2], .ren []] (p := [(decide ((p1.length : Int) < (l.length : Int))) = true,
        (0 : Int) ≤ (p1.length : Int),
        (List.map E129 l)[(p1.length : Int).toNat]? = some (E129 x1),
        Fn Tryz.prog 148 [(false, E129 x1)] (E4 r1) [],
        (true || ((E4 r1).nv && nvL [])) = true,
        (!r1) = true,
        (!r1) = true,
        (!r1) = true,
        (!r1) = true,
        (!r1) = true,
        true = true]) (by kernel_rfl) (show X.ret ≠ X.go from nofun) (cj (rng_lt h1) (cj (by omega) (cj (rng_get _ h1) (cj (impl_HoldOk_ok x1 r1 h3) (cj rfl (cj (nt h4) (cj (nt h4) (cj (nt h4) (cj (nt h4) (cj (nt h4) (cj1 rfl))))))))))))))
def impl_HoldsOk (l : List Hold) : Option (Bool) :=
 if (capOk l.length) = true then
  (impl_HoldsOk_l0 l l []).bind fun r2 =>
  Lo.elim r2 (fun s1 =>
   some (decide ((l.length : Int) ≤ 4))) (fun s2 =>
   some false)
 else none
theorem impl_HoldsOk_ok (l : List Hold) : Pn (fun y => Fn Tryz.prog 114 [(false, E44 l)] (E4 y) []) (impl_HoldsOk l) := by
  unfold impl_HoldsOk
  exact
   Pn.ite (fun h9 =>
    Pn.bind (fun r2 h10 =>
     Pn.lo (fun s1 h11 =>
      Pn.some (Fn.of [.wait 3, .nm 6 (V.sc (.int .i64 (l.length : Int))), .wait 2, .mask [0, 5, 6, 7], .ren [], .loop (X.out 0) (st 34 [(0, V.sl false 129 (List.map E129 l))] [] []), .wait 2, .nm 32 (V.sc (.int .i64 (l.length : Int)))] (p := [V.sc (.int .i64 ((List.map E129 l).length : Int)) = V.sc (.int .i64 (l.length : Int)),
       Loop Tryz.prog (sub (codeOf Tryz.prog 114) [1, 0, 1, 0, 0]) (st 34 [(0, V.sl false 129 (List.map E129 l)), (5, V.sl false 129 (List.map E129 l)), (6, V.sc (.int .i64 (l.length : Int))), (7, V.sc (.int .i64 0))] [] []) (X.out 0) (st 34 [(0, V.sl false 129 (List.map E129 l))] [] []),
       V.sc (.int .i64 ((List.map E129 l).length : Int)) = V.sc (.int .i64 (l.length : Int))]) (by kernel_rfl) (cj (len_nm _ _) (cj ((impl_HoldsOk_l0_ok l h9 l [] rfl r2 h10).at h11) (cj1 (len_nm _ _)))))) (fun s2 h12 =>
      Pn.some (Fn.of [.wait 3, .nm 6 (V.sc (.int .i64 (l.length : Int))), .wait 2, .mask [0, 5, 6, 7], .ren [], .loop (X.ret) (st 34 [(2, V.sc (.bool false))] [] [])] (p := [V.sc (.int .i64 ((List.map E129 l).length : Int)) = V.sc (.int .i64 (l.length : Int)),
       Loop Tryz.prog (sub (codeOf Tryz.prog 114) [1, 0, 1, 0, 0]) (st 34 [(0, V.sl false 129 (List.map E129 l)), (5, V.sl false 129 (List.map E129 l)), (6, V.sc (.int .i64 (l.length : Int))), (7, V.sc (.int .i64 0))] [] []) (X.ret) (st 34 [(2, V.sc (.bool false))] [] [])]) (by kernel_rfl) (cj (len_nm _ _) (cj1 ((impl_HoldsOk_l0_ok l h9 l [] rfl r2 h10).at h12))))))) (fun h9 =>
    Pn.none)
def slices_Grow_int_nil (n : Int) : Option ((List Int)) :=
 if (decide (n < 0)) = true then none else
 if (decide (0 < (i64 (n - 0)))) = true then
  if (capOk (i64 (n - 0)).toNat) = true then
   some []
  else none
 else
  some []
theorem slices_Grow_int_nil_ok (n : Int) : Pn (fun y => Fn Tryz.prog 165 [(false, V.nl 3), (false, E3 n)] (E35 y) []) (slices_Grow_int_nil n) := by
  unfold slices_Grow_int_nil
  exact
   Pn.ite (fun h1 =>
    Pn.none) (fun h1 =>
    Pn.ite (fun h2 =>
     Pn.ite (fun h3 =>
      Pn.some (Fn.of [.bit false, .bit true, .wait 5, .nb 0 (.row 3 (List.map E3 (List.replicate ((i64 (n - 0)).toNat) 0)) [])] (p := [(decide (n < 0)) = false,
       (decide (0 < (i64 (n - 0)))) = true,
       (0 : Int) ≤ 0,
       (0 : Int) ≤ 0,
       (0 : Int) ≤ 0,
       (0 : Int) < (i64 (n - 0)),
       ((i64 (n - 0)) : Int) ≤ 9223372036854775807,
       (i64 (n - 0)).toNat * 8 ≤ 140737488355328,
       Blk.row 3 (List.replicate ((i64 (n - 0)).toNat) (V.sc (.int .i64 0))) [] = Blk.row 3 (List.map E3 (List.replicate ((i64 (n - 0)).toNat) 0)) [],
       (0 : Int) ≤ 0,
       (0 : Int) ≤ 0,
       (0 : Int) ≤ ((List.map E3 (List.replicate ((i64 (n - 0)).toNat) 0)).length : Int)]) (by kernel_rfl) (cj h1 (cj h2 (cj (by decide) (cj (by decide) (cj (by decide) (cj (od h2) (cj (cap5 h2 h3) (cj (cap2 h3 (by decide)) (cj (nb_rep E3 _ 0) (cj (by decide) (cj (by decide) (cj1 (by rw [List.length_map]; exact (by omega)))))))))))))))) (fun h3 =>
      Pn.none)) (fun h2 =>
     Pn.some (Fn.of [.bit false, .bit false] (p := [(decide (n < 0)) = false,
      (decide (0 < (i64 (n - 0)))) = false]) (by kernel_rfl) (cj h1 (cj1 h2)))))
def slices_Concat_int_l0 (slices : List (List Int)) : List (List Int) → Int → Option (Int)
  | [], v1 =>
   some v1
  | x1 :: t1, v1 =>
   if (decide ((i64 (v1 + (x1.length : Int))) < 0)) = true then none else
   slices_Concat_int_l0 slices t1 (i64 (v1 + (x1.length : Int)))
theorem slices_Concat_int_l0_ok (slices : List (List Int)) (h2 : capOk slices.length = true) : ∀ (t1 p1 : List (List Int)) (_ : slices = p1 ++ t1) (v1 : Int), Pn (LpO Tryz.prog (sub (codeOf Tryz.prog 149) [1, 1, 0, 1, 0, 0]) (st 36 [(0, V.sl false 35 (List.map E35 slices)), (3, V.sc (.int .i64 v1)), (9, V.sl false 35 (List.map E35 slices)), (10, V.sc (.int .i64 (slices.length : Int))), (11, V.sc (.int .i64 (p1.length : Int)))] [] []) (fun (y : Int) => (X.out 0, st 36 [(0, V.sl false 35 (List.map E35 slices)), (3, V.sc (.int .i64 y))] [] []))) (slices_Concat_int_l0 slices t1 v1)
  | [], p1, h1, v1 => by
    unfold slices_Concat_int_l0
    exact
     Pn.some (LpO.out [.bit false, .mask [0, 3], .ren []] (p := [(decide ((p1.length : Int) < (slices.length : Int))) = false]) (by kernel_rfl) (show X.out 0 ≠ X.go from nofun) (cj1 (rng_end h1)))
  | x1 :: t1, p1, h1, v1 => by
    unfold slices_Concat_int_l0
    exact
     Pn.ite (fun h3 =>
      Pn.none) (fun h3 =>
      LpO.go [.bit true, .el (E35 x1), .wait 5, .nm 17 (V.sc (.int .i64 (x1.length : Int))), .bit false, .wait 2, .mask [0, 3, 9, 10, 11], .ren [], .nm 11 (V.sc (.int .i64 ((p1 ++ [x1]).length : Int)))] (p := [(decide ((p1.length : Int) < (slices.length : Int))) = true,
       (0 : Int) ≤ (p1.length : Int),
       (List.map E35 slices)[(p1.length : Int).toNat]? = some (E35 x1),
       V.sc (.int .i64 ((List.map E3 x1).length : Int)) = V.sc (.int .i64 (x1.length : Int)),
       (decide ((i64 (v1 + (x1.length : Int))) < 0)) = false,
       V.sc (.int .i64 (i64 ((p1.length : Int) + 1))) = V.sc (.int .i64 ((p1 ++ [x1]).length : Int))]) (by kernel_rfl) (cj (rng_lt h1) (cj (by omega) (cj (rng_get _ h1) (cj (len_nm _ _) (cj h3 (cj1 (rng_next h1 h2))))))) (slices_Concat_int_l0_ok slices h2 t1 (p1 ++ [x1]) (rng_step h1) (i64 (v1 + (x1.length : Int)))))
def slices_Concat_int_l1 (slices : List (List Int)) : List (List Int) → (List Int) → Option ((List Int))
  | [], v2 =>
   some v2
  | x2 :: t2, v2 =>
   if (capOk (v2.length + x2.length)) = true then
    slices_Concat_int_l1 slices t2 (v2 ++ x2)
   else none
theorem slices_Concat_int_l1_ok (slices : List (List Int)) (h8 : capOk slices.length = true) : ∀ (t2 p2 : List (List Int)) (_ : slices = p2 ++ t2) (v2 : List Int), Pn (LpO Tryz.prog (sub (codeOf Tryz.prog 149) [1, 1, 1, 1, 0, 1, 0, 0]) (st 36 [(6, V.ow 0), (25, V.sl false 35 (List.map E35 slices)), (26, V.sc (.int .i64 (slices.length : Int))), (27, V.sc (.int .i64 (p2.length : Int)))] [Blk.row 3 (List.map E3 v2) []] []) (fun (y : (List Int)) => (X.out 2, st 36 [(6, V.ow 0)] [Blk.row 3 (List.map E3 y) []] []))) (slices_Concat_int_l1 slices t2 v2)
  | [], p2, h7, v2 => by
    unfold slices_Concat_int_l1
    exact
     Pn.some (LpO.out [.bit false, .mask [6], .ren [0]] (p := [(decide ((p2.length : Int) < (slices.length : Int))) = false]) (by kernel_rfl) (show X.out 2 ≠ X.go from nofun) (cj1 (rng_end h7)))
  | x2 :: t2, p2, h7, v2 => by
    unfold slices_Concat_int_l1
    exact
     Pn.ite (fun h9 =>
      LpO.go [.bit true, .el (E35 x2), .cp (List.map E3 x2), .nb 1 (.row 3 (List.map E3 (v2 ++ x2)) []), .wait 4, .mask [6, 25, 26, 27], .ren [1], .nm 27 (V.sc (.int .i64 ((p2 ++ [x2]).length : Int)))] (p := [(decide ((p2.length : Int) < (slices.length : Int))) = true,
       (0 : Int) ≤ (p2.length : Int),
       (List.map E35 slices)[(p2.length : Int).toNat]? = some (E35 x2),
       (List.map E3 x2).map V.vw = (List.map E3 x2),
       (List.map E3 v2).length + (List.map E3 x2).length ≤ 9223372036854775807,
       ((List.map E3 v2).length + (List.map E3 x2).length) * 8 ≤ 140737488355328,
       Blk.row 3 ((List.map E3 v2) ++ (List.map E3 x2)) [] = Blk.row 3 (List.map E3 (v2 ++ x2)) [],
       V.sc (.int .i64 (i64 ((p2.length : Int) + 1))) = V.sc (.int .i64 ((p2 ++ [x2]).length : Int))]) (by kernel_rfl) (cj (rng_lt h7) (cj (by omega) (cj (rng_get _ h7) (cj (vw_id (fun _ => rfl) _) (cj (cap1 (capN (by simp) h9)) (cj (cap2 (capN (by simp) h9) (by decide)) (cj (nb_app E3 v2 x2) (cj1 (rng_next h7 h8))))))))) (slices_Concat_int_l1_ok slices h8 t2 (p2 ++ [x2]) (rng_step h7) (v2 ++ x2))) (fun h9 =>
      Pn.none)
def slices_Concat_int (slices : List (List Int)) : Option ((List Int)) :=
 if (capOk slices.length) = true then
  (slices_Concat_int_l0 slices slices 0).bind fun r1 =>
  (slices_Grow_int_nil r1).bind fun r2 =>
  (slices_Concat_int_l1 slices slices r2).bind fun r3 =>
  some r3
 else none
theorem slices_Concat_int_ok (slices : List (List Int)) : Pn (fun y => Fn Tryz.prog 149 [(false, E165 slices)] (E35 y) []) (slices_Concat_int slices) := by
  unfold slices_Concat_int
  exact
   Pn.ite (fun h4 =>
    Pn.bind (fun r1 h5 =>
     Pn.bind (fun r2 h6 =>
      Pn.bind (fun r3 h10 =>
       Pn.some (Fn.of [.wait 4, .nm 10 (V.sc (.int .i64 (slices.length : Int))), .wait 2, .mask [0, 3, 9, 10, 11], .ren [], .loop (X.out 0) (st 36 [(0, V.sl false 35 (List.map E35 slices)), (3, V.sc (.int .i64 r1))] [] []), .call [] (E35 r2) [], .wait 3, .nm 26 (V.sc (.int .i64 (slices.length : Int))), .wait 2, .mask [6, 25, 26, 27], .ren [0], .loop (X.out 2) (st 36 [(6, V.ow 0)] [Blk.row 3 (List.map E3 r3) []] [])] (p := [V.sc (.int .i64 ((List.map E35 slices).length : Int)) = V.sc (.int .i64 (slices.length : Int)),
        Loop Tryz.prog (sub (codeOf Tryz.prog 149) [1, 1, 0, 1, 0, 0]) (st 36 [(0, V.sl false 35 (List.map E35 slices)), (3, V.sc (.int .i64 0)), (9, V.sl false 35 (List.map E35 slices)), (10, V.sc (.int .i64 (slices.length : Int))), (11, V.sc (.int .i64 0))] [] []) (X.out 0) (st 36 [(0, V.sl false 35 (List.map E35 slices)), (3, V.sc (.int .i64 r1))] [] []),
        Fn Tryz.prog 165 [(false, V.nl 3), (false, E3 r1)] (E35 r2) [],
        (true || ((E35 r2).nv && nvL [])) = true,
        V.sc (.int .i64 ((List.map E35 slices).length : Int)) = V.sc (.int .i64 (slices.length : Int)),
        Loop Tryz.prog (sub (codeOf Tryz.prog 149) [1, 1, 1, 1, 0, 1, 0, 0]) (st 36 [(6, V.ow 0), (25, V.sl false 35 (List.map E35 slices)), (26, V.sc (.int .i64 (slices.length : Int))), (27, V.sc (.int .i64 0))] [Blk.row 3 (List.map E3 r2) []] []) (X.out 2) (st 36 [(6, V.ow 0)] [Blk.row 3 (List.map E3 r3) []] [])]) (by kernel_rfl) (cj (len_nm _ _) (cj (slices_Concat_int_l0_ok slices h4 slices [] rfl 0 r1 h5) (cj (slices_Grow_int_nil_ok r1 r2 h6) (cj rfl (cj (len_nm _ _) (cj1 (slices_Concat_int_l1_ok slices h4 slices [] rfl r2 r3 h10)))))))))))) (fun h4 =>
    Pn.none)
def impl_RingOk_l0 (r_ : Ring) (r1 : (List Int)) : List Int → Option (Lo Unit Unit)
  | [] =>
   some (.out ())
  | x1 :: t1 =>
   (impl_isMoney x1).bind fun r2 =>
   if r2 = true then
    impl_RingOk_l0 r_ r1 t1
   else
    some (.ret ())
theorem impl_RingOk_l0_ok (r_ : Ring) (r1 : (List Int)) (h3 : capOk r1.length = true) : ∀ (t1 p1 : List Int) (_ : r1 = p1 ++ t1) , Pn (LpO Tryz.prog (sub (codeOf Tryz.prog 115) [1, 1, 0, 1, 0, 0]) (st 43 [(1, V.ptr 0 0), (3, V.sc (.int .i64 (r_.Counts.length : Int))), (14, V.ow 1), (15, V.sc (.int .i64 (r1.length : Int))), (16, V.sc (.int .i64 (p1.length : Int)))] [Blk.box 45 [V.sc (.int .i64 r_.Span), V.sc (.int .i64 r_.Head), V.sl false 3 (List.map E3 r_.Counts), V.sl false 3 (List.map E3 r_.Sums)], Blk.row 3 (List.map E3 r1) []] []) (fun (y : Lo Unit Unit) => Lo.elim y (fun s => (X.out 0, st 43 [(1, V.ptr 0 0), (3, V.sc (.int .i64 (r_.Counts.length : Int)))] [Blk.box 45 [V.sc (.int .i64 r_.Span), V.sc (.int .i64 r_.Head), V.sl false 3 (List.map E3 r_.Counts), V.sl false 3 (List.map E3 r_.Sums)]] [])) (fun s => (X.ret, st 43 [(2, V.sc (.bool false))] [] [])))) (impl_RingOk_l0 r_ r1 t1)
  | [], p1, h2 => by
    unfold impl_RingOk_l0
    exact
     Pn.some (LpO.out [.bit false, .mask [1, 3], .ren [0]] (p := [(decide ((p1.length : Int) < (r1.length : Int))) = false]) (by kernel_rfl) (show X.out 0 ≠ X.go from nofun) (cj1 (rng_end h2)))
  | x1 :: t1, p1, h2 => by
    unfold impl_RingOk_l0
    exact
     Pn.bind (fun r2 h4 =>
      Pn.ite (fun h5 =>
       LpO.go [.bit true, .el (E3 x1), .call [] (E4 r2) [], .bit false, .wait 2, .mask [1, 3, 14, 15, 16], .ren [0, 1], .nm 16 (V.sc (.int .i64 ((p1 ++ [x1]).length : Int)))] (p := [(decide ((p1.length : Int) < (r1.length : Int))) = true,
        (0 : Int) ≤ (p1.length : Int),
        ((p1.length : Int) : Int) < ((List.map E3 r1).length : Int),
        look [] ((p1.length : Int).toNat) = none,
        (List.map E3 r1)[(p1.length : Int).toNat]? = some (E3 x1),
        Fn Tryz.prog 113 [(false, E3 x1)] (E4 r2) [],
        (true || ((E4 r2).nv && nvL [])) = true,
        (!r2) = false,
        V.sc (.int .i64 (i64 ((p1.length : Int) + 1))) = V.sc (.int .i64 ((p1 ++ [x1]).length : Int))]) (by kernel_rfl) (cj (rng_lt h2) (cj (by omega) (cj (rng_ltI _ h2) (cj rfl (cj (rng_get _ h2) (cj (impl_isMoney_ok x1 r2 h4) (cj rfl (cj (nf h5) (cj1 (rng_next h2 h3)))))))))) (impl_RingOk_l0_ok r_ r1 h3 t1 (p1 ++ [x1]) (rng_step h2))) (fun h5 =>
       Pn.some (LpO.out [.bit true, .el (E3 x1), .call [] (E4 r2) [], .bit true, .wait 1, .mask [2], .ren []] (p := [(decide ((p1.length : Int) < (r1.length : Int))) = true,
        (0 : Int) ≤ (p1.length : Int),
        ((p1.length : Int) : Int) < ((List.map E3 r1).length : Int),
        look [] ((p1.length : Int).toNat) = none,
        (List.map E3 r1)[(p1.length : Int).toNat]? = some (E3 x1),
        Fn Tryz.prog 113 [(false, E3 x1)] (E4 r2) [],
        (true || ((E4 r2).nv && nvL [])) = true,
        (!r2) = true]) (by kernel_rfl) (show X.ret ≠ X.go from nofun) (cj (rng_lt h2) (cj (by omega) (cj (rng_ltI _ h2) (cj rfl (cj (rng_get _ h2) (cj (impl_isMoney_ok x1 r2 h4) (cj rfl (cj1 (nt h5))))))))))))
def impl_RingOk (r_ : Ring) : Option (Bool) :=
 (slices_Concat_int [r_.Counts, r_.Sums]).bind fun r1 =>
 if (capOk r1.length) = true then
  (impl_RingOk_l0 r_ r1 r1).bind fun r3 =>
  Lo.elim r3 (fun s1 =>
   (impl_within r_.Span 1 1000).bind fun r4 =>
   if r4 = true then
    (impl_within (r_.Counts.length : Int) 1 8).bind fun r5 =>
    if r5 = true then
     if ((r_.Sums.length : Int) == (r_.Counts.length : Int)) = true then
      (impl_isTime r_.Head).bind fun r6 =>
      some r6
     else
      some false
    else
     some false
   else
    some false) (fun s2 =>
   some false)
 else none
theorem impl_RingOk_ok (r_ : Ring) : Pn (fun y => Fn Tryz.prog 115 [(false, E45 r_)] (E4 y) []) (impl_RingOk r_) := by
  unfold impl_RingOk
  exact
   Pn.bind (fun r1 h1 =>
    Pn.ite (fun h6 =>
     Pn.bind (fun r3 h7 =>
      Pn.lo (fun s1 h8 =>
       Pn.bind (fun r4 h10 =>
        Pn.ite (fun h11 =>
         Pn.bind (fun r5 h12 =>
          Pn.ite (fun h13 =>
           Pn.ite (fun h14 =>
            Pn.bind (fun r6 h15 =>
             Pn.some (Fn.of [.wait 5, .nm 8 (V.sc (.int .i64 (r_.Counts.length : Int))), .call [] (E35 r1) [], .wait 1, .nm 15 (V.sc (.int .i64 (r1.length : Int))), .wait 2, .mask [1, 3, 14, 15, 16], .ren [0, 2], .loop (X.out 0) (st 43 [(1, V.ptr 0 0), (3, V.sc (.int .i64 (r_.Counts.length : Int)))] [Blk.box 45 [V.sc (.int .i64 r_.Span), V.sc (.int .i64 r_.Head), V.sl false 3 (List.map E3 r_.Counts), V.sl false 3 (List.map E3 r_.Sums)]] []), .call [] (E4 r4) [], .bit true, .bit true, .call [] (E4 r5) [], .bit true, .bit true, .bit true, .bit true, .nm 34 (V.sc (.int .i64 (r_.Sums.length : Int))), .bit true, .bit true, .bit true, .bit true, .bit true, .bit true, .call [] (E4 r6) [], .bit true] (p := [V.sc (.int .i64 ((List.map E3 r_.Counts).length : Int)) = V.sc (.int .i64 (r_.Counts.length : Int)),
              Fn Tryz.prog 149 [(false, V.sl true 35 [V.sl false 3 (List.map E3 r_.Counts), V.sl false 3 (List.map E3 r_.Sums)])] (E35 r1) [],
              (false || ((E35 r1).nv && nvL [])) = true,
              V.sc (.int .i64 ((List.map E3 r1).length : Int)) = V.sc (.int .i64 (r1.length : Int)),
              Loop Tryz.prog (sub (codeOf Tryz.prog 115) [1, 1, 0, 1, 0, 0]) (st 43 [(1, V.ptr 0 0), (3, V.sc (.int .i64 (r_.Counts.length : Int))), (14, V.ow 1), (15, V.sc (.int .i64 (r1.length : Int))), (16, V.sc (.int .i64 0))] [Blk.box 45 [V.sc (.int .i64 r_.Span), V.sc (.int .i64 r_.Head), V.sl false 3 (List.map E3 r_.Counts), V.sl false 3 (List.map E3 r_.Sums)], Blk.row 3 (List.map E3 r1) []] []) (X.out 0) (st 43 [(1, V.ptr 0 0), (3, V.sc (.int .i64 (r_.Counts.length : Int)))] [Blk.box 45 [V.sc (.int .i64 r_.Span), V.sc (.int .i64 r_.Head), V.sl false 3 (List.map E3 r_.Counts), V.sl false 3 (List.map E3 r_.Sums)]] []),
              Fn Tryz.prog 74 [(false, E3 r_.Span), (false, E3 1), (false, E3 1000)] (E4 r4) [],
              (true || ((E4 r4).nv && nvL [])) = true,
              r4 = true,
              r4 = true,
              Fn Tryz.prog 74 [(false, E3 (r_.Counts.length : Int)), (false, E3 1), (false, E3 8)] (E4 r5) [],
              (true || ((E4 r5).nv && nvL [])) = true,
              r4 = true,
              r5 = true,
              r5 = true,
              r5 = true,
              V.sc (.int .i64 ((List.map E3 r_.Sums).length : Int)) = V.sc (.int .i64 (r_.Sums.length : Int)),
              r5 = true,
              r5 = true,
              r5 = true,
              ((r_.Sums.length : Int) == (r_.Counts.length : Int)) = true,
              ((r_.Sums.length : Int) == (r_.Counts.length : Int)) = true,
              ((r_.Sums.length : Int) == (r_.Counts.length : Int)) = true,
              Fn Tryz.prog 88 [(false, E3 r_.Head)] (E4 r6) [],
              (true || ((E4 r6).nv && nvL [])) = true,
              ((r_.Sums.length : Int) == (r_.Counts.length : Int)) = true]) (by kernel_rfl) (cj (len_nm _ _) (cj (Fn.flag 0 (by kernel_rfl) (slices_Concat_int_ok [r_.Counts, r_.Sums] r1 h1)) (cj (by simp [V.nv, nvL, nvL_all, nv_E3, nv_E35]) (cj (len_nm _ _) (cj ((impl_RingOk_l0_ok r_ r1 h6 r1 [] rfl r3 h7).at h8) (cj (impl_within_ok r_.Span 1 1000 r4 h10) (cj rfl (cj h11 (cj h11 (cj (impl_within_ok (r_.Counts.length : Int) 1 8 r5 h12) (cj rfl (cj h11 (cj h13 (cj h13 (cj h13 (cj (len_nm _ _) (cj h13 (cj h13 (cj h13 (cj h14 (cj h14 (cj h14 (cj (impl_isTime_ok r_.Head r6 h15) (cj rfl (cj1 h14)))))))))))))))))))))))))))) (fun h14 =>
            Pn.some (Fn.of [.wait 5, .nm 8 (V.sc (.int .i64 (r_.Counts.length : Int))), .call [] (E35 r1) [], .wait 1, .nm 15 (V.sc (.int .i64 (r1.length : Int))), .wait 2, .mask [1, 3, 14, 15, 16], .ren [0, 2], .loop (X.out 0) (st 43 [(1, V.ptr 0 0), (3, V.sc (.int .i64 (r_.Counts.length : Int)))] [Blk.box 45 [V.sc (.int .i64 r_.Span), V.sc (.int .i64 r_.Head), V.sl false 3 (List.map E3 r_.Counts), V.sl false 3 (List.map E3 r_.Sums)]] []), .call [] (E4 r4) [], .bit true, .bit true, .call [] (E4 r5) [], .bit true, .bit true, .bit true, .bit true, .nm 34 (V.sc (.int .i64 (r_.Sums.length : Int))), .bit true, .bit true, .bit true, .bit false, .bit false, .bit false, .bit false] (p := [V.sc (.int .i64 ((List.map E3 r_.Counts).length : Int)) = V.sc (.int .i64 (r_.Counts.length : Int)),
             Fn Tryz.prog 149 [(false, V.sl true 35 [V.sl false 3 (List.map E3 r_.Counts), V.sl false 3 (List.map E3 r_.Sums)])] (E35 r1) [],
             (false || ((E35 r1).nv && nvL [])) = true,
             V.sc (.int .i64 ((List.map E3 r1).length : Int)) = V.sc (.int .i64 (r1.length : Int)),
             Loop Tryz.prog (sub (codeOf Tryz.prog 115) [1, 1, 0, 1, 0, 0]) (st 43 [(1, V.ptr 0 0), (3, V.sc (.int .i64 (r_.Counts.length : Int))), (14, V.ow 1), (15, V.sc (.int .i64 (r1.length : Int))), (16, V.sc (.int .i64 0))] [Blk.box 45 [V.sc (.int .i64 r_.Span), V.sc (.int .i64 r_.Head), V.sl false 3 (List.map E3 r_.Counts), V.sl false 3 (List.map E3 r_.Sums)], Blk.row 3 (List.map E3 r1) []] []) (X.out 0) (st 43 [(1, V.ptr 0 0), (3, V.sc (.int .i64 (r_.Counts.length : Int)))] [Blk.box 45 [V.sc (.int .i64 r_.Span), V.sc (.int .i64 r_.Head), V.sl false 3 (List.map E3 r_.Counts), V.sl false 3 (List.map E3 r_.Sums)]] []),
             Fn Tryz.prog 74 [(false, E3 r_.Span), (false, E3 1), (false, E3 1000)] (E4 r4) [],
             (true || ((E4 r4).nv && nvL [])) = true,
             r4 = true,
             r4 = true,
             Fn Tryz.prog 74 [(false, E3 (r_.Counts.length : Int)), (false, E3 1), (false, E3 8)] (E4 r5) [],
             (true || ((E4 r5).nv && nvL [])) = true,
             r4 = true,
             r5 = true,
             r5 = true,
             r5 = true,
             V.sc (.int .i64 ((List.map E3 r_.Sums).length : Int)) = V.sc (.int .i64 (r_.Sums.length : Int)),
             r5 = true,
             r5 = true,
             r5 = true,
             ((r_.Sums.length : Int) == (r_.Counts.length : Int)) = false,
             ((r_.Sums.length : Int) == (r_.Counts.length : Int)) = false,
             ((r_.Sums.length : Int) == (r_.Counts.length : Int)) = false,
             ((r_.Sums.length : Int) == (r_.Counts.length : Int)) = false]) (by kernel_rfl) (cj (len_nm _ _) (cj (Fn.flag 0 (by kernel_rfl) (slices_Concat_int_ok [r_.Counts, r_.Sums] r1 h1)) (cj (by simp [V.nv, nvL, nvL_all, nv_E3, nv_E35]) (cj (len_nm _ _) (cj ((impl_RingOk_l0_ok r_ r1 h6 r1 [] rfl r3 h7).at h8) (cj (impl_within_ok r_.Span 1 1000 r4 h10) (cj rfl (cj h11 (cj h11 (cj (impl_within_ok (r_.Counts.length : Int) 1 8 r5 h12) (cj rfl (cj h11 (cj h13 (cj h13 (cj h13 (cj (len_nm _ _) (cj h13 (cj h13 (cj h13 (cj h14 (cj h14 (cj h14 (cj1 h14)))))))))))))))))))))))))) (fun h13 =>
           Pn.some (Fn.of [.wait 5, .nm 8 (V.sc (.int .i64 (r_.Counts.length : Int))), .call [] (E35 r1) [], .wait 1, .nm 15 (V.sc (.int .i64 (r1.length : Int))), .wait 2, .mask [1, 3, 14, 15, 16], .ren [0, 2], .loop (X.out 0) (st 43 [(1, V.ptr 0 0), (3, V.sc (.int .i64 (r_.Counts.length : Int)))] [Blk.box 45 [V.sc (.int .i64 r_.Span), V.sc (.int .i64 r_.Head), V.sl false 3 (List.map E3 r_.Counts), V.sl false 3 (List.map E3 r_.Sums)]] []), .call [] (E4 r4) [], .bit true, .bit true, .call [] (E4 r5) [], .bit true, .bit false, .bit false, .bit false, .bit false, .bit false, .bit false, .bit false, .bit false, .bit false, .bit false] (p := [V.sc (.int .i64 ((List.map E3 r_.Counts).length : Int)) = V.sc (.int .i64 (r_.Counts.length : Int)),
            Fn Tryz.prog 149 [(false, V.sl true 35 [V.sl false 3 (List.map E3 r_.Counts), V.sl false 3 (List.map E3 r_.Sums)])] (E35 r1) [],
            (false || ((E35 r1).nv && nvL [])) = true,
            V.sc (.int .i64 ((List.map E3 r1).length : Int)) = V.sc (.int .i64 (r1.length : Int)),
            Loop Tryz.prog (sub (codeOf Tryz.prog 115) [1, 1, 0, 1, 0, 0]) (st 43 [(1, V.ptr 0 0), (3, V.sc (.int .i64 (r_.Counts.length : Int))), (14, V.ow 1), (15, V.sc (.int .i64 (r1.length : Int))), (16, V.sc (.int .i64 0))] [Blk.box 45 [V.sc (.int .i64 r_.Span), V.sc (.int .i64 r_.Head), V.sl false 3 (List.map E3 r_.Counts), V.sl false 3 (List.map E3 r_.Sums)], Blk.row 3 (List.map E3 r1) []] []) (X.out 0) (st 43 [(1, V.ptr 0 0), (3, V.sc (.int .i64 (r_.Counts.length : Int)))] [Blk.box 45 [V.sc (.int .i64 r_.Span), V.sc (.int .i64 r_.Head), V.sl false 3 (List.map E3 r_.Counts), V.sl false 3 (List.map E3 r_.Sums)]] []),
            Fn Tryz.prog 74 [(false, E3 r_.Span), (false, E3 1), (false, E3 1000)] (E4 r4) [],
            (true || ((E4 r4).nv && nvL [])) = true,
            r4 = true,
            r4 = true,
            Fn Tryz.prog 74 [(false, E3 (r_.Counts.length : Int)), (false, E3 1), (false, E3 8)] (E4 r5) [],
            (true || ((E4 r5).nv && nvL [])) = true,
            r4 = true,
            r5 = false,
            r5 = false,
            r5 = false,
            r5 = false,
            r5 = false,
            r5 = false,
            false = false,
            false = false,
            false = false,
            false = false]) (by kernel_rfl) (cj (len_nm _ _) (cj (Fn.flag 0 (by kernel_rfl) (slices_Concat_int_ok [r_.Counts, r_.Sums] r1 h1)) (cj (by simp [V.nv, nvL, nvL_all, nv_E3, nv_E35]) (cj (len_nm _ _) (cj ((impl_RingOk_l0_ok r_ r1 h6 r1 [] rfl r3 h7).at h8) (cj (impl_within_ok r_.Span 1 1000 r4 h10) (cj rfl (cj h11 (cj h11 (cj (impl_within_ok (r_.Counts.length : Int) 1 8 r5 h12) (cj rfl (cj h11 (cj h13 (cj h13 (cj h13 (cj h13 (cj h13 (cj h13 (cj rfl (cj rfl (cj rfl (cj1 rfl)))))))))))))))))))))))))) (fun h11 =>
         Pn.some (Fn.of [.wait 5, .nm 8 (V.sc (.int .i64 (r_.Counts.length : Int))), .call [] (E35 r1) [], .wait 1, .nm 15 (V.sc (.int .i64 (r1.length : Int))), .wait 2, .mask [1, 3, 14, 15, 16], .ren [0, 2], .loop (X.out 0) (st 43 [(1, V.ptr 0 0), (3, V.sc (.int .i64 (r_.Counts.length : Int)))] [Blk.box 45 [V.sc (.int .i64 r_.Span), V.sc (.int .i64 r_.Head), V.sl false 3 (List.map E3 r_.Counts), V.sl false 3 (List.map E3 r_.Sums)]] []), .call [] (E4 r4) [], .bit false, .bit false, .bit false, .bit false, .bit false, .bit false, .bit false, .bit false, .bit false, .bit false, .bit false, .bit false, .bit false] (p := [V.sc (.int .i64 ((List.map E3 r_.Counts).length : Int)) = V.sc (.int .i64 (r_.Counts.length : Int)),
          Fn Tryz.prog 149 [(false, V.sl true 35 [V.sl false 3 (List.map E3 r_.Counts), V.sl false 3 (List.map E3 r_.Sums)])] (E35 r1) [],
          (false || ((E35 r1).nv && nvL [])) = true,
          V.sc (.int .i64 ((List.map E3 r1).length : Int)) = V.sc (.int .i64 (r1.length : Int)),
          Loop Tryz.prog (sub (codeOf Tryz.prog 115) [1, 1, 0, 1, 0, 0]) (st 43 [(1, V.ptr 0 0), (3, V.sc (.int .i64 (r_.Counts.length : Int))), (14, V.ow 1), (15, V.sc (.int .i64 (r1.length : Int))), (16, V.sc (.int .i64 0))] [Blk.box 45 [V.sc (.int .i64 r_.Span), V.sc (.int .i64 r_.Head), V.sl false 3 (List.map E3 r_.Counts), V.sl false 3 (List.map E3 r_.Sums)], Blk.row 3 (List.map E3 r1) []] []) (X.out 0) (st 43 [(1, V.ptr 0 0), (3, V.sc (.int .i64 (r_.Counts.length : Int)))] [Blk.box 45 [V.sc (.int .i64 r_.Span), V.sc (.int .i64 r_.Head), V.sl false 3 (List.map E3 r_.Counts), V.sl false 3 (List.map E3 r_.Sums)]] []),
          Fn Tryz.prog 74 [(false, E3 r_.Span), (false, E3 1), (false, E3 1000)] (E4 r4) [],
          (true || ((E4 r4).nv && nvL [])) = true,
          r4 = false,
          r4 = false,
          r4 = false,
          false = false,
          false = false,
          false = false,
          false = false,
          false = false,
          false = false,
          false = false,
          false = false,
          false = false,
          false = false]) (by kernel_rfl) (cj (len_nm _ _) (cj (Fn.flag 0 (by kernel_rfl) (slices_Concat_int_ok [r_.Counts, r_.Sums] r1 h1)) (cj (by simp [V.nv, nvL, nvL_all, nv_E3, nv_E35]) (cj (len_nm _ _) (cj ((impl_RingOk_l0_ok r_ r1 h6 r1 [] rfl r3 h7).at h8) (cj (impl_within_ok r_.Span 1 1000 r4 h10) (cj rfl (cj h11 (cj h11 (cj h11 (cj rfl (cj rfl (cj rfl (cj rfl (cj rfl (cj rfl (cj rfl (cj rfl (cj rfl (cj1 rfl)))))))))))))))))))))))) (fun s2 h9 =>
       Pn.some (Fn.of [.wait 5, .nm 8 (V.sc (.int .i64 (r_.Counts.length : Int))), .call [] (E35 r1) [], .wait 1, .nm 15 (V.sc (.int .i64 (r1.length : Int))), .wait 2, .mask [1, 3, 14, 15, 16], .ren [0, 2], .loop (X.ret) (st 43 [(2, V.sc (.bool false))] [] [])] (p := [V.sc (.int .i64 ((List.map E3 r_.Counts).length : Int)) = V.sc (.int .i64 (r_.Counts.length : Int)),
        Fn Tryz.prog 149 [(false, V.sl true 35 [V.sl false 3 (List.map E3 r_.Counts), V.sl false 3 (List.map E3 r_.Sums)])] (E35 r1) [],
        (false || ((E35 r1).nv && nvL [])) = true,
        V.sc (.int .i64 ((List.map E3 r1).length : Int)) = V.sc (.int .i64 (r1.length : Int)),
        Loop Tryz.prog (sub (codeOf Tryz.prog 115) [1, 1, 0, 1, 0, 0]) (st 43 [(1, V.ptr 0 0), (3, V.sc (.int .i64 (r_.Counts.length : Int))), (14, V.ow 1), (15, V.sc (.int .i64 (r1.length : Int))), (16, V.sc (.int .i64 0))] [Blk.box 45 [V.sc (.int .i64 r_.Span), V.sc (.int .i64 r_.Head), V.sl false 3 (List.map E3 r_.Counts), V.sl false 3 (List.map E3 r_.Sums)], Blk.row 3 (List.map E3 r1) []] []) (X.ret) (st 43 [(2, V.sc (.bool false))] [] [])]) (by kernel_rfl) (cj (len_nm _ _) (cj (Fn.flag 0 (by kernel_rfl) (slices_Concat_int_ok [r_.Counts, r_.Sums] r1 h1)) (cj (by simp [V.nv, nvL, nvL_all, nv_E3, nv_E35]) (cj (len_nm _ _) (cj1 ((impl_RingOk_l0_ok r_ r1 h6 r1 [] rfl r3 h7).at h9)))))))))) (fun h6 =>
     Pn.none))
def impl_isWide (s_ : ByteArray) (n : Int) : Option (Bool) :=
 (impl_Digits s_).bind fun r1 =>
 if r1 = true then
  some ((s_.size : Int) == n)
 else
  some false
theorem impl_isWide_ok (s_ : ByteArray) (n : Int) : Pn (fun y => Fn Tryz.prog 166 [(false, E9 s_), (false, E3 n)] (E4 y) []) (impl_isWide s_ n) := by
  unfold impl_isWide
  exact
   Pn.bind (fun r1 h1 =>
    Pn.ite (fun h2 =>
     Pn.some (Fn.of [.call [] (E4 r1) [], .bit true, .bit true, .bit true, .bit true, .bit true] (p := [Fn Tryz.prog 162 [(false, E9 s_)] (E4 r1) [],
      (true || ((E4 r1).nv && nvL [])) = true,
      r1 = true,
      r1 = true,
      r1 = true,
      r1 = true,
      r1 = true]) (by kernel_rfl) (cj (impl_Digits_ok s_ r1 h1) (cj rfl (cj h2 (cj h2 (cj h2 (cj h2 (cj1 h2))))))))) (fun h2 =>
     Pn.some (Fn.of [.call [] (E4 r1) [], .bit false, .bit false, .bit false, .bit false, .bit false] (p := [Fn Tryz.prog 162 [(false, E9 s_)] (E4 r1) [],
      (true || ((E4 r1).nv && nvL [])) = true,
      r1 = false,
      r1 = false,
      r1 = false,
      r1 = false,
      r1 = false]) (by kernel_rfl) (cj (impl_Digits_ok s_ r1 h1) (cj rfl (cj h2 (cj h2 (cj h2 (cj h2 (cj1 h2))))))))))
def impl_SlotOk (s_ : Slot) : Option (Bool) :=
 (impl_isWide s_.Trace 6).bind fun r1 =>
 if r1 = true then
  (impl_isWide s_.Mti 4).bind fun r2 =>
  if r2 = true then
   (impl_within (s_.Reply.length : Int) 1 200).bind fun r3 =>
   some r3
  else
   some false
 else
  some false
theorem impl_SlotOk_ok (s_ : Slot) : Pn (fun y => Fn Tryz.prog 150 [(false, E132 s_)] (E4 y) []) (impl_SlotOk s_) := by
  unfold impl_SlotOk
  exact
   Pn.bind (fun r1 h1 =>
    Pn.ite (fun h2 =>
     Pn.bind (fun r2 h3 =>
      Pn.ite (fun h4 =>
       Pn.bind (fun r3 h5 =>
        Pn.some (Fn.of [.call [] (E4 r1) [], .bit true, .bit true, .bit true, .call [] (E4 r2) [], .bit true, .bit true, .bit true, .bit true, .nm 14 (V.sc (.int .i64 (s_.Reply.length : Int))), .bit true, .call [] (E4 r3) [], .bit true] (p := [Fn Tryz.prog 166 [(false, E9 s_.Trace), (false, E3 6)] (E4 r1) [],
         (true || ((E4 r1).nv && nvL [])) = true,
         r1 = true,
         r1 = true,
         r1 = true,
         Fn Tryz.prog 166 [(false, E9 s_.Mti), (false, E3 4)] (E4 r2) [],
         (true || ((E4 r2).nv && nvL [])) = true,
         r1 = true,
         r2 = true,
         r2 = true,
         r2 = true,
         V.sc (.int .i64 ((List.map E5 s_.Reply).length : Int)) = V.sc (.int .i64 (s_.Reply.length : Int)),
         r2 = true,
         Fn Tryz.prog 74 [(false, E3 (s_.Reply.length : Int)), (false, E3 1), (false, E3 200)] (E4 r3) [],
         (true || ((E4 r3).nv && nvL [])) = true,
         r2 = true]) (by kernel_rfl) (cj (impl_isWide_ok s_.Trace 6 r1 h1) (cj rfl (cj h2 (cj h2 (cj h2 (cj (impl_isWide_ok s_.Mti 4 r2 h3) (cj rfl (cj h2 (cj h4 (cj h4 (cj h4 (cj (len_nm _ _) (cj h4 (cj (impl_within_ok (s_.Reply.length : Int) 1 200 r3 h5) (cj rfl (cj1 h4))))))))))))))))))) (fun h4 =>
       Pn.some (Fn.of [.call [] (E4 r1) [], .bit true, .bit true, .bit true, .call [] (E4 r2) [], .bit true, .bit false, .bit false, .bit false, .bit false, .bit false] (p := [Fn Tryz.prog 166 [(false, E9 s_.Trace), (false, E3 6)] (E4 r1) [],
        (true || ((E4 r1).nv && nvL [])) = true,
        r1 = true,
        r1 = true,
        r1 = true,
        Fn Tryz.prog 166 [(false, E9 s_.Mti), (false, E3 4)] (E4 r2) [],
        (true || ((E4 r2).nv && nvL [])) = true,
        r1 = true,
        r2 = false,
        r2 = false,
        r2 = false,
        r2 = false,
        r2 = false]) (by kernel_rfl) (cj (impl_isWide_ok s_.Trace 6 r1 h1) (cj rfl (cj h2 (cj h2 (cj h2 (cj (impl_isWide_ok s_.Mti 4 r2 h3) (cj rfl (cj h2 (cj h4 (cj h4 (cj h4 (cj h4 (cj1 h4))))))))))))))))) (fun h2 =>
     Pn.some (Fn.of [.call [] (E4 r1) [], .bit false, .bit false, .bit false, .bit false, .bit false, .bit false, .bit false, .bit false, .bit false] (p := [Fn Tryz.prog 166 [(false, E9 s_.Trace), (false, E3 6)] (E4 r1) [],
      (true || ((E4 r1).nv && nvL [])) = true,
      r1 = false,
      r1 = false,
      r1 = false,
      r1 = false,
      false = false,
      false = false,
      false = false,
      false = false,
      false = false]) (by kernel_rfl) (cj (impl_isWide_ok s_.Trace 6 r1 h1) (cj rfl (cj h2 (cj h2 (cj h2 (cj h2 (cj rfl (cj rfl (cj rfl (cj rfl (cj1 rfl))))))))))))))
def impl_slotAt_1 (s_ : Slot) (c0_0 : ByteArray) (c1_0 : ByteArray) : Option (Bool) :=
 if (s_.Trace == c0_0) = true then
  some (s_.Mti == c1_0)
 else
  some false
theorem impl_slotAt_1_ok (s_ : Slot) (c0_0 : ByteArray) (c1_0 : ByteArray) : Pn (fun y => Fn Tryz.prog 168 [(false, E132 s_), (false, V.cp [V.sc (.string c0_0)]), (false, V.cp [V.sc (.string c1_0)])] (E4 y) []) (impl_slotAt_1 s_ c0_0 c1_0) := by
  unfold impl_slotAt_1
  exact
   Pn.ite (fun h1 =>
    Pn.some (Fn.of [.bit true, .bit true, .bit true, .bit true, .bit true] (p := [(s_.Trace == c0_0) = true,
     (s_.Trace == c0_0) = true,
     (s_.Trace == c0_0) = true,
     (s_.Trace == c0_0) = true,
     (s_.Trace == c0_0) = true]) (by kernel_rfl) (cj h1 (cj h1 (cj h1 (cj h1 (cj1 h1))))))) (fun h1 =>
    Pn.some (Fn.of [.bit false, .bit false, .bit false, .bit false, .bit false] (p := [(s_.Trace == c0_0) = false,
     (s_.Trace == c0_0) = false,
     (s_.Trace == c0_0) = false,
     (s_.Trace == c0_0) = false,
     (s_.Trace == c0_0) = false]) (by kernel_rfl) (cj h1 (cj h1 (cj h1 (cj h1 (cj1 h1)))))))
def slices_IndexFunc_impl_Slot_impl_slotAt_1_l0 (s_ : List Slot) (f0_0 : ByteArray) (f1_0 : ByteArray) : List Slot → List Slot → Option (Lo Unit Int)
  | [], p1 =>
   some (.out ())
  | x1 :: t1, p1 =>
   (impl_slotAt_1 x1 f0_0 f1_0).bind fun r1 =>
   if r1 = true then
    some (.ret (p1.length : Int))
   else
    slices_IndexFunc_impl_Slot_impl_slotAt_1_l0 s_ f0_0 f1_0 t1 (p1 ++ [x1])
theorem slices_IndexFunc_impl_Slot_impl_slotAt_1_l0_ok (s_ : List Slot) (f0_0 : ByteArray) (f1_0 : ByteArray) (h2 : capOk s_.length = true) : ∀ (t1 p1 : List Slot) (_ : s_ = p1 ++ t1) , Pn (LpO Tryz.prog (sub (codeOf Tryz.prog 167) [1, 0, 1, 0, 0]) (st 19 [(0, V.sl false 132 (List.map E132 s_)), (1, V.fn 168 [V.cp [V.sc (.string f0_0)], V.cp [V.sc (.string f1_0)]]), (7, V.sc (.int .i64 (s_.length : Int))), (8, V.sc (.int .i64 (p1.length : Int)))] [] []) (fun (y : Lo Unit Int) => Lo.elim y (fun s => (X.out 0, st 19 [] [] [])) (fun s => (X.ret, st 19 [(4, V.sc (.int .i64 s))] [] [])))) (slices_IndexFunc_impl_Slot_impl_slotAt_1_l0 s_ f0_0 f1_0 t1 p1)
  | [], p1, h1 => by
    unfold slices_IndexFunc_impl_Slot_impl_slotAt_1_l0
    exact
     Pn.some (LpO.out [.bit false, .mask [], .ren []] (p := [(decide ((p1.length : Int) < (s_.length : Int))) = false]) (by kernel_rfl) (show X.out 0 ≠ X.go from nofun) (cj1 (rng_end h1)))
  | x1 :: t1, p1, h1 => by
    unfold slices_IndexFunc_impl_Slot_impl_slotAt_1_l0
    exact
     Pn.bind (fun r1 h3 =>
      Pn.ite (fun h4 =>
       Pn.some (LpO.out [.bit true, .el (E132 x1), .call [] (E4 r1) [], .bit true, .wait 2, .mask [4], .ren []] (p := [(decide ((p1.length : Int) < (s_.length : Int))) = true,
        (0 : Int) ≤ (p1.length : Int),
        (List.map E132 s_)[(p1.length : Int).toNat]? = some (E132 x1),
        Fn Tryz.prog 168 [(false, E132 x1), (false, V.cp [V.sc (.string f0_0)]), (false, V.cp [V.sc (.string f1_0)])] (E4 r1) [],
        (true || ((E4 r1).nv && nvL [])) = true,
        r1 = true]) (by kernel_rfl) (show X.ret ≠ X.go from nofun) (cj (rng_lt h1) (cj (by omega) (cj (rng_get _ h1) (cj (impl_slotAt_1_ok x1 f0_0 f1_0 r1 h3) (cj rfl (cj1 h4)))))))) (fun h4 =>
       LpO.go [.bit true, .el (E132 x1), .call [] (E4 r1) [], .bit false, .wait 2, .mask [0, 1, 7, 8], .ren [], .nm 8 (V.sc (.int .i64 ((p1 ++ [x1]).length : Int)))] (p := [(decide ((p1.length : Int) < (s_.length : Int))) = true,
        (0 : Int) ≤ (p1.length : Int),
        (List.map E132 s_)[(p1.length : Int).toNat]? = some (E132 x1),
        Fn Tryz.prog 168 [(false, E132 x1), (false, V.cp [V.sc (.string f0_0)]), (false, V.cp [V.sc (.string f1_0)])] (E4 r1) [],
        (true || ((E4 r1).nv && nvL [])) = true,
        r1 = false,
        V.sc (.int .i64 (i64 ((p1.length : Int) + 1))) = V.sc (.int .i64 ((p1 ++ [x1]).length : Int))]) (by kernel_rfl) (cj (rng_lt h1) (cj (by omega) (cj (rng_get _ h1) (cj (impl_slotAt_1_ok x1 f0_0 f1_0 r1 h3) (cj rfl (cj h4 (cj1 (rng_next h1 h2)))))))) (slices_IndexFunc_impl_Slot_impl_slotAt_1_l0_ok s_ f0_0 f1_0 h2 t1 (p1 ++ [x1]) (rng_step h1))))
def slices_IndexFunc_impl_Slot_impl_slotAt_1 (s_ : List Slot) (f0_0 : ByteArray) (f1_0 : ByteArray) : Option (Int) :=
 if (capOk s_.length) = true then
  (slices_IndexFunc_impl_Slot_impl_slotAt_1_l0 s_ f0_0 f1_0 s_ []).bind fun r2 =>
  Lo.elim r2 (fun s1 =>
   some (-1)) (fun s2 =>
   some s2)
 else none
theorem slices_IndexFunc_impl_Slot_impl_slotAt_1_ok (s_ : List Slot) (f0_0 : ByteArray) (f1_0 : ByteArray) : Pn (fun y => Fn Tryz.prog 167 [(false, E46 s_), (false, V.fn 168 [V.cp [V.sc (.string f0_0)], V.cp [V.sc (.string f1_0)]])] (E3 y) []) (slices_IndexFunc_impl_Slot_impl_slotAt_1 s_ f0_0 f1_0) := by
  unfold slices_IndexFunc_impl_Slot_impl_slotAt_1
  exact
   Pn.ite (fun h5 =>
    Pn.bind (fun r2 h6 =>
     Pn.lo (fun s1 h7 =>
      Pn.some (Fn.of [.wait 3, .nm 7 (V.sc (.int .i64 (s_.length : Int))), .wait 2, .mask [0, 1, 7, 8], .ren [], .loop (X.out 0) (st 19 [] [] [])] (p := [V.sc (.int .i64 ((List.map E132 s_).length : Int)) = V.sc (.int .i64 (s_.length : Int)),
       Loop Tryz.prog (sub (codeOf Tryz.prog 167) [1, 0, 1, 0, 0]) (st 19 [(0, V.sl false 132 (List.map E132 s_)), (1, V.fn 168 [V.cp [V.sc (.string f0_0)], V.cp [V.sc (.string f1_0)]]), (7, V.sc (.int .i64 (s_.length : Int))), (8, V.sc (.int .i64 0))] [] []) (X.out 0) (st 19 [] [] [])]) (by kernel_rfl) (cj (len_nm _ _) (cj1 ((slices_IndexFunc_impl_Slot_impl_slotAt_1_l0_ok s_ f0_0 f1_0 h5 s_ [] rfl r2 h6).at h7))))) (fun s2 h8 =>
      Pn.some (Fn.of [.wait 3, .nm 7 (V.sc (.int .i64 (s_.length : Int))), .wait 2, .mask [0, 1, 7, 8], .ren [], .loop (X.ret) (st 19 [(4, V.sc (.int .i64 s2))] [] [])] (p := [V.sc (.int .i64 ((List.map E132 s_).length : Int)) = V.sc (.int .i64 (s_.length : Int)),
       Loop Tryz.prog (sub (codeOf Tryz.prog 167) [1, 0, 1, 0, 0]) (st 19 [(0, V.sl false 132 (List.map E132 s_)), (1, V.fn 168 [V.cp [V.sc (.string f0_0)], V.cp [V.sc (.string f1_0)]]), (7, V.sc (.int .i64 (s_.length : Int))), (8, V.sc (.int .i64 0))] [] []) (X.ret) (st 19 [(4, V.sc (.int .i64 s2))] [] [])]) (by kernel_rfl) (cj (len_nm _ _) (cj1 ((slices_IndexFunc_impl_Slot_impl_slotAt_1_l0_ok s_ f0_0 f1_0 h5 s_ [] rfl r2 h6).at h8))))))) (fun h5 =>
    Pn.none)
def impl_slotAt (l : List Slot) (trace : ByteArray) (mti : ByteArray) : Option (Int) :=
 (slices_IndexFunc_impl_Slot_impl_slotAt_1 l trace mti).bind fun r1 =>
 some r1
theorem impl_slotAt_ok (l : List Slot) (trace : ByteArray) (mti : ByteArray) : Pn (fun y => Fn Tryz.prog 151 [(false, E46 l), (false, E9 trace), (false, E9 mti)] (E3 y) []) (impl_slotAt l trace mti) := by
  unfold impl_slotAt
  exact
   Pn.bind (fun r1 h1 =>
    Pn.some (Fn.of [.call [] (E3 r1) []] (p := [Fn Tryz.prog 167 [(false, E46 l), (false, V.fn 168 [V.cp [V.sc (.string trace)], V.cp [V.sc (.string mti)]])] (E3 r1) [],
     (false || ((E3 r1).nv && nvL [])) = true]) (by kernel_rfl) (cj (slices_IndexFunc_impl_Slot_impl_slotAt_1_ok l trace mti r1 h1) (cj1 (by simp [V.nv, nvL, nvL_all, nv_E3])))))
def impl_SlotsOk_l0 (l : List Slot) : List Slot → List Slot → Option (Lo Unit Unit)
  | [], p1 =>
   some (.out ())
  | x1 :: t1, p1 =>
   (impl_SlotOk x1).bind fun r1 =>
   if r1 = true then
    (impl_slotAt l x1.Trace x1.Mti).bind fun r2 =>
    if (r2 != (p1.length : Int)) = true then
     some (.ret ())
    else
     impl_SlotsOk_l0 l t1 (p1 ++ [x1])
   else
    some (.ret ())
theorem impl_SlotsOk_l0_ok (l : List Slot) (h2 : capOk l.length = true) : ∀ (t1 p1 : List Slot) (_ : l = p1 ++ t1) , Pn (LpO Tryz.prog (sub (codeOf Tryz.prog 116) [1, 0, 1, 0, 0]) (st 29 [(0, V.sl false 132 (List.map E132 l)), (5, V.sl false 132 (List.map E132 l)), (6, V.sc (.int .i64 (l.length : Int))), (7, V.sc (.int .i64 (p1.length : Int)))] [] []) (fun (y : Lo Unit Unit) => Lo.elim y (fun s => (X.out 0, st 29 [(0, V.sl false 132 (List.map E132 l))] [] [])) (fun s => (X.ret, st 29 [(2, V.sc (.bool false))] [] [])))) (impl_SlotsOk_l0 l t1 p1)
  | [], p1, h1 => by
    unfold impl_SlotsOk_l0
    exact
     Pn.some (LpO.out [.bit false, .mask [0], .ren []] (p := [(decide ((p1.length : Int) < (l.length : Int))) = false]) (by kernel_rfl) (show X.out 0 ≠ X.go from nofun) (cj1 (rng_end h1)))
  | x1 :: t1, p1, h1 => by
    unfold impl_SlotsOk_l0
    exact
     Pn.bind (fun r1 h3 =>
      Pn.ite (fun h4 =>
       Pn.bind (fun r2 h5 =>
        Pn.ite (fun h6 =>
         Pn.some (LpO.out [.bit true, .el (E132 x1), .call [] (E4 r1) [], .bit false, .bit false, .bit false, .bit false, .bit false, .bit false, .call [] (E3 r2) [], .bit false, .bit false, .bit false, .bit true, .wait 1, .mask [2], .ren []] (p := [(decide ((p1.length : Int) < (l.length : Int))) = true,
          (0 : Int) ≤ (p1.length : Int),
          (List.map E132 l)[(p1.length : Int).toNat]? = some (E132 x1),
          Fn Tryz.prog 150 [(false, E132 x1)] (E4 r1) [],
          (true || ((E4 r1).nv && nvL [])) = true,
          (!r1) = false,
          (!r1) = false,
          (!r1) = false,
          (!r1) = false,
          (!r1) = false,
          (!r1) = false,
          Fn Tryz.prog 151 [(false, E46 l), (false, E9 x1.Trace), (false, E9 x1.Mti)] (E3 r2) [],
          (true || ((E3 r2).nv && nvL [])) = true,
          (!r1) = false,
          (!r1) = false,
          (!r1) = false,
          (r2 != (p1.length : Int)) = true]) (by kernel_rfl) (show X.ret ≠ X.go from nofun) (cj (rng_lt h1) (cj (by omega) (cj (rng_get _ h1) (cj (impl_SlotOk_ok x1 r1 h3) (cj rfl (cj (nf h4) (cj (nf h4) (cj (nf h4) (cj (nf h4) (cj (nf h4) (cj (nf h4) (cj (impl_slotAt_ok l x1.Trace x1.Mti r2 h5) (cj rfl (cj (nf h4) (cj (nf h4) (cj (nf h4) (cj1 h6))))))))))))))))))) (fun h6 =>
         LpO.go [.bit true, .el (E132 x1), .call [] (E4 r1) [], .bit false, .bit false, .bit false, .bit false, .bit false, .bit false, .call [] (E3 r2) [], .bit false, .bit false, .bit false, .bit false, .wait 2, .mask [0, 5, 6, 7], .ren [], .nm 7 (V.sc (.int .i64 ((p1 ++ [x1]).length : Int)))] (p := [(decide ((p1.length : Int) < (l.length : Int))) = true,
          (0 : Int) ≤ (p1.length : Int),
          (List.map E132 l)[(p1.length : Int).toNat]? = some (E132 x1),
          Fn Tryz.prog 150 [(false, E132 x1)] (E4 r1) [],
          (true || ((E4 r1).nv && nvL [])) = true,
          (!r1) = false,
          (!r1) = false,
          (!r1) = false,
          (!r1) = false,
          (!r1) = false,
          (!r1) = false,
          Fn Tryz.prog 151 [(false, E46 l), (false, E9 x1.Trace), (false, E9 x1.Mti)] (E3 r2) [],
          (true || ((E3 r2).nv && nvL [])) = true,
          (!r1) = false,
          (!r1) = false,
          (!r1) = false,
          (r2 != (p1.length : Int)) = false,
          V.sc (.int .i64 (i64 ((p1.length : Int) + 1))) = V.sc (.int .i64 ((p1 ++ [x1]).length : Int))]) (by kernel_rfl) (cj (rng_lt h1) (cj (by omega) (cj (rng_get _ h1) (cj (impl_SlotOk_ok x1 r1 h3) (cj rfl (cj (nf h4) (cj (nf h4) (cj (nf h4) (cj (nf h4) (cj (nf h4) (cj (nf h4) (cj (impl_slotAt_ok l x1.Trace x1.Mti r2 h5) (cj rfl (cj (nf h4) (cj (nf h4) (cj (nf h4) (cj h6 (cj1 (rng_next h1 h2))))))))))))))))))) (impl_SlotsOk_l0_ok l h2 t1 (p1 ++ [x1]) (rng_step h1))))) (fun h4 =>
       Pn.some (LpO.out [.bit true, .el (E132 x1), .call [] (E4 r1) [], .bit true, .bit true, .bit true, .bit true, .bit true, .bit true, .bit true, .bit true, .bit true, .bit true, .wait 1, .mask [2], .ren []] (p := [(decide ((p1.length : Int) < (l.length : Int))) = true,
        (0 : Int) ≤ (p1.length : Int),
        (List.map E132 l)[(p1.length : Int).toNat]? = some (E132 x1),
        Fn Tryz.prog 150 [(false, E132 x1)] (E4 r1) [],
        (true || ((E4 r1).nv && nvL [])) = true,
        (!r1) = true,
        (!r1) = true,
        (!r1) = true,
        (!r1) = true,
        (!r1) = true,
        (!r1) = true,
        (!r1) = true,
        (!r1) = true,
        (!r1) = true,
        true = true]) (by kernel_rfl) (show X.ret ≠ X.go from nofun) (cj (rng_lt h1) (cj (by omega) (cj (rng_get _ h1) (cj (impl_SlotOk_ok x1 r1 h3) (cj rfl (cj (nt h4) (cj (nt h4) (cj (nt h4) (cj (nt h4) (cj (nt h4) (cj (nt h4) (cj (nt h4) (cj (nt h4) (cj (nt h4) (cj1 rfl))))))))))))))))))
def impl_SlotsOk (l : List Slot) : Option (Bool) :=
 if (capOk l.length) = true then
  (impl_SlotsOk_l0 l l []).bind fun r3 =>
  Lo.elim r3 (fun s1 =>
   some (decide ((l.length : Int) ≤ 6))) (fun s2 =>
   some false)
 else none
theorem impl_SlotsOk_ok (l : List Slot) : Pn (fun y => Fn Tryz.prog 116 [(false, E46 l)] (E4 y) []) (impl_SlotsOk l) := by
  unfold impl_SlotsOk
  exact
   Pn.ite (fun h7 =>
    Pn.bind (fun r3 h8 =>
     Pn.lo (fun s1 h9 =>
      Pn.some (Fn.of [.wait 3, .nm 6 (V.sc (.int .i64 (l.length : Int))), .wait 2, .mask [0, 5, 6, 7], .ren [], .loop (X.out 0) (st 29 [(0, V.sl false 132 (List.map E132 l))] [] []), .wait 2, .nm 27 (V.sc (.int .i64 (l.length : Int)))] (p := [V.sc (.int .i64 ((List.map E132 l).length : Int)) = V.sc (.int .i64 (l.length : Int)),
       Loop Tryz.prog (sub (codeOf Tryz.prog 116) [1, 0, 1, 0, 0]) (st 29 [(0, V.sl false 132 (List.map E132 l)), (5, V.sl false 132 (List.map E132 l)), (6, V.sc (.int .i64 (l.length : Int))), (7, V.sc (.int .i64 0))] [] []) (X.out 0) (st 29 [(0, V.sl false 132 (List.map E132 l))] [] []),
       V.sc (.int .i64 ((List.map E132 l).length : Int)) = V.sc (.int .i64 (l.length : Int))]) (by kernel_rfl) (cj (len_nm _ _) (cj ((impl_SlotsOk_l0_ok l h7 l [] rfl r3 h8).at h9) (cj1 (len_nm _ _)))))) (fun s2 h10 =>
      Pn.some (Fn.of [.wait 3, .nm 6 (V.sc (.int .i64 (l.length : Int))), .wait 2, .mask [0, 5, 6, 7], .ren [], .loop (X.ret) (st 29 [(2, V.sc (.bool false))] [] [])] (p := [V.sc (.int .i64 ((List.map E132 l).length : Int)) = V.sc (.int .i64 (l.length : Int)),
       Loop Tryz.prog (sub (codeOf Tryz.prog 116) [1, 0, 1, 0, 0]) (st 29 [(0, V.sl false 132 (List.map E132 l)), (5, V.sl false 132 (List.map E132 l)), (6, V.sc (.int .i64 (l.length : Int))), (7, V.sc (.int .i64 0))] [] []) (X.ret) (st 29 [(2, V.sc (.bool false))] [] [])]) (by kernel_rfl) (cj (len_nm _ _) (cj1 ((impl_SlotsOk_l0_ok l h7 l [] rfl r3 h8).at h10))))))) (fun h7 =>
    Pn.none)
def impl_AddSat (a : Int) (b : Int) : Option (Int) :=
 if (decide ((i64 (4611686018427387904 - (imax 0 (imin b 4611686018427387904)))) < (imax 0 (imin a 4611686018427387904)))) = true then
  some 4611686018427387904
 else
  some (i64 ((imax 0 (imin a 4611686018427387904)) + (imax 0 (imin b 4611686018427387904))))
theorem impl_AddSat_ok (a : Int) (b : Int) : Pn (fun y => Fn Tryz.prog 117 [(false, E3 a), (false, E3 b)] (E3 y) []) (impl_AddSat a b) := by
  unfold impl_AddSat
  exact
   Pn.ite (fun h1 =>
    Pn.some (Fn.of [.bit true] (p := [(decide ((i64 (4611686018427387904 - (imax 0 (imin b 4611686018427387904)))) < (imax 0 (imin a 4611686018427387904)))) = true]) (by kernel_rfl) (cj1 h1))) (fun h1 =>
    Pn.some (Fn.of [.bit false] (p := [(decide ((i64 (4611686018427387904 - (imax 0 (imin b 4611686018427387904)))) < (imax 0 (imin a 4611686018427387904)))) = false]) (by kernel_rfl) (cj1 h1)))
def impl_Stored_l0 (l : List Hold) : List Hold → Int → Option (Int)
  | [], v1 =>
   some v1
  | x1 :: t1, v1 =>
   (impl_AddSat v1 x1.Amount).bind fun r1 =>
   impl_Stored_l0 l t1 r1
theorem impl_Stored_l0_ok (l : List Hold) (h2 : capOk l.length = true) : ∀ (t1 p1 : List Hold) (_ : l = p1 ++ t1) (v1 : Int), Pn (LpO Tryz.prog (sub (codeOf Tryz.prog 118) [1, 1, 0, 1, 0, 0]) (st 18 [(3, V.sc (.int .i64 v1)), (6, V.sl false 129 (List.map E129 l)), (7, V.sc (.int .i64 (l.length : Int))), (8, V.sc (.int .i64 (p1.length : Int)))] [] []) (fun (y : Int) => (X.out 0, st 18 [(3, V.sc (.int .i64 y))] [] []))) (impl_Stored_l0 l t1 v1)
  | [], p1, h1, v1 => by
    unfold impl_Stored_l0
    exact
     Pn.some (LpO.out [.bit false, .mask [3], .ren []] (p := [(decide ((p1.length : Int) < (l.length : Int))) = false]) (by kernel_rfl) (show X.out 0 ≠ X.go from nofun) (cj1 (rng_end h1)))
  | x1 :: t1, p1, h1, v1 => by
    unfold impl_Stored_l0
    exact
     Pn.bind (fun r1 h3 =>
      LpO.go [.bit true, .el (E129 x1), .call [] (E3 r1) [], .wait 4, .mask [3, 6, 7, 8], .ren [], .nm 8 (V.sc (.int .i64 ((p1 ++ [x1]).length : Int)))] (p := [(decide ((p1.length : Int) < (l.length : Int))) = true,
       (0 : Int) ≤ (p1.length : Int),
       (List.map E129 l)[(p1.length : Int).toNat]? = some (E129 x1),
       Fn Tryz.prog 117 [(false, E3 v1), (false, E3 x1.Amount)] (E3 r1) [],
       (true || ((E3 r1).nv && nvL [])) = true,
       V.sc (.int .i64 (i64 ((p1.length : Int) + 1))) = V.sc (.int .i64 ((p1 ++ [x1]).length : Int))]) (by kernel_rfl) (cj (rng_lt h1) (cj (by omega) (cj (rng_get _ h1) (cj (impl_AddSat_ok v1 x1.Amount r1 h3) (cj rfl (cj1 (rng_next h1 h2))))))) (impl_Stored_l0_ok l h2 t1 (p1 ++ [x1]) (rng_step h1) r1))
def impl_Stored (l : List Hold) : Option (Int) :=
 if (capOk l.length) = true then
  (impl_Stored_l0 l l 0).bind fun r2 =>
  some r2
 else none
theorem impl_Stored_ok (l : List Hold) : Pn (fun y => Fn Tryz.prog 118 [(false, E44 l)] (E3 y) []) (impl_Stored l) := by
  unfold impl_Stored
  exact
   Pn.ite (fun h4 =>
    Pn.bind (fun r2 h5 =>
     Pn.some (Fn.of [.wait 4, .nm 7 (V.sc (.int .i64 (l.length : Int))), .wait 2, .mask [3, 6, 7, 8], .ren [], .loop (X.out 0) (st 18 [(3, V.sc (.int .i64 r2))] [] [])] (p := [V.sc (.int .i64 ((List.map E129 l).length : Int)) = V.sc (.int .i64 (l.length : Int)),
      Loop Tryz.prog (sub (codeOf Tryz.prog 118) [1, 1, 0, 1, 0, 0]) (st 18 [(3, V.sc (.int .i64 0)), (6, V.sl false 129 (List.map E129 l)), (7, V.sc (.int .i64 (l.length : Int))), (8, V.sc (.int .i64 0))] [] []) (X.out 0) (st 18 [(3, V.sc (.int .i64 r2))] [] [])]) (by kernel_rfl) (cj (len_nm _ _) (cj1 (impl_Stored_l0_ok l h4 l [] rfl 0 r2 h5)))))) (fun h4 =>
    Pn.none)
def impl_AcctOk (a : Acct) : Option (Bool) :=
 (impl_AcctIdOk a.Id).bind fun r1 =>
 if r1 = true then
  (impl_within a.Limit 0 9007199254740992).bind fun r2 =>
  if r2 = true then
   (impl_within a.Most 0 1000).bind fun r3 =>
   if r3 = true then
    (impl_within a.MostSum 0 9007199254740992).bind fun r4 =>
    if r4 = true then
     (impl_isMoney a.Posted).bind fun r5 =>
     if r5 = true then
      (impl_HoldsOk a.Holds).bind fun r6 =>
      if r6 = true then
       (impl_RingOk a.Ring).bind fun r7 =>
       if r7 = true then
        (impl_SlotsOk a.Slots).bind fun r8 =>
        if r8 = true then
         (impl_Stored a.Holds).bind fun r9 =>
         (impl_AddSat a.Posted r9).bind fun r10 =>
         some (decide (r10 ≤ a.Limit))
        else
         some false
       else
        some false
      else
       some false
     else
      some false
    else
     some false
   else
    some false
  else
   some false
 else
  some false
theorem impl_AcctOk_ok (a : Acct) : Pn (fun y => Fn Tryz.prog 60 [(false, E48 a)] (E4 y) []) (impl_AcctOk a) := by
  unfold impl_AcctOk
  exact
   Pn.bind (fun r1 h1 =>
    Pn.ite (fun h2 =>
     Pn.bind (fun r2 h3 =>
      Pn.ite (fun h4 =>
       Pn.bind (fun r3 h5 =>
        Pn.ite (fun h6 =>
         Pn.bind (fun r4 h7 =>
          Pn.ite (fun h8 =>
           Pn.bind (fun r5 h9 =>
            Pn.ite (fun h10 =>
             Pn.bind (fun r6 h11 =>
              Pn.ite (fun h12 =>
               Pn.bind (fun r7 h13 =>
                Pn.ite (fun h14 =>
                 Pn.bind (fun r8 h15 =>
                  Pn.ite (fun h16 =>
                   Pn.bind (fun r9 h17 =>
                    Pn.bind (fun r10 h18 =>
                     Pn.some (Fn.of [.draw [], .call [] (E4 r1) [], .bit true, .bit true, .bit true, .call [] (E4 r2) [], .bit true, .bit true, .bit true, .bit true, .call [] (E4 r3) [], .bit true, .bit true, .bit true, .bit true, .call [] (E4 r4) [], .bit true, .bit true, .bit true, .bit true, .call [] (E4 r5) [], .bit true, .bit true, .bit true, .bit true, .call [] (E4 r6) [], .bit true, .bit true, .bit true, .bit true, .call [] (E4 r7) [], .bit true, .bit true, .bit true, .bit true, .call [] (E4 r8) [], .bit true, .bit true, .bit true, .bit true, .bit true, .bit true, .bit true, .bit true, .call [] (E3 r9) [], .bit true, .call [] (E3 r10) [], .bit true, .bit true] (p := [Fn Tryz.prog 112 [(false, E9 a.Id)] (E4 r1) [],
                      (true || ((E4 r1).nv && nvL [])) = true,
                      r1 = true,
                      r1 = true,
                      r1 = true,
                      Fn Tryz.prog 74 [(false, E3 a.Limit), (false, E3 0), (false, E3 9007199254740992)] (E4 r2) [],
                      (true || ((E4 r2).nv && nvL [])) = true,
                      r1 = true,
                      r2 = true,
                      r2 = true,
                      r2 = true,
                      Fn Tryz.prog 74 [(false, E3 a.Most), (false, E3 0), (false, E3 1000)] (E4 r3) [],
                      (true || ((E4 r3).nv && nvL [])) = true,
                      r2 = true,
                      r3 = true,
                      r3 = true,
                      r3 = true,
                      Fn Tryz.prog 74 [(false, E3 a.MostSum), (false, E3 0), (false, E3 9007199254740992)] (E4 r4) [],
                      (true || ((E4 r4).nv && nvL [])) = true,
                      r3 = true,
                      r4 = true,
                      r4 = true,
                      r4 = true,
                      Fn Tryz.prog 113 [(false, E3 a.Posted)] (E4 r5) [],
                      (true || ((E4 r5).nv && nvL [])) = true,
                      r4 = true,
                      r5 = true,
                      r5 = true,
                      r5 = true,
                      Fn Tryz.prog 114 [(false, E44 a.Holds)] (E4 r6) [],
                      (true || ((E4 r6).nv && nvL [])) = true,
                      r5 = true,
                      r6 = true,
                      r6 = true,
                      r6 = true,
                      Fn Tryz.prog 115 [(false, E45 a.Ring)] (E4 r7) [],
                      (true || ((E4 r7).nv && nvL [])) = true,
                      r6 = true,
                      r7 = true,
                      r7 = true,
                      r7 = true,
                      Fn Tryz.prog 116 [(false, E46 a.Slots)] (E4 r8) [],
                      (true || ((E4 r8).nv && nvL [])) = true,
                      r7 = true,
                      r8 = true,
                      r8 = true,
                      r8 = true,
                      r8 = true,
                      r8 = true,
                      r8 = true,
                      r8 = true,
                      Fn Tryz.prog 118 [(false, E44 a.Holds)] (E3 r9) [],
                      (true || ((E3 r9).nv && nvL [])) = true,
                      r8 = true,
                      Fn Tryz.prog 117 [(false, E3 a.Posted), (false, E3 r9)] (E3 r10) [],
                      (true || ((E3 r10).nv && nvL [])) = true,
                      r8 = true,
                      r8 = true]) (by kernel_rfl) (cj (impl_AcctIdOk_ok a.Id r1 h1) (cj rfl (cj h2 (cj h2 (cj h2 (cj (impl_within_ok a.Limit 0 9007199254740992 r2 h3) (cj rfl (cj h2 (cj h4 (cj h4 (cj h4 (cj (impl_within_ok a.Most 0 1000 r3 h5) (cj rfl (cj h4 (cj h6 (cj h6 (cj h6 (cj (impl_within_ok a.MostSum 0 9007199254740992 r4 h7) (cj rfl (cj h6 (cj h8 (cj h8 (cj h8 (cj (impl_isMoney_ok a.Posted r5 h9) (cj rfl (cj h8 (cj h10 (cj h10 (cj h10 (cj (impl_HoldsOk_ok a.Holds r6 h11) (cj rfl (cj h10 (cj h12 (cj h12 (cj h12 (cj (impl_RingOk_ok a.Ring r7 h13) (cj rfl (cj h12 (cj h14 (cj h14 (cj h14 (cj (impl_SlotsOk_ok a.Slots r8 h15) (cj rfl (cj h14 (cj h16 (cj h16 (cj h16 (cj h16 (cj h16 (cj h16 (cj h16 (cj (impl_Stored_ok a.Holds r9 h17) (cj rfl (cj h16 (cj (impl_AddSat_ok a.Posted r9 r10 h18) (cj rfl (cj h16 (cj1 h16)))))))))))))))))))))))))))))))))))))))))))))))))))))))))))))) (fun h16 =>
                   Pn.some (Fn.of [.draw [], .call [] (E4 r1) [], .bit true, .bit true, .bit true, .call [] (E4 r2) [], .bit true, .bit true, .bit true, .bit true, .call [] (E4 r3) [], .bit true, .bit true, .bit true, .bit true, .call [] (E4 r4) [], .bit true, .bit true, .bit true, .bit true, .call [] (E4 r5) [], .bit true, .bit true, .bit true, .bit true, .call [] (E4 r6) [], .bit true, .bit true, .bit true, .bit true, .call [] (E4 r7) [], .bit true, .bit true, .bit true, .bit true, .call [] (E4 r8) [], .bit true, .bit false, .bit false, .bit false, .bit false, .bit false, .bit false, .bit false, .bit false, .bit false, .bit false] (p := [Fn Tryz.prog 112 [(false, E9 a.Id)] (E4 r1) [],
                    (true || ((E4 r1).nv && nvL [])) = true,
                    r1 = true,
                    r1 = true,
                    r1 = true,
                    Fn Tryz.prog 74 [(false, E3 a.Limit), (false, E3 0), (false, E3 9007199254740992)] (E4 r2) [],
                    (true || ((E4 r2).nv && nvL [])) = true,
                    r1 = true,
                    r2 = true,
                    r2 = true,
                    r2 = true,
                    Fn Tryz.prog 74 [(false, E3 a.Most), (false, E3 0), (false, E3 1000)] (E4 r3) [],
                    (true || ((E4 r3).nv && nvL [])) = true,
                    r2 = true,
                    r3 = true,
                    r3 = true,
                    r3 = true,
                    Fn Tryz.prog 74 [(false, E3 a.MostSum), (false, E3 0), (false, E3 9007199254740992)] (E4 r4) [],
                    (true || ((E4 r4).nv && nvL [])) = true,
                    r3 = true,
                    r4 = true,
                    r4 = true,
                    r4 = true,
                    Fn Tryz.prog 113 [(false, E3 a.Posted)] (E4 r5) [],
                    (true || ((E4 r5).nv && nvL [])) = true,
                    r4 = true,
                    r5 = true,
                    r5 = true,
                    r5 = true,
                    Fn Tryz.prog 114 [(false, E44 a.Holds)] (E4 r6) [],
                    (true || ((E4 r6).nv && nvL [])) = true,
                    r5 = true,
                    r6 = true,
                    r6 = true,
                    r6 = true,
                    Fn Tryz.prog 115 [(false, E45 a.Ring)] (E4 r7) [],
                    (true || ((E4 r7).nv && nvL [])) = true,
                    r6 = true,
                    r7 = true,
                    r7 = true,
                    r7 = true,
                    Fn Tryz.prog 116 [(false, E46 a.Slots)] (E4 r8) [],
                    (true || ((E4 r8).nv && nvL [])) = true,
                    r7 = true,
                    r8 = false,
                    r8 = false,
                    r8 = false,
                    r8 = false,
                    r8 = false,
                    r8 = false,
                    r8 = false,
                    r8 = false,
                    r8 = false,
                    r8 = false]) (by kernel_rfl) (cj (impl_AcctIdOk_ok a.Id r1 h1) (cj rfl (cj h2 (cj h2 (cj h2 (cj (impl_within_ok a.Limit 0 9007199254740992 r2 h3) (cj rfl (cj h2 (cj h4 (cj h4 (cj h4 (cj (impl_within_ok a.Most 0 1000 r3 h5) (cj rfl (cj h4 (cj h6 (cj h6 (cj h6 (cj (impl_within_ok a.MostSum 0 9007199254740992 r4 h7) (cj rfl (cj h6 (cj h8 (cj h8 (cj h8 (cj (impl_isMoney_ok a.Posted r5 h9) (cj rfl (cj h8 (cj h10 (cj h10 (cj h10 (cj (impl_HoldsOk_ok a.Holds r6 h11) (cj rfl (cj h10 (cj h12 (cj h12 (cj h12 (cj (impl_RingOk_ok a.Ring r7 h13) (cj rfl (cj h12 (cj h14 (cj h14 (cj h14 (cj (impl_SlotsOk_ok a.Slots r8 h15) (cj rfl (cj h14 (cj h16 (cj h16 (cj h16 (cj h16 (cj h16 (cj h16 (cj h16 (cj h16 (cj h16 (cj1 h16)))))))))))))))))))))))))))))))))))))))))))))))))))))))))) (fun h14 =>
                 Pn.some (Fn.of [.draw [], .call [] (E4 r1) [], .bit true, .bit true, .bit true, .call [] (E4 r2) [], .bit true, .bit true, .bit true, .bit true, .call [] (E4 r3) [], .bit true, .bit true, .bit true, .bit true, .call [] (E4 r4) [], .bit true, .bit true, .bit true, .bit true, .call [] (E4 r5) [], .bit true, .bit true, .bit true, .bit true, .call [] (E4 r6) [], .bit true, .bit true, .bit true, .bit true, .call [] (E4 r7) [], .bit true, .bit false, .bit false, .bit false, .bit false, .bit false, .bit false, .bit false, .bit false, .bit false, .bit false, .bit false, .bit false, .bit false, .bit false] (p := [Fn Tryz.prog 112 [(false, E9 a.Id)] (E4 r1) [],
                  (true || ((E4 r1).nv && nvL [])) = true,
                  r1 = true,
                  r1 = true,
                  r1 = true,
                  Fn Tryz.prog 74 [(false, E3 a.Limit), (false, E3 0), (false, E3 9007199254740992)] (E4 r2) [],
                  (true || ((E4 r2).nv && nvL [])) = true,
                  r1 = true,
                  r2 = true,
                  r2 = true,
                  r2 = true,
                  Fn Tryz.prog 74 [(false, E3 a.Most), (false, E3 0), (false, E3 1000)] (E4 r3) [],
                  (true || ((E4 r3).nv && nvL [])) = true,
                  r2 = true,
                  r3 = true,
                  r3 = true,
                  r3 = true,
                  Fn Tryz.prog 74 [(false, E3 a.MostSum), (false, E3 0), (false, E3 9007199254740992)] (E4 r4) [],
                  (true || ((E4 r4).nv && nvL [])) = true,
                  r3 = true,
                  r4 = true,
                  r4 = true,
                  r4 = true,
                  Fn Tryz.prog 113 [(false, E3 a.Posted)] (E4 r5) [],
                  (true || ((E4 r5).nv && nvL [])) = true,
                  r4 = true,
                  r5 = true,
                  r5 = true,
                  r5 = true,
                  Fn Tryz.prog 114 [(false, E44 a.Holds)] (E4 r6) [],
                  (true || ((E4 r6).nv && nvL [])) = true,
                  r5 = true,
                  r6 = true,
                  r6 = true,
                  r6 = true,
                  Fn Tryz.prog 115 [(false, E45 a.Ring)] (E4 r7) [],
                  (true || ((E4 r7).nv && nvL [])) = true,
                  r6 = true,
                  r7 = false,
                  r7 = false,
                  r7 = false,
                  r7 = false,
                  false = false,
                  false = false,
                  false = false,
                  false = false,
                  false = false,
                  false = false,
                  false = false,
                  false = false,
                  false = false,
                  false = false]) (by kernel_rfl) (cj (impl_AcctIdOk_ok a.Id r1 h1) (cj rfl (cj h2 (cj h2 (cj h2 (cj (impl_within_ok a.Limit 0 9007199254740992 r2 h3) (cj rfl (cj h2 (cj h4 (cj h4 (cj h4 (cj (impl_within_ok a.Most 0 1000 r3 h5) (cj rfl (cj h4 (cj h6 (cj h6 (cj h6 (cj (impl_within_ok a.MostSum 0 9007199254740992 r4 h7) (cj rfl (cj h6 (cj h8 (cj h8 (cj h8 (cj (impl_isMoney_ok a.Posted r5 h9) (cj rfl (cj h8 (cj h10 (cj h10 (cj h10 (cj (impl_HoldsOk_ok a.Holds r6 h11) (cj rfl (cj h10 (cj h12 (cj h12 (cj h12 (cj (impl_RingOk_ok a.Ring r7 h13) (cj rfl (cj h12 (cj h14 (cj h14 (cj h14 (cj h14 (cj rfl (cj rfl (cj rfl (cj rfl (cj rfl (cj rfl (cj rfl (cj rfl (cj rfl (cj1 rfl)))))))))))))))))))))))))))))))))))))))))))))))))))))))) (fun h12 =>
               Pn.some (Fn.of [.draw [], .call [] (E4 r1) [], .bit true, .bit true, .bit true, .call [] (E4 r2) [], .bit true, .bit true, .bit true, .bit true, .call [] (E4 r3) [], .bit true, .bit true, .bit true, .bit true, .call [] (E4 r4) [], .bit true, .bit true, .bit true, .bit true, .call [] (E4 r5) [], .bit true, .bit true, .bit true, .bit true, .call [] (E4 r6) [], .bit true, .bit false, .bit false, .bit false, .bit false, .bit false, .bit false, .bit false, .bit false, .bit false, .bit false, .bit false, .bit false, .bit false, .bit false, .bit false, .bit false, .bit false, .bit false] (p := [Fn Tryz.prog 112 [(false, E9 a.Id)] (E4 r1) [],
                (true || ((E4 r1).nv && nvL [])) = true,
                r1 = true,
                r1 = true,
                r1 = true,
                Fn Tryz.prog 74 [(false, E3 a.Limit), (false, E3 0), (false, E3 9007199254740992)] (E4 r2) [],
                (true || ((E4 r2).nv && nvL [])) = true,
                r1 = true,
                r2 = true,
                r2 = true,
                r2 = true,
                Fn Tryz.prog 74 [(false, E3 a.Most), (false, E3 0), (false, E3 1000)] (E4 r3) [],
                (true || ((E4 r3).nv && nvL [])) = true,
                r2 = true,
                r3 = true,
                r3 = true,
                r3 = true,
                Fn Tryz.prog 74 [(false, E3 a.MostSum), (false, E3 0), (false, E3 9007199254740992)] (E4 r4) [],
                (true || ((E4 r4).nv && nvL [])) = true,
                r3 = true,
                r4 = true,
                r4 = true,
                r4 = true,
                Fn Tryz.prog 113 [(false, E3 a.Posted)] (E4 r5) [],
                (true || ((E4 r5).nv && nvL [])) = true,
                r4 = true,
                r5 = true,
                r5 = true,
                r5 = true,
                Fn Tryz.prog 114 [(false, E44 a.Holds)] (E4 r6) [],
                (true || ((E4 r6).nv && nvL [])) = true,
                r5 = true,
                r6 = false,
                r6 = false,
                r6 = false,
                r6 = false,
                false = false,
                false = false,
                false = false,
                false = false,
                false = false,
                false = false,
                false = false,
                false = false,
                false = false,
                false = false,
                false = false,
                false = false,
                false = false,
                false = false]) (by kernel_rfl) (cj (impl_AcctIdOk_ok a.Id r1 h1) (cj rfl (cj h2 (cj h2 (cj h2 (cj (impl_within_ok a.Limit 0 9007199254740992 r2 h3) (cj rfl (cj h2 (cj h4 (cj h4 (cj h4 (cj (impl_within_ok a.Most 0 1000 r3 h5) (cj rfl (cj h4 (cj h6 (cj h6 (cj h6 (cj (impl_within_ok a.MostSum 0 9007199254740992 r4 h7) (cj rfl (cj h6 (cj h8 (cj h8 (cj h8 (cj (impl_isMoney_ok a.Posted r5 h9) (cj rfl (cj h8 (cj h10 (cj h10 (cj h10 (cj (impl_HoldsOk_ok a.Holds r6 h11) (cj rfl (cj h10 (cj h12 (cj h12 (cj h12 (cj h12 (cj rfl (cj rfl (cj rfl (cj rfl (cj rfl (cj rfl (cj rfl (cj rfl (cj rfl (cj rfl (cj rfl (cj rfl (cj rfl (cj1 rfl)))))))))))))))))))))))))))))))))))))))))))))))))))))) (fun h10 =>
             Pn.some (Fn.of [.draw [], .call [] (E4 r1) [], .bit true, .bit true, .bit true, .call [] (E4 r2) [], .bit true, .bit true, .bit true, .bit true, .call [] (E4 r3) [], .bit true, .bit true, .bit true, .bit true, .call [] (E4 r4) [], .bit true, .bit true, .bit true, .bit true, .call [] (E4 r5) [], .bit true, .bit false, .bit false, .bit false, .bit false, .bit false, .bit false, .bit false, .bit false, .bit false, .bit false, .bit false, .bit false, .bit false, .bit false, .bit false, .bit false, .bit false, .bit false, .bit false, .bit false, .bit false, .bit false] (p := [Fn Tryz.prog 112 [(false, E9 a.Id)] (E4 r1) [],
              (true || ((E4 r1).nv && nvL [])) = true,
              r1 = true,
              r1 = true,
              r1 = true,
              Fn Tryz.prog 74 [(false, E3 a.Limit), (false, E3 0), (false, E3 9007199254740992)] (E4 r2) [],
              (true || ((E4 r2).nv && nvL [])) = true,
              r1 = true,
              r2 = true,
              r2 = true,
              r2 = true,
              Fn Tryz.prog 74 [(false, E3 a.Most), (false, E3 0), (false, E3 1000)] (E4 r3) [],
              (true || ((E4 r3).nv && nvL [])) = true,
              r2 = true,
              r3 = true,
              r3 = true,
              r3 = true,
              Fn Tryz.prog 74 [(false, E3 a.MostSum), (false, E3 0), (false, E3 9007199254740992)] (E4 r4) [],
              (true || ((E4 r4).nv && nvL [])) = true,
              r3 = true,
              r4 = true,
              r4 = true,
              r4 = true,
              Fn Tryz.prog 113 [(false, E3 a.Posted)] (E4 r5) [],
              (true || ((E4 r5).nv && nvL [])) = true,
              r4 = true,
              r5 = false,
              r5 = false,
              r5 = false,
              r5 = false,
              false = false,
              false = false,
              false = false,
              false = false,
              false = false,
              false = false,
              false = false,
              false = false,
              false = false,
              false = false,
              false = false,
              false = false,
              false = false,
              false = false,
              false = false,
              false = false,
              false = false,
              false = false]) (by kernel_rfl) (cj (impl_AcctIdOk_ok a.Id r1 h1) (cj rfl (cj h2 (cj h2 (cj h2 (cj (impl_within_ok a.Limit 0 9007199254740992 r2 h3) (cj rfl (cj h2 (cj h4 (cj h4 (cj h4 (cj (impl_within_ok a.Most 0 1000 r3 h5) (cj rfl (cj h4 (cj h6 (cj h6 (cj h6 (cj (impl_within_ok a.MostSum 0 9007199254740992 r4 h7) (cj rfl (cj h6 (cj h8 (cj h8 (cj h8 (cj (impl_isMoney_ok a.Posted r5 h9) (cj rfl (cj h8 (cj h10 (cj h10 (cj h10 (cj h10 (cj rfl (cj rfl (cj rfl (cj rfl (cj rfl (cj rfl (cj rfl (cj rfl (cj rfl (cj rfl (cj rfl (cj rfl (cj rfl (cj rfl (cj rfl (cj rfl (cj rfl (cj1 rfl)))))))))))))))))))))))))))))))))))))))))))))))))))) (fun h8 =>
           Pn.some (Fn.of [.draw [], .call [] (E4 r1) [], .bit true, .bit true, .bit true, .call [] (E4 r2) [], .bit true, .bit true, .bit true, .bit true, .call [] (E4 r3) [], .bit true, .bit true, .bit true, .bit true, .call [] (E4 r4) [], .bit true, .bit false, .bit false, .bit false, .bit false, .bit false, .bit false, .bit false, .bit false, .bit false, .bit false, .bit false, .bit false, .bit false, .bit false, .bit false, .bit false, .bit false, .bit false, .bit false, .bit false, .bit false, .bit false, .bit false, .bit false, .bit false, .bit false] (p := [Fn Tryz.prog 112 [(false, E9 a.Id)] (E4 r1) [],
            (true || ((E4 r1).nv && nvL [])) = true,
            r1 = true,
            r1 = true,
            r1 = true,
            Fn Tryz.prog 74 [(false, E3 a.Limit), (false, E3 0), (false, E3 9007199254740992)] (E4 r2) [],
            (true || ((E4 r2).nv && nvL [])) = true,
            r1 = true,
            r2 = true,
            r2 = true,
            r2 = true,
            Fn Tryz.prog 74 [(false, E3 a.Most), (false, E3 0), (false, E3 1000)] (E4 r3) [],
            (true || ((E4 r3).nv && nvL [])) = true,
            r2 = true,
            r3 = true,
            r3 = true,
            r3 = true,
            Fn Tryz.prog 74 [(false, E3 a.MostSum), (false, E3 0), (false, E3 9007199254740992)] (E4 r4) [],
            (true || ((E4 r4).nv && nvL [])) = true,
            r3 = true,
            r4 = false,
            r4 = false,
            r4 = false,
            r4 = false,
            false = false,
            false = false,
            false = false,
            false = false,
            false = false,
            false = false,
            false = false,
            false = false,
            false = false,
            false = false,
            false = false,
            false = false,
            false = false,
            false = false,
            false = false,
            false = false,
            false = false,
            false = false,
            false = false,
            false = false,
            false = false,
            false = false]) (by kernel_rfl) (cj (impl_AcctIdOk_ok a.Id r1 h1) (cj rfl (cj h2 (cj h2 (cj h2 (cj (impl_within_ok a.Limit 0 9007199254740992 r2 h3) (cj rfl (cj h2 (cj h4 (cj h4 (cj h4 (cj (impl_within_ok a.Most 0 1000 r3 h5) (cj rfl (cj h4 (cj h6 (cj h6 (cj h6 (cj (impl_within_ok a.MostSum 0 9007199254740992 r4 h7) (cj rfl (cj h6 (cj h8 (cj h8 (cj h8 (cj h8 (cj rfl (cj rfl (cj rfl (cj rfl (cj rfl (cj rfl (cj rfl (cj rfl (cj rfl (cj rfl (cj rfl (cj rfl (cj rfl (cj rfl (cj rfl (cj rfl (cj rfl (cj rfl (cj rfl (cj rfl (cj rfl (cj1 rfl)))))))))))))))))))))))))))))))))))))))))))))))))) (fun h6 =>
         Pn.some (Fn.of [.draw [], .call [] (E4 r1) [], .bit true, .bit true, .bit true, .call [] (E4 r2) [], .bit true, .bit true, .bit true, .bit true, .call [] (E4 r3) [], .bit true, .bit false, .bit false, .bit false, .bit false, .bit false, .bit false, .bit false, .bit false, .bit false, .bit false, .bit false, .bit false, .bit false, .bit false, .bit false, .bit false, .bit false, .bit false, .bit false, .bit false, .bit false, .bit false, .bit false, .bit false, .bit false, .bit false, .bit false, .bit false, .bit false, .bit false] (p := [Fn Tryz.prog 112 [(false, E9 a.Id)] (E4 r1) [],
          (true || ((E4 r1).nv && nvL [])) = true,
          r1 = true,
          r1 = true,
          r1 = true,
          Fn Tryz.prog 74 [(false, E3 a.Limit), (false, E3 0), (false, E3 9007199254740992)] (E4 r2) [],
          (true || ((E4 r2).nv && nvL [])) = true,
          r1 = true,
          r2 = true,
          r2 = true,
          r2 = true,
          Fn Tryz.prog 74 [(false, E3 a.Most), (false, E3 0), (false, E3 1000)] (E4 r3) [],
          (true || ((E4 r3).nv && nvL [])) = true,
          r2 = true,
          r3 = false,
          r3 = false,
          r3 = false,
          r3 = false,
          false = false,
          false = false,
          false = false,
          false = false,
          false = false,
          false = false,
          false = false,
          false = false,
          false = false,
          false = false,
          false = false,
          false = false,
          false = false,
          false = false,
          false = false,
          false = false,
          false = false,
          false = false,
          false = false,
          false = false,
          false = false,
          false = false,
          false = false,
          false = false,
          false = false,
          false = false]) (by kernel_rfl) (cj (impl_AcctIdOk_ok a.Id r1 h1) (cj rfl (cj h2 (cj h2 (cj h2 (cj (impl_within_ok a.Limit 0 9007199254740992 r2 h3) (cj rfl (cj h2 (cj h4 (cj h4 (cj h4 (cj (impl_within_ok a.Most 0 1000 r3 h5) (cj rfl (cj h4 (cj h6 (cj h6 (cj h6 (cj h6 (cj rfl (cj rfl (cj rfl (cj rfl (cj rfl (cj rfl (cj rfl (cj rfl (cj rfl (cj rfl (cj rfl (cj rfl (cj rfl (cj rfl (cj rfl (cj rfl (cj rfl (cj rfl (cj rfl (cj rfl (cj rfl (cj rfl (cj rfl (cj rfl (cj rfl (cj1 rfl)))))))))))))))))))))))))))))))))))))))))))))))) (fun h4 =>
       Pn.some (Fn.of [.draw [], .call [] (E4 r1) [], .bit true, .bit true, .bit true, .call [] (E4 r2) [], .bit true, .bit false, .bit false, .bit false, .bit false, .bit false, .bit false, .bit false, .bit false, .bit false, .bit false, .bit false, .bit false, .bit false, .bit false, .bit false, .bit false, .bit false, .bit false, .bit false, .bit false, .bit false, .bit false, .bit false, .bit false, .bit false, .bit false, .bit false, .bit false, .bit false, .bit false, .bit false, .bit false, .bit false, .bit false] (p := [Fn Tryz.prog 112 [(false, E9 a.Id)] (E4 r1) [],
        (true || ((E4 r1).nv && nvL [])) = true,
        r1 = true,
        r1 = true,
        r1 = true,
        Fn Tryz.prog 74 [(false, E3 a.Limit), (false, E3 0), (false, E3 9007199254740992)] (E4 r2) [],
        (true || ((E4 r2).nv && nvL [])) = true,
        r1 = true,
        r2 = false,
        r2 = false,
        r2 = false,
        r2 = false,
        false = false,
        false = false,
        false = false,
        false = false,
        false = false,
        false = false,
        false = false,
        false = false,
        false = false,
        false = false,
        false = false,
        false = false,
        false = false,
        false = false,
        false = false,
        false = false,
        false = false,
        false = false,
        false = false,
        false = false,
        false = false,
        false = false,
        false = false,
        false = false,
        false = false,
        false = false,
        false = false,
        false = false,
        false = false,
        false = false]) (by kernel_rfl) (cj (impl_AcctIdOk_ok a.Id r1 h1) (cj rfl (cj h2 (cj h2 (cj h2 (cj (impl_within_ok a.Limit 0 9007199254740992 r2 h3) (cj rfl (cj h2 (cj h4 (cj h4 (cj h4 (cj h4 (cj rfl (cj rfl (cj rfl (cj rfl (cj rfl (cj rfl (cj rfl (cj rfl (cj rfl (cj rfl (cj rfl (cj rfl (cj rfl (cj rfl (cj rfl (cj rfl (cj rfl (cj rfl (cj rfl (cj rfl (cj rfl (cj rfl (cj rfl (cj rfl (cj rfl (cj rfl (cj rfl (cj rfl (cj rfl (cj1 rfl)))))))))))))))))))))))))))))))))))))))))))))) (fun h2 =>
     Pn.some (Fn.of [.draw [], .call [] (E4 r1) [], .bit false, .bit false, .bit false, .bit false, .bit false, .bit false, .bit false, .bit false, .bit false, .bit false, .bit false, .bit false, .bit false, .bit false, .bit false, .bit false, .bit false, .bit false, .bit false, .bit false, .bit false, .bit false, .bit false, .bit false, .bit false, .bit false, .bit false, .bit false, .bit false, .bit false, .bit false, .bit false, .bit false, .bit false, .bit false, .bit false, .bit false, .bit false] (p := [Fn Tryz.prog 112 [(false, E9 a.Id)] (E4 r1) [],
      (true || ((E4 r1).nv && nvL [])) = true,
      r1 = false,
      r1 = false,
      r1 = false,
      r1 = false,
      false = false,
      false = false,
      false = false,
      false = false,
      false = false,
      false = false,
      false = false,
      false = false,
      false = false,
      false = false,
      false = false,
      false = false,
      false = false,
      false = false,
      false = false,
      false = false,
      false = false,
      false = false,
      false = false,
      false = false,
      false = false,
      false = false,
      false = false,
      false = false,
      false = false,
      false = false,
      false = false,
      false = false,
      false = false,
      false = false,
      false = false,
      false = false,
      false = false,
      false = false]) (by kernel_rfl) (cj (impl_AcctIdOk_ok a.Id r1 h1) (cj rfl (cj h2 (cj h2 (cj h2 (cj h2 (cj rfl (cj rfl (cj rfl (cj rfl (cj rfl (cj rfl (cj rfl (cj rfl (cj rfl (cj rfl (cj rfl (cj rfl (cj rfl (cj rfl (cj rfl (cj rfl (cj rfl (cj rfl (cj rfl (cj rfl (cj rfl (cj rfl (cj rfl (cj rfl (cj rfl (cj rfl (cj rfl (cj rfl (cj rfl (cj rfl (cj rfl (cj rfl (cj rfl (cj1 rfl)))))))))))))))))))))))))))))))))))))))))))
end Go.Proofs.YtephmimhaokhlaaGreatM
