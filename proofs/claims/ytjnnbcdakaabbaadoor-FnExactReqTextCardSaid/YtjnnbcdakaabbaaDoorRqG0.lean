/- Printed by gen.py: functions on plain data, and that the program computes them. No condition. -/
import Derived.Test.YtjnnbcdakaabbaaDoorX1
import Derived.Test.YtjnnbcdakaabbaaDoorProg
namespace Go.Proofs.YtjnnbcdakaabbaaDoorM
set_option linter.unusedVariables false
set_option linter.unusedSimpArgs false
open Go.RowKit
set_option maxRecDepth 100000

structure Req where
  Op : Int
  Acct : ByteArray
  Other : ByteArray
  Hold : ByteArray
  Trace : ByteArray
  Mti : ByteArray
  Amount : Int
  Ttl : Int
structure opRow where
  mti : ByteArray
  code : ByteArray
  name : ByteArray
  fields : List Int
def E3 (x : Int) : V := V.sc (.int .i64 x)
def E9 (x : ByteArray) : V := V.sc (.string x)
def E23 (x : Req) : V := V.agg [V.sc (.int .i64 x.Op), V.sc (.string x.Acct), V.sc (.string x.Other), V.sc (.string x.Hold), V.sc (.string x.Trace), V.sc (.string x.Mti), V.sc (.int .i64 x.Amount), V.sc (.int .i64 x.Ttl)]
def E4 (x : Bool) : V := V.sc (.bool x)
def E26 (x : Req) : V := V.agg [V.sc (.int .i64 x.Op), V.sc (.string x.Acct), V.sc (.string x.Other), V.sc (.string x.Hold), V.sc (.string x.Trace), V.sc (.string x.Mti), V.sc (.int .i64 x.Amount), V.sc (.int .i64 x.Ttl)]
def E65 (x : List ByteArray) : V := V.sl true 9 (List.map E9 x)
def E53 (x : List Int) : V := V.sl true 3 (List.map E3 x)
def E92 (x : opRow) : V := V.agg [V.sc (.string x.mti), V.sc (.string x.code), V.sc (.string x.name), V.sl true 3 (List.map E3 x.fields)]
def E122 (x : List opRow) : V := V.sl true 92 (List.map E92 x)
theorem nv_E3 (x : Int) : (E3 x).nv = true := by
  simp [E3, V.nv, nvL, nvL_all]
theorem nv_E9 (x : ByteArray) : (E9 x).nv = true := by
  simp [E9, V.nv, nvL, nvL_all]
theorem nv_E23 (x : Req) : (E23 x).nv = true := by
  simp [E23, V.nv, nvL, nvL_all]
theorem nv_E4 (x : Bool) : (E4 x).nv = true := by
  simp [E4, V.nv, nvL, nvL_all]
theorem nv_E26 (x : Req) : (E26 x).nv = true := by
  simp [E26, V.nv, nvL, nvL_all]
theorem nv_E65 (x : List ByteArray) : (E65 x).nv = true := by
  simp [E65, V.nv, nvL, nvL_all, nv_E9]
theorem nv_E53 (x : List Int) : (E53 x).nv = true := by
  simp [E53, V.nv, nvL, nvL_all, nv_E3]
theorem nv_E92 (x : opRow) : (E92 x).nv = true := by
  simp [E92, V.nv, nvL, nvL_all, nv_E3]
theorem nv_E122 (x : List opRow) : (E122 x).nv = true := by
  simp [E122, V.nv, nvL, nvL_all, nv_E92]
def laws_szReq (a : Req) (left : Int) : Option (Int) :=
 if (decide ((i64 (left - (a.Acct.size : Int))) < 0)) = true then
  some (-1)
 else
  if (decide ((i64 ((i64 (left - (a.Acct.size : Int))) - (a.Other.size : Int))) < 0)) = true then
   some (-1)
  else
   if (decide ((i64 ((i64 ((i64 (left - (a.Acct.size : Int))) - (a.Other.size : Int))) - (a.Hold.size : Int))) < 0)) = true then
    some (-1)
   else
    if (decide ((i64 ((i64 ((i64 ((i64 (left - (a.Acct.size : Int))) - (a.Other.size : Int))) - (a.Hold.size : Int))) - (a.Trace.size : Int))) < 0)) = true then
     some (-1)
    else
     if (decide ((i64 ((i64 ((i64 ((i64 ((i64 (left - (a.Acct.size : Int))) - (a.Other.size : Int))) - (a.Hold.size : Int))) - (a.Trace.size : Int))) - (a.Mti.size : Int))) < 0)) = true then
      some (-1)
     else
      some (i64 ((i64 ((i64 ((i64 ((i64 (left - (a.Acct.size : Int))) - (a.Other.size : Int))) - (a.Hold.size : Int))) - (a.Trace.size : Int))) - (a.Mti.size : Int)))
theorem laws_szReq_ok (a : Req) (left : Int) : Pn (fun y => Fn Tryd.prog 8 [(false, E23 a), (false, E3 left)] (E3 y) []) (laws_szReq a left) := by
  unfold laws_szReq
  exact
   Pn.ite (fun h1 =>
    Pn.some (Fn.of [.bit true] (p := [(decide ((i64 (left - (a.Acct.size : Int))) < 0)) = true]) (by kernel_rfl) (cj1 h1))) (fun h1 =>
    Pn.ite (fun h2 =>
     Pn.some (Fn.of [.bit false, .bit true] (p := [(decide ((i64 (left - (a.Acct.size : Int))) < 0)) = false,
      (decide ((i64 ((i64 (left - (a.Acct.size : Int))) - (a.Other.size : Int))) < 0)) = true]) (by kernel_rfl) (cj h1 (cj1 h2)))) (fun h2 =>
     Pn.ite (fun h3 =>
      Pn.some (Fn.of [.bit false, .bit false, .bit true] (p := [(decide ((i64 (left - (a.Acct.size : Int))) < 0)) = false,
       (decide ((i64 ((i64 (left - (a.Acct.size : Int))) - (a.Other.size : Int))) < 0)) = false,
       (decide ((i64 ((i64 ((i64 (left - (a.Acct.size : Int))) - (a.Other.size : Int))) - (a.Hold.size : Int))) < 0)) = true]) (by kernel_rfl) (cj h1 (cj h2 (cj1 h3))))) (fun h3 =>
      Pn.ite (fun h4 =>
       Pn.some (Fn.of [.bit false, .bit false, .bit false, .bit true] (p := [(decide ((i64 (left - (a.Acct.size : Int))) < 0)) = false,
        (decide ((i64 ((i64 (left - (a.Acct.size : Int))) - (a.Other.size : Int))) < 0)) = false,
        (decide ((i64 ((i64 ((i64 (left - (a.Acct.size : Int))) - (a.Other.size : Int))) - (a.Hold.size : Int))) < 0)) = false,
        (decide ((i64 ((i64 ((i64 ((i64 (left - (a.Acct.size : Int))) - (a.Other.size : Int))) - (a.Hold.size : Int))) - (a.Trace.size : Int))) < 0)) = true]) (by kernel_rfl) (cj h1 (cj h2 (cj h3 (cj1 h4)))))) (fun h4 =>
       Pn.ite (fun h5 =>
        Pn.some (Fn.of [.bit false, .bit false, .bit false, .bit false, .bit true] (p := [(decide ((i64 (left - (a.Acct.size : Int))) < 0)) = false,
         (decide ((i64 ((i64 (left - (a.Acct.size : Int))) - (a.Other.size : Int))) < 0)) = false,
         (decide ((i64 ((i64 ((i64 (left - (a.Acct.size : Int))) - (a.Other.size : Int))) - (a.Hold.size : Int))) < 0)) = false,
         (decide ((i64 ((i64 ((i64 ((i64 (left - (a.Acct.size : Int))) - (a.Other.size : Int))) - (a.Hold.size : Int))) - (a.Trace.size : Int))) < 0)) = false,
         (decide ((i64 ((i64 ((i64 ((i64 ((i64 (left - (a.Acct.size : Int))) - (a.Other.size : Int))) - (a.Hold.size : Int))) - (a.Trace.size : Int))) - (a.Mti.size : Int))) < 0)) = true]) (by kernel_rfl) (cj h1 (cj h2 (cj h3 (cj h4 (cj1 h5))))))) (fun h5 =>
        Pn.some (Fn.of [.bit false, .bit false, .bit false, .bit false, .bit false] (p := [(decide ((i64 (left - (a.Acct.size : Int))) < 0)) = false,
         (decide ((i64 ((i64 (left - (a.Acct.size : Int))) - (a.Other.size : Int))) < 0)) = false,
         (decide ((i64 ((i64 ((i64 (left - (a.Acct.size : Int))) - (a.Other.size : Int))) - (a.Hold.size : Int))) < 0)) = false,
         (decide ((i64 ((i64 ((i64 ((i64 (left - (a.Acct.size : Int))) - (a.Other.size : Int))) - (a.Hold.size : Int))) - (a.Trace.size : Int))) < 0)) = false,
         (decide ((i64 ((i64 ((i64 ((i64 ((i64 (left - (a.Acct.size : Int))) - (a.Other.size : Int))) - (a.Hold.size : Int))) - (a.Trace.size : Int))) - (a.Mti.size : Int))) < 0)) = false]) (by kernel_rfl) (cj h1 (cj h2 (cj h3 (cj h4 (cj1 h5)))))))))))
def laws_toReq (a : Req) : Option (Req) :=
 some a
theorem laws_toReq_ok (a : Req) : Pn (fun y => Fn Tryd.prog 10 [(false, E23 a)] (E26 y) []) (laws_toReq a) := by
  unfold laws_toReq
  exact
   Pn.some (Fn.of [] (p := []) (by kernel_rfl) trivial)
def spec_l01In (n : Int) (lo : Int) (hi : Int) : Option (Bool) :=
 if (decide (lo ≤ n)) = true then
  some (decide (n ≤ hi))
 else
  some false
theorem spec_l01In_ok (n : Int) (lo : Int) (hi : Int) : Pn (fun y => Fn Tryd.prog 77 [(false, E3 n), (false, E3 lo), (false, E3 hi)] (E4 y) []) (spec_l01In n lo hi) := by
  unfold spec_l01In
  exact
   Pn.ite (fun h1 =>
    Pn.some (Fn.of [.bit true, .bit true, .bit true, .bit true] (p := [(decide (lo ≤ n)) = true,
     (decide (lo ≤ n)) = true,
     (decide (lo ≤ n)) = true,
     (decide (lo ≤ n)) = true]) (by kernel_rfl) (cj h1 (cj h1 (cj h1 (cj1 h1)))))) (fun h1 =>
    Pn.some (Fn.of [.bit false, .bit false, .bit false, .bit false] (p := [(decide (lo ≤ n)) = false,
     (decide (lo ≤ n)) = false,
     (decide (lo ≤ n)) = false,
     (decide (lo ≤ n)) = false]) (by kernel_rfl) (cj h1 (cj h1 (cj h1 (cj1 h1))))))
def spec_l11Op (op : Int) : Option (Bool) :=
 (spec_l01In op 1 8).bind fun r1 =>
 some r1
theorem spec_l11Op_ok (op : Int) : Pn (fun y => Fn Tryd.prog 72 [(false, E3 op)] (E4 y) []) (spec_l11Op op) := by
  unfold spec_l11Op
  exact
   Pn.bind (fun r1 h1 =>
    Pn.some (Fn.of [.call [] (E4 r1) []] (p := [Fn Tryd.prog 77 [(false, E3 op), (false, E3 1), (false, E3 8)] (E4 r1) [],
     (true || ((E4 r1).nv && nvL [])) = true]) (by kernel_rfl) (cj (spec_l01In_ok op 1 8 r1 h1) (cj1 rfl))))
def spec_l11Mtis  : Option ((List ByteArray)) :=
 some [bs [], bs [48, 49, 48, 48], bs [48, 49, 48, 48], bs [48, 50, 50, 48], bs [48, 50, 50, 48], bs [48, 50, 50, 48], bs [48, 50, 48, 48], bs [48, 49, 48, 48], bs [48, 50, 48, 48]]
theorem spec_l11Mtis_ok  : Pn (fun y => Fn Tryd.prog 114 [] (E65 y) []) (spec_l11Mtis) := by
  unfold spec_l11Mtis
  exact
   Pn.some (Fn.of [] (p := []) (by kernel_rfl) trivial)
def spec_OpMti (op : Int) : Option (ByteArray) :=
 (spec_l11Op op).bind fun r1 =>
 if r1 = true then
  (spec_l11Mtis).bind fun r2 =>
  if (decide (0 ≤ op)) = true then
   (r2[op.toNat]?).bind fun x1 =>
   some x1
  else none
 else
  some (bs [])
theorem spec_OpMti_ok (op : Int) : Pn (fun y => Fn Tryd.prog 73 [(false, E3 op)] (E9 y) []) (spec_OpMti op) := by
  unfold spec_OpMti
  exact
   Pn.bind (fun r1 h1 =>
    Pn.ite (fun h2 =>
     Pn.bind (fun r2 h3 =>
      Pn.ite (fun h4 =>
       Pn.bind (fun x1 h5 =>
        Pn.some (Fn.of [.call [] (E4 r1) [], .bit false, .call [] (E65 r2) [], .el (E9 x1)] (p := [Fn Tryd.prog 72 [(false, E3 op)] (E4 r1) [],
         (true || ((E4 r1).nv && nvL [])) = true,
         (!r1) = false,
         Fn Tryd.prog 114 [] (E65 r2) [],
         (true || ((E65 r2).nv && nvL [])) = true,
         (0 : Int) ≤ op,
         (op : Int) < ((List.map E9 r2).length : Int),
         look [] op.toNat = none,
         (List.map E9 r2)[op.toNat]? = some (E9 x1)]) (by kernel_rfl) (cj (spec_l11Op_ok op r1 h1) (cj rfl (cj (nf h2) (cj (spec_l11Mtis_ok  r2 h3) (cj rfl (cj (od h4) (cj (map_ltN (od h4) h5) (cj rfl (cj1 (map_get h5))))))))))))) (fun h4 =>
       Pn.none))) (fun h2 =>
     Pn.some (Fn.of [.call [] (E4 r1) [], .bit true] (p := [Fn Tryd.prog 72 [(false, E3 op)] (E4 r1) [],
      (true || ((E4 r1).nv && nvL [])) = true,
      (!r1) = true]) (by kernel_rfl) (cj (spec_l11Op_ok op r1 h1) (cj rfl (cj1 (nt h2)))))))
def spec_Digits_l0 (s_ : ByteArray) : Nat → Int → Option (Lo Unit Unit)
  | 0, _ => none
  | fuel + 1, v1 =>
   if (decide (v1 < (s_.size : Int))) = true then
    if (decide (0 ≤ v1)) = true then
     if (decide ((v1 : Int) < (s_.size : Int))) = true then
      if (decide ((sAt s_ v1) < 48)) = true then
       some (.ret ())
      else
       if (decide (57 < (sAt s_ v1))) = true then
        some (.ret ())
       else
        spec_Digits_l0 s_ fuel (i64 (v1 + 1))
     else none
    else none
   else
    some (.out ())
theorem spec_Digits_l0_ok (s_ : ByteArray) : ∀ (fuel : Nat) (v1 : Int), Pn (LpO Tryd.prog (sub (codeOf Tryd.prog 75) [1, 0, 1, 0, 0]) (st 23 [(0, V.sc (.string s_)), (3, V.sc (.int .i64 v1))] [] []) (fun (y : Lo Unit Unit) => Lo.elim y (fun s => (X.out 0, st 23 [(0, V.sc (.string s_))] [] [])) (fun s => (X.ret, st 23 [(2, V.sc (.bool false))] [] [])))) (spec_Digits_l0 s_ fuel v1)
  | 0, _ => Pn.none
  | fuel + 1, v1 => by
    unfold spec_Digits_l0
    exact
     Pn.ite (fun h1 =>
      Pn.ite (fun h2 =>
       Pn.ite (fun h3 =>
        Pn.ite (fun h4 =>
         Pn.some (LpO.out [.bit true, .bit true, .bit true, .bit true, .bit true, .bit true, .bit true, .wait 1, .mask [2], .ren []] (p := [(decide (v1 < (s_.size : Int))) = true,
          (0 : Int) ≤ v1,
          (v1 : Int) < s_.size,
          (decide ((sAt s_ v1) < 48)) = true,
          (decide ((sAt s_ v1) < 48)) = true,
          (decide ((sAt s_ v1) < 48)) = true,
          (decide ((sAt s_ v1) < 48)) = true,
          (decide ((sAt s_ v1) < 48)) = true,
          true = true]) (by kernel_rfl) (show X.ret ≠ X.go from nofun) (cj h1 (cj (od h2) (cj (od h3) (cj h4 (cj h4 (cj h4 (cj h4 (cj h4 (cj1 rfl))))))))))) (fun h4 =>
         Pn.ite (fun h5 =>
          Pn.some (LpO.out [.bit true, .bit false, .bit false, .bit false, .bit false, .bit false, .bit true, .wait 1, .mask [2], .ren []] (p := [(decide (v1 < (s_.size : Int))) = true,
           (0 : Int) ≤ v1,
           (v1 : Int) < s_.size,
           (decide ((sAt s_ v1) < 48)) = false,
           (decide ((sAt s_ v1) < 48)) = false,
           (decide ((sAt s_ v1) < 48)) = false,
           (0 : Int) ≤ v1,
           (v1 : Int) < s_.size,
           (decide ((sAt s_ v1) < 48)) = false,
           (decide ((sAt s_ v1) < 48)) = false,
           (decide (57 < (sAt s_ v1))) = true]) (by kernel_rfl) (show X.ret ≠ X.go from nofun) (cj h1 (cj (od h2) (cj (od h3) (cj h4 (cj h4 (cj h4 (cj (od h2) (cj (od h3) (cj h4 (cj h4 (cj1 h5))))))))))))) (fun h5 =>
          LpO.go [.bit true, .bit false, .bit false, .bit false, .bit false, .bit false, .bit false, .wait 3, .mask [0, 3], .ren []] (p := [(decide (v1 < (s_.size : Int))) = true,
           (0 : Int) ≤ v1,
           (v1 : Int) < s_.size,
           (decide ((sAt s_ v1) < 48)) = false,
           (decide ((sAt s_ v1) < 48)) = false,
           (decide ((sAt s_ v1) < 48)) = false,
           (0 : Int) ≤ v1,
           (v1 : Int) < s_.size,
           (decide ((sAt s_ v1) < 48)) = false,
           (decide ((sAt s_ v1) < 48)) = false,
           (decide (57 < (sAt s_ v1))) = false]) (by kernel_rfl) (cj h1 (cj (od h2) (cj (od h3) (cj h4 (cj h4 (cj h4 (cj (od h2) (cj (od h3) (cj h4 (cj h4 (cj1 h5))))))))))) (spec_Digits_l0_ok s_ fuel (i64 (v1 + 1)))))) (fun h3 =>
        Pn.none)) (fun h2 =>
       Pn.none)) (fun h1 =>
      Pn.some (LpO.out [.bit false, .mask [0], .ren []] (p := [(decide (v1 < (s_.size : Int))) = false]) (by kernel_rfl) (show X.out 0 ≠ X.go from nofun) (cj1 h1)))
def spec_Digits (s_ : ByteArray) : Option (Bool) :=
 (spec_Digits_l0 s_ FUEL 0).bind fun r1 =>
 Lo.elim r1 (fun s1 =>
  some (decide (0 < (s_.size : Int)))) (fun s2 =>
  some false)
theorem spec_Digits_ok (s_ : ByteArray) : Pn (fun y => Fn Tryd.prog 75 [(false, E9 s_)] (E4 y) []) (spec_Digits s_) := by
  unfold spec_Digits
  exact
   Pn.bind (fun r1 h6 =>
    Pn.lo (fun s1 h7 =>
     Pn.some (Fn.of [.wait 3, .mask [0, 3], .ren [], .loop (X.out 0) (st 23 [(0, V.sc (.string s_))] [] [])] (p := [Loop Tryd.prog (sub (codeOf Tryd.prog 75) [1, 0, 1, 0, 0]) (st 23 [(0, V.sc (.string s_)), (3, V.sc (.int .i64 0))] [] []) (X.out 0) (st 23 [(0, V.sc (.string s_))] [] [])]) (by kernel_rfl) (cj1 ((spec_Digits_l0_ok s_ FUEL 0 r1 h6).at h7)))) (fun s2 h8 =>
     Pn.some (Fn.of [.wait 3, .mask [0, 3], .ren [], .loop (X.ret) (st 23 [(2, V.sc (.bool false))] [] [])] (p := [Loop Tryd.prog (sub (codeOf Tryd.prog 75) [1, 0, 1, 0, 0]) (st 23 [(0, V.sc (.string s_)), (3, V.sc (.int .i64 0))] [] []) (X.ret) (st 23 [(2, V.sc (.bool false))] [] [])]) (by kernel_rfl) (cj1 ((spec_Digits_l0_ok s_ FUEL 0 r1 h6).at h8)))))
def spec_Luhn_l0 (s_ : ByteArray) : Nat → Int → Bool → Int → Option (Int)
  | 0, _, _, _ => none
  | fuel + 1, v1, v2, v3 =>
   if (decide (0 ≤ v3)) = true then
    if (decide ((v3 : Int) < (s_.size : Int))) = true then
     if v2 = true then
      if (decide (9 < (i64 (2 * (i64 ((i64 (sAt s_ v3)) - 48)))))) = true then
       spec_Luhn_l0 s_ fuel (Int.tmod (i64 (v1 + (i64 ((i64 (2 * (i64 ((i64 (sAt s_ v3)) - 48)))) - 9)))) 10) (!v2) (i64 (v3 - 1))
      else
       spec_Luhn_l0 s_ fuel (Int.tmod (i64 (v1 + (i64 (2 * (i64 ((i64 (sAt s_ v3)) - 48)))))) 10) (!v2) (i64 (v3 - 1))
     else
      spec_Luhn_l0 s_ fuel (Int.tmod (i64 (v1 + (i64 ((i64 (sAt s_ v3)) - 48)))) 10) (!v2) (i64 (v3 - 1))
    else none
   else
    some v1
theorem spec_Luhn_l0_ok (s_ : ByteArray) : ∀ (fuel : Nat) (v1 : Int) (v2 : Bool) (v3 : Int), Pn (LpO Tryd.prog (sub (codeOf Tryd.prog 144) [1, 1, 1, 1, 0, 1, 0, 0]) (st 38 [(0, V.sc (.string s_)), (3, V.sc (.int .i64 v1)), (4, V.sc (.bool v2)), (5, V.sc (.int .i64 v3))] [] []) (fun (y : Int) => (X.out 0, st 38 [(3, V.sc (.int .i64 y))] [] []))) (spec_Luhn_l0 s_ fuel v1 v2 v3)
  | 0, _, _, _ => Pn.none
  | fuel + 1, v1, v2, v3 => by
    unfold spec_Luhn_l0
    exact
     Pn.ite (fun h3 =>
      Pn.ite (fun h4 =>
       Pn.ite (fun h5 =>
        Pn.ite (fun h6 =>
         LpO.go [.bit true, .bit true, .bit true, .wait 14, .mask [0, 3, 4, 5], .ren []] (p := [(decide (0 ≤ v3)) = true,
          (0 : Int) ≤ v3,
          (v3 : Int) < s_.size,
          v2 = true,
          (decide (9 < (i64 (2 * (i64 ((i64 (sAt s_ v3)) - 48)))))) = true,
          (10 : Int) ≠ 0]) (by kernel_rfl) (cj h3 (cj (od h3) (cj (od h4) (cj h5 (cj h6 (cj1 (by decide))))))) (spec_Luhn_l0_ok s_ fuel (Int.tmod (i64 (v1 + (i64 ((i64 (2 * (i64 ((i64 (sAt s_ v3)) - 48)))) - 9)))) 10) (!v2) (i64 (v3 - 1)))) (fun h6 =>
         LpO.go [.bit true, .bit true, .bit false, .wait 11, .mask [0, 3, 4, 5], .ren []] (p := [(decide (0 ≤ v3)) = true,
          (0 : Int) ≤ v3,
          (v3 : Int) < s_.size,
          v2 = true,
          (decide (9 < (i64 (2 * (i64 ((i64 (sAt s_ v3)) - 48)))))) = false,
          (10 : Int) ≠ 0]) (by kernel_rfl) (cj h3 (cj (od h3) (cj (od h4) (cj h5 (cj h6 (cj1 (by decide))))))) (spec_Luhn_l0_ok s_ fuel (Int.tmod (i64 (v1 + (i64 (2 * (i64 ((i64 (sAt s_ v3)) - 48)))))) 10) (!v2) (i64 (v3 - 1))))) (fun h5 =>
        LpO.go [.bit true, .bit false, .wait 11, .mask [0, 3, 4, 5], .ren []] (p := [(decide (0 ≤ v3)) = true,
         (0 : Int) ≤ v3,
         (v3 : Int) < s_.size,
         v2 = false,
         (10 : Int) ≠ 0]) (by kernel_rfl) (cj h3 (cj (od h3) (cj (od h4) (cj h5 (cj1 (by decide)))))) (spec_Luhn_l0_ok s_ fuel (Int.tmod (i64 (v1 + (i64 ((i64 (sAt s_ v3)) - 48)))) 10) (!v2) (i64 (v3 - 1))))) (fun h4 =>
       Pn.none)) (fun h3 =>
      Pn.some (LpO.out [.bit false, .mask [3], .ren []] (p := [(decide (0 ≤ v3)) = false]) (by kernel_rfl) (show X.out 0 ≠ X.go from nofun) (cj1 h3)))
def spec_Luhn (s_ : ByteArray) : Option (Int) :=
 (spec_Digits s_).bind fun r1 =>
 if r1 = true then
  (spec_Luhn_l0 s_ FUEL 0 true (i64 ((s_.size : Int) - 1))).bind fun r2 =>
  some (Int.tmod (i64 (10 - r2)) 10)
 else
  some (-1)
theorem spec_Luhn_ok (s_ : ByteArray) : Pn (fun y => Fn Tryd.prog 144 [(false, E9 s_)] (E3 y) []) (spec_Luhn s_) := by
  unfold spec_Luhn
  exact
   Pn.bind (fun r1 h1 =>
    Pn.ite (fun h2 =>
     Pn.bind (fun r2 h7 =>
      Pn.some (Fn.of [.call [] (E4 r1) [], .bit false, .wait 6, .mask [0, 3, 4, 5], .ren [], .loop (X.out 0) (st 38 [(3, V.sc (.int .i64 r2))] [] [])] (p := [Fn Tryd.prog 75 [(false, E9 s_)] (E4 r1) [],
       (true || ((E4 r1).nv && nvL [])) = true,
       (!r1) = false,
       Loop Tryd.prog (sub (codeOf Tryd.prog 144) [1, 1, 1, 1, 0, 1, 0, 0]) (st 38 [(0, V.sc (.string s_)), (3, V.sc (.int .i64 0)), (4, V.sc (.bool true)), (5, V.sc (.int .i64 (i64 ((s_.size : Int) - 1))))] [] []) (X.out 0) (st 38 [(3, V.sc (.int .i64 r2))] [] []),
       (10 : Int) ≠ 0]) (by kernel_rfl) (cj (spec_Digits_ok s_ r1 h1) (cj rfl (cj (nf h2) (cj (spec_Luhn_l0_ok s_ FUEL 0 true (i64 ((s_.size : Int) - 1)) r2 h7) (cj1 (by decide))))))))) (fun h2 =>
     Pn.some (Fn.of [.call [] (E4 r1) [], .bit true] (p := [Fn Tryd.prog 75 [(false, E9 s_)] (E4 r1) [],
      (true || ((E4 r1).nv && nvL [])) = true,
      (!r1) = true]) (by kernel_rfl) (cj (spec_Digits_ok s_ r1 h1) (cj rfl (cj1 (nt h2)))))))
def spec_LuhnOk (s_ : ByteArray) : Option (Bool) :=
 (spec_Digits s_).bind fun r1 =>
 if r1 = true then
  if (decide ((s_.size : Int) < 2)) = true then
   some false
  else
   if (decide (0 ≤ (i64 ((s_.size : Int) - 1)))) = true then
    if (decide ((i64 ((s_.size : Int) - 1)) ≤ (s_.size : Int))) = true then
     if (decide (0 ≤ i64 ((s_.size : Int) - 1))) = true then
      if (decide ((i64 ((s_.size : Int) - 1) : Int) < (s_.size : Int))) = true then
       (spec_Luhn (s_.extract 0 (i64 ((s_.size : Int) - 1)).toNat)).bind fun r2 =>
       some (r2 == (i64 ((i64 (sAt s_ (i64 ((s_.size : Int) - 1)))) - 48)))
      else none
     else none
    else none
   else none
 else
  some false
theorem spec_LuhnOk_ok (s_ : ByteArray) : Pn (fun y => Fn Tryd.prog 115 [(false, E9 s_)] (E4 y) []) (spec_LuhnOk s_) := by
  unfold spec_LuhnOk
  exact
   Pn.bind (fun r1 h1 =>
    Pn.ite (fun h2 =>
     Pn.ite (fun h3 =>
      Pn.some (Fn.of [.call [] (E4 r1) [], .bit false, .bit false, .bit false, .bit false, .bit true] (p := [Fn Tryd.prog 75 [(false, E9 s_)] (E4 r1) [],
       (true || ((E4 r1).nv && nvL [])) = true,
       (!r1) = false,
       (!r1) = false,
       (!r1) = false,
       (!r1) = false,
       (decide ((s_.size : Int) < 2)) = true]) (by kernel_rfl) (cj (spec_Digits_ok s_ r1 h1) (cj rfl (cj (nf h2) (cj (nf h2) (cj (nf h2) (cj (nf h2) (cj1 h3))))))))) (fun h3 =>
      Pn.ite (fun h4 =>
       Pn.ite (fun h5 =>
        Pn.ite (fun h6 =>
         Pn.ite (fun h7 =>
          Pn.bind (fun r2 h8 =>
           Pn.some (Fn.of [.call [] (E4 r1) [], .bit false, .bit false, .bit false, .bit false, .bit false, .draw [], .call [] (E3 r2) []] (p := [Fn Tryd.prog 75 [(false, E9 s_)] (E4 r1) [],
            (true || ((E4 r1).nv && nvL [])) = true,
            (!r1) = false,
            (!r1) = false,
            (!r1) = false,
            (!r1) = false,
            (decide ((s_.size : Int) < 2)) = false,
            (0 : Int) ≤ 0,
            (0 : Int) ≤ (i64 ((s_.size : Int) - 1)),
            ((i64 ((s_.size : Int) - 1)) : Int) ≤ (s_.size : Int),
            (0 : Int) ≤ i64 ((s_.size : Int) - 1),
            (i64 ((s_.size : Int) - 1) : Int) < s_.size,
            Fn Tryd.prog 144 [(false, E9 (s_.extract 0 (i64 ((s_.size : Int) - 1)).toNat))] (E3 r2) [],
            (true || ((E3 r2).nv && nvL [])) = true]) (by kernel_rfl) (cj (spec_Digits_ok s_ r1 h1) (cj rfl (cj (nf h2) (cj (nf h2) (cj (nf h2) (cj (nf h2) (cj h3 (cj (by decide) (cj (od h4) (cj (od h5) (cj (od h6) (cj (od h7) (cj (spec_Luhn_ok (s_.extract 0 (i64 ((s_.size : Int) - 1)).toNat) r2 h8) (cj1 rfl))))))))))))))))) (fun h7 =>
          Pn.none)) (fun h6 =>
         Pn.none)) (fun h5 =>
        Pn.none)) (fun h4 =>
       Pn.none))) (fun h2 =>
     Pn.some (Fn.of [.call [] (E4 r1) [], .bit true, .bit true, .bit true, .bit true, .bit true] (p := [Fn Tryd.prog 75 [(false, E9 s_)] (E4 r1) [],
      (true || ((E4 r1).nv && nvL [])) = true,
      (!r1) = true,
      (!r1) = true,
      (!r1) = true,
      (!r1) = true,
      true = true]) (by kernel_rfl) (cj (spec_Digits_ok s_ r1 h1) (cj rfl (cj (nt h2) (cj (nt h2) (cj (nt h2) (cj (nt h2) (cj1 rfl))))))))))
def spec_AcctIdOk (s_ : ByteArray) : Option (Bool) :=
 if (decide ((s_.size : Int) ≤ 19)) = true then
  (spec_LuhnOk s_).bind fun r1 =>
  some r1
 else
  some false
theorem spec_AcctIdOk_ok (s_ : ByteArray) : Pn (fun y => Fn Tryd.prog 74 [(false, E9 s_)] (E4 y) []) (spec_AcctIdOk s_) := by
  unfold spec_AcctIdOk
  exact
   Pn.ite (fun h1 =>
    Pn.bind (fun r1 h2 =>
     Pn.some (Fn.of [.bit true, .bit true, .call [] (E4 r1) [], .bit true] (p := [(decide ((s_.size : Int) ≤ 19)) = true,
      (decide ((s_.size : Int) ≤ 19)) = true,
      Fn Tryd.prog 115 [(false, E9 s_)] (E4 r1) [],
      (true || ((E4 r1).nv && nvL [])) = true,
      (decide ((s_.size : Int) ≤ 19)) = true]) (by kernel_rfl) (cj h1 (cj h1 (cj (spec_LuhnOk_ok s_ r1 h2) (cj rfl (cj1 h1)))))))) (fun h1 =>
    Pn.some (Fn.of [.bit false, .bit false, .bit false] (p := [(decide ((s_.size : Int) ≤ 19)) = false,
     (decide ((s_.size : Int) ≤ 19)) = false,
     (decide ((s_.size : Int) ≤ 19)) = false]) (by kernel_rfl) (cj h1 (cj h1 (cj1 h1)))))
def spec_l11Hold (op : Int) : Option (Bool) :=
 (spec_l11Op op).bind fun r1 =>
 if r1 = true then
  some (decide (op < 7))
 else
  some false
theorem spec_l11Hold_ok (op : Int) : Pn (fun y => Fn Tryd.prog 34 [(false, E3 op)] (E4 y) []) (spec_l11Hold op) := by
  unfold spec_l11Hold
  exact
   Pn.bind (fun r1 h1 =>
    Pn.ite (fun h2 =>
     Pn.some (Fn.of [.call [] (E4 r1) [], .bit true, .bit true, .bit true] (p := [Fn Tryd.prog 72 [(false, E3 op)] (E4 r1) [],
      (true || ((E4 r1).nv && nvL [])) = true,
      r1 = true,
      r1 = true,
      r1 = true]) (by kernel_rfl) (cj (spec_l11Op_ok op r1 h1) (cj rfl (cj h2 (cj h2 (cj1 h2))))))) (fun h2 =>
     Pn.some (Fn.of [.call [] (E4 r1) [], .bit false, .bit false, .bit false] (p := [Fn Tryd.prog 72 [(false, E3 op)] (E4 r1) [],
      (true || ((E4 r1).nv && nvL [])) = true,
      r1 = false,
      r1 = false,
      r1 = false]) (by kernel_rfl) (cj (spec_l11Op_ok op r1 h1) (cj rfl (cj h2 (cj h2 (cj1 h2))))))))
def spec_HoldIdOk_l0 (s_ : ByteArray) : Nat → Int → Option (Lo Unit Unit)
  | 0, _ => none
  | fuel + 1, v1 =>
   if (decide (v1 < (s_.size : Int))) = true then
    if (decide (0 ≤ v1)) = true then
     if (decide ((v1 : Int) < (s_.size : Int))) = true then
      if (decide ((sAt s_ v1) < 48)) = true then
       if (decide ((sAt s_ v1) < 97)) = true then
        some (.ret ())
       else
        if (decide (122 < (sAt s_ v1))) = true then
         some (.ret ())
        else
         spec_HoldIdOk_l0 s_ fuel (i64 (v1 + 1))
      else
       if (decide (57 < (sAt s_ v1))) = true then
        if (decide ((sAt s_ v1) < 97)) = true then
         some (.ret ())
        else
         if (decide (122 < (sAt s_ v1))) = true then
          some (.ret ())
         else
          spec_HoldIdOk_l0 s_ fuel (i64 (v1 + 1))
       else
        spec_HoldIdOk_l0 s_ fuel (i64 (v1 + 1))
     else none
    else none
   else
    some (.out ())
theorem spec_HoldIdOk_l0_ok (s_ : ByteArray) : ∀ (fuel : Nat) (v1 : Int), Pn (LpO Tryd.prog (sub (codeOf Tryd.prog 76) [1, 0, 1, 0, 0]) (st 35 [(0, V.sc (.string s_)), (3, V.sc (.int .i64 v1))] [] []) (fun (y : Lo Unit Unit) => Lo.elim y (fun s => (X.out 0, st 35 [(0, V.sc (.string s_))] [] [])) (fun s => (X.ret, st 35 [(2, V.sc (.bool false))] [] [])))) (spec_HoldIdOk_l0 s_ fuel v1)
  | 0, _ => Pn.none
  | fuel + 1, v1 => by
    unfold spec_HoldIdOk_l0
    exact
     Pn.ite (fun h1 =>
      Pn.ite (fun h2 =>
       Pn.ite (fun h3 =>
        Pn.ite (fun h4 =>
         Pn.ite (fun h5 =>
          Pn.some (LpO.out [.bit true, .bit true, .bit true, .bit true, .bit true, .bit true, .bit true, .bit true, .bit true, .bit true, .bit true, .bit true, .bit true, .bit true, .bit true, .bit true, .bit true, .bit true, .bit true, .wait 1, .mask [2], .ren []] (p := [(decide (v1 < (s_.size : Int))) = true,
           (0 : Int) ≤ v1,
           (v1 : Int) < s_.size,
           (decide ((sAt s_ v1) < 48)) = true,
           (decide ((sAt s_ v1) < 48)) = true,
           (decide ((sAt s_ v1) < 48)) = true,
           (decide ((sAt s_ v1) < 48)) = true,
           (decide ((sAt s_ v1) < 48)) = true,
           true = true,
           true = true,
           true = true,
           (0 : Int) ≤ v1,
           (v1 : Int) < s_.size,
           true = true,
           true = true,
           (decide ((sAt s_ v1) < 97)) = true,
           (decide ((sAt s_ v1) < 97)) = true,
           (decide ((sAt s_ v1) < 97)) = true,
           (decide ((sAt s_ v1) < 97)) = true,
           true = true,
           (decide ((sAt s_ v1) < 97)) = true,
           true = true,
           true = true]) (by kernel_rfl) (show X.ret ≠ X.go from nofun) (cj h1 (cj (od h2) (cj (od h3) (cj h4 (cj h4 (cj h4 (cj h4 (cj h4 (cj rfl (cj rfl (cj rfl (cj (od h2) (cj (od h3) (cj rfl (cj rfl (cj h5 (cj h5 (cj h5 (cj h5 (cj rfl (cj h5 (cj rfl (cj1 rfl))))))))))))))))))))))))) (fun h5 =>
          Pn.ite (fun h6 =>
           Pn.some (LpO.out [.bit true, .bit true, .bit true, .bit true, .bit true, .bit true, .bit true, .bit true, .bit true, .bit true, .bit true, .bit false, .bit false, .bit false, .bit false, .bit true, .bit false, .bit true, .bit true, .wait 1, .mask [2], .ren []] (p := [(decide (v1 < (s_.size : Int))) = true,
            (0 : Int) ≤ v1,
            (v1 : Int) < s_.size,
            (decide ((sAt s_ v1) < 48)) = true,
            (decide ((sAt s_ v1) < 48)) = true,
            (decide ((sAt s_ v1) < 48)) = true,
            (decide ((sAt s_ v1) < 48)) = true,
            (decide ((sAt s_ v1) < 48)) = true,
            true = true,
            true = true,
            true = true,
            (0 : Int) ≤ v1,
            (v1 : Int) < s_.size,
            true = true,
            true = true,
            (decide ((sAt s_ v1) < 97)) = false,
            (decide ((sAt s_ v1) < 97)) = false,
            (decide ((sAt s_ v1) < 97)) = false,
            (0 : Int) ≤ v1,
            (v1 : Int) < s_.size,
            (decide ((sAt s_ v1) < 97)) = false,
            true = true,
            (decide ((sAt s_ v1) < 97)) = false,
            true = true,
            (decide (122 < (sAt s_ v1))) = true]) (by kernel_rfl) (show X.ret ≠ X.go from nofun) (cj h1 (cj (od h2) (cj (od h3) (cj h4 (cj h4 (cj h4 (cj h4 (cj h4 (cj rfl (cj rfl (cj rfl (cj (od h2) (cj (od h3) (cj rfl (cj rfl (cj h5 (cj h5 (cj h5 (cj (od h2) (cj (od h3) (cj h5 (cj rfl (cj h5 (cj rfl (cj1 h6))))))))))))))))))))))))))) (fun h6 =>
           LpO.go [.bit true, .bit true, .bit true, .bit true, .bit true, .bit true, .bit true, .bit true, .bit true, .bit true, .bit true, .bit false, .bit false, .bit false, .bit false, .bit true, .bit false, .bit true, .bit false, .wait 3, .mask [0, 3], .ren []] (p := [(decide (v1 < (s_.size : Int))) = true,
            (0 : Int) ≤ v1,
            (v1 : Int) < s_.size,
            (decide ((sAt s_ v1) < 48)) = true,
            (decide ((sAt s_ v1) < 48)) = true,
            (decide ((sAt s_ v1) < 48)) = true,
            (decide ((sAt s_ v1) < 48)) = true,
            (decide ((sAt s_ v1) < 48)) = true,
            true = true,
            true = true,
            true = true,
            (0 : Int) ≤ v1,
            (v1 : Int) < s_.size,
            true = true,
            true = true,
            (decide ((sAt s_ v1) < 97)) = false,
            (decide ((sAt s_ v1) < 97)) = false,
            (decide ((sAt s_ v1) < 97)) = false,
            (0 : Int) ≤ v1,
            (v1 : Int) < s_.size,
            (decide ((sAt s_ v1) < 97)) = false,
            true = true,
            (decide ((sAt s_ v1) < 97)) = false,
            true = true,
            (decide (122 < (sAt s_ v1))) = false]) (by kernel_rfl) (cj h1 (cj (od h2) (cj (od h3) (cj h4 (cj h4 (cj h4 (cj h4 (cj h4 (cj rfl (cj rfl (cj rfl (cj (od h2) (cj (od h3) (cj rfl (cj rfl (cj h5 (cj h5 (cj h5 (cj (od h2) (cj (od h3) (cj h5 (cj rfl (cj h5 (cj rfl (cj1 h6))))))))))))))))))))))))) (spec_HoldIdOk_l0_ok s_ fuel (i64 (v1 + 1)))))) (fun h4 =>
         Pn.ite (fun h7 =>
          Pn.ite (fun h8 =>
           Pn.some (LpO.out [.bit true, .bit false, .bit false, .bit false, .bit false, .bit false, .bit true, .bit true, .bit true, .bit true, .bit true, .bit true, .bit true, .bit true, .bit true, .bit true, .bit true, .bit true, .bit true, .wait 1, .mask [2], .ren []] (p := [(decide (v1 < (s_.size : Int))) = true,
            (0 : Int) ≤ v1,
            (v1 : Int) < s_.size,
            (decide ((sAt s_ v1) < 48)) = false,
            (decide ((sAt s_ v1) < 48)) = false,
            (decide ((sAt s_ v1) < 48)) = false,
            (0 : Int) ≤ v1,
            (v1 : Int) < s_.size,
            (decide ((sAt s_ v1) < 48)) = false,
            (decide ((sAt s_ v1) < 48)) = false,
            (decide (57 < (sAt s_ v1))) = true,
            (decide (57 < (sAt s_ v1))) = true,
            (decide (57 < (sAt s_ v1))) = true,
            (0 : Int) ≤ v1,
            (v1 : Int) < s_.size,
            (decide (57 < (sAt s_ v1))) = true,
            (decide (57 < (sAt s_ v1))) = true,
            (decide ((sAt s_ v1) < 97)) = true,
            (decide ((sAt s_ v1) < 97)) = true,
            (decide ((sAt s_ v1) < 97)) = true,
            (decide ((sAt s_ v1) < 97)) = true,
            (decide (57 < (sAt s_ v1))) = true,
            (decide ((sAt s_ v1) < 97)) = true,
            (decide (57 < (sAt s_ v1))) = true,
            true = true]) (by kernel_rfl) (show X.ret ≠ X.go from nofun) (cj h1 (cj (od h2) (cj (od h3) (cj h4 (cj h4 (cj h4 (cj (od h2) (cj (od h3) (cj h4 (cj h4 (cj h7 (cj h7 (cj h7 (cj (od h2) (cj (od h3) (cj h7 (cj h7 (cj h8 (cj h8 (cj h8 (cj h8 (cj h7 (cj h8 (cj h7 (cj1 rfl))))))))))))))))))))))))))) (fun h8 =>
           Pn.ite (fun h9 =>
            Pn.some (LpO.out [.bit true, .bit false, .bit false, .bit false, .bit false, .bit false, .bit true, .bit true, .bit true, .bit true, .bit true, .bit false, .bit false, .bit false, .bit false, .bit true, .bit false, .bit true, .bit true, .wait 1, .mask [2], .ren []] (p := [(decide (v1 < (s_.size : Int))) = true,
             (0 : Int) ≤ v1,
             (v1 : Int) < s_.size,
             (decide ((sAt s_ v1) < 48)) = false,
             (decide ((sAt s_ v1) < 48)) = false,
             (decide ((sAt s_ v1) < 48)) = false,
             (0 : Int) ≤ v1,
             (v1 : Int) < s_.size,
             (decide ((sAt s_ v1) < 48)) = false,
             (decide ((sAt s_ v1) < 48)) = false,
             (decide (57 < (sAt s_ v1))) = true,
             (decide (57 < (sAt s_ v1))) = true,
             (decide (57 < (sAt s_ v1))) = true,
             (0 : Int) ≤ v1,
             (v1 : Int) < s_.size,
             (decide (57 < (sAt s_ v1))) = true,
             (decide (57 < (sAt s_ v1))) = true,
             (decide ((sAt s_ v1) < 97)) = false,
             (decide ((sAt s_ v1) < 97)) = false,
             (decide ((sAt s_ v1) < 97)) = false,
             (0 : Int) ≤ v1,
             (v1 : Int) < s_.size,
             (decide ((sAt s_ v1) < 97)) = false,
             (decide (57 < (sAt s_ v1))) = true,
             (decide ((sAt s_ v1) < 97)) = false,
             (decide (57 < (sAt s_ v1))) = true,
             (decide (122 < (sAt s_ v1))) = true]) (by kernel_rfl) (show X.ret ≠ X.go from nofun) (cj h1 (cj (od h2) (cj (od h3) (cj h4 (cj h4 (cj h4 (cj (od h2) (cj (od h3) (cj h4 (cj h4 (cj h7 (cj h7 (cj h7 (cj (od h2) (cj (od h3) (cj h7 (cj h7 (cj h8 (cj h8 (cj h8 (cj (od h2) (cj (od h3) (cj h8 (cj h7 (cj h8 (cj h7 (cj1 h9))))))))))))))))))))))))))))) (fun h9 =>
            LpO.go [.bit true, .bit false, .bit false, .bit false, .bit false, .bit false, .bit true, .bit true, .bit true, .bit true, .bit true, .bit false, .bit false, .bit false, .bit false, .bit true, .bit false, .bit true, .bit false, .wait 3, .mask [0, 3], .ren []] (p := [(decide (v1 < (s_.size : Int))) = true,
             (0 : Int) ≤ v1,
             (v1 : Int) < s_.size,
             (decide ((sAt s_ v1) < 48)) = false,
             (decide ((sAt s_ v1) < 48)) = false,
             (decide ((sAt s_ v1) < 48)) = false,
             (0 : Int) ≤ v1,
             (v1 : Int) < s_.size,
             (decide ((sAt s_ v1) < 48)) = false,
             (decide ((sAt s_ v1) < 48)) = false,
             (decide (57 < (sAt s_ v1))) = true,
             (decide (57 < (sAt s_ v1))) = true,
             (decide (57 < (sAt s_ v1))) = true,
             (0 : Int) ≤ v1,
             (v1 : Int) < s_.size,
             (decide (57 < (sAt s_ v1))) = true,
             (decide (57 < (sAt s_ v1))) = true,
             (decide ((sAt s_ v1) < 97)) = false,
             (decide ((sAt s_ v1) < 97)) = false,
             (decide ((sAt s_ v1) < 97)) = false,
             (0 : Int) ≤ v1,
             (v1 : Int) < s_.size,
             (decide ((sAt s_ v1) < 97)) = false,
             (decide (57 < (sAt s_ v1))) = true,
             (decide ((sAt s_ v1) < 97)) = false,
             (decide (57 < (sAt s_ v1))) = true,
             (decide (122 < (sAt s_ v1))) = false]) (by kernel_rfl) (cj h1 (cj (od h2) (cj (od h3) (cj h4 (cj h4 (cj h4 (cj (od h2) (cj (od h3) (cj h4 (cj h4 (cj h7 (cj h7 (cj h7 (cj (od h2) (cj (od h3) (cj h7 (cj h7 (cj h8 (cj h8 (cj h8 (cj (od h2) (cj (od h3) (cj h8 (cj h7 (cj h8 (cj h7 (cj1 h9))))))))))))))))))))))))))) (spec_HoldIdOk_l0_ok s_ fuel (i64 (v1 + 1)))))) (fun h7 =>
          LpO.go [.bit true, .bit false, .bit false, .bit false, .bit false, .bit false, .bit false, .bit false, .bit false, .bit false, .bit false, .bit false, .bit false, .bit false, .wait 3, .mask [0, 3], .ren []] (p := [(decide (v1 < (s_.size : Int))) = true,
           (0 : Int) ≤ v1,
           (v1 : Int) < s_.size,
           (decide ((sAt s_ v1) < 48)) = false,
           (decide ((sAt s_ v1) < 48)) = false,
           (decide ((sAt s_ v1) < 48)) = false,
           (0 : Int) ≤ v1,
           (v1 : Int) < s_.size,
           (decide ((sAt s_ v1) < 48)) = false,
           (decide ((sAt s_ v1) < 48)) = false,
           (decide (57 < (sAt s_ v1))) = false,
           (decide (57 < (sAt s_ v1))) = false,
           (decide (57 < (sAt s_ v1))) = false,
           (decide (57 < (sAt s_ v1))) = false,
           (decide (57 < (sAt s_ v1))) = false,
           (decide (57 < (sAt s_ v1))) = false,
           (decide (57 < (sAt s_ v1))) = false,
           false = false]) (by kernel_rfl) (cj h1 (cj (od h2) (cj (od h3) (cj h4 (cj h4 (cj h4 (cj (od h2) (cj (od h3) (cj h4 (cj h4 (cj h7 (cj h7 (cj h7 (cj h7 (cj h7 (cj h7 (cj h7 (cj1 rfl)))))))))))))))))) (spec_HoldIdOk_l0_ok s_ fuel (i64 (v1 + 1)))))) (fun h3 =>
        Pn.none)) (fun h2 =>
       Pn.none)) (fun h1 =>
      Pn.some (LpO.out [.bit false, .mask [0], .ren []] (p := [(decide (v1 < (s_.size : Int))) = false]) (by kernel_rfl) (show X.out 0 ≠ X.go from nofun) (cj1 h1)))
def spec_HoldIdOk (s_ : ByteArray) : Option (Bool) :=
 (spec_HoldIdOk_l0 s_ FUEL 0).bind fun r1 =>
 Lo.elim r1 (fun s1 =>
  (spec_l01In (s_.size : Int) 1 6).bind fun r2 =>
  some r2) (fun s2 =>
  some false)
theorem spec_HoldIdOk_ok (s_ : ByteArray) : Pn (fun y => Fn Tryd.prog 76 [(false, E9 s_)] (E4 y) []) (spec_HoldIdOk s_) := by
  unfold spec_HoldIdOk
  exact
   Pn.bind (fun r1 h10 =>
    Pn.lo (fun s1 h11 =>
     Pn.bind (fun r2 h13 =>
      Pn.some (Fn.of [.wait 3, .mask [0, 3], .ren [], .loop (X.out 0) (st 35 [(0, V.sc (.string s_))] [] []), .call [] (E4 r2) []] (p := [Loop Tryd.prog (sub (codeOf Tryd.prog 76) [1, 0, 1, 0, 0]) (st 35 [(0, V.sc (.string s_)), (3, V.sc (.int .i64 0))] [] []) (X.out 0) (st 35 [(0, V.sc (.string s_))] [] []),
       Fn Tryd.prog 77 [(false, E3 (s_.size : Int)), (false, E3 1), (false, E3 6)] (E4 r2) [],
       (true || ((E4 r2).nv && nvL [])) = true]) (by kernel_rfl) (cj ((spec_HoldIdOk_l0_ok s_ FUEL 0 r1 h10).at h11) (cj (spec_l01In_ok (s_.size : Int) 1 6 r2 h13) (cj1 rfl)))))) (fun s2 h12 =>
     Pn.some (Fn.of [.wait 3, .mask [0, 3], .ren [], .loop (X.ret) (st 35 [(2, V.sc (.bool false))] [] [])] (p := [Loop Tryd.prog (sub (codeOf Tryd.prog 76) [1, 0, 1, 0, 0]) (st 35 [(0, V.sc (.string s_)), (3, V.sc (.int .i64 0))] [] []) (X.ret) (st 35 [(2, V.sc (.bool false))] [] [])]) (by kernel_rfl) (cj1 ((spec_HoldIdOk_l0_ok s_ FUEL 0 r1 h10).at h12)))))
def spec_l11Amount (op : Int) : Option (Bool) :=
 (spec_l01In op 1 4).bind fun r1 =>
 some r1
theorem spec_l11Amount_ok (op : Int) : Pn (fun y => Fn Tryd.prog 35 [(false, E3 op)] (E4 y) []) (spec_l11Amount op) := by
  unfold spec_l11Amount
  exact
   Pn.bind (fun r1 h1 =>
    Pn.some (Fn.of [.call [] (E4 r1) []] (p := [Fn Tryd.prog 77 [(false, E3 op), (false, E3 1), (false, E3 4)] (E4 r1) [],
     (true || ((E4 r1).nv && nvL [])) = true]) (by kernel_rfl) (cj (spec_l01In_ok op 1 4 r1 h1) (cj1 rfl))))
def spec_ReqOk_c0 (o : Req) : Option (Lo Unit Unit) :=
 (spec_l11Op o.Op).bind fun r1 =>
 if r1 = true then
  (spec_OpMti o.Op).bind fun r2 =>
  if (o.Mti == r2) = true then
   (spec_AcctIdOk o.Acct).bind fun r3 =>
   if r3 = true then
    (spec_Digits o.Trace).bind fun r4 =>
    if r4 = true then
     if ((o.Trace.size : Int) != 6) = true then
      some (.ret ())
     else
      some (.out ())
    else
     some (.ret ())
   else
    some (.ret ())
  else
   some (.ret ())
 else
  some (.ret ())
theorem spec_ReqOk_c0_ok (o : Req) : Pn (JnO Tryd.prog (sub (codeOf Tryd.prog 32) [1, 0]) (st 110 [(1, V.ptr 0 0)] [Blk.box 26 [V.sc (.int .i64 o.Op), V.sc (.string o.Acct), V.sc (.string o.Other), V.sc (.string o.Hold), V.sc (.string o.Trace), V.sc (.string o.Mti), V.sc (.int .i64 o.Amount), V.sc (.int .i64 o.Ttl)]] []) (fun (y : Lo Unit Unit) => Lo.elim y (fun s => (X.go, st 110 [(1, V.ptr 0 0)] [Blk.box 26 [V.sc (.int .i64 o.Op), V.sc (.string o.Acct), V.sc (.string o.Other), V.sc (.string o.Hold), V.sc (.string o.Trace), V.sc (.string o.Mti), V.sc (.int .i64 o.Amount), V.sc (.int .i64 o.Ttl)]] [])) (fun s => (X.ret, st 110 [(2, V.sc (.bool false))] [] [])))) (spec_ReqOk_c0 o) := by
  unfold spec_ReqOk_c0
  exact
   Pn.bind (fun r1 h1 =>
    Pn.ite (fun h2 =>
     Pn.bind (fun r2 h3 =>
      Pn.ite (fun h4 =>
       Pn.bind (fun r3 h5 =>
        Pn.ite (fun h6 =>
         Pn.bind (fun r4 h7 =>
          Pn.ite (fun h8 =>
           Pn.ite (fun h9 =>
            Pn.some (JnO.of [.draw [], .call [] (E4 r1) [], .bit false, .bit false, .bit false, .bit false, .bit false, .call [] (E9 r2) [], .bit false, .bit false, .bit false, .bit false, .bit false, .call [] (E4 r3) [], .bit false, .bit false, .bit false, .bit false, .bit false, .call [] (E4 r4) [], .bit false, .bit false, .bit false, .bit false, .bit false, .bit false, .bit false, .bit true, .wait 1, .mask [2], .ren []] (p := [Fn Tryd.prog 72 [(false, E3 o.Op)] (E4 r1) [],
             (true || ((E4 r1).nv && nvL [])) = true,
             (!r1) = false,
             (!r1) = false,
             (!r1) = false,
             (!r1) = false,
             (!r1) = false,
             Fn Tryd.prog 73 [(false, E3 o.Op)] (E9 r2) [],
             (true || ((E9 r2).nv && nvL [])) = true,
             (!r1) = false,
             (!r1) = false,
             (!(o.Mti == r2)) = false,
             (!(o.Mti == r2)) = false,
             (!(o.Mti == r2)) = false,
             Fn Tryd.prog 74 [(false, E9 o.Acct)] (E4 r3) [],
             (true || ((E4 r3).nv && nvL [])) = true,
             (!(o.Mti == r2)) = false,
             (!(o.Mti == r2)) = false,
             (!r3) = false,
             (!r3) = false,
             (!r3) = false,
             Fn Tryd.prog 75 [(false, E9 o.Trace)] (E4 r4) [],
             (true || ((E4 r4).nv && nvL [])) = true,
             (!r3) = false,
             (!r3) = false,
             (!r4) = false,
             (!r4) = false,
             (!r4) = false,
             (!r4) = false,
             (!r4) = false,
             ((o.Trace.size : Int) != 6) = true]) (by kernel_rfl) (cj (spec_l11Op_ok o.Op r1 h1) (cj rfl (cj (nf h2) (cj (nf h2) (cj (nf h2) (cj (nf h2) (cj (nf h2) (cj (spec_OpMti_ok o.Op r2 h3) (cj rfl (cj (nf h2) (cj (nf h2) (cj (nf h4) (cj (nf h4) (cj (nf h4) (cj (spec_AcctIdOk_ok o.Acct r3 h5) (cj rfl (cj (nf h4) (cj (nf h4) (cj (nf h6) (cj (nf h6) (cj (nf h6) (cj (spec_Digits_ok o.Trace r4 h7) (cj rfl (cj (nf h6) (cj (nf h6) (cj (nf h8) (cj (nf h8) (cj (nf h8) (cj (nf h8) (cj (nf h8) (cj1 h9))))))))))))))))))))))))))))))))) (fun h9 =>
            Pn.some (JnO.of [.draw [], .call [] (E4 r1) [], .bit false, .bit false, .bit false, .bit false, .bit false, .call [] (E9 r2) [], .bit false, .bit false, .bit false, .bit false, .bit false, .call [] (E4 r3) [], .bit false, .bit false, .bit false, .bit false, .bit false, .call [] (E4 r4) [], .bit false, .bit false, .bit false, .bit false, .bit false, .bit false, .bit false, .bit false, .mask [1], .ren [0]] (p := [Fn Tryd.prog 72 [(false, E3 o.Op)] (E4 r1) [],
             (true || ((E4 r1).nv && nvL [])) = true,
             (!r1) = false,
             (!r1) = false,
             (!r1) = false,
             (!r1) = false,
             (!r1) = false,
             Fn Tryd.prog 73 [(false, E3 o.Op)] (E9 r2) [],
             (true || ((E9 r2).nv && nvL [])) = true,
             (!r1) = false,
             (!r1) = false,
             (!(o.Mti == r2)) = false,
             (!(o.Mti == r2)) = false,
             (!(o.Mti == r2)) = false,
             Fn Tryd.prog 74 [(false, E9 o.Acct)] (E4 r3) [],
             (true || ((E4 r3).nv && nvL [])) = true,
             (!(o.Mti == r2)) = false,
             (!(o.Mti == r2)) = false,
             (!r3) = false,
             (!r3) = false,
             (!r3) = false,
             Fn Tryd.prog 75 [(false, E9 o.Trace)] (E4 r4) [],
             (true || ((E4 r4).nv && nvL [])) = true,
             (!r3) = false,
             (!r3) = false,
             (!r4) = false,
             (!r4) = false,
             (!r4) = false,
             (!r4) = false,
             (!r4) = false,
             ((o.Trace.size : Int) != 6) = false]) (by kernel_rfl) (cj (spec_l11Op_ok o.Op r1 h1) (cj rfl (cj (nf h2) (cj (nf h2) (cj (nf h2) (cj (nf h2) (cj (nf h2) (cj (spec_OpMti_ok o.Op r2 h3) (cj rfl (cj (nf h2) (cj (nf h2) (cj (nf h4) (cj (nf h4) (cj (nf h4) (cj (spec_AcctIdOk_ok o.Acct r3 h5) (cj rfl (cj (nf h4) (cj (nf h4) (cj (nf h6) (cj (nf h6) (cj (nf h6) (cj (spec_Digits_ok o.Trace r4 h7) (cj rfl (cj (nf h6) (cj (nf h6) (cj (nf h8) (cj (nf h8) (cj (nf h8) (cj (nf h8) (cj (nf h8) (cj1 h9)))))))))))))))))))))))))))))))))) (fun h8 =>
           Pn.some (JnO.of [.draw [], .call [] (E4 r1) [], .bit false, .bit false, .bit false, .bit false, .bit false, .call [] (E9 r2) [], .bit false, .bit false, .bit false, .bit false, .bit false, .call [] (E4 r3) [], .bit false, .bit false, .bit false, .bit false, .bit false, .call [] (E4 r4) [], .bit false, .bit false, .bit true, .bit true, .bit true, .bit true, .bit true, .bit true, .wait 1, .mask [2], .ren []] (p := [Fn Tryd.prog 72 [(false, E3 o.Op)] (E4 r1) [],
            (true || ((E4 r1).nv && nvL [])) = true,
            (!r1) = false,
            (!r1) = false,
            (!r1) = false,
            (!r1) = false,
            (!r1) = false,
            Fn Tryd.prog 73 [(false, E3 o.Op)] (E9 r2) [],
            (true || ((E9 r2).nv && nvL [])) = true,
            (!r1) = false,
            (!r1) = false,
            (!(o.Mti == r2)) = false,
            (!(o.Mti == r2)) = false,
            (!(o.Mti == r2)) = false,
            Fn Tryd.prog 74 [(false, E9 o.Acct)] (E4 r3) [],
            (true || ((E4 r3).nv && nvL [])) = true,
            (!(o.Mti == r2)) = false,
            (!(o.Mti == r2)) = false,
            (!r3) = false,
            (!r3) = false,
            (!r3) = false,
            Fn Tryd.prog 75 [(false, E9 o.Trace)] (E4 r4) [],
            (true || ((E4 r4).nv && nvL [])) = true,
            (!r3) = false,
            (!r3) = false,
            (!r4) = true,
            (!r4) = true,
            (!r4) = true,
            (!r4) = true,
            (!r4) = true,
            true = true]) (by kernel_rfl) (cj (spec_l11Op_ok o.Op r1 h1) (cj rfl (cj (nf h2) (cj (nf h2) (cj (nf h2) (cj (nf h2) (cj (nf h2) (cj (spec_OpMti_ok o.Op r2 h3) (cj rfl (cj (nf h2) (cj (nf h2) (cj (nf h4) (cj (nf h4) (cj (nf h4) (cj (spec_AcctIdOk_ok o.Acct r3 h5) (cj rfl (cj (nf h4) (cj (nf h4) (cj (nf h6) (cj (nf h6) (cj (nf h6) (cj (spec_Digits_ok o.Trace r4 h7) (cj rfl (cj (nf h6) (cj (nf h6) (cj (nt h8) (cj (nt h8) (cj (nt h8) (cj (nt h8) (cj (nt h8) (cj1 rfl))))))))))))))))))))))))))))))))))) (fun h6 =>
         Pn.some (JnO.of [.draw [], .call [] (E4 r1) [], .bit false, .bit false, .bit false, .bit false, .bit false, .call [] (E9 r2) [], .bit false, .bit false, .bit false, .bit false, .bit false, .call [] (E4 r3) [], .bit false, .bit false, .bit true, .bit true, .bit true, .bit true, .bit true, .bit true, .bit true, .bit true, .bit true, .bit true, .bit true, .wait 1, .mask [2], .ren []] (p := [Fn Tryd.prog 72 [(false, E3 o.Op)] (E4 r1) [],
          (true || ((E4 r1).nv && nvL [])) = true,
          (!r1) = false,
          (!r1) = false,
          (!r1) = false,
          (!r1) = false,
          (!r1) = false,
          Fn Tryd.prog 73 [(false, E3 o.Op)] (E9 r2) [],
          (true || ((E9 r2).nv && nvL [])) = true,
          (!r1) = false,
          (!r1) = false,
          (!(o.Mti == r2)) = false,
          (!(o.Mti == r2)) = false,
          (!(o.Mti == r2)) = false,
          Fn Tryd.prog 74 [(false, E9 o.Acct)] (E4 r3) [],
          (true || ((E4 r3).nv && nvL [])) = true,
          (!(o.Mti == r2)) = false,
          (!(o.Mti == r2)) = false,
          (!r3) = true,
          (!r3) = true,
          (!r3) = true,
          (!r3) = true,
          (!r3) = true,
          true = true,
          true = true,
          true = true,
          true = true,
          true = true,
          true = true]) (by kernel_rfl) (cj (spec_l11Op_ok o.Op r1 h1) (cj rfl (cj (nf h2) (cj (nf h2) (cj (nf h2) (cj (nf h2) (cj (nf h2) (cj (spec_OpMti_ok o.Op r2 h3) (cj rfl (cj (nf h2) (cj (nf h2) (cj (nf h4) (cj (nf h4) (cj (nf h4) (cj (spec_AcctIdOk_ok o.Acct r3 h5) (cj rfl (cj (nf h4) (cj (nf h4) (cj (nt h6) (cj (nt h6) (cj (nt h6) (cj (nt h6) (cj (nt h6) (cj rfl (cj rfl (cj rfl (cj rfl (cj rfl (cj1 rfl))))))))))))))))))))))))))))))))) (fun h4 =>
       Pn.some (JnO.of [.draw [], .call [] (E4 r1) [], .bit false, .bit false, .bit false, .bit false, .bit false, .call [] (E9 r2) [], .bit false, .bit false, .bit true, .bit true, .bit true, .bit true, .bit true, .bit true, .bit true, .bit true, .bit true, .bit true, .bit true, .bit true, .bit true, .bit true, .bit true, .bit true, .wait 1, .mask [2], .ren []] (p := [Fn Tryd.prog 72 [(false, E3 o.Op)] (E4 r1) [],
        (true || ((E4 r1).nv && nvL [])) = true,
        (!r1) = false,
        (!r1) = false,
        (!r1) = false,
        (!r1) = false,
        (!r1) = false,
        Fn Tryd.prog 73 [(false, E3 o.Op)] (E9 r2) [],
        (true || ((E9 r2).nv && nvL [])) = true,
        (!r1) = false,
        (!r1) = false,
        (!(o.Mti == r2)) = true,
        (!(o.Mti == r2)) = true,
        (!(o.Mti == r2)) = true,
        (!(o.Mti == r2)) = true,
        (!(o.Mti == r2)) = true,
        true = true,
        true = true,
        true = true,
        true = true,
        true = true,
        true = true,
        true = true,
        true = true,
        true = true,
        true = true,
        true = true]) (by kernel_rfl) (cj (spec_l11Op_ok o.Op r1 h1) (cj rfl (cj (nf h2) (cj (nf h2) (cj (nf h2) (cj (nf h2) (cj (nf h2) (cj (spec_OpMti_ok o.Op r2 h3) (cj rfl (cj (nf h2) (cj (nf h2) (cj (nt h4) (cj (nt h4) (cj (nt h4) (cj (nt h4) (cj (nt h4) (cj rfl (cj rfl (cj rfl (cj rfl (cj rfl (cj rfl (cj rfl (cj rfl (cj rfl (cj rfl (cj1 rfl))))))))))))))))))))))))))))))) (fun h2 =>
     Pn.some (JnO.of [.draw [], .call [] (E4 r1) [], .bit true, .bit true, .bit true, .bit true, .bit true, .bit true, .bit true, .bit true, .bit true, .bit true, .bit true, .bit true, .bit true, .bit true, .bit true, .bit true, .bit true, .bit true, .bit true, .bit true, .bit true, .bit true, .bit true, .wait 1, .mask [2], .ren []] (p := [Fn Tryd.prog 72 [(false, E3 o.Op)] (E4 r1) [],
      (true || ((E4 r1).nv && nvL [])) = true,
      (!r1) = true,
      (!r1) = true,
      (!r1) = true,
      (!r1) = true,
      (!r1) = true,
      (!r1) = true,
      (!r1) = true,
      true = true,
      true = true,
      true = true,
      true = true,
      true = true,
      true = true,
      true = true,
      true = true,
      true = true,
      true = true,
      true = true,
      true = true,
      true = true,
      true = true,
      true = true,
      true = true]) (by kernel_rfl) (cj (spec_l11Op_ok o.Op r1 h1) (cj rfl (cj (nt h2) (cj (nt h2) (cj (nt h2) (cj (nt h2) (cj (nt h2) (cj (nt h2) (cj (nt h2) (cj rfl (cj rfl (cj rfl (cj rfl (cj rfl (cj rfl (cj rfl (cj rfl (cj rfl (cj rfl (cj rfl (cj rfl (cj rfl (cj rfl (cj rfl (cj1 rfl))))))))))))))))))))))))))))
def spec_ReqOk_c1 (o : Req) : Option (Lo Unit Unit) :=
 (spec_l11Hold o.Op).bind fun r6 =>
 if r6 = true then
  (spec_HoldIdOk o.Hold).bind fun r7 =>
  if r7 = true then
   (spec_l11Hold o.Op).bind fun r8 =>
   if r8 = true then
    some (.out ())
   else
    if (o.Hold == (bs [])) = true then
     some (.out ())
    else
     some (.ret ())
  else
   some (.ret ())
 else
  (spec_l11Hold o.Op).bind fun r9 =>
  if r9 = true then
   some (.out ())
  else
   if (o.Hold == (bs [])) = true then
    some (.out ())
   else
    some (.ret ())
theorem spec_ReqOk_c1_ok (o : Req) : Pn (JnO Tryd.prog (sub (codeOf Tryd.prog 32) [1, 1, 0]) (st 110 [(1, V.ptr 0 0)] [Blk.box 26 [V.sc (.int .i64 o.Op), V.sc (.string o.Acct), V.sc (.string o.Other), V.sc (.string o.Hold), V.sc (.string o.Trace), V.sc (.string o.Mti), V.sc (.int .i64 o.Amount), V.sc (.int .i64 o.Ttl)]] []) (fun (y : Lo Unit Unit) => Lo.elim y (fun s => (X.go, st 110 [(1, V.ptr 0 0)] [Blk.box 26 [V.sc (.int .i64 o.Op), V.sc (.string o.Acct), V.sc (.string o.Other), V.sc (.string o.Hold), V.sc (.string o.Trace), V.sc (.string o.Mti), V.sc (.int .i64 o.Amount), V.sc (.int .i64 o.Ttl)]] [])) (fun s => (X.ret, st 110 [(2, V.sc (.bool false))] [] [])))) (spec_ReqOk_c1 o) := by
  unfold spec_ReqOk_c1
  exact
   Pn.bind (fun r6 h13 =>
    Pn.ite (fun h14 =>
     Pn.bind (fun r7 h15 =>
      Pn.ite (fun h16 =>
       Pn.bind (fun r8 h17 =>
        Pn.ite (fun h18 =>
         Pn.some (JnO.of [.call [] (E4 r6) [], .bit true, .bit true, .bit true, .call [] (E4 r7) [], .bit true, .bit true, .bit false, .bit false, .bit false, .call [] (E4 r8) [], .bit false, .bit false, .bit false, .bit false, .bit false, .bit false, .bit false, .bit false, .bit false, .mask [1], .ren [0]] (p := [Fn Tryd.prog 34 [(false, E3 o.Op)] (E4 r6) [],
          (true || ((E4 r6).nv && nvL [])) = true,
          r6 = true,
          r6 = true,
          r6 = true,
          Fn Tryd.prog 76 [(false, E9 o.Hold)] (E4 r7) [],
          (true || ((E4 r7).nv && nvL [])) = true,
          r6 = true,
          r6 = true,
          (!r7) = false,
          (!r7) = false,
          (!r7) = false,
          Fn Tryd.prog 34 [(false, E3 o.Op)] (E4 r8) [],
          (true || ((E4 r8).nv && nvL [])) = true,
          (!r7) = false,
          (!r7) = false,
          (!r8) = false,
          (!r8) = false,
          (!r8) = false,
          (!r7) = false,
          (!r8) = false,
          (!r7) = false,
          false = false]) (by kernel_rfl) (cj (spec_l11Hold_ok o.Op r6 h13) (cj rfl (cj h14 (cj h14 (cj h14 (cj (spec_HoldIdOk_ok o.Hold r7 h15) (cj rfl (cj h14 (cj h14 (cj (nf h16) (cj (nf h16) (cj (nf h16) (cj (spec_l11Hold_ok o.Op r8 h17) (cj rfl (cj (nf h16) (cj (nf h16) (cj (nf h18) (cj (nf h18) (cj (nf h18) (cj (nf h16) (cj (nf h18) (cj (nf h16) (cj1 rfl))))))))))))))))))))))))) (fun h18 =>
         Pn.ite (fun h19 =>
          Pn.some (JnO.of [.call [] (E4 r6) [], .bit true, .bit true, .bit true, .call [] (E4 r7) [], .bit true, .bit true, .bit false, .bit false, .bit false, .call [] (E4 r8) [], .bit false, .bit false, .bit true, .bit true, .bit true, .bit false, .bit true, .bit false, .bit false, .mask [1], .ren [0]] (p := [Fn Tryd.prog 34 [(false, E3 o.Op)] (E4 r6) [],
           (true || ((E4 r6).nv && nvL [])) = true,
           r6 = true,
           r6 = true,
           r6 = true,
           Fn Tryd.prog 76 [(false, E9 o.Hold)] (E4 r7) [],
           (true || ((E4 r7).nv && nvL [])) = true,
           r6 = true,
           r6 = true,
           (!r7) = false,
           (!r7) = false,
           (!r7) = false,
           Fn Tryd.prog 34 [(false, E3 o.Op)] (E4 r8) [],
           (true || ((E4 r8).nv && nvL [])) = true,
           (!r7) = false,
           (!r7) = false,
           (!r8) = true,
           (!r8) = true,
           (!r8) = true,
           (!r7) = false,
           (!r8) = true,
           (!r7) = false,
           (!(o.Hold == (bs []))) = false]) (by kernel_rfl) (cj (spec_l11Hold_ok o.Op r6 h13) (cj rfl (cj h14 (cj h14 (cj h14 (cj (spec_HoldIdOk_ok o.Hold r7 h15) (cj rfl (cj h14 (cj h14 (cj (nf h16) (cj (nf h16) (cj (nf h16) (cj (spec_l11Hold_ok o.Op r8 h17) (cj rfl (cj (nf h16) (cj (nf h16) (cj (nt h18) (cj (nt h18) (cj (nt h18) (cj (nf h16) (cj (nt h18) (cj (nf h16) (cj1 (nf h19)))))))))))))))))))))))))) (fun h19 =>
          Pn.some (JnO.of [.call [] (E4 r6) [], .bit true, .bit true, .bit true, .call [] (E4 r7) [], .bit true, .bit true, .bit false, .bit false, .bit false, .call [] (E4 r8) [], .bit false, .bit false, .bit true, .bit true, .bit true, .bit false, .bit true, .bit false, .bit true, .wait 1, .mask [2], .ren []] (p := [Fn Tryd.prog 34 [(false, E3 o.Op)] (E4 r6) [],
           (true || ((E4 r6).nv && nvL [])) = true,
           r6 = true,
           r6 = true,
           r6 = true,
           Fn Tryd.prog 76 [(false, E9 o.Hold)] (E4 r7) [],
           (true || ((E4 r7).nv && nvL [])) = true,
           r6 = true,
           r6 = true,
           (!r7) = false,
           (!r7) = false,
           (!r7) = false,
           Fn Tryd.prog 34 [(false, E3 o.Op)] (E4 r8) [],
           (true || ((E4 r8).nv && nvL [])) = true,
           (!r7) = false,
           (!r7) = false,
           (!r8) = true,
           (!r8) = true,
           (!r8) = true,
           (!r7) = false,
           (!r8) = true,
           (!r7) = false,
           (!(o.Hold == (bs []))) = true]) (by kernel_rfl) (cj (spec_l11Hold_ok o.Op r6 h13) (cj rfl (cj h14 (cj h14 (cj h14 (cj (spec_HoldIdOk_ok o.Hold r7 h15) (cj rfl (cj h14 (cj h14 (cj (nf h16) (cj (nf h16) (cj (nf h16) (cj (spec_l11Hold_ok o.Op r8 h17) (cj rfl (cj (nf h16) (cj (nf h16) (cj (nt h18) (cj (nt h18) (cj (nt h18) (cj (nf h16) (cj (nt h18) (cj (nf h16) (cj1 (nt h19))))))))))))))))))))))))))))) (fun h16 =>
       Pn.some (JnO.of [.call [] (E4 r6) [], .bit true, .bit true, .bit true, .call [] (E4 r7) [], .bit true, .bit true, .bit true, .bit true, .bit true, .bit true, .bit true, .bit true, .bit true, .bit true, .wait 1, .mask [2], .ren []] (p := [Fn Tryd.prog 34 [(false, E3 o.Op)] (E4 r6) [],
        (true || ((E4 r6).nv && nvL [])) = true,
        r6 = true,
        r6 = true,
        r6 = true,
        Fn Tryd.prog 76 [(false, E9 o.Hold)] (E4 r7) [],
        (true || ((E4 r7).nv && nvL [])) = true,
        r6 = true,
        r6 = true,
        (!r7) = true,
        (!r7) = true,
        (!r7) = true,
        (!r7) = true,
        (!r7) = true,
        (!r7) = true,
        (!r7) = true,
        true = true]) (by kernel_rfl) (cj (spec_l11Hold_ok o.Op r6 h13) (cj rfl (cj h14 (cj h14 (cj h14 (cj (spec_HoldIdOk_ok o.Hold r7 h15) (cj rfl (cj h14 (cj h14 (cj (nt h16) (cj (nt h16) (cj (nt h16) (cj (nt h16) (cj (nt h16) (cj (nt h16) (cj (nt h16) (cj1 rfl))))))))))))))))))))) (fun h14 =>
     Pn.bind (fun r9 h20 =>
      Pn.ite (fun h21 =>
       Pn.some (JnO.of [.call [] (E4 r6) [], .bit false, .bit false, .bit false, .bit false, .bit false, .bit false, .bit false, .bit false, .call [] (E4 r9) [], .bit false, .bit false, .bit false, .bit false, .bit false, .bit false, .bit false, .bit false, .bit false, .mask [1], .ren [0]] (p := [Fn Tryd.prog 34 [(false, E3 o.Op)] (E4 r6) [],
        (true || ((E4 r6).nv && nvL [])) = true,
        r6 = false,
        r6 = false,
        r6 = false,
        r6 = false,
        r6 = false,
        false = false,
        false = false,
        false = false,
        Fn Tryd.prog 34 [(false, E3 o.Op)] (E4 r9) [],
        (true || ((E4 r9).nv && nvL [])) = true,
        false = false,
        false = false,
        (!r9) = false,
        (!r9) = false,
        (!r9) = false,
        false = false,
        (!r9) = false,
        false = false,
        false = false]) (by kernel_rfl) (cj (spec_l11Hold_ok o.Op r6 h13) (cj rfl (cj h14 (cj h14 (cj h14 (cj h14 (cj h14 (cj rfl (cj rfl (cj rfl (cj (spec_l11Hold_ok o.Op r9 h20) (cj rfl (cj rfl (cj rfl (cj (nf h21) (cj (nf h21) (cj (nf h21) (cj rfl (cj (nf h21) (cj rfl (cj1 rfl))))))))))))))))))))))) (fun h21 =>
       Pn.ite (fun h22 =>
        Pn.some (JnO.of [.call [] (E4 r6) [], .bit false, .bit false, .bit false, .bit false, .bit false, .bit false, .bit false, .bit false, .call [] (E4 r9) [], .bit false, .bit false, .bit true, .bit true, .bit true, .bit false, .bit true, .bit false, .bit false, .mask [1], .ren [0]] (p := [Fn Tryd.prog 34 [(false, E3 o.Op)] (E4 r6) [],
         (true || ((E4 r6).nv && nvL [])) = true,
         r6 = false,
         r6 = false,
         r6 = false,
         r6 = false,
         r6 = false,
         false = false,
         false = false,
         false = false,
         Fn Tryd.prog 34 [(false, E3 o.Op)] (E4 r9) [],
         (true || ((E4 r9).nv && nvL [])) = true,
         false = false,
         false = false,
         (!r9) = true,
         (!r9) = true,
         (!r9) = true,
         false = false,
         (!r9) = true,
         false = false,
         (!(o.Hold == (bs []))) = false]) (by kernel_rfl) (cj (spec_l11Hold_ok o.Op r6 h13) (cj rfl (cj h14 (cj h14 (cj h14 (cj h14 (cj h14 (cj rfl (cj rfl (cj rfl (cj (spec_l11Hold_ok o.Op r9 h20) (cj rfl (cj rfl (cj rfl (cj (nt h21) (cj (nt h21) (cj (nt h21) (cj rfl (cj (nt h21) (cj rfl (cj1 (nf h22)))))))))))))))))))))))) (fun h22 =>
        Pn.some (JnO.of [.call [] (E4 r6) [], .bit false, .bit false, .bit false, .bit false, .bit false, .bit false, .bit false, .bit false, .call [] (E4 r9) [], .bit false, .bit false, .bit true, .bit true, .bit true, .bit false, .bit true, .bit false, .bit true, .wait 1, .mask [2], .ren []] (p := [Fn Tryd.prog 34 [(false, E3 o.Op)] (E4 r6) [],
         (true || ((E4 r6).nv && nvL [])) = true,
         r6 = false,
         r6 = false,
         r6 = false,
         r6 = false,
         r6 = false,
         false = false,
         false = false,
         false = false,
         Fn Tryd.prog 34 [(false, E3 o.Op)] (E4 r9) [],
         (true || ((E4 r9).nv && nvL [])) = true,
         false = false,
         false = false,
         (!r9) = true,
         (!r9) = true,
         (!r9) = true,
         false = false,
         (!r9) = true,
         false = false,
         (!(o.Hold == (bs []))) = true]) (by kernel_rfl) (cj (spec_l11Hold_ok o.Op r6 h13) (cj rfl (cj h14 (cj h14 (cj h14 (cj h14 (cj h14 (cj rfl (cj rfl (cj rfl (cj (spec_l11Hold_ok o.Op r9 h20) (cj rfl (cj rfl (cj rfl (cj (nt h21) (cj (nt h21) (cj (nt h21) (cj rfl (cj (nt h21) (cj rfl (cj1 (nt h22))))))))))))))))))))))))))))
def spec_ReqOk_c2 (o : Req) : Option (Lo Unit Unit) :=
 (spec_l11Amount o.Op).bind fun r11 =>
 if r11 = true then
  (spec_l01In o.Amount 0 999999999999).bind fun r12 =>
  if r12 = true then
   (spec_l11Amount o.Op).bind fun r13 =>
   if r13 = true then
    some (.out ())
   else
    if (o.Amount != 0) = true then
     some (.ret ())
    else
     some (.out ())
  else
   some (.ret ())
 else
  (spec_l11Amount o.Op).bind fun r14 =>
  if r14 = true then
   some (.out ())
  else
   if (o.Amount != 0) = true then
    some (.ret ())
   else
    some (.out ())
theorem spec_ReqOk_c2_ok (o : Req) : Pn (JnO Tryd.prog (sub (codeOf Tryd.prog 32) [1, 1, 1, 0]) (st 110 [(1, V.ptr 0 0)] [Blk.box 26 [V.sc (.int .i64 o.Op), V.sc (.string o.Acct), V.sc (.string o.Other), V.sc (.string o.Hold), V.sc (.string o.Trace), V.sc (.string o.Mti), V.sc (.int .i64 o.Amount), V.sc (.int .i64 o.Ttl)]] []) (fun (y : Lo Unit Unit) => Lo.elim y (fun s => (X.go, st 110 [(1, V.ptr 0 0)] [Blk.box 26 [V.sc (.int .i64 o.Op), V.sc (.string o.Acct), V.sc (.string o.Other), V.sc (.string o.Hold), V.sc (.string o.Trace), V.sc (.string o.Mti), V.sc (.int .i64 o.Amount), V.sc (.int .i64 o.Ttl)]] [])) (fun s => (X.ret, st 110 [(2, V.sc (.bool false))] [] [])))) (spec_ReqOk_c2 o) := by
  unfold spec_ReqOk_c2
  exact
   Pn.bind (fun r11 h26 =>
    Pn.ite (fun h27 =>
     Pn.bind (fun r12 h28 =>
      Pn.ite (fun h29 =>
       Pn.bind (fun r13 h30 =>
        Pn.ite (fun h31 =>
         Pn.some (JnO.of [.call [] (E4 r11) [], .bit true, .bit true, .bit true, .call [] (E4 r12) [], .bit true, .bit true, .bit false, .bit false, .bit false, .call [] (E4 r13) [], .bit false, .bit false, .bit false, .bit false, .bit false, .bit false, .bit false, .bit false, .bit false, .mask [1], .ren [0]] (p := [Fn Tryd.prog 35 [(false, E3 o.Op)] (E4 r11) [],
          (true || ((E4 r11).nv && nvL [])) = true,
          r11 = true,
          r11 = true,
          r11 = true,
          Fn Tryd.prog 77 [(false, E3 o.Amount), (false, E3 0), (false, E3 999999999999)] (E4 r12) [],
          (true || ((E4 r12).nv && nvL [])) = true,
          r11 = true,
          r11 = true,
          (!r12) = false,
          (!r12) = false,
          (!r12) = false,
          Fn Tryd.prog 35 [(false, E3 o.Op)] (E4 r13) [],
          (true || ((E4 r13).nv && nvL [])) = true,
          (!r12) = false,
          (!r12) = false,
          (!r13) = false,
          (!r13) = false,
          (!r13) = false,
          (!r12) = false,
          (!r13) = false,
          (!r12) = false,
          false = false]) (by kernel_rfl) (cj (spec_l11Amount_ok o.Op r11 h26) (cj rfl (cj h27 (cj h27 (cj h27 (cj (spec_l01In_ok o.Amount 0 999999999999 r12 h28) (cj rfl (cj h27 (cj h27 (cj (nf h29) (cj (nf h29) (cj (nf h29) (cj (spec_l11Amount_ok o.Op r13 h30) (cj rfl (cj (nf h29) (cj (nf h29) (cj (nf h31) (cj (nf h31) (cj (nf h31) (cj (nf h29) (cj (nf h31) (cj (nf h29) (cj1 rfl))))))))))))))))))))))))) (fun h31 =>
         Pn.ite (fun h32 =>
          Pn.some (JnO.of [.call [] (E4 r11) [], .bit true, .bit true, .bit true, .call [] (E4 r12) [], .bit true, .bit true, .bit false, .bit false, .bit false, .call [] (E4 r13) [], .bit false, .bit false, .bit true, .bit true, .bit true, .bit false, .bit true, .bit false, .bit true, .wait 1, .mask [2], .ren []] (p := [Fn Tryd.prog 35 [(false, E3 o.Op)] (E4 r11) [],
           (true || ((E4 r11).nv && nvL [])) = true,
           r11 = true,
           r11 = true,
           r11 = true,
           Fn Tryd.prog 77 [(false, E3 o.Amount), (false, E3 0), (false, E3 999999999999)] (E4 r12) [],
           (true || ((E4 r12).nv && nvL [])) = true,
           r11 = true,
           r11 = true,
           (!r12) = false,
           (!r12) = false,
           (!r12) = false,
           Fn Tryd.prog 35 [(false, E3 o.Op)] (E4 r13) [],
           (true || ((E4 r13).nv && nvL [])) = true,
           (!r12) = false,
           (!r12) = false,
           (!r13) = true,
           (!r13) = true,
           (!r13) = true,
           (!r12) = false,
           (!r13) = true,
           (!r12) = false,
           (o.Amount != 0) = true]) (by kernel_rfl) (cj (spec_l11Amount_ok o.Op r11 h26) (cj rfl (cj h27 (cj h27 (cj h27 (cj (spec_l01In_ok o.Amount 0 999999999999 r12 h28) (cj rfl (cj h27 (cj h27 (cj (nf h29) (cj (nf h29) (cj (nf h29) (cj (spec_l11Amount_ok o.Op r13 h30) (cj rfl (cj (nf h29) (cj (nf h29) (cj (nt h31) (cj (nt h31) (cj (nt h31) (cj (nf h29) (cj (nt h31) (cj (nf h29) (cj1 h32))))))))))))))))))))))))) (fun h32 =>
          Pn.some (JnO.of [.call [] (E4 r11) [], .bit true, .bit true, .bit true, .call [] (E4 r12) [], .bit true, .bit true, .bit false, .bit false, .bit false, .call [] (E4 r13) [], .bit false, .bit false, .bit true, .bit true, .bit true, .bit false, .bit true, .bit false, .bit false, .mask [1], .ren [0]] (p := [Fn Tryd.prog 35 [(false, E3 o.Op)] (E4 r11) [],
           (true || ((E4 r11).nv && nvL [])) = true,
           r11 = true,
           r11 = true,
           r11 = true,
           Fn Tryd.prog 77 [(false, E3 o.Amount), (false, E3 0), (false, E3 999999999999)] (E4 r12) [],
           (true || ((E4 r12).nv && nvL [])) = true,
           r11 = true,
           r11 = true,
           (!r12) = false,
           (!r12) = false,
           (!r12) = false,
           Fn Tryd.prog 35 [(false, E3 o.Op)] (E4 r13) [],
           (true || ((E4 r13).nv && nvL [])) = true,
           (!r12) = false,
           (!r12) = false,
           (!r13) = true,
           (!r13) = true,
           (!r13) = true,
           (!r12) = false,
           (!r13) = true,
           (!r12) = false,
           (o.Amount != 0) = false]) (by kernel_rfl) (cj (spec_l11Amount_ok o.Op r11 h26) (cj rfl (cj h27 (cj h27 (cj h27 (cj (spec_l01In_ok o.Amount 0 999999999999 r12 h28) (cj rfl (cj h27 (cj h27 (cj (nf h29) (cj (nf h29) (cj (nf h29) (cj (spec_l11Amount_ok o.Op r13 h30) (cj rfl (cj (nf h29) (cj (nf h29) (cj (nt h31) (cj (nt h31) (cj (nt h31) (cj (nf h29) (cj (nt h31) (cj (nf h29) (cj1 h32)))))))))))))))))))))))))))) (fun h29 =>
       Pn.some (JnO.of [.call [] (E4 r11) [], .bit true, .bit true, .bit true, .call [] (E4 r12) [], .bit true, .bit true, .bit true, .bit true, .bit true, .bit true, .bit true, .bit true, .bit true, .bit true, .wait 1, .mask [2], .ren []] (p := [Fn Tryd.prog 35 [(false, E3 o.Op)] (E4 r11) [],
        (true || ((E4 r11).nv && nvL [])) = true,
        r11 = true,
        r11 = true,
        r11 = true,
        Fn Tryd.prog 77 [(false, E3 o.Amount), (false, E3 0), (false, E3 999999999999)] (E4 r12) [],
        (true || ((E4 r12).nv && nvL [])) = true,
        r11 = true,
        r11 = true,
        (!r12) = true,
        (!r12) = true,
        (!r12) = true,
        (!r12) = true,
        (!r12) = true,
        (!r12) = true,
        (!r12) = true,
        true = true]) (by kernel_rfl) (cj (spec_l11Amount_ok o.Op r11 h26) (cj rfl (cj h27 (cj h27 (cj h27 (cj (spec_l01In_ok o.Amount 0 999999999999 r12 h28) (cj rfl (cj h27 (cj h27 (cj (nt h29) (cj (nt h29) (cj (nt h29) (cj (nt h29) (cj (nt h29) (cj (nt h29) (cj (nt h29) (cj1 rfl))))))))))))))))))))) (fun h27 =>
     Pn.bind (fun r14 h33 =>
      Pn.ite (fun h34 =>
       Pn.some (JnO.of [.call [] (E4 r11) [], .bit false, .bit false, .bit false, .bit false, .bit false, .bit false, .bit false, .bit false, .call [] (E4 r14) [], .bit false, .bit false, .bit false, .bit false, .bit false, .bit false, .bit false, .bit false, .bit false, .mask [1], .ren [0]] (p := [Fn Tryd.prog 35 [(false, E3 o.Op)] (E4 r11) [],
        (true || ((E4 r11).nv && nvL [])) = true,
        r11 = false,
        r11 = false,
        r11 = false,
        r11 = false,
        r11 = false,
        false = false,
        false = false,
        false = false,
        Fn Tryd.prog 35 [(false, E3 o.Op)] (E4 r14) [],
        (true || ((E4 r14).nv && nvL [])) = true,
        false = false,
        false = false,
        (!r14) = false,
        (!r14) = false,
        (!r14) = false,
        false = false,
        (!r14) = false,
        false = false,
        false = false]) (by kernel_rfl) (cj (spec_l11Amount_ok o.Op r11 h26) (cj rfl (cj h27 (cj h27 (cj h27 (cj h27 (cj h27 (cj rfl (cj rfl (cj rfl (cj (spec_l11Amount_ok o.Op r14 h33) (cj rfl (cj rfl (cj rfl (cj (nf h34) (cj (nf h34) (cj (nf h34) (cj rfl (cj (nf h34) (cj rfl (cj1 rfl))))))))))))))))))))))) (fun h34 =>
       Pn.ite (fun h35 =>
        Pn.some (JnO.of [.call [] (E4 r11) [], .bit false, .bit false, .bit false, .bit false, .bit false, .bit false, .bit false, .bit false, .call [] (E4 r14) [], .bit false, .bit false, .bit true, .bit true, .bit true, .bit false, .bit true, .bit false, .bit true, .wait 1, .mask [2], .ren []] (p := [Fn Tryd.prog 35 [(false, E3 o.Op)] (E4 r11) [],
         (true || ((E4 r11).nv && nvL [])) = true,
         r11 = false,
         r11 = false,
         r11 = false,
         r11 = false,
         r11 = false,
         false = false,
         false = false,
         false = false,
         Fn Tryd.prog 35 [(false, E3 o.Op)] (E4 r14) [],
         (true || ((E4 r14).nv && nvL [])) = true,
         false = false,
         false = false,
         (!r14) = true,
         (!r14) = true,
         (!r14) = true,
         false = false,
         (!r14) = true,
         false = false,
         (o.Amount != 0) = true]) (by kernel_rfl) (cj (spec_l11Amount_ok o.Op r11 h26) (cj rfl (cj h27 (cj h27 (cj h27 (cj h27 (cj h27 (cj rfl (cj rfl (cj rfl (cj (spec_l11Amount_ok o.Op r14 h33) (cj rfl (cj rfl (cj rfl (cj (nt h34) (cj (nt h34) (cj (nt h34) (cj rfl (cj (nt h34) (cj rfl (cj1 h35))))))))))))))))))))))) (fun h35 =>
        Pn.some (JnO.of [.call [] (E4 r11) [], .bit false, .bit false, .bit false, .bit false, .bit false, .bit false, .bit false, .bit false, .call [] (E4 r14) [], .bit false, .bit false, .bit true, .bit true, .bit true, .bit false, .bit true, .bit false, .bit false, .mask [1], .ren [0]] (p := [Fn Tryd.prog 35 [(false, E3 o.Op)] (E4 r11) [],
         (true || ((E4 r11).nv && nvL [])) = true,
         r11 = false,
         r11 = false,
         r11 = false,
         r11 = false,
         r11 = false,
         false = false,
         false = false,
         false = false,
         Fn Tryd.prog 35 [(false, E3 o.Op)] (E4 r14) [],
         (true || ((E4 r14).nv && nvL [])) = true,
         false = false,
         false = false,
         (!r14) = true,
         (!r14) = true,
         (!r14) = true,
         false = false,
         (!r14) = true,
         false = false,
         (o.Amount != 0) = false]) (by kernel_rfl) (cj (spec_l11Amount_ok o.Op r11 h26) (cj rfl (cj h27 (cj h27 (cj h27 (cj h27 (cj h27 (cj rfl (cj rfl (cj rfl (cj (spec_l11Amount_ok o.Op r14 h33) (cj rfl (cj rfl (cj rfl (cj (nt h34) (cj (nt h34) (cj (nt h34) (cj rfl (cj (nt h34) (cj rfl (cj1 h35)))))))))))))))))))))))))))
def spec_ReqOk_c3 (o : Req) : Option (Lo Unit Unit) :=
 if (o.Op == 1) = true then
  (spec_l01In o.Ttl 0 9999).bind fun r16 =>
  if r16 = true then
   if (o.Op != 1) = true then
    if (o.Ttl != 0) = true then
     some (.ret ())
    else
     some (.out ())
   else
    some (.out ())
  else
   some (.ret ())
 else
  if (o.Op != 1) = true then
   if (o.Ttl != 0) = true then
    some (.ret ())
   else
    some (.out ())
  else
   some (.out ())
theorem spec_ReqOk_c3_ok (o : Req) : Pn (JnO Tryd.prog (sub (codeOf Tryd.prog 32) [1, 1, 1, 1, 0]) (st 110 [(1, V.ptr 0 0)] [Blk.box 26 [V.sc (.int .i64 o.Op), V.sc (.string o.Acct), V.sc (.string o.Other), V.sc (.string o.Hold), V.sc (.string o.Trace), V.sc (.string o.Mti), V.sc (.int .i64 o.Amount), V.sc (.int .i64 o.Ttl)]] []) (fun (y : Lo Unit Unit) => Lo.elim y (fun s => (X.go, st 110 [(1, V.ptr 0 0)] [Blk.box 26 [V.sc (.int .i64 o.Op), V.sc (.string o.Acct), V.sc (.string o.Other), V.sc (.string o.Hold), V.sc (.string o.Trace), V.sc (.string o.Mti), V.sc (.int .i64 o.Amount), V.sc (.int .i64 o.Ttl)]] [])) (fun s => (X.ret, st 110 [(2, V.sc (.bool false))] [] [])))) (spec_ReqOk_c3 o) := by
  unfold spec_ReqOk_c3
  exact
   Pn.ite (fun h39 =>
    Pn.bind (fun r16 h40 =>
     Pn.ite (fun h41 =>
      Pn.ite (fun h42 =>
       Pn.ite (fun h43 =>
        Pn.some (JnO.of [.bit true, .bit true, .bit true, .call [] (E4 r16) [], .bit true, .bit true, .bit false, .bit false, .bit false, .bit false, .bit true, .bit true, .bit true, .bit false, .bit true, .bit false, .bit true, .wait 1, .mask [2], .ren []] (p := [(o.Op == 1) = true,
         (o.Op == 1) = true,
         (o.Op == 1) = true,
         Fn Tryd.prog 77 [(false, E3 o.Ttl), (false, E3 0), (false, E3 9999)] (E4 r16) [],
         (true || ((E4 r16).nv && nvL [])) = true,
         (o.Op == 1) = true,
         (o.Op == 1) = true,
         (!r16) = false,
         (!r16) = false,
         (!r16) = false,
         (!r16) = false,
         (o.Op != 1) = true,
         (o.Op != 1) = true,
         (o.Op != 1) = true,
         (!r16) = false,
         (o.Op != 1) = true,
         (!r16) = false,
         (o.Ttl != 0) = true]) (by kernel_rfl) (cj h39 (cj h39 (cj h39 (cj (spec_l01In_ok o.Ttl 0 9999 r16 h40) (cj rfl (cj h39 (cj h39 (cj (nf h41) (cj (nf h41) (cj (nf h41) (cj (nf h41) (cj h42 (cj h42 (cj h42 (cj (nf h41) (cj h42 (cj (nf h41) (cj1 h43)))))))))))))))))))) (fun h43 =>
        Pn.some (JnO.of [.bit true, .bit true, .bit true, .call [] (E4 r16) [], .bit true, .bit true, .bit false, .bit false, .bit false, .bit false, .bit true, .bit true, .bit true, .bit false, .bit true, .bit false, .bit false, .mask [1], .ren [0]] (p := [(o.Op == 1) = true,
         (o.Op == 1) = true,
         (o.Op == 1) = true,
         Fn Tryd.prog 77 [(false, E3 o.Ttl), (false, E3 0), (false, E3 9999)] (E4 r16) [],
         (true || ((E4 r16).nv && nvL [])) = true,
         (o.Op == 1) = true,
         (o.Op == 1) = true,
         (!r16) = false,
         (!r16) = false,
         (!r16) = false,
         (!r16) = false,
         (o.Op != 1) = true,
         (o.Op != 1) = true,
         (o.Op != 1) = true,
         (!r16) = false,
         (o.Op != 1) = true,
         (!r16) = false,
         (o.Ttl != 0) = false]) (by kernel_rfl) (cj h39 (cj h39 (cj h39 (cj (spec_l01In_ok o.Ttl 0 9999 r16 h40) (cj rfl (cj h39 (cj h39 (cj (nf h41) (cj (nf h41) (cj (nf h41) (cj (nf h41) (cj h42 (cj h42 (cj h42 (cj (nf h41) (cj h42 (cj (nf h41) (cj1 h43))))))))))))))))))))) (fun h42 =>
       Pn.some (JnO.of [.bit true, .bit true, .bit true, .call [] (E4 r16) [], .bit true, .bit true, .bit false, .bit false, .bit false, .bit false, .bit false, .bit false, .bit false, .bit false, .bit false, .bit false, .bit false, .mask [1], .ren [0]] (p := [(o.Op == 1) = true,
        (o.Op == 1) = true,
        (o.Op == 1) = true,
        Fn Tryd.prog 77 [(false, E3 o.Ttl), (false, E3 0), (false, E3 9999)] (E4 r16) [],
        (true || ((E4 r16).nv && nvL [])) = true,
        (o.Op == 1) = true,
        (o.Op == 1) = true,
        (!r16) = false,
        (!r16) = false,
        (!r16) = false,
        (!r16) = false,
        (o.Op != 1) = false,
        (o.Op != 1) = false,
        (o.Op != 1) = false,
        (!r16) = false,
        (o.Op != 1) = false,
        (!r16) = false,
        false = false]) (by kernel_rfl) (cj h39 (cj h39 (cj h39 (cj (spec_l01In_ok o.Ttl 0 9999 r16 h40) (cj rfl (cj h39 (cj h39 (cj (nf h41) (cj (nf h41) (cj (nf h41) (cj (nf h41) (cj h42 (cj h42 (cj h42 (cj (nf h41) (cj h42 (cj (nf h41) (cj1 rfl))))))))))))))))))))) (fun h41 =>
      Pn.some (JnO.of [.bit true, .bit true, .bit true, .call [] (E4 r16) [], .bit true, .bit true, .bit true, .bit true, .bit true, .bit true, .bit true, .bit true, .bit true, .wait 1, .mask [2], .ren []] (p := [(o.Op == 1) = true,
       (o.Op == 1) = true,
       (o.Op == 1) = true,
       Fn Tryd.prog 77 [(false, E3 o.Ttl), (false, E3 0), (false, E3 9999)] (E4 r16) [],
       (true || ((E4 r16).nv && nvL [])) = true,
       (o.Op == 1) = true,
       (o.Op == 1) = true,
       (!r16) = true,
       (!r16) = true,
       (!r16) = true,
       (!r16) = true,
       (!r16) = true,
       (!r16) = true,
       true = true]) (by kernel_rfl) (cj h39 (cj h39 (cj h39 (cj (spec_l01In_ok o.Ttl 0 9999 r16 h40) (cj rfl (cj h39 (cj h39 (cj (nt h41) (cj (nt h41) (cj (nt h41) (cj (nt h41) (cj (nt h41) (cj (nt h41) (cj1 rfl)))))))))))))))))) (fun h39 =>
    Pn.ite (fun h44 =>
     Pn.ite (fun h45 =>
      Pn.some (JnO.of [.bit false, .bit false, .bit false, .bit false, .bit false, .bit false, .bit false, .bit false, .bit false, .bit true, .bit true, .bit true, .bit false, .bit true, .bit false, .bit true, .wait 1, .mask [2], .ren []] (p := [(o.Op == 1) = false,
       (o.Op == 1) = false,
       (o.Op == 1) = false,
       (o.Op == 1) = false,
       (o.Op == 1) = false,
       false = false,
       false = false,
       false = false,
       false = false,
       (o.Op != 1) = true,
       (o.Op != 1) = true,
       (o.Op != 1) = true,
       false = false,
       (o.Op != 1) = true,
       false = false,
       (o.Ttl != 0) = true]) (by kernel_rfl) (cj h39 (cj h39 (cj h39 (cj h39 (cj h39 (cj rfl (cj rfl (cj rfl (cj rfl (cj h44 (cj h44 (cj h44 (cj rfl (cj h44 (cj rfl (cj1 h45)))))))))))))))))) (fun h45 =>
      Pn.some (JnO.of [.bit false, .bit false, .bit false, .bit false, .bit false, .bit false, .bit false, .bit false, .bit false, .bit true, .bit true, .bit true, .bit false, .bit true, .bit false, .bit false, .mask [1], .ren [0]] (p := [(o.Op == 1) = false,
       (o.Op == 1) = false,
       (o.Op == 1) = false,
       (o.Op == 1) = false,
       (o.Op == 1) = false,
       false = false,
       false = false,
       false = false,
       false = false,
       (o.Op != 1) = true,
       (o.Op != 1) = true,
       (o.Op != 1) = true,
       false = false,
       (o.Op != 1) = true,
       false = false,
       (o.Ttl != 0) = false]) (by kernel_rfl) (cj h39 (cj h39 (cj h39 (cj h39 (cj h39 (cj rfl (cj rfl (cj rfl (cj rfl (cj h44 (cj h44 (cj h44 (cj rfl (cj h44 (cj rfl (cj1 h45))))))))))))))))))) (fun h44 =>
     Pn.some (JnO.of [.bit false, .bit false, .bit false, .bit false, .bit false, .bit false, .bit false, .bit false, .bit false, .bit false, .bit false, .bit false, .bit false, .bit false, .bit false, .bit false, .mask [1], .ren [0]] (p := [(o.Op == 1) = false,
      (o.Op == 1) = false,
      (o.Op == 1) = false,
      (o.Op == 1) = false,
      (o.Op == 1) = false,
      false = false,
      false = false,
      false = false,
      false = false,
      (o.Op != 1) = false,
      (o.Op != 1) = false,
      (o.Op != 1) = false,
      false = false,
      (o.Op != 1) = false,
      false = false,
      false = false]) (by kernel_rfl) (cj h39 (cj h39 (cj h39 (cj h39 (cj h39 (cj rfl (cj rfl (cj rfl (cj rfl (cj h44 (cj h44 (cj h44 (cj rfl (cj h44 (cj rfl (cj1 rfl)))))))))))))))))))
def spec_ReqOk (o : Req) : Option (Bool) :=
 (spec_ReqOk_c0 o).bind fun r5 =>
 Lo.elim r5 (fun s1 =>
  (spec_ReqOk_c1 o).bind fun r10 =>
  Lo.elim r10 (fun s3 =>
   (spec_ReqOk_c2 o).bind fun r15 =>
   Lo.elim r15 (fun s5 =>
    (spec_ReqOk_c3 o).bind fun r17 =>
    Lo.elim r17 (fun s7 =>
     if (o.Op == 6) = true then
      (spec_AcctIdOk o.Other).bind fun r18 =>
      if r18 = true then
       some true
      else
       if (o.Op != 6) = true then
        some (o.Other == (bs []))
       else
        some false
     else
      if (o.Op != 6) = true then
       some (o.Other == (bs []))
      else
       some false) (fun s8 =>
     some false)) (fun s6 =>
    some false)) (fun s4 =>
   some false)) (fun s2 =>
  some false)
theorem spec_ReqOk_ok (o : Req) : Pn (fun y => Fn Tryd.prog 32 [(false, E26 o)] (E4 y) []) (spec_ReqOk o) := by
  unfold spec_ReqOk
  exact
   Pn.bind (fun r5 h10 =>
    Pn.lo (fun s1 h11 =>
     Pn.bind (fun r10 h23 =>
      Pn.lo (fun s3 h24 =>
       Pn.bind (fun r15 h36 =>
        Pn.lo (fun s5 h37 =>
         Pn.bind (fun r17 h46 =>
          Pn.lo (fun s7 h47 =>
           Pn.ite (fun h49 =>
            Pn.bind (fun r18 h50 =>
             Pn.ite (fun h51 =>
              Pn.some (Fn.of [.wait 3, .mask [1], .ren [0], .join 7 (X.go) (st 110 [(1, V.ptr 0 0)] [Blk.box 26 [V.sc (.int .i64 o.Op), V.sc (.string o.Acct), V.sc (.string o.Other), V.sc (.string o.Hold), V.sc (.string o.Trace), V.sc (.string o.Mti), V.sc (.int .i64 o.Amount), V.sc (.int .i64 o.Ttl)]] []), .wait 1, .mask [1], .ren [0], .join 7 (X.go) (st 110 [(1, V.ptr 0 0)] [Blk.box 26 [V.sc (.int .i64 o.Op), V.sc (.string o.Acct), V.sc (.string o.Other), V.sc (.string o.Hold), V.sc (.string o.Trace), V.sc (.string o.Mti), V.sc (.int .i64 o.Amount), V.sc (.int .i64 o.Ttl)]] []), .wait 1, .mask [1], .ren [0], .join 7 (X.go) (st 110 [(1, V.ptr 0 0)] [Blk.box 26 [V.sc (.int .i64 o.Op), V.sc (.string o.Acct), V.sc (.string o.Other), V.sc (.string o.Hold), V.sc (.string o.Trace), V.sc (.string o.Mti), V.sc (.int .i64 o.Amount), V.sc (.int .i64 o.Ttl)]] []), .wait 1, .mask [1], .ren [0], .join 7 (X.go) (st 110 [(1, V.ptr 0 0)] [Blk.box 26 [V.sc (.int .i64 o.Op), V.sc (.string o.Acct), V.sc (.string o.Other), V.sc (.string o.Hold), V.sc (.string o.Trace), V.sc (.string o.Mti), V.sc (.int .i64 o.Amount), V.sc (.int .i64 o.Ttl)]] []), .bit true, .bit true, .bit true, .call [] (E4 r18) [], .bit true, .bit true, .bit true, .bit true, .bit true, .bit true, .bit true] (p := [HT Tryd.prog (sub (codeOf Tryd.prog 32) [1, 0]) (st 110 [(1, V.ptr 0 0)] [Blk.box 26 [V.sc (.int .i64 o.Op), V.sc (.string o.Acct), V.sc (.string o.Other), V.sc (.string o.Hold), V.sc (.string o.Trace), V.sc (.string o.Mti), V.sc (.int .i64 o.Amount), V.sc (.int .i64 o.Ttl)]] []) (X.go) (st 110 [(1, V.ptr 0 0)] [Blk.box 26 [V.sc (.int .i64 o.Op), V.sc (.string o.Acct), V.sc (.string o.Other), V.sc (.string o.Hold), V.sc (.string o.Trace), V.sc (.string o.Mti), V.sc (.int .i64 o.Amount), V.sc (.int .i64 o.Ttl)]] []),
               HT Tryd.prog (sub (codeOf Tryd.prog 32) [1, 1, 0]) (st 110 [(1, V.ptr 0 0)] [Blk.box 26 [V.sc (.int .i64 o.Op), V.sc (.string o.Acct), V.sc (.string o.Other), V.sc (.string o.Hold), V.sc (.string o.Trace), V.sc (.string o.Mti), V.sc (.int .i64 o.Amount), V.sc (.int .i64 o.Ttl)]] []) (X.go) (st 110 [(1, V.ptr 0 0)] [Blk.box 26 [V.sc (.int .i64 o.Op), V.sc (.string o.Acct), V.sc (.string o.Other), V.sc (.string o.Hold), V.sc (.string o.Trace), V.sc (.string o.Mti), V.sc (.int .i64 o.Amount), V.sc (.int .i64 o.Ttl)]] []),
               HT Tryd.prog (sub (codeOf Tryd.prog 32) [1, 1, 1, 0]) (st 110 [(1, V.ptr 0 0)] [Blk.box 26 [V.sc (.int .i64 o.Op), V.sc (.string o.Acct), V.sc (.string o.Other), V.sc (.string o.Hold), V.sc (.string o.Trace), V.sc (.string o.Mti), V.sc (.int .i64 o.Amount), V.sc (.int .i64 o.Ttl)]] []) (X.go) (st 110 [(1, V.ptr 0 0)] [Blk.box 26 [V.sc (.int .i64 o.Op), V.sc (.string o.Acct), V.sc (.string o.Other), V.sc (.string o.Hold), V.sc (.string o.Trace), V.sc (.string o.Mti), V.sc (.int .i64 o.Amount), V.sc (.int .i64 o.Ttl)]] []),
               HT Tryd.prog (sub (codeOf Tryd.prog 32) [1, 1, 1, 1, 0]) (st 110 [(1, V.ptr 0 0)] [Blk.box 26 [V.sc (.int .i64 o.Op), V.sc (.string o.Acct), V.sc (.string o.Other), V.sc (.string o.Hold), V.sc (.string o.Trace), V.sc (.string o.Mti), V.sc (.int .i64 o.Amount), V.sc (.int .i64 o.Ttl)]] []) (X.go) (st 110 [(1, V.ptr 0 0)] [Blk.box 26 [V.sc (.int .i64 o.Op), V.sc (.string o.Acct), V.sc (.string o.Other), V.sc (.string o.Hold), V.sc (.string o.Trace), V.sc (.string o.Mti), V.sc (.int .i64 o.Amount), V.sc (.int .i64 o.Ttl)]] []),
               (o.Op == 6) = true,
               (o.Op == 6) = true,
               (o.Op == 6) = true,
               Fn Tryd.prog 74 [(false, E9 o.Other)] (E4 r18) [],
               (true || ((E4 r18).nv && nvL [])) = true,
               (o.Op == 6) = true,
               r18 = true,
               r18 = true,
               r18 = true,
               r18 = true,
               r18 = true,
               r18 = true]) (by kernel_rfl) (cj ((spec_ReqOk_c0_ok o r5 h10).at h11) (cj ((spec_ReqOk_c1_ok o r10 h23).at h24) (cj ((spec_ReqOk_c2_ok o r15 h36).at h37) (cj ((spec_ReqOk_c3_ok o r17 h46).at h47) (cj h49 (cj h49 (cj h49 (cj (spec_AcctIdOk_ok o.Other r18 h50) (cj rfl (cj h49 (cj h51 (cj h51 (cj h51 (cj h51 (cj h51 (cj1 h51)))))))))))))))))) (fun h51 =>
              Pn.ite (fun h52 =>
               Pn.some (Fn.of [.wait 3, .mask [1], .ren [0], .join 7 (X.go) (st 110 [(1, V.ptr 0 0)] [Blk.box 26 [V.sc (.int .i64 o.Op), V.sc (.string o.Acct), V.sc (.string o.Other), V.sc (.string o.Hold), V.sc (.string o.Trace), V.sc (.string o.Mti), V.sc (.int .i64 o.Amount), V.sc (.int .i64 o.Ttl)]] []), .wait 1, .mask [1], .ren [0], .join 7 (X.go) (st 110 [(1, V.ptr 0 0)] [Blk.box 26 [V.sc (.int .i64 o.Op), V.sc (.string o.Acct), V.sc (.string o.Other), V.sc (.string o.Hold), V.sc (.string o.Trace), V.sc (.string o.Mti), V.sc (.int .i64 o.Amount), V.sc (.int .i64 o.Ttl)]] []), .wait 1, .mask [1], .ren [0], .join 7 (X.go) (st 110 [(1, V.ptr 0 0)] [Blk.box 26 [V.sc (.int .i64 o.Op), V.sc (.string o.Acct), V.sc (.string o.Other), V.sc (.string o.Hold), V.sc (.string o.Trace), V.sc (.string o.Mti), V.sc (.int .i64 o.Amount), V.sc (.int .i64 o.Ttl)]] []), .wait 1, .mask [1], .ren [0], .join 7 (X.go) (st 110 [(1, V.ptr 0 0)] [Blk.box 26 [V.sc (.int .i64 o.Op), V.sc (.string o.Acct), V.sc (.string o.Other), V.sc (.string o.Hold), V.sc (.string o.Trace), V.sc (.string o.Mti), V.sc (.int .i64 o.Amount), V.sc (.int .i64 o.Ttl)]] []), .bit true, .bit true, .bit true, .call [] (E4 r18) [], .bit true, .bit false, .bit false, .bit false, .bit false, .bit true, .bit true, .bit true, .bit false, .bit true, .bit false] (p := [HT Tryd.prog (sub (codeOf Tryd.prog 32) [1, 0]) (st 110 [(1, V.ptr 0 0)] [Blk.box 26 [V.sc (.int .i64 o.Op), V.sc (.string o.Acct), V.sc (.string o.Other), V.sc (.string o.Hold), V.sc (.string o.Trace), V.sc (.string o.Mti), V.sc (.int .i64 o.Amount), V.sc (.int .i64 o.Ttl)]] []) (X.go) (st 110 [(1, V.ptr 0 0)] [Blk.box 26 [V.sc (.int .i64 o.Op), V.sc (.string o.Acct), V.sc (.string o.Other), V.sc (.string o.Hold), V.sc (.string o.Trace), V.sc (.string o.Mti), V.sc (.int .i64 o.Amount), V.sc (.int .i64 o.Ttl)]] []),
                HT Tryd.prog (sub (codeOf Tryd.prog 32) [1, 1, 0]) (st 110 [(1, V.ptr 0 0)] [Blk.box 26 [V.sc (.int .i64 o.Op), V.sc (.string o.Acct), V.sc (.string o.Other), V.sc (.string o.Hold), V.sc (.string o.Trace), V.sc (.string o.Mti), V.sc (.int .i64 o.Amount), V.sc (.int .i64 o.Ttl)]] []) (X.go) (st 110 [(1, V.ptr 0 0)] [Blk.box 26 [V.sc (.int .i64 o.Op), V.sc (.string o.Acct), V.sc (.string o.Other), V.sc (.string o.Hold), V.sc (.string o.Trace), V.sc (.string o.Mti), V.sc (.int .i64 o.Amount), V.sc (.int .i64 o.Ttl)]] []),
                HT Tryd.prog (sub (codeOf Tryd.prog 32) [1, 1, 1, 0]) (st 110 [(1, V.ptr 0 0)] [Blk.box 26 [V.sc (.int .i64 o.Op), V.sc (.string o.Acct), V.sc (.string o.Other), V.sc (.string o.Hold), V.sc (.string o.Trace), V.sc (.string o.Mti), V.sc (.int .i64 o.Amount), V.sc (.int .i64 o.Ttl)]] []) (X.go) (st 110 [(1, V.ptr 0 0)] [Blk.box 26 [V.sc (.int .i64 o.Op), V.sc (.string o.Acct), V.sc (.string o.Other), V.sc (.string o.Hold), V.sc (.string o.Trace), V.sc (.string o.Mti), V.sc (.int .i64 o.Amount), V.sc (.int .i64 o.Ttl)]] []),
                HT Tryd.prog (sub (codeOf Tryd.prog 32) [1, 1, 1, 1, 0]) (st 110 [(1, V.ptr 0 0)] [Blk.box 26 [V.sc (.int .i64 o.Op), V.sc (.string o.Acct), V.sc (.string o.Other), V.sc (.string o.Hold), V.sc (.string o.Trace), V.sc (.string o.Mti), V.sc (.int .i64 o.Amount), V.sc (.int .i64 o.Ttl)]] []) (X.go) (st 110 [(1, V.ptr 0 0)] [Blk.box 26 [V.sc (.int .i64 o.Op), V.sc (.string o.Acct), V.sc (.string o.Other), V.sc (.string o.Hold), V.sc (.string o.Trace), V.sc (.string o.Mti), V.sc (.int .i64 o.Amount), V.sc (.int .i64 o.Ttl)]] []),
                (o.Op == 6) = true,
                (o.Op == 6) = true,
                (o.Op == 6) = true,
                Fn Tryd.prog 74 [(false, E9 o.Other)] (E4 r18) [],
                (true || ((E4 r18).nv && nvL [])) = true,
                (o.Op == 6) = true,
                r18 = false,
                r18 = false,
                r18 = false,
                r18 = false,
                (o.Op != 6) = true,
                (o.Op != 6) = true,
                (o.Op != 6) = true,
                r18 = false,
                (o.Op != 6) = true,
                r18 = false]) (by kernel_rfl) (cj ((spec_ReqOk_c0_ok o r5 h10).at h11) (cj ((spec_ReqOk_c1_ok o r10 h23).at h24) (cj ((spec_ReqOk_c2_ok o r15 h36).at h37) (cj ((spec_ReqOk_c3_ok o r17 h46).at h47) (cj h49 (cj h49 (cj h49 (cj (spec_AcctIdOk_ok o.Other r18 h50) (cj rfl (cj h49 (cj h51 (cj h51 (cj h51 (cj h51 (cj h52 (cj h52 (cj h52 (cj h51 (cj h52 (cj1 h51)))))))))))))))))))))) (fun h52 =>
               Pn.some (Fn.of [.wait 3, .mask [1], .ren [0], .join 7 (X.go) (st 110 [(1, V.ptr 0 0)] [Blk.box 26 [V.sc (.int .i64 o.Op), V.sc (.string o.Acct), V.sc (.string o.Other), V.sc (.string o.Hold), V.sc (.string o.Trace), V.sc (.string o.Mti), V.sc (.int .i64 o.Amount), V.sc (.int .i64 o.Ttl)]] []), .wait 1, .mask [1], .ren [0], .join 7 (X.go) (st 110 [(1, V.ptr 0 0)] [Blk.box 26 [V.sc (.int .i64 o.Op), V.sc (.string o.Acct), V.sc (.string o.Other), V.sc (.string o.Hold), V.sc (.string o.Trace), V.sc (.string o.Mti), V.sc (.int .i64 o.Amount), V.sc (.int .i64 o.Ttl)]] []), .wait 1, .mask [1], .ren [0], .join 7 (X.go) (st 110 [(1, V.ptr 0 0)] [Blk.box 26 [V.sc (.int .i64 o.Op), V.sc (.string o.Acct), V.sc (.string o.Other), V.sc (.string o.Hold), V.sc (.string o.Trace), V.sc (.string o.Mti), V.sc (.int .i64 o.Amount), V.sc (.int .i64 o.Ttl)]] []), .wait 1, .mask [1], .ren [0], .join 7 (X.go) (st 110 [(1, V.ptr 0 0)] [Blk.box 26 [V.sc (.int .i64 o.Op), V.sc (.string o.Acct), V.sc (.string o.Other), V.sc (.string o.Hold), V.sc (.string o.Trace), V.sc (.string o.Mti), V.sc (.int .i64 o.Amount), V.sc (.int .i64 o.Ttl)]] []), .bit true, .bit true, .bit true, .call [] (E4 r18) [], .bit true, .bit false, .bit false, .bit false, .bit false, .bit false, .bit false, .bit false, .bit false, .bit false, .bit false] (p := [HT Tryd.prog (sub (codeOf Tryd.prog 32) [1, 0]) (st 110 [(1, V.ptr 0 0)] [Blk.box 26 [V.sc (.int .i64 o.Op), V.sc (.string o.Acct), V.sc (.string o.Other), V.sc (.string o.Hold), V.sc (.string o.Trace), V.sc (.string o.Mti), V.sc (.int .i64 o.Amount), V.sc (.int .i64 o.Ttl)]] []) (X.go) (st 110 [(1, V.ptr 0 0)] [Blk.box 26 [V.sc (.int .i64 o.Op), V.sc (.string o.Acct), V.sc (.string o.Other), V.sc (.string o.Hold), V.sc (.string o.Trace), V.sc (.string o.Mti), V.sc (.int .i64 o.Amount), V.sc (.int .i64 o.Ttl)]] []),
                HT Tryd.prog (sub (codeOf Tryd.prog 32) [1, 1, 0]) (st 110 [(1, V.ptr 0 0)] [Blk.box 26 [V.sc (.int .i64 o.Op), V.sc (.string o.Acct), V.sc (.string o.Other), V.sc (.string o.Hold), V.sc (.string o.Trace), V.sc (.string o.Mti), V.sc (.int .i64 o.Amount), V.sc (.int .i64 o.Ttl)]] []) (X.go) (st 110 [(1, V.ptr 0 0)] [Blk.box 26 [V.sc (.int .i64 o.Op), V.sc (.string o.Acct), V.sc (.string o.Other), V.sc (.string o.Hold), V.sc (.string o.Trace), V.sc (.string o.Mti), V.sc (.int .i64 o.Amount), V.sc (.int .i64 o.Ttl)]] []),
                HT Tryd.prog (sub (codeOf Tryd.prog 32) [1, 1, 1, 0]) (st 110 [(1, V.ptr 0 0)] [Blk.box 26 [V.sc (.int .i64 o.Op), V.sc (.string o.Acct), V.sc (.string o.Other), V.sc (.string o.Hold), V.sc (.string o.Trace), V.sc (.string o.Mti), V.sc (.int .i64 o.Amount), V.sc (.int .i64 o.Ttl)]] []) (X.go) (st 110 [(1, V.ptr 0 0)] [Blk.box 26 [V.sc (.int .i64 o.Op), V.sc (.string o.Acct), V.sc (.string o.Other), V.sc (.string o.Hold), V.sc (.string o.Trace), V.sc (.string o.Mti), V.sc (.int .i64 o.Amount), V.sc (.int .i64 o.Ttl)]] []),
                HT Tryd.prog (sub (codeOf Tryd.prog 32) [1, 1, 1, 1, 0]) (st 110 [(1, V.ptr 0 0)] [Blk.box 26 [V.sc (.int .i64 o.Op), V.sc (.string o.Acct), V.sc (.string o.Other), V.sc (.string o.Hold), V.sc (.string o.Trace), V.sc (.string o.Mti), V.sc (.int .i64 o.Amount), V.sc (.int .i64 o.Ttl)]] []) (X.go) (st 110 [(1, V.ptr 0 0)] [Blk.box 26 [V.sc (.int .i64 o.Op), V.sc (.string o.Acct), V.sc (.string o.Other), V.sc (.string o.Hold), V.sc (.string o.Trace), V.sc (.string o.Mti), V.sc (.int .i64 o.Amount), V.sc (.int .i64 o.Ttl)]] []),
                (o.Op == 6) = true,
                (o.Op == 6) = true,
                (o.Op == 6) = true,
                Fn Tryd.prog 74 [(false, E9 o.Other)] (E4 r18) [],
                (true || ((E4 r18).nv && nvL [])) = true,
                (o.Op == 6) = true,
                r18 = false,
                r18 = false,
                r18 = false,
                r18 = false,
                (o.Op != 6) = false,
                (o.Op != 6) = false,
                (o.Op != 6) = false,
                r18 = false,
                (o.Op != 6) = false,
                r18 = false]) (by kernel_rfl) (cj ((spec_ReqOk_c0_ok o r5 h10).at h11) (cj ((spec_ReqOk_c1_ok o r10 h23).at h24) (cj ((spec_ReqOk_c2_ok o r15 h36).at h37) (cj ((spec_ReqOk_c3_ok o r17 h46).at h47) (cj h49 (cj h49 (cj h49 (cj (spec_AcctIdOk_ok o.Other r18 h50) (cj rfl (cj h49 (cj h51 (cj h51 (cj h51 (cj h51 (cj h52 (cj h52 (cj h52 (cj h51 (cj h52 (cj1 h51))))))))))))))))))))))))) (fun h49 =>
            Pn.ite (fun h53 =>
             Pn.some (Fn.of [.wait 3, .mask [1], .ren [0], .join 7 (X.go) (st 110 [(1, V.ptr 0 0)] [Blk.box 26 [V.sc (.int .i64 o.Op), V.sc (.string o.Acct), V.sc (.string o.Other), V.sc (.string o.Hold), V.sc (.string o.Trace), V.sc (.string o.Mti), V.sc (.int .i64 o.Amount), V.sc (.int .i64 o.Ttl)]] []), .wait 1, .mask [1], .ren [0], .join 7 (X.go) (st 110 [(1, V.ptr 0 0)] [Blk.box 26 [V.sc (.int .i64 o.Op), V.sc (.string o.Acct), V.sc (.string o.Other), V.sc (.string o.Hold), V.sc (.string o.Trace), V.sc (.string o.Mti), V.sc (.int .i64 o.Amount), V.sc (.int .i64 o.Ttl)]] []), .wait 1, .mask [1], .ren [0], .join 7 (X.go) (st 110 [(1, V.ptr 0 0)] [Blk.box 26 [V.sc (.int .i64 o.Op), V.sc (.string o.Acct), V.sc (.string o.Other), V.sc (.string o.Hold), V.sc (.string o.Trace), V.sc (.string o.Mti), V.sc (.int .i64 o.Amount), V.sc (.int .i64 o.Ttl)]] []), .wait 1, .mask [1], .ren [0], .join 7 (X.go) (st 110 [(1, V.ptr 0 0)] [Blk.box 26 [V.sc (.int .i64 o.Op), V.sc (.string o.Acct), V.sc (.string o.Other), V.sc (.string o.Hold), V.sc (.string o.Trace), V.sc (.string o.Mti), V.sc (.int .i64 o.Amount), V.sc (.int .i64 o.Ttl)]] []), .bit false, .bit false, .bit false, .bit false, .bit false, .bit false, .bit false, .bit false, .bit true, .bit true, .bit true, .bit false, .bit true, .bit false] (p := [HT Tryd.prog (sub (codeOf Tryd.prog 32) [1, 0]) (st 110 [(1, V.ptr 0 0)] [Blk.box 26 [V.sc (.int .i64 o.Op), V.sc (.string o.Acct), V.sc (.string o.Other), V.sc (.string o.Hold), V.sc (.string o.Trace), V.sc (.string o.Mti), V.sc (.int .i64 o.Amount), V.sc (.int .i64 o.Ttl)]] []) (X.go) (st 110 [(1, V.ptr 0 0)] [Blk.box 26 [V.sc (.int .i64 o.Op), V.sc (.string o.Acct), V.sc (.string o.Other), V.sc (.string o.Hold), V.sc (.string o.Trace), V.sc (.string o.Mti), V.sc (.int .i64 o.Amount), V.sc (.int .i64 o.Ttl)]] []),
              HT Tryd.prog (sub (codeOf Tryd.prog 32) [1, 1, 0]) (st 110 [(1, V.ptr 0 0)] [Blk.box 26 [V.sc (.int .i64 o.Op), V.sc (.string o.Acct), V.sc (.string o.Other), V.sc (.string o.Hold), V.sc (.string o.Trace), V.sc (.string o.Mti), V.sc (.int .i64 o.Amount), V.sc (.int .i64 o.Ttl)]] []) (X.go) (st 110 [(1, V.ptr 0 0)] [Blk.box 26 [V.sc (.int .i64 o.Op), V.sc (.string o.Acct), V.sc (.string o.Other), V.sc (.string o.Hold), V.sc (.string o.Trace), V.sc (.string o.Mti), V.sc (.int .i64 o.Amount), V.sc (.int .i64 o.Ttl)]] []),
              HT Tryd.prog (sub (codeOf Tryd.prog 32) [1, 1, 1, 0]) (st 110 [(1, V.ptr 0 0)] [Blk.box 26 [V.sc (.int .i64 o.Op), V.sc (.string o.Acct), V.sc (.string o.Other), V.sc (.string o.Hold), V.sc (.string o.Trace), V.sc (.string o.Mti), V.sc (.int .i64 o.Amount), V.sc (.int .i64 o.Ttl)]] []) (X.go) (st 110 [(1, V.ptr 0 0)] [Blk.box 26 [V.sc (.int .i64 o.Op), V.sc (.string o.Acct), V.sc (.string o.Other), V.sc (.string o.Hold), V.sc (.string o.Trace), V.sc (.string o.Mti), V.sc (.int .i64 o.Amount), V.sc (.int .i64 o.Ttl)]] []),
              HT Tryd.prog (sub (codeOf Tryd.prog 32) [1, 1, 1, 1, 0]) (st 110 [(1, V.ptr 0 0)] [Blk.box 26 [V.sc (.int .i64 o.Op), V.sc (.string o.Acct), V.sc (.string o.Other), V.sc (.string o.Hold), V.sc (.string o.Trace), V.sc (.string o.Mti), V.sc (.int .i64 o.Amount), V.sc (.int .i64 o.Ttl)]] []) (X.go) (st 110 [(1, V.ptr 0 0)] [Blk.box 26 [V.sc (.int .i64 o.Op), V.sc (.string o.Acct), V.sc (.string o.Other), V.sc (.string o.Hold), V.sc (.string o.Trace), V.sc (.string o.Mti), V.sc (.int .i64 o.Amount), V.sc (.int .i64 o.Ttl)]] []),
              (o.Op == 6) = false,
              (o.Op == 6) = false,
              (o.Op == 6) = false,
              (o.Op == 6) = false,
              false = false,
              false = false,
              false = false,
              false = false,
              (o.Op != 6) = true,
              (o.Op != 6) = true,
              (o.Op != 6) = true,
              false = false,
              (o.Op != 6) = true,
              false = false]) (by kernel_rfl) (cj ((spec_ReqOk_c0_ok o r5 h10).at h11) (cj ((spec_ReqOk_c1_ok o r10 h23).at h24) (cj ((spec_ReqOk_c2_ok o r15 h36).at h37) (cj ((spec_ReqOk_c3_ok o r17 h46).at h47) (cj h49 (cj h49 (cj h49 (cj h49 (cj rfl (cj rfl (cj rfl (cj rfl (cj h53 (cj h53 (cj h53 (cj rfl (cj h53 (cj1 rfl)))))))))))))))))))) (fun h53 =>
             Pn.some (Fn.of [.wait 3, .mask [1], .ren [0], .join 7 (X.go) (st 110 [(1, V.ptr 0 0)] [Blk.box 26 [V.sc (.int .i64 o.Op), V.sc (.string o.Acct), V.sc (.string o.Other), V.sc (.string o.Hold), V.sc (.string o.Trace), V.sc (.string o.Mti), V.sc (.int .i64 o.Amount), V.sc (.int .i64 o.Ttl)]] []), .wait 1, .mask [1], .ren [0], .join 7 (X.go) (st 110 [(1, V.ptr 0 0)] [Blk.box 26 [V.sc (.int .i64 o.Op), V.sc (.string o.Acct), V.sc (.string o.Other), V.sc (.string o.Hold), V.sc (.string o.Trace), V.sc (.string o.Mti), V.sc (.int .i64 o.Amount), V.sc (.int .i64 o.Ttl)]] []), .wait 1, .mask [1], .ren [0], .join 7 (X.go) (st 110 [(1, V.ptr 0 0)] [Blk.box 26 [V.sc (.int .i64 o.Op), V.sc (.string o.Acct), V.sc (.string o.Other), V.sc (.string o.Hold), V.sc (.string o.Trace), V.sc (.string o.Mti), V.sc (.int .i64 o.Amount), V.sc (.int .i64 o.Ttl)]] []), .wait 1, .mask [1], .ren [0], .join 7 (X.go) (st 110 [(1, V.ptr 0 0)] [Blk.box 26 [V.sc (.int .i64 o.Op), V.sc (.string o.Acct), V.sc (.string o.Other), V.sc (.string o.Hold), V.sc (.string o.Trace), V.sc (.string o.Mti), V.sc (.int .i64 o.Amount), V.sc (.int .i64 o.Ttl)]] []), .bit false, .bit false, .bit false, .bit false, .bit false, .bit false, .bit false, .bit false, .bit false, .bit false, .bit false, .bit false, .bit false, .bit false] (p := [HT Tryd.prog (sub (codeOf Tryd.prog 32) [1, 0]) (st 110 [(1, V.ptr 0 0)] [Blk.box 26 [V.sc (.int .i64 o.Op), V.sc (.string o.Acct), V.sc (.string o.Other), V.sc (.string o.Hold), V.sc (.string o.Trace), V.sc (.string o.Mti), V.sc (.int .i64 o.Amount), V.sc (.int .i64 o.Ttl)]] []) (X.go) (st 110 [(1, V.ptr 0 0)] [Blk.box 26 [V.sc (.int .i64 o.Op), V.sc (.string o.Acct), V.sc (.string o.Other), V.sc (.string o.Hold), V.sc (.string o.Trace), V.sc (.string o.Mti), V.sc (.int .i64 o.Amount), V.sc (.int .i64 o.Ttl)]] []),
              HT Tryd.prog (sub (codeOf Tryd.prog 32) [1, 1, 0]) (st 110 [(1, V.ptr 0 0)] [Blk.box 26 [V.sc (.int .i64 o.Op), V.sc (.string o.Acct), V.sc (.string o.Other), V.sc (.string o.Hold), V.sc (.string o.Trace), V.sc (.string o.Mti), V.sc (.int .i64 o.Amount), V.sc (.int .i64 o.Ttl)]] []) (X.go) (st 110 [(1, V.ptr 0 0)] [Blk.box 26 [V.sc (.int .i64 o.Op), V.sc (.string o.Acct), V.sc (.string o.Other), V.sc (.string o.Hold), V.sc (.string o.Trace), V.sc (.string o.Mti), V.sc (.int .i64 o.Amount), V.sc (.int .i64 o.Ttl)]] []),
              HT Tryd.prog (sub (codeOf Tryd.prog 32) [1, 1, 1, 0]) (st 110 [(1, V.ptr 0 0)] [Blk.box 26 [V.sc (.int .i64 o.Op), V.sc (.string o.Acct), V.sc (.string o.Other), V.sc (.string o.Hold), V.sc (.string o.Trace), V.sc (.string o.Mti), V.sc (.int .i64 o.Amount), V.sc (.int .i64 o.Ttl)]] []) (X.go) (st 110 [(1, V.ptr 0 0)] [Blk.box 26 [V.sc (.int .i64 o.Op), V.sc (.string o.Acct), V.sc (.string o.Other), V.sc (.string o.Hold), V.sc (.string o.Trace), V.sc (.string o.Mti), V.sc (.int .i64 o.Amount), V.sc (.int .i64 o.Ttl)]] []),
              HT Tryd.prog (sub (codeOf Tryd.prog 32) [1, 1, 1, 1, 0]) (st 110 [(1, V.ptr 0 0)] [Blk.box 26 [V.sc (.int .i64 o.Op), V.sc (.string o.Acct), V.sc (.string o.Other), V.sc (.string o.Hold), V.sc (.string o.Trace), V.sc (.string o.Mti), V.sc (.int .i64 o.Amount), V.sc (.int .i64 o.Ttl)]] []) (X.go) (st 110 [(1, V.ptr 0 0)] [Blk.box 26 [V.sc (.int .i64 o.Op), V.sc (.string o.Acct), V.sc (.string o.Other), V.sc (.string o.Hold), V.sc (.string o.Trace), V.sc (.string o.Mti), V.sc (.int .i64 o.Amount), V.sc (.int .i64 o.Ttl)]] []),
              (o.Op == 6) = false,
              (o.Op == 6) = false,
              (o.Op == 6) = false,
              (o.Op == 6) = false,
              false = false,
              false = false,
              false = false,
              false = false,
              (o.Op != 6) = false,
              (o.Op != 6) = false,
              (o.Op != 6) = false,
              false = false,
              (o.Op != 6) = false,
              false = false]) (by kernel_rfl) (cj ((spec_ReqOk_c0_ok o r5 h10).at h11) (cj ((spec_ReqOk_c1_ok o r10 h23).at h24) (cj ((spec_ReqOk_c2_ok o r15 h36).at h37) (cj ((spec_ReqOk_c3_ok o r17 h46).at h47) (cj h49 (cj h49 (cj h49 (cj h49 (cj rfl (cj rfl (cj rfl (cj rfl (cj h53 (cj h53 (cj h53 (cj rfl (cj h53 (cj1 rfl)))))))))))))))))))))) (fun s8 h48 =>
           Pn.some (Fn.of [.wait 3, .mask [1], .ren [0], .join 7 (X.go) (st 110 [(1, V.ptr 0 0)] [Blk.box 26 [V.sc (.int .i64 o.Op), V.sc (.string o.Acct), V.sc (.string o.Other), V.sc (.string o.Hold), V.sc (.string o.Trace), V.sc (.string o.Mti), V.sc (.int .i64 o.Amount), V.sc (.int .i64 o.Ttl)]] []), .wait 1, .mask [1], .ren [0], .join 7 (X.go) (st 110 [(1, V.ptr 0 0)] [Blk.box 26 [V.sc (.int .i64 o.Op), V.sc (.string o.Acct), V.sc (.string o.Other), V.sc (.string o.Hold), V.sc (.string o.Trace), V.sc (.string o.Mti), V.sc (.int .i64 o.Amount), V.sc (.int .i64 o.Ttl)]] []), .wait 1, .mask [1], .ren [0], .join 7 (X.go) (st 110 [(1, V.ptr 0 0)] [Blk.box 26 [V.sc (.int .i64 o.Op), V.sc (.string o.Acct), V.sc (.string o.Other), V.sc (.string o.Hold), V.sc (.string o.Trace), V.sc (.string o.Mti), V.sc (.int .i64 o.Amount), V.sc (.int .i64 o.Ttl)]] []), .wait 1, .mask [1], .ren [0], .join 7 (X.ret) (st 110 [(2, V.sc (.bool false))] [] [])] (p := [HT Tryd.prog (sub (codeOf Tryd.prog 32) [1, 0]) (st 110 [(1, V.ptr 0 0)] [Blk.box 26 [V.sc (.int .i64 o.Op), V.sc (.string o.Acct), V.sc (.string o.Other), V.sc (.string o.Hold), V.sc (.string o.Trace), V.sc (.string o.Mti), V.sc (.int .i64 o.Amount), V.sc (.int .i64 o.Ttl)]] []) (X.go) (st 110 [(1, V.ptr 0 0)] [Blk.box 26 [V.sc (.int .i64 o.Op), V.sc (.string o.Acct), V.sc (.string o.Other), V.sc (.string o.Hold), V.sc (.string o.Trace), V.sc (.string o.Mti), V.sc (.int .i64 o.Amount), V.sc (.int .i64 o.Ttl)]] []),
            HT Tryd.prog (sub (codeOf Tryd.prog 32) [1, 1, 0]) (st 110 [(1, V.ptr 0 0)] [Blk.box 26 [V.sc (.int .i64 o.Op), V.sc (.string o.Acct), V.sc (.string o.Other), V.sc (.string o.Hold), V.sc (.string o.Trace), V.sc (.string o.Mti), V.sc (.int .i64 o.Amount), V.sc (.int .i64 o.Ttl)]] []) (X.go) (st 110 [(1, V.ptr 0 0)] [Blk.box 26 [V.sc (.int .i64 o.Op), V.sc (.string o.Acct), V.sc (.string o.Other), V.sc (.string o.Hold), V.sc (.string o.Trace), V.sc (.string o.Mti), V.sc (.int .i64 o.Amount), V.sc (.int .i64 o.Ttl)]] []),
            HT Tryd.prog (sub (codeOf Tryd.prog 32) [1, 1, 1, 0]) (st 110 [(1, V.ptr 0 0)] [Blk.box 26 [V.sc (.int .i64 o.Op), V.sc (.string o.Acct), V.sc (.string o.Other), V.sc (.string o.Hold), V.sc (.string o.Trace), V.sc (.string o.Mti), V.sc (.int .i64 o.Amount), V.sc (.int .i64 o.Ttl)]] []) (X.go) (st 110 [(1, V.ptr 0 0)] [Blk.box 26 [V.sc (.int .i64 o.Op), V.sc (.string o.Acct), V.sc (.string o.Other), V.sc (.string o.Hold), V.sc (.string o.Trace), V.sc (.string o.Mti), V.sc (.int .i64 o.Amount), V.sc (.int .i64 o.Ttl)]] []),
            HT Tryd.prog (sub (codeOf Tryd.prog 32) [1, 1, 1, 1, 0]) (st 110 [(1, V.ptr 0 0)] [Blk.box 26 [V.sc (.int .i64 o.Op), V.sc (.string o.Acct), V.sc (.string o.Other), V.sc (.string o.Hold), V.sc (.string o.Trace), V.sc (.string o.Mti), V.sc (.int .i64 o.Amount), V.sc (.int .i64 o.Ttl)]] []) (X.ret) (st 110 [(2, V.sc (.bool false))] [] [])]) (by kernel_rfl) (cj ((spec_ReqOk_c0_ok o r5 h10).at h11) (cj ((spec_ReqOk_c1_ok o r10 h23).at h24) (cj ((spec_ReqOk_c2_ok o r15 h36).at h37) (cj1 ((spec_ReqOk_c3_ok o r17 h46).at h48))))))))) (fun s6 h38 =>
         Pn.some (Fn.of [.wait 3, .mask [1], .ren [0], .join 7 (X.go) (st 110 [(1, V.ptr 0 0)] [Blk.box 26 [V.sc (.int .i64 o.Op), V.sc (.string o.Acct), V.sc (.string o.Other), V.sc (.string o.Hold), V.sc (.string o.Trace), V.sc (.string o.Mti), V.sc (.int .i64 o.Amount), V.sc (.int .i64 o.Ttl)]] []), .wait 1, .mask [1], .ren [0], .join 7 (X.go) (st 110 [(1, V.ptr 0 0)] [Blk.box 26 [V.sc (.int .i64 o.Op), V.sc (.string o.Acct), V.sc (.string o.Other), V.sc (.string o.Hold), V.sc (.string o.Trace), V.sc (.string o.Mti), V.sc (.int .i64 o.Amount), V.sc (.int .i64 o.Ttl)]] []), .wait 1, .mask [1], .ren [0], .join 7 (X.ret) (st 110 [(2, V.sc (.bool false))] [] [])] (p := [HT Tryd.prog (sub (codeOf Tryd.prog 32) [1, 0]) (st 110 [(1, V.ptr 0 0)] [Blk.box 26 [V.sc (.int .i64 o.Op), V.sc (.string o.Acct), V.sc (.string o.Other), V.sc (.string o.Hold), V.sc (.string o.Trace), V.sc (.string o.Mti), V.sc (.int .i64 o.Amount), V.sc (.int .i64 o.Ttl)]] []) (X.go) (st 110 [(1, V.ptr 0 0)] [Blk.box 26 [V.sc (.int .i64 o.Op), V.sc (.string o.Acct), V.sc (.string o.Other), V.sc (.string o.Hold), V.sc (.string o.Trace), V.sc (.string o.Mti), V.sc (.int .i64 o.Amount), V.sc (.int .i64 o.Ttl)]] []),
          HT Tryd.prog (sub (codeOf Tryd.prog 32) [1, 1, 0]) (st 110 [(1, V.ptr 0 0)] [Blk.box 26 [V.sc (.int .i64 o.Op), V.sc (.string o.Acct), V.sc (.string o.Other), V.sc (.string o.Hold), V.sc (.string o.Trace), V.sc (.string o.Mti), V.sc (.int .i64 o.Amount), V.sc (.int .i64 o.Ttl)]] []) (X.go) (st 110 [(1, V.ptr 0 0)] [Blk.box 26 [V.sc (.int .i64 o.Op), V.sc (.string o.Acct), V.sc (.string o.Other), V.sc (.string o.Hold), V.sc (.string o.Trace), V.sc (.string o.Mti), V.sc (.int .i64 o.Amount), V.sc (.int .i64 o.Ttl)]] []),
          HT Tryd.prog (sub (codeOf Tryd.prog 32) [1, 1, 1, 0]) (st 110 [(1, V.ptr 0 0)] [Blk.box 26 [V.sc (.int .i64 o.Op), V.sc (.string o.Acct), V.sc (.string o.Other), V.sc (.string o.Hold), V.sc (.string o.Trace), V.sc (.string o.Mti), V.sc (.int .i64 o.Amount), V.sc (.int .i64 o.Ttl)]] []) (X.ret) (st 110 [(2, V.sc (.bool false))] [] [])]) (by kernel_rfl) (cj ((spec_ReqOk_c0_ok o r5 h10).at h11) (cj ((spec_ReqOk_c1_ok o r10 h23).at h24) (cj1 ((spec_ReqOk_c2_ok o r15 h36).at h38)))))))) (fun s4 h25 =>
       Pn.some (Fn.of [.wait 3, .mask [1], .ren [0], .join 7 (X.go) (st 110 [(1, V.ptr 0 0)] [Blk.box 26 [V.sc (.int .i64 o.Op), V.sc (.string o.Acct), V.sc (.string o.Other), V.sc (.string o.Hold), V.sc (.string o.Trace), V.sc (.string o.Mti), V.sc (.int .i64 o.Amount), V.sc (.int .i64 o.Ttl)]] []), .wait 1, .mask [1], .ren [0], .join 7 (X.ret) (st 110 [(2, V.sc (.bool false))] [] [])] (p := [HT Tryd.prog (sub (codeOf Tryd.prog 32) [1, 0]) (st 110 [(1, V.ptr 0 0)] [Blk.box 26 [V.sc (.int .i64 o.Op), V.sc (.string o.Acct), V.sc (.string o.Other), V.sc (.string o.Hold), V.sc (.string o.Trace), V.sc (.string o.Mti), V.sc (.int .i64 o.Amount), V.sc (.int .i64 o.Ttl)]] []) (X.go) (st 110 [(1, V.ptr 0 0)] [Blk.box 26 [V.sc (.int .i64 o.Op), V.sc (.string o.Acct), V.sc (.string o.Other), V.sc (.string o.Hold), V.sc (.string o.Trace), V.sc (.string o.Mti), V.sc (.int .i64 o.Amount), V.sc (.int .i64 o.Ttl)]] []),
        HT Tryd.prog (sub (codeOf Tryd.prog 32) [1, 1, 0]) (st 110 [(1, V.ptr 0 0)] [Blk.box 26 [V.sc (.int .i64 o.Op), V.sc (.string o.Acct), V.sc (.string o.Other), V.sc (.string o.Hold), V.sc (.string o.Trace), V.sc (.string o.Mti), V.sc (.int .i64 o.Amount), V.sc (.int .i64 o.Ttl)]] []) (X.ret) (st 110 [(2, V.sc (.bool false))] [] [])]) (by kernel_rfl) (cj ((spec_ReqOk_c0_ok o r5 h10).at h11) (cj1 ((spec_ReqOk_c1_ok o r10 h23).at h25))))))) (fun s2 h12 =>
     Pn.some (Fn.of [.wait 3, .mask [1], .ren [0], .join 7 (X.ret) (st 110 [(2, V.sc (.bool false))] [] [])] (p := [HT Tryd.prog (sub (codeOf Tryd.prog 32) [1, 0]) (st 110 [(1, V.ptr 0 0)] [Blk.box 26 [V.sc (.int .i64 o.Op), V.sc (.string o.Acct), V.sc (.string o.Other), V.sc (.string o.Hold), V.sc (.string o.Trace), V.sc (.string o.Mti), V.sc (.int .i64 o.Amount), V.sc (.int .i64 o.Ttl)]] []) (X.ret) (st 110 [(2, V.sc (.bool false))] [] [])]) (by kernel_rfl) (cj1 ((spec_ReqOk_c0_ok o r5 h10).at h12)))))
def spec_OpName (op : Int) : Option (ByteArray) :=
 (spec_l11Op op).bind fun r1 =>
 if r1 = true then
  if (decide (0 ≤ op)) = true then
   ([bs [], bs [97, 117, 116, 104], bs [109, 111, 114, 101], bs [112, 97, 114, 116], bs [102, 105, 110, 97, 108], bs [102, 114, 101, 101], bs [109, 111, 118, 101], bs [97, 115, 107], bs [115, 119, 101, 101, 112]][op.toNat]?).bind fun x1 =>
   some x1
  else none
 else
  some (bs [])
theorem spec_OpName_ok (op : Int) : Pn (fun y => Fn Tryd.prog 33 [(false, E3 op)] (E9 y) []) (spec_OpName op) := by
  unfold spec_OpName
  exact
   Pn.bind (fun r1 h1 =>
    Pn.ite (fun h2 =>
     Pn.ite (fun h3 =>
      Pn.bind (fun x1 h4 =>
       Pn.some (Fn.of [.call [] (E4 r1) [], .bit false, .wait 1, .nb 0 (.row 9 (List.map E9 [bs [], bs [97, 117, 116, 104], bs [109, 111, 114, 101], bs [112, 97, 114, 116], bs [102, 105, 110, 97, 108], bs [102, 114, 101, 101], bs [109, 111, 118, 101], bs [97, 115, 107], bs [115, 119, 101, 101, 112]]) []), .el (E9 x1)] (p := [Fn Tryd.prog 72 [(false, E3 op)] (E4 r1) [],
        (true || ((E4 r1).nv && nvL [])) = true,
        (!r1) = false,
        Blk.row 9 [V.sc (.string (bs [])), V.sc (.string (bs [97, 117, 116, 104])), V.sc (.string (bs [109, 111, 114, 101])), V.sc (.string (bs [112, 97, 114, 116])), V.sc (.string (bs [102, 105, 110, 97, 108])), V.sc (.string (bs [102, 114, 101, 101])), V.sc (.string (bs [109, 111, 118, 101])), V.sc (.string (bs [97, 115, 107])), V.sc (.string (bs [115, 119, 101, 101, 112]))] [] = Blk.row 9 (List.map E9 [bs [], bs [97, 117, 116, 104], bs [109, 111, 114, 101], bs [112, 97, 114, 116], bs [102, 105, 110, 97, 108], bs [102, 114, 101, 101], bs [109, 111, 118, 101], bs [97, 115, 107], bs [115, 119, 101, 101, 112]]) [],
        (0 : Int) ≤ op,
        (op : Int) < ((List.map E9 [bs [], bs [97, 117, 116, 104], bs [109, 111, 114, 101], bs [112, 97, 114, 116], bs [102, 105, 110, 97, 108], bs [102, 114, 101, 101], bs [109, 111, 118, 101], bs [97, 115, 107], bs [115, 119, 101, 101, 112]]).length : Int),
        look [] op.toNat = none,
        (List.map E9 [bs [], bs [97, 117, 116, 104], bs [109, 111, 114, 101], bs [112, 97, 114, 116], bs [102, 105, 110, 97, 108], bs [102, 114, 101, 101], bs [109, 111, 118, 101], bs [97, 115, 107], bs [115, 119, 101, 101, 112]])[op.toNat]? = some (E9 x1)]) (by kernel_rfl) (cj (spec_l11Op_ok op r1 h1) (cj rfl (cj (nf h2) (cj rfl (cj (od h3) (cj (map_ltN (od h3) h4) (cj rfl (cj1 (map_get h4)))))))))))) (fun h3 =>
      Pn.none)) (fun h2 =>
     Pn.some (Fn.of [.call [] (E4 r1) [], .bit true] (p := [Fn Tryd.prog 72 [(false, E3 op)] (E4 r1) [],
      (true || ((E4 r1).nv && nvL [])) = true,
      (!r1) = true]) (by kernel_rfl) (cj (spec_l11Op_ok op r1 h1) (cj rfl (cj1 (nt h2)))))))
def spec_l01Money (n : Int) : Option (Bool) :=
 if (decide (0 ≤ n)) = true then
  some (decide (n ≤ 4611686018427387904))
 else
  some false
theorem spec_l01Money_ok (n : Int) : Pn (fun y => Fn Tryd.prog 78 [(false, E3 n)] (E4 y) []) (spec_l01Money n) := by
  unfold spec_l01Money
  exact
   Pn.ite (fun h1 =>
    Pn.some (Fn.of [.bit true, .bit true, .bit true] (p := [(decide (0 ≤ n)) = true,
     (decide (0 ≤ n)) = true,
     (decide (0 ≤ n)) = true]) (by kernel_rfl) (cj h1 (cj h1 (cj1 h1))))) (fun h1 =>
    Pn.some (Fn.of [.bit false, .bit false, .bit false] (p := [(decide (0 ≤ n)) = false,
     (decide (0 ≤ n)) = false,
     (decide (0 ≤ n)) = false]) (by kernel_rfl) (cj h1 (cj h1 (cj1 h1)))))
def spec_NumText_l0 (n : Int) : Nat → Int → ByteArray → Option (Int × ByteArray)
  | 0, _, _ => none
  | fuel + 1, v1, v2 =>
   if (decide (9 < v1)) = true then
    if (decide ((bstr [u8 (i64 (48 + (Int.tmod v1 10)))]).size + v2.size ≤ 9223372036854775807)) = true then
     spec_NumText_l0 n fuel (i64 (Int.tdiv v1 10)) ((bstr [u8 (i64 (48 + (Int.tmod v1 10)))]) ++ v2)
    else none
   else
    some (v1, v2)
theorem spec_NumText_l0_ok (n : Int) : ∀ (fuel : Nat) (v1 : Int) (v2 : ByteArray), Pn (LpO Tryd.prog (sub (codeOf Tryd.prog 36) [1, 1, 1, 0, 0, 0]) (st 26 [(0, V.sc (.int .i64 v1)), (3, V.sc (.string v2))] [] []) (fun (y : Int × ByteArray) => (X.out 0, st 26 [(0, V.sc (.int .i64 y.1)), (3, V.sc (.string y.2))] [] []))) (spec_NumText_l0 n fuel v1 v2)
  | 0, _, _ => Pn.none
  | fuel + 1, v1, v2 => by
    unfold spec_NumText_l0
    exact
     Pn.ite (fun h3 =>
      Pn.ite (fun h4 =>
       LpO.go [.bit true, .ints [u8 (i64 (48 + (Int.tmod v1 10)))], .wait 7, .mask [0, 3], .ren []] (p := [(decide (9 < v1)) = true,
        (10 : Int) ≠ 0,
        [V.sc (.int .u8 (u8 (i64 (48 + (Int.tmod v1 10)))))] = [u8 (i64 (48 + (Int.tmod v1 10)))].map fun n => V.sc (.int .u8 n),
        (bstr [u8 (i64 (48 + (Int.tmod v1 10)))]).size + v2.size ≤ 9223372036854775807,
        (10 : Int) ≠ 0]) (by kernel_rfl) (cj h3 (cj (by decide) (cj rfl (cj (od h4) (cj1 (by decide)))))) (spec_NumText_l0_ok n fuel (i64 (Int.tdiv v1 10)) ((bstr [u8 (i64 (48 + (Int.tmod v1 10)))]) ++ v2))) (fun h4 =>
       Pn.none)) (fun h3 =>
      Pn.some (LpO.out [.bit false, .mask [0, 3], .ren []] (p := [(decide (9 < v1)) = false]) (by kernel_rfl) (show X.out 0 ≠ X.go from nofun) (cj1 h3)))
def spec_NumText (n : Int) : Option (ByteArray) :=
 (spec_l01Money n).bind fun r1 =>
 if r1 = true then
  (spec_NumText_l0 n FUEL n (bs [])).bind fun r2 =>
  if (decide ((bstr [u8 (i64 (48 + r2.1))]).size + r2.2.size ≤ 9223372036854775807)) = true then
   some ((bstr [u8 (i64 (48 + r2.1))]) ++ r2.2)
  else none
 else
  some (bs [])
theorem spec_NumText_ok (n : Int) : Pn (fun y => Fn Tryd.prog 36 [(false, E3 n)] (E9 y) []) (spec_NumText n) := by
  unfold spec_NumText
  exact
   Pn.bind (fun r1 h1 =>
    Pn.ite (fun h2 =>
     Pn.bind (fun r2 h5 =>
      Pn.ite (fun h6 =>
       Pn.some (Fn.of [.call [] (E4 r1) [], .bit false, .wait 1, .mask [0, 3], .ren [], .loop (X.out 0) (st 26 [(0, V.sc (.int .i64 r2.1)), (3, V.sc (.string r2.2))] [] []), .ints [u8 (i64 (48 + r2.1))]] (p := [Fn Tryd.prog 78 [(false, E3 n)] (E4 r1) [],
        (true || ((E4 r1).nv && nvL [])) = true,
        (!r1) = false,
        Loop Tryd.prog (sub (codeOf Tryd.prog 36) [1, 1, 1, 0, 0, 0]) (st 26 [(0, V.sc (.int .i64 n)), (3, V.sc (.string (bs [])))] [] []) (X.out 0) (st 26 [(0, V.sc (.int .i64 r2.1)), (3, V.sc (.string r2.2))] [] []),
        [V.sc (.int .u8 (u8 (i64 (48 + r2.1))))] = [u8 (i64 (48 + r2.1))].map fun n => V.sc (.int .u8 n),
        (bstr [u8 (i64 (48 + r2.1))]).size + r2.2.size ≤ 9223372036854775807]) (by kernel_rfl) (cj (spec_l01Money_ok n r1 h1) (cj rfl (cj (nf h2) (cj (spec_NumText_l0_ok n FUEL n (bs []) r2 h5) (cj rfl (cj1 (od h6))))))))) (fun h6 =>
       Pn.none))) (fun h2 =>
     Pn.some (Fn.of [.call [] (E4 r1) [], .bit true] (p := [Fn Tryd.prog 78 [(false, E3 n)] (E4 r1) [],
      (true || ((E4 r1).nv && nvL [])) = true,
      (!r1) = true]) (by kernel_rfl) (cj (spec_l01Money_ok n r1 h1) (cj rfl (cj1 (nt h2)))))))
def spec_ReqText_c0 (q : Req) : Option (Lo Unit Unit) :=
 (spec_ReqOk q).bind fun r1 =>
 if r1 = true then
  some (.out ())
 else
  some (.ret ())
theorem spec_ReqText_c0_ok (q : Req) : Pn (JnO Tryd.prog (sub (codeOf Tryd.prog 9) [1, 0]) (st 53 [(1, V.ptr 0 0)] [Blk.box 26 [V.sc (.int .i64 q.Op), V.sc (.string q.Acct), V.sc (.string q.Other), V.sc (.string q.Hold), V.sc (.string q.Trace), V.sc (.string q.Mti), V.sc (.int .i64 q.Amount), V.sc (.int .i64 q.Ttl)]] []) (fun (y : Lo Unit Unit) => Lo.elim y (fun s => (X.go, st 53 [(1, V.ptr 0 0)] [Blk.box 26 [V.sc (.int .i64 q.Op), V.sc (.string q.Acct), V.sc (.string q.Other), V.sc (.string q.Hold), V.sc (.string q.Trace), V.sc (.string q.Mti), V.sc (.int .i64 q.Amount), V.sc (.int .i64 q.Ttl)]] [])) (fun s => (X.ret, st 53 [(2, V.sc (.string (bs [])))] [] [])))) (spec_ReqText_c0 q) := by
  unfold spec_ReqText_c0
  exact
   Pn.bind (fun r1 h1 =>
    Pn.ite (fun h2 =>
     Pn.some (JnO.of [.call [] (E4 r1) [], .bit false, .mask [1], .ren [0]] (p := [Fn Tryd.prog 32 [(false, E26 q)] (E4 r1) [],
      (true || ((E4 r1).nv && nvL [])) = true,
      (!r1) = false]) (by kernel_rfl) (cj (spec_ReqOk_ok q r1 h1) (cj rfl (cj1 (nf h2)))))) (fun h2 =>
     Pn.some (JnO.of [.call [] (E4 r1) [], .bit true, .wait 1, .mask [2], .ren []] (p := [Fn Tryd.prog 32 [(false, E26 q)] (E4 r1) [],
      (true || ((E4 r1).nv && nvL [])) = true,
      (!r1) = true]) (by kernel_rfl) (cj (spec_ReqOk_ok q r1 h1) (cj rfl (cj1 (nt h2)))))))
def spec_ReqText_c1 (q : Req) (r3 : ByteArray) : Option (ByteArray) :=
 (spec_l11Hold q.Op).bind fun r4 =>
 if r4 = true then
  if (decide (((((r3 ++ (bs [32])) ++ q.Acct) ++ (bs [32])) ++ q.Trace).size + (bs [32]).size ≤ 9223372036854775807)) = true then
   if (decide ((((((r3 ++ (bs [32])) ++ q.Acct) ++ (bs [32])) ++ q.Trace) ++ (bs [32])).size + q.Hold.size ≤ 9223372036854775807)) = true then
    some ((((((r3 ++ (bs [32])) ++ q.Acct) ++ (bs [32])) ++ q.Trace) ++ (bs [32])) ++ q.Hold)
   else none
  else none
 else
  some ((((r3 ++ (bs [32])) ++ q.Acct) ++ (bs [32])) ++ q.Trace)
theorem spec_ReqText_c1_ok (q : Req) (r3 : ByteArray) : Pn (JnO Tryd.prog (sub (codeOf Tryd.prog 9) [1, 1, 1, 0]) (st 53 [(1, V.ptr 0 0), (3, V.sc (.string ((((r3 ++ (bs [32])) ++ q.Acct) ++ (bs [32])) ++ q.Trace)))] [Blk.box 26 [V.sc (.int .i64 q.Op), V.sc (.string q.Acct), V.sc (.string q.Other), V.sc (.string q.Hold), V.sc (.string q.Trace), V.sc (.string q.Mti), V.sc (.int .i64 q.Amount), V.sc (.int .i64 q.Ttl)]] []) (fun (y : ByteArray) => (X.go, st 53 [(1, V.ptr 0 0), (3, V.sc (.string y))] [Blk.box 26 [V.sc (.int .i64 q.Op), V.sc (.string q.Acct), V.sc (.string q.Other), V.sc (.string q.Hold), V.sc (.string q.Trace), V.sc (.string q.Mti), V.sc (.int .i64 q.Amount), V.sc (.int .i64 q.Ttl)]] []))) (spec_ReqText_c1 q r3) := by
  unfold spec_ReqText_c1
  exact
   Pn.bind (fun r4 h11 =>
    Pn.ite (fun h12 =>
     Pn.ite (fun h13 =>
      Pn.ite (fun h14 =>
       Pn.some (JnO.of [.call [] (E4 r4) [], .bit true, .wait 6, .mask [1, 3], .ren [0]] (p := [Fn Tryd.prog 34 [(false, E3 q.Op)] (E4 r4) [],
        (true || ((E4 r4).nv && nvL [])) = true,
        r4 = true,
        ((((r3 ++ (bs [32])) ++ q.Acct) ++ (bs [32])) ++ q.Trace).size + (bs [32]).size ≤ 9223372036854775807,
        (((((r3 ++ (bs [32])) ++ q.Acct) ++ (bs [32])) ++ q.Trace) ++ (bs [32])).size + q.Hold.size ≤ 9223372036854775807]) (by kernel_rfl) (cj (spec_l11Hold_ok q.Op r4 h11) (cj rfl (cj h12 (cj (od h13) (cj1 (od h14)))))))) (fun h14 =>
       Pn.none)) (fun h13 =>
      Pn.none)) (fun h12 =>
     Pn.some (JnO.of [.call [] (E4 r4) [], .bit false, .mask [1, 3], .ren [0]] (p := [Fn Tryd.prog 34 [(false, E3 q.Op)] (E4 r4) [],
      (true || ((E4 r4).nv && nvL [])) = true,
      r4 = false]) (by kernel_rfl) (cj (spec_l11Hold_ok q.Op r4 h11) (cj rfl (cj1 h12))))))
def spec_ReqText_c2 (q : Req) (r5 : ByteArray) : Option (ByteArray) :=
 (spec_l11Amount q.Op).bind fun r6 =>
 if r6 = true then
  if (decide (r5.size + (bs [32]).size ≤ 9223372036854775807)) = true then
   (spec_NumText q.Amount).bind fun r7 =>
   if (decide ((r5 ++ (bs [32])).size + r7.size ≤ 9223372036854775807)) = true then
    some ((r5 ++ (bs [32])) ++ r7)
   else none
  else none
 else
  some r5
theorem spec_ReqText_c2_ok (q : Req) (r5 : ByteArray) : Pn (JnO Tryd.prog (sub (codeOf Tryd.prog 9) [1, 1, 1, 1, 0]) (st 53 [(1, V.ptr 0 0), (3, V.sc (.string r5))] [Blk.box 26 [V.sc (.int .i64 q.Op), V.sc (.string q.Acct), V.sc (.string q.Other), V.sc (.string q.Hold), V.sc (.string q.Trace), V.sc (.string q.Mti), V.sc (.int .i64 q.Amount), V.sc (.int .i64 q.Ttl)]] []) (fun (y : ByteArray) => (X.go, st 53 [(1, V.ptr 0 0), (3, V.sc (.string y))] [Blk.box 26 [V.sc (.int .i64 q.Op), V.sc (.string q.Acct), V.sc (.string q.Other), V.sc (.string q.Hold), V.sc (.string q.Trace), V.sc (.string q.Mti), V.sc (.int .i64 q.Amount), V.sc (.int .i64 q.Ttl)]] []))) (spec_ReqText_c2 q r5) := by
  unfold spec_ReqText_c2
  exact
   Pn.bind (fun r6 h16 =>
    Pn.ite (fun h17 =>
     Pn.ite (fun h18 =>
      Pn.bind (fun r7 h19 =>
       Pn.ite (fun h20 =>
        Pn.some (JnO.of [.call [] (E4 r6) [], .bit true, .call [] (E9 r7) [], .wait 3, .mask [1, 3], .ren [0]] (p := [Fn Tryd.prog 35 [(false, E3 q.Op)] (E4 r6) [],
         (true || ((E4 r6).nv && nvL [])) = true,
         r6 = true,
         r5.size + (bs [32]).size ≤ 9223372036854775807,
         Fn Tryd.prog 36 [(false, E3 q.Amount)] (E9 r7) [],
         (true || ((E9 r7).nv && nvL [])) = true,
         (r5 ++ (bs [32])).size + r7.size ≤ 9223372036854775807]) (by kernel_rfl) (cj (spec_l11Amount_ok q.Op r6 h16) (cj rfl (cj h17 (cj (od h18) (cj (spec_NumText_ok q.Amount r7 h19) (cj rfl (cj1 (od h20)))))))))) (fun h20 =>
        Pn.none))) (fun h18 =>
      Pn.none)) (fun h17 =>
     Pn.some (JnO.of [.call [] (E4 r6) [], .bit false, .mask [1, 3], .ren [0]] (p := [Fn Tryd.prog 35 [(false, E3 q.Op)] (E4 r6) [],
      (true || ((E4 r6).nv && nvL [])) = true,
      r6 = false]) (by kernel_rfl) (cj (spec_l11Amount_ok q.Op r6 h16) (cj rfl (cj1 h17))))))
def spec_ReqText_c3 (q : Req) (r8 : ByteArray) : Option (ByteArray) :=
 if (q.Op == 1) = true then
  if (decide (r8.size + (bs [32]).size ≤ 9223372036854775807)) = true then
   (spec_NumText q.Ttl).bind fun r9 =>
   if (decide ((r8 ++ (bs [32])).size + r9.size ≤ 9223372036854775807)) = true then
    some ((r8 ++ (bs [32])) ++ r9)
   else none
  else none
 else
  some r8
theorem spec_ReqText_c3_ok (q : Req) (r8 : ByteArray) : Pn (JnO Tryd.prog (sub (codeOf Tryd.prog 9) [1, 1, 1, 1, 1, 0]) (st 53 [(1, V.ptr 0 0), (3, V.sc (.string r8))] [Blk.box 26 [V.sc (.int .i64 q.Op), V.sc (.string q.Acct), V.sc (.string q.Other), V.sc (.string q.Hold), V.sc (.string q.Trace), V.sc (.string q.Mti), V.sc (.int .i64 q.Amount), V.sc (.int .i64 q.Ttl)]] []) (fun (y : ByteArray) => (X.go, st 53 [(1, V.ptr 0 0), (3, V.sc (.string y))] [Blk.box 26 [V.sc (.int .i64 q.Op), V.sc (.string q.Acct), V.sc (.string q.Other), V.sc (.string q.Hold), V.sc (.string q.Trace), V.sc (.string q.Mti), V.sc (.int .i64 q.Amount), V.sc (.int .i64 q.Ttl)]] []))) (spec_ReqText_c3 q r8) := by
  unfold spec_ReqText_c3
  exact
   Pn.ite (fun h22 =>
    Pn.ite (fun h23 =>
     Pn.bind (fun r9 h24 =>
      Pn.ite (fun h25 =>
       Pn.some (JnO.of [.bit true, .call [] (E9 r9) [], .wait 3, .mask [1, 3], .ren [0]] (p := [(q.Op == 1) = true,
        r8.size + (bs [32]).size ≤ 9223372036854775807,
        Fn Tryd.prog 36 [(false, E3 q.Ttl)] (E9 r9) [],
        (true || ((E9 r9).nv && nvL [])) = true,
        (r8 ++ (bs [32])).size + r9.size ≤ 9223372036854775807]) (by kernel_rfl) (cj h22 (cj (od h23) (cj (spec_NumText_ok q.Ttl r9 h24) (cj rfl (cj1 (od h25)))))))) (fun h25 =>
       Pn.none))) (fun h23 =>
     Pn.none)) (fun h22 =>
    Pn.some (JnO.of [.bit false, .mask [1, 3], .ren [0]] (p := [(q.Op == 1) = false]) (by kernel_rfl) (cj1 h22)))
def spec_ReqText_c4 (q : Req) (r10 : ByteArray) : Option (ByteArray) :=
 if (q.Op == 6) = true then
  if (decide (r10.size + (bs [32]).size ≤ 9223372036854775807)) = true then
   if (decide ((r10 ++ (bs [32])).size + q.Other.size ≤ 9223372036854775807)) = true then
    some ((r10 ++ (bs [32])) ++ q.Other)
   else none
  else none
 else
  some r10
theorem spec_ReqText_c4_ok (q : Req) (r10 : ByteArray) : Pn (JnO Tryd.prog (sub (codeOf Tryd.prog 9) [1, 1, 1, 1, 1, 1, 0]) (st 53 [(1, V.ptr 0 0), (3, V.sc (.string r10))] [Blk.box 26 [V.sc (.int .i64 q.Op), V.sc (.string q.Acct), V.sc (.string q.Other), V.sc (.string q.Hold), V.sc (.string q.Trace), V.sc (.string q.Mti), V.sc (.int .i64 q.Amount), V.sc (.int .i64 q.Ttl)]] []) (fun (y : ByteArray) => (X.go, st 53 [(3, V.sc (.string y))] [] []))) (spec_ReqText_c4 q r10) := by
  unfold spec_ReqText_c4
  exact
   Pn.ite (fun h27 =>
    Pn.ite (fun h28 =>
     Pn.ite (fun h29 =>
      Pn.some (JnO.of [.bit true, .wait 6, .mask [3], .ren []] (p := [(q.Op == 6) = true,
       r10.size + (bs [32]).size ≤ 9223372036854775807,
       (r10 ++ (bs [32])).size + q.Other.size ≤ 9223372036854775807]) (by kernel_rfl) (cj h27 (cj (od h28) (cj1 (od h29)))))) (fun h29 =>
      Pn.none)) (fun h28 =>
     Pn.none)) (fun h27 =>
    Pn.some (JnO.of [.bit false, .mask [3], .ren []] (p := [(q.Op == 6) = false]) (by kernel_rfl) (cj1 h27)))
def spec_ReqText (q : Req) : Option (ByteArray) :=
 (spec_ReqText_c0 q).bind fun r2 =>
 Lo.elim r2 (fun s1 =>
  (spec_OpName q.Op).bind fun r3 =>
  if (decide (r3.size + (bs [32]).size ≤ 9223372036854775807)) = true then
   if (decide ((r3 ++ (bs [32])).size + q.Acct.size ≤ 9223372036854775807)) = true then
    if (decide (((r3 ++ (bs [32])) ++ q.Acct).size + (bs [32]).size ≤ 9223372036854775807)) = true then
     if (decide ((((r3 ++ (bs [32])) ++ q.Acct) ++ (bs [32])).size + q.Trace.size ≤ 9223372036854775807)) = true then
      (spec_ReqText_c1 q r3).bind fun r5 =>
      (spec_ReqText_c2 q r5).bind fun r8 =>
      (spec_ReqText_c3 q r8).bind fun r10 =>
      (spec_ReqText_c4 q r10).bind fun r11 =>
      some r11
     else none
    else none
   else none
  else none) (fun s2 =>
  some (bs []))
theorem spec_ReqText_ok (q : Req) : Pn (fun y => Fn Tryd.prog 9 [(false, E26 q)] (E9 y) []) (spec_ReqText q) := by
  unfold spec_ReqText
  exact
   Pn.bind (fun r2 h3 =>
    Pn.lo (fun s1 h4 =>
     Pn.bind (fun r3 h6 =>
      Pn.ite (fun h7 =>
       Pn.ite (fun h8 =>
        Pn.ite (fun h9 =>
         Pn.ite (fun h10 =>
          Pn.bind (fun r5 h15 =>
           Pn.bind (fun r8 h21 =>
            Pn.bind (fun r10 h26 =>
             Pn.bind (fun r11 h30 =>
              Pn.some (Fn.of [.wait 3, .mask [1], .ren [0], .join 7 (X.go) (st 53 [(1, V.ptr 0 0)] [Blk.box 26 [V.sc (.int .i64 q.Op), V.sc (.string q.Acct), V.sc (.string q.Other), V.sc (.string q.Hold), V.sc (.string q.Trace), V.sc (.string q.Mti), V.sc (.int .i64 q.Amount), V.sc (.int .i64 q.Ttl)]] []), .draw [], .call [] (E9 r3) [], .wait 6, .mask [1, 3], .ren [0], .join 5 (X.go) (st 53 [(1, V.ptr 0 0), (3, V.sc (.string r5))] [Blk.box 26 [V.sc (.int .i64 q.Op), V.sc (.string q.Acct), V.sc (.string q.Other), V.sc (.string q.Hold), V.sc (.string q.Trace), V.sc (.string q.Mti), V.sc (.int .i64 q.Amount), V.sc (.int .i64 q.Ttl)]] []), .wait 1, .mask [1, 3], .ren [0], .join 5 (X.go) (st 53 [(1, V.ptr 0 0), (3, V.sc (.string r8))] [Blk.box 26 [V.sc (.int .i64 q.Op), V.sc (.string q.Acct), V.sc (.string q.Other), V.sc (.string q.Hold), V.sc (.string q.Trace), V.sc (.string q.Mti), V.sc (.int .i64 q.Amount), V.sc (.int .i64 q.Ttl)]] []), .wait 1, .mask [1, 3], .ren [0], .join 5 (X.go) (st 53 [(1, V.ptr 0 0), (3, V.sc (.string r10))] [Blk.box 26 [V.sc (.int .i64 q.Op), V.sc (.string q.Acct), V.sc (.string q.Other), V.sc (.string q.Hold), V.sc (.string q.Trace), V.sc (.string q.Mti), V.sc (.int .i64 q.Amount), V.sc (.int .i64 q.Ttl)]] []), .wait 1, .mask [1, 3], .ren [0], .join 5 (X.go) (st 53 [(3, V.sc (.string r11))] [] [])] (p := [HT Tryd.prog (sub (codeOf Tryd.prog 9) [1, 0]) (st 53 [(1, V.ptr 0 0)] [Blk.box 26 [V.sc (.int .i64 q.Op), V.sc (.string q.Acct), V.sc (.string q.Other), V.sc (.string q.Hold), V.sc (.string q.Trace), V.sc (.string q.Mti), V.sc (.int .i64 q.Amount), V.sc (.int .i64 q.Ttl)]] []) (X.go) (st 53 [(1, V.ptr 0 0)] [Blk.box 26 [V.sc (.int .i64 q.Op), V.sc (.string q.Acct), V.sc (.string q.Other), V.sc (.string q.Hold), V.sc (.string q.Trace), V.sc (.string q.Mti), V.sc (.int .i64 q.Amount), V.sc (.int .i64 q.Ttl)]] []),
               Fn Tryd.prog 33 [(false, E3 q.Op)] (E9 r3) [],
               (true || ((E9 r3).nv && nvL [])) = true,
               r3.size + (bs [32]).size ≤ 9223372036854775807,
               (r3 ++ (bs [32])).size + q.Acct.size ≤ 9223372036854775807,
               ((r3 ++ (bs [32])) ++ q.Acct).size + (bs [32]).size ≤ 9223372036854775807,
               (((r3 ++ (bs [32])) ++ q.Acct) ++ (bs [32])).size + q.Trace.size ≤ 9223372036854775807,
               HT Tryd.prog (sub (codeOf Tryd.prog 9) [1, 1, 1, 0]) (st 53 [(1, V.ptr 0 0), (3, V.sc (.string ((((r3 ++ (bs [32])) ++ q.Acct) ++ (bs [32])) ++ q.Trace)))] [Blk.box 26 [V.sc (.int .i64 q.Op), V.sc (.string q.Acct), V.sc (.string q.Other), V.sc (.string q.Hold), V.sc (.string q.Trace), V.sc (.string q.Mti), V.sc (.int .i64 q.Amount), V.sc (.int .i64 q.Ttl)]] []) (X.go) (st 53 [(1, V.ptr 0 0), (3, V.sc (.string r5))] [Blk.box 26 [V.sc (.int .i64 q.Op), V.sc (.string q.Acct), V.sc (.string q.Other), V.sc (.string q.Hold), V.sc (.string q.Trace), V.sc (.string q.Mti), V.sc (.int .i64 q.Amount), V.sc (.int .i64 q.Ttl)]] []),
               HT Tryd.prog (sub (codeOf Tryd.prog 9) [1, 1, 1, 1, 0]) (st 53 [(1, V.ptr 0 0), (3, V.sc (.string r5))] [Blk.box 26 [V.sc (.int .i64 q.Op), V.sc (.string q.Acct), V.sc (.string q.Other), V.sc (.string q.Hold), V.sc (.string q.Trace), V.sc (.string q.Mti), V.sc (.int .i64 q.Amount), V.sc (.int .i64 q.Ttl)]] []) (X.go) (st 53 [(1, V.ptr 0 0), (3, V.sc (.string r8))] [Blk.box 26 [V.sc (.int .i64 q.Op), V.sc (.string q.Acct), V.sc (.string q.Other), V.sc (.string q.Hold), V.sc (.string q.Trace), V.sc (.string q.Mti), V.sc (.int .i64 q.Amount), V.sc (.int .i64 q.Ttl)]] []),
               HT Tryd.prog (sub (codeOf Tryd.prog 9) [1, 1, 1, 1, 1, 0]) (st 53 [(1, V.ptr 0 0), (3, V.sc (.string r8))] [Blk.box 26 [V.sc (.int .i64 q.Op), V.sc (.string q.Acct), V.sc (.string q.Other), V.sc (.string q.Hold), V.sc (.string q.Trace), V.sc (.string q.Mti), V.sc (.int .i64 q.Amount), V.sc (.int .i64 q.Ttl)]] []) (X.go) (st 53 [(1, V.ptr 0 0), (3, V.sc (.string r10))] [Blk.box 26 [V.sc (.int .i64 q.Op), V.sc (.string q.Acct), V.sc (.string q.Other), V.sc (.string q.Hold), V.sc (.string q.Trace), V.sc (.string q.Mti), V.sc (.int .i64 q.Amount), V.sc (.int .i64 q.Ttl)]] []),
               HT Tryd.prog (sub (codeOf Tryd.prog 9) [1, 1, 1, 1, 1, 1, 0]) (st 53 [(1, V.ptr 0 0), (3, V.sc (.string r10))] [Blk.box 26 [V.sc (.int .i64 q.Op), V.sc (.string q.Acct), V.sc (.string q.Other), V.sc (.string q.Hold), V.sc (.string q.Trace), V.sc (.string q.Mti), V.sc (.int .i64 q.Amount), V.sc (.int .i64 q.Ttl)]] []) (X.go) (st 53 [(3, V.sc (.string r11))] [] [])]) (by kernel_rfl) (cj ((spec_ReqText_c0_ok q r2 h3).at h4) (cj (spec_OpName_ok q.Op r3 h6) (cj rfl (cj (od h7) (cj (od h8) (cj (od h9) (cj (od h10) (cj (spec_ReqText_c1_ok q r3 r5 h15) (cj (spec_ReqText_c2_ok q r5 r8 h21) (cj (spec_ReqText_c3_ok q r8 r10 h26) (cj1 (spec_ReqText_c4_ok q r10 r11 h30)))))))))))))))))) (fun h10 =>
          Pn.none)) (fun h9 =>
         Pn.none)) (fun h8 =>
        Pn.none)) (fun h7 =>
       Pn.none))) (fun s2 h5 =>
     Pn.some (Fn.of [.wait 3, .mask [1], .ren [0], .join 7 (X.ret) (st 53 [(2, V.sc (.string (bs [])))] [] [])] (p := [HT Tryd.prog (sub (codeOf Tryd.prog 9) [1, 0]) (st 53 [(1, V.ptr 0 0)] [Blk.box 26 [V.sc (.int .i64 q.Op), V.sc (.string q.Acct), V.sc (.string q.Other), V.sc (.string q.Hold), V.sc (.string q.Trace), V.sc (.string q.Mti), V.sc (.int .i64 q.Amount), V.sc (.int .i64 q.Ttl)]] []) (X.ret) (st 53 [(2, V.sc (.string (bs [])))] [] [])]) (by kernel_rfl) (cj1 ((spec_ReqText_c0_ok q r2 h3).at h5)))))
def impl_within (n : Int) (low : Int) (high : Int) : Option (Bool) :=
 if (decide (low ≤ n)) = true then
  some (decide (n ≤ high))
 else
  some false
theorem impl_within_ok (n : Int) (low : Int) (high : Int) : Pn (fun y => Fn Tryd.prog 83 [(false, E3 n), (false, E3 low), (false, E3 high)] (E4 y) []) (impl_within n low high) := by
  unfold impl_within
  exact
   Pn.ite (fun h1 =>
    Pn.some (Fn.of [.bit true, .bit true, .bit true, .bit true] (p := [(decide (low ≤ n)) = true,
     (decide (low ≤ n)) = true,
     (decide (low ≤ n)) = true,
     (decide (low ≤ n)) = true]) (by kernel_rfl) (cj h1 (cj h1 (cj h1 (cj1 h1)))))) (fun h1 =>
    Pn.some (Fn.of [.bit false, .bit false, .bit false, .bit false] (p := [(decide (low ≤ n)) = false,
     (decide (low ≤ n)) = false,
     (decide (low ≤ n)) = false,
     (decide (low ≤ n)) = false]) (by kernel_rfl) (cj h1 (cj h1 (cj h1 (cj1 h1))))))
def impl_opRows  : Option ((List opRow)) :=
 some [(opRow.mk (bs [48, 49, 48, 48]) (bs [48, 48]) (bs [97, 117, 116, 104]) [4, 14, 38]), (opRow.mk (bs [48, 49, 48, 48]) (bs [48, 50]) (bs [109, 111, 114, 101]) [4, 38]), (opRow.mk (bs [48, 50, 50, 48]) (bs [48, 49]) (bs [112, 97, 114, 116]) [4, 38]), (opRow.mk (bs [48, 50, 50, 48]) (bs [48, 48]) (bs [102, 105, 110, 97, 108]) [4, 38]), (opRow.mk (bs [48, 50, 50, 48]) (bs [50, 48]) (bs [102, 114, 101, 101]) [38]), (opRow.mk (bs [48, 50, 48, 48]) (bs [52, 48]) (bs [109, 111, 118, 101]) [38, 103]), (opRow.mk (bs [48, 49, 48, 48]) (bs [51, 49]) (bs [97, 115, 107]) []), (opRow.mk (bs [48, 50, 48, 48]) (bs [57, 48]) (bs [115, 119, 101, 101, 112]) [])]
theorem impl_opRows_ok  : Pn (fun y => Fn Tryd.prog 116 [] (E122 y) []) (impl_opRows) := by
  unfold impl_opRows
  exact
   Pn.some (Fn.of [.wait 18, .shut 6] (p := []) (by kernel_rfl) trivial)
def impl_opOf (op : Int) : Option (opRow) :=
 (impl_within op 1 8).bind fun r1 =>
 if r1 = true then
  (impl_opRows).bind fun r2 =>
  if (decide (0 ≤ (i64 (op - 1)))) = true then
   (r2[(i64 (op - 1)).toNat]?).bind fun x1 =>
   some x1
  else none
 else
  some (opRow.mk ByteArray.empty ByteArray.empty ByteArray.empty [])
theorem impl_opOf_ok (op : Int) : Pn (fun y => Fn Tryd.prog 79 [(false, E3 op)] (E92 y) []) (impl_opOf op) := by
  unfold impl_opOf
  exact
   Pn.bind (fun r1 h1 =>
    Pn.ite (fun h2 =>
     Pn.bind (fun r2 h3 =>
      Pn.ite (fun h4 =>
       Pn.bind (fun x1 h5 =>
        Pn.some (Fn.of [.call [] (E4 r1) [], .bit false, .call [] (E122 r2) [], .wait 3, .foc 1 ((i64 (op - 1)).toNat) (E92 x1), .fo 0] (p := [Fn Tryd.prog 83 [(false, E3 op), (false, E3 1), (false, E3 8)] (E4 r1) [],
         (true || ((E4 r1).nv && nvL [])) = true,
         (!r1) = false,
         Fn Tryd.prog 116 [] (E122 r2) [],
         (true || ((E122 r2).nv && nvL [])) = true,
         (0 : Int) ≤ (i64 (op - 1)),
         ((i64 (op - 1)) : Int) < ((List.map E92 r2).length : Int),
         look [] ((i64 (op - 1)).toNat) = none,
         (List.map E92 r2)[(i64 (op - 1)).toNat]? = some (E92 x1),
         look [((i64 (op - 1)).toNat, V.agg [V.sc (.string x1.mti), V.sc (.string x1.code), V.sc (.string x1.name), V.ow 2])] ((i64 (op - 1)).toNat) = some (V.agg [V.sc (.string x1.mti), V.sc (.string x1.code), V.sc (.string x1.name), V.ow 2]),
         ((i64 (op - 1)).toNat) < (List.map E92 r2).length]) (by kernel_rfl) (cj (impl_within_ok op 1 8 r1 h1) (cj rfl (cj (nf h2) (cj (impl_opRows_ok  r2 h3) (cj rfl (cj (od h4) (cj (map_ltN (od h4) h5) (cj rfl (cj (map_get h5) (cj (look_cons_self _ _ _) (cj1 (map_lt h5))))))))))))))) (fun h4 =>
       Pn.none))) (fun h2 =>
     Pn.some (Fn.of [.call [] (E4 r1) [], .bit true] (p := [Fn Tryd.prog 83 [(false, E3 op), (false, E3 1), (false, E3 8)] (E4 r1) [],
      (true || ((E4 r1).nv && nvL [])) = true,
      (!r1) = true]) (by kernel_rfl) (cj (impl_within_ok op 1 8 r1 h1) (cj rfl (cj1 (nt h2)))))))
def impl_Digits_l0 (s_ : ByteArray) : Nat → Int → Option (Lo Unit Unit)
  | 0, _ => none
  | fuel + 1, v1 =>
   if (decide (v1 < (s_.size : Int))) = true then
    if (decide (0 ≤ v1)) = true then
     if (decide ((v1 : Int) < (s_.size : Int))) = true then
      if (decide ((sAt s_ v1) < 48)) = true then
       some (.ret ())
      else
       if (decide (57 < (sAt s_ v1))) = true then
        some (.ret ())
       else
        impl_Digits_l0 s_ fuel (i64 (v1 + 1))
     else none
    else none
   else
    some (.out ())
theorem impl_Digits_l0_ok (s_ : ByteArray) : ∀ (fuel : Nat) (v1 : Int), Pn (LpO Tryd.prog (sub (codeOf Tryd.prog 118) [1, 0, 1, 0, 0]) (st 22 [(0, V.sc (.string s_)), (5, V.sc (.int .i64 (s_.size : Int))), (6, V.sc (.int .i64 v1))] [] []) (fun (y : Lo Unit Unit) => Lo.elim y (fun s => (X.out 0, st 22 [(0, V.sc (.string s_))] [] [])) (fun s => (X.ret, st 22 [(2, V.sc (.bool false))] [] [])))) (impl_Digits_l0 s_ fuel v1)
  | 0, _ => Pn.none
  | fuel + 1, v1 => by
    unfold impl_Digits_l0
    exact
     Pn.ite (fun h1 =>
      Pn.ite (fun h2 =>
       Pn.ite (fun h3 =>
        Pn.ite (fun h4 =>
         Pn.some (LpO.out [.bit true, .bit true, .bit true, .bit true, .bit true, .bit true, .bit true, .wait 1, .mask [2], .ren []] (p := [(decide (v1 < (s_.size : Int))) = true,
          (0 : Int) ≤ v1,
          (v1 : Int) < s_.size,
          (decide ((sAt s_ v1) < 48)) = true,
          (decide ((sAt s_ v1) < 48)) = true,
          (decide ((sAt s_ v1) < 48)) = true,
          (decide ((sAt s_ v1) < 48)) = true,
          (decide ((sAt s_ v1) < 48)) = true,
          true = true]) (by kernel_rfl) (show X.ret ≠ X.go from nofun) (cj h1 (cj (od h2) (cj (od h3) (cj h4 (cj h4 (cj h4 (cj h4 (cj h4 (cj1 rfl))))))))))) (fun h4 =>
         Pn.ite (fun h5 =>
          Pn.some (LpO.out [.bit true, .bit false, .bit false, .bit false, .bit false, .bit false, .bit true, .wait 1, .mask [2], .ren []] (p := [(decide (v1 < (s_.size : Int))) = true,
           (0 : Int) ≤ v1,
           (v1 : Int) < s_.size,
           (decide ((sAt s_ v1) < 48)) = false,
           (decide ((sAt s_ v1) < 48)) = false,
           (decide ((sAt s_ v1) < 48)) = false,
           (0 : Int) ≤ v1,
           (v1 : Int) < s_.size,
           (decide ((sAt s_ v1) < 48)) = false,
           (decide ((sAt s_ v1) < 48)) = false,
           (decide (57 < (sAt s_ v1))) = true]) (by kernel_rfl) (show X.ret ≠ X.go from nofun) (cj h1 (cj (od h2) (cj (od h3) (cj h4 (cj h4 (cj h4 (cj (od h2) (cj (od h3) (cj h4 (cj h4 (cj1 h5))))))))))))) (fun h5 =>
          LpO.go [.bit true, .bit false, .bit false, .bit false, .bit false, .bit false, .bit false, .wait 2, .mask [0, 5, 6], .ren []] (p := [(decide (v1 < (s_.size : Int))) = true,
           (0 : Int) ≤ v1,
           (v1 : Int) < s_.size,
           (decide ((sAt s_ v1) < 48)) = false,
           (decide ((sAt s_ v1) < 48)) = false,
           (decide ((sAt s_ v1) < 48)) = false,
           (0 : Int) ≤ v1,
           (v1 : Int) < s_.size,
           (decide ((sAt s_ v1) < 48)) = false,
           (decide ((sAt s_ v1) < 48)) = false,
           (decide (57 < (sAt s_ v1))) = false]) (by kernel_rfl) (cj h1 (cj (od h2) (cj (od h3) (cj h4 (cj h4 (cj h4 (cj (od h2) (cj (od h3) (cj h4 (cj h4 (cj1 h5))))))))))) (impl_Digits_l0_ok s_ fuel (i64 (v1 + 1)))))) (fun h3 =>
        Pn.none)) (fun h2 =>
       Pn.none)) (fun h1 =>
      Pn.some (LpO.out [.bit false, .mask [0], .ren []] (p := [(decide (v1 < (s_.size : Int))) = false]) (by kernel_rfl) (show X.out 0 ≠ X.go from nofun) (cj1 h1)))
def impl_Digits (s_ : ByteArray) : Option (Bool) :=
 (impl_Digits_l0 s_ FUEL 0).bind fun r1 =>
 Lo.elim r1 (fun s1 =>
  some (!(s_ == (bs [])))) (fun s2 =>
  some false)
theorem impl_Digits_ok (s_ : ByteArray) : Pn (fun y => Fn Tryd.prog 118 [(false, E9 s_)] (E4 y) []) (impl_Digits s_) := by
  unfold impl_Digits
  exact
   Pn.bind (fun r1 h6 =>
    Pn.lo (fun s1 h7 =>
     Pn.some (Fn.of [.wait 5, .mask [0, 5, 6], .ren [], .loop (X.out 0) (st 22 [(0, V.sc (.string s_))] [] [])] (p := [Loop Tryd.prog (sub (codeOf Tryd.prog 118) [1, 0, 1, 0, 0]) (st 22 [(0, V.sc (.string s_)), (5, V.sc (.int .i64 (s_.size : Int))), (6, V.sc (.int .i64 0))] [] []) (X.out 0) (st 22 [(0, V.sc (.string s_))] [] [])]) (by kernel_rfl) (cj1 ((impl_Digits_l0_ok s_ FUEL 0 r1 h6).at h7)))) (fun s2 h8 =>
     Pn.some (Fn.of [.wait 5, .mask [0, 5, 6], .ren [], .loop (X.ret) (st 22 [(2, V.sc (.bool false))] [] [])] (p := [Loop Tryd.prog (sub (codeOf Tryd.prog 118) [1, 0, 1, 0, 0]) (st 22 [(0, V.sc (.string s_)), (5, V.sc (.int .i64 (s_.size : Int))), (6, V.sc (.int .i64 0))] [] []) (X.ret) (st 22 [(2, V.sc (.bool false))] [] [])]) (by kernel_rfl) (cj1 ((impl_Digits_l0_ok s_ FUEL 0 r1 h6).at h8)))))
def impl_Luhn_l0 (s_ : ByteArray) : Nat → Int → Bool → Int → Option (Int)
  | 0, _, _, _ => none
  | fuel + 1, v1, v2, v3 =>
   if (decide (0 ≤ v3)) = true then
    if (decide ((v3 : Int) < (s_.size : Int))) = true then
     if v2 = true then
      if (decide (9 < (i64 ((i64 (u8 ((sAt s_ v3) - 48))) * 2)))) = true then
       impl_Luhn_l0 s_ fuel (i64 (v1 + (i64 ((i64 ((i64 (u8 ((sAt s_ v3) - 48))) * 2)) - 9)))) (!v2) (i64 (v3 - 1))
      else
       impl_Luhn_l0 s_ fuel (i64 (v1 + (i64 ((i64 (u8 ((sAt s_ v3) - 48))) * 2)))) (!v2) (i64 (v3 - 1))
     else
      impl_Luhn_l0 s_ fuel (i64 (v1 + (i64 (u8 ((sAt s_ v3) - 48))))) (!v2) (i64 (v3 - 1))
    else none
   else
    some v1
theorem impl_Luhn_l0_ok (s_ : ByteArray) : ∀ (fuel : Nat) (v1 : Int) (v2 : Bool) (v3 : Int), Pn (LpO Tryd.prog (sub (codeOf Tryd.prog 145) [1, 1, 1, 0, 1, 0, 0]) (st 38 [(0, V.sc (.string s_)), (3, V.sc (.int .i64 v1)), (4, V.sc (.bool v2)), (5, V.sc (.int .i64 v3))] [] []) (fun (y : Int) => (X.out 0, st 38 [(3, V.sc (.int .i64 y))] [] []))) (impl_Luhn_l0 s_ fuel v1 v2 v3)
  | 0, _, _, _ => Pn.none
  | fuel + 1, v1, v2, v3 => by
    unfold impl_Luhn_l0
    exact
     Pn.ite (fun h3 =>
      Pn.ite (fun h4 =>
       Pn.ite (fun h5 =>
        Pn.ite (fun h6 =>
         LpO.go [.bit true, .bit true, .bit true, .wait 13, .mask [0, 3, 4, 5], .ren []] (p := [(decide (0 ≤ v3)) = true,
          (0 : Int) ≤ v3,
          (v3 : Int) < s_.size,
          v2 = true,
          (decide (9 < (i64 ((i64 (u8 ((sAt s_ v3) - 48))) * 2)))) = true]) (by kernel_rfl) (cj h3 (cj (od h3) (cj (od h4) (cj h5 (cj1 h6))))) (impl_Luhn_l0_ok s_ fuel (i64 (v1 + (i64 ((i64 ((i64 (u8 ((sAt s_ v3) - 48))) * 2)) - 9)))) (!v2) (i64 (v3 - 1)))) (fun h6 =>
         LpO.go [.bit true, .bit true, .bit false, .wait 10, .mask [0, 3, 4, 5], .ren []] (p := [(decide (0 ≤ v3)) = true,
          (0 : Int) ≤ v3,
          (v3 : Int) < s_.size,
          v2 = true,
          (decide (9 < (i64 ((i64 (u8 ((sAt s_ v3) - 48))) * 2)))) = false]) (by kernel_rfl) (cj h3 (cj (od h3) (cj (od h4) (cj h5 (cj1 h6))))) (impl_Luhn_l0_ok s_ fuel (i64 (v1 + (i64 ((i64 (u8 ((sAt s_ v3) - 48))) * 2)))) (!v2) (i64 (v3 - 1))))) (fun h5 =>
        LpO.go [.bit true, .bit false, .wait 10, .mask [0, 3, 4, 5], .ren []] (p := [(decide (0 ≤ v3)) = true,
         (0 : Int) ≤ v3,
         (v3 : Int) < s_.size,
         v2 = false]) (by kernel_rfl) (cj h3 (cj (od h3) (cj (od h4) (cj1 h5)))) (impl_Luhn_l0_ok s_ fuel (i64 (v1 + (i64 (u8 ((sAt s_ v3) - 48))))) (!v2) (i64 (v3 - 1))))) (fun h4 =>
       Pn.none)) (fun h3 =>
      Pn.some (LpO.out [.bit false, .mask [3], .ren []] (p := [(decide (0 ≤ v3)) = false]) (by kernel_rfl) (show X.out 0 ≠ X.go from nofun) (cj1 h3)))
def impl_Luhn (s_ : ByteArray) : Option (Int) :=
 (impl_Digits s_).bind fun r1 =>
 if r1 = true then
  (impl_Luhn_l0 s_ FUEL 0 true (i64 ((s_.size : Int) - 1))).bind fun r2 =>
  some (Int.tmod (i64 (10 - (Int.tmod r2 10))) 10)
 else
  some (-1)
theorem impl_Luhn_ok (s_ : ByteArray) : Pn (fun y => Fn Tryd.prog 145 [(false, E9 s_)] (E3 y) []) (impl_Luhn s_) := by
  unfold impl_Luhn
  exact
   Pn.bind (fun r1 h1 =>
    Pn.ite (fun h2 =>
     Pn.bind (fun r2 h7 =>
      Pn.some (Fn.of [.call [] (E4 r1) [], .bit false, .wait 6, .mask [0, 3, 4, 5], .ren [], .loop (X.out 0) (st 38 [(3, V.sc (.int .i64 r2))] [] [])] (p := [Fn Tryd.prog 118 [(false, E9 s_)] (E4 r1) [],
       (true || ((E4 r1).nv && nvL [])) = true,
       (!r1) = false,
       Loop Tryd.prog (sub (codeOf Tryd.prog 145) [1, 1, 1, 0, 1, 0, 0]) (st 38 [(0, V.sc (.string s_)), (3, V.sc (.int .i64 0)), (4, V.sc (.bool true)), (5, V.sc (.int .i64 (i64 ((s_.size : Int) - 1))))] [] []) (X.out 0) (st 38 [(3, V.sc (.int .i64 r2))] [] []),
       (10 : Int) ≠ 0,
       (10 : Int) ≠ 0]) (by kernel_rfl) (cj (impl_Digits_ok s_ r1 h1) (cj rfl (cj (nf h2) (cj (impl_Luhn_l0_ok s_ FUEL 0 true (i64 ((s_.size : Int) - 1)) r2 h7) (cj (by decide) (cj1 (by decide)))))))))) (fun h2 =>
     Pn.some (Fn.of [.call [] (E4 r1) [], .bit true] (p := [Fn Tryd.prog 118 [(false, E9 s_)] (E4 r1) [],
      (true || ((E4 r1).nv && nvL [])) = true,
      (!r1) = true]) (by kernel_rfl) (cj (impl_Digits_ok s_ r1 h1) (cj rfl (cj1 (nt h2)))))))
def impl_LuhnOk (s_ : ByteArray) : Option (Bool) :=
 if (decide (1 ≤ (i64 ((s_.size : Int) - 1)))) = true then
  (impl_Digits s_).bind fun r1 =>
  if r1 = true then
   if (decide (0 ≤ (i64 ((s_.size : Int) - 1)))) = true then
    if (decide ((i64 ((s_.size : Int) - 1)) ≤ (s_.size : Int))) = true then
     if (decide (0 ≤ i64 ((s_.size : Int) - 1))) = true then
      if (decide ((i64 ((s_.size : Int) - 1) : Int) < (s_.size : Int))) = true then
       (impl_Luhn (s_.extract 0 (i64 ((s_.size : Int) - 1)).toNat)).bind fun r2 =>
       some (r2 == (i64 (u8 ((sAt s_ (i64 ((s_.size : Int) - 1))) - 48))))
      else none
     else none
    else none
   else none
  else
   some false
 else
  some false
theorem impl_LuhnOk_ok (s_ : ByteArray) : Pn (fun y => Fn Tryd.prog 117 [(false, E9 s_)] (E4 y) []) (impl_LuhnOk s_) := by
  unfold impl_LuhnOk
  exact
   Pn.ite (fun h1 =>
    Pn.bind (fun r1 h2 =>
     Pn.ite (fun h3 =>
      Pn.ite (fun h4 =>
       Pn.ite (fun h5 =>
        Pn.ite (fun h6 =>
         Pn.ite (fun h7 =>
          Pn.bind (fun r2 h8 =>
           Pn.some (Fn.of [.draw [], .bit true, .bit true, .call [] (E4 r1) [], .bit true, .bit true, .bit true, .bit true, .bit true, .bit true, .bit true, .bit true, .bit true, .bit true, .call [] (E3 r2) [], .bit true, .bit true] (p := [(decide (1 ≤ (i64 ((s_.size : Int) - 1)))) = true,
            (decide (1 ≤ (i64 ((s_.size : Int) - 1)))) = true,
            Fn Tryd.prog 118 [(false, E9 s_)] (E4 r1) [],
            (true || ((E4 r1).nv && nvL [])) = true,
            (decide (1 ≤ (i64 ((s_.size : Int) - 1)))) = true,
            r1 = true,
            r1 = true,
            r1 = true,
            (0 : Int) ≤ 0,
            (0 : Int) ≤ (i64 ((s_.size : Int) - 1)),
            ((i64 ((s_.size : Int) - 1)) : Int) ≤ (s_.size : Int),
            r1 = true,
            r1 = true,
            r1 = true,
            (0 : Int) ≤ i64 ((s_.size : Int) - 1),
            (i64 ((s_.size : Int) - 1) : Int) < s_.size,
            r1 = true,
            r1 = true,
            r1 = true,
            Fn Tryd.prog 145 [(false, E9 (s_.extract 0 (i64 ((s_.size : Int) - 1)).toNat))] (E3 r2) [],
            (true || ((E3 r2).nv && nvL [])) = true,
            r1 = true,
            r1 = true]) (by kernel_rfl) (cj h1 (cj h1 (cj (impl_Digits_ok s_ r1 h2) (cj rfl (cj h1 (cj h3 (cj h3 (cj h3 (cj (by decide) (cj (od h4) (cj (od h5) (cj h3 (cj h3 (cj h3 (cj (od h6) (cj (od h7) (cj h3 (cj h3 (cj h3 (cj (impl_Luhn_ok (s_.extract 0 (i64 ((s_.size : Int) - 1)).toNat) r2 h8) (cj rfl (cj h3 (cj1 h3)))))))))))))))))))))))))) (fun h7 =>
          Pn.none)) (fun h6 =>
         Pn.none)) (fun h5 =>
        Pn.none)) (fun h4 =>
       Pn.none)) (fun h3 =>
      Pn.some (Fn.of [.draw [], .bit true, .bit true, .call [] (E4 r1) [], .bit true, .bit false, .bit false, .bit false, .bit false, .bit false, .bit false, .bit false, .bit false, .bit false, .bit false, .bit false] (p := [(decide (1 ≤ (i64 ((s_.size : Int) - 1)))) = true,
       (decide (1 ≤ (i64 ((s_.size : Int) - 1)))) = true,
       Fn Tryd.prog 118 [(false, E9 s_)] (E4 r1) [],
       (true || ((E4 r1).nv && nvL [])) = true,
       (decide (1 ≤ (i64 ((s_.size : Int) - 1)))) = true,
       r1 = false,
       r1 = false,
       r1 = false,
       r1 = false,
       r1 = false,
       r1 = false,
       r1 = false,
       r1 = false,
       r1 = false,
       r1 = false,
       r1 = false]) (by kernel_rfl) (cj h1 (cj h1 (cj (impl_Digits_ok s_ r1 h2) (cj rfl (cj h1 (cj h3 (cj h3 (cj h3 (cj h3 (cj h3 (cj h3 (cj h3 (cj h3 (cj h3 (cj h3 (cj1 h3)))))))))))))))))))) (fun h1 =>
    Pn.some (Fn.of [.draw [], .bit false, .bit false, .bit false, .bit false, .bit false, .bit false, .bit false, .bit false, .bit false, .bit false, .bit false, .bit false, .bit false, .bit false] (p := [(decide (1 ≤ (i64 ((s_.size : Int) - 1)))) = false,
     (decide (1 ≤ (i64 ((s_.size : Int) - 1)))) = false,
     (decide (1 ≤ (i64 ((s_.size : Int) - 1)))) = false,
     false = false,
     false = false,
     false = false,
     false = false,
     false = false,
     false = false,
     false = false,
     false = false,
     false = false,
     false = false,
     false = false]) (by kernel_rfl) (cj h1 (cj h1 (cj h1 (cj rfl (cj rfl (cj rfl (cj rfl (cj rfl (cj rfl (cj rfl (cj rfl (cj rfl (cj rfl (cj1 rfl))))))))))))))))
def impl_AcctIdOk (s_ : ByteArray) : Option (Bool) :=
 if (decide ((s_.size : Int) ≤ 19)) = true then
  (impl_LuhnOk s_).bind fun r1 =>
  some r1
 else
  some false
theorem impl_AcctIdOk_ok (s_ : ByteArray) : Pn (fun y => Fn Tryd.prog 80 [(false, E9 s_)] (E4 y) []) (impl_AcctIdOk s_) := by
  unfold impl_AcctIdOk
  exact
   Pn.ite (fun h1 =>
    Pn.bind (fun r1 h2 =>
     Pn.some (Fn.of [.bit true, .bit true, .call [] (E4 r1) [], .bit true] (p := [(decide ((s_.size : Int) ≤ 19)) = true,
      (decide ((s_.size : Int) ≤ 19)) = true,
      Fn Tryd.prog 117 [(false, E9 s_)] (E4 r1) [],
      (true || ((E4 r1).nv && nvL [])) = true,
      (decide ((s_.size : Int) ≤ 19)) = true]) (by kernel_rfl) (cj h1 (cj h1 (cj (impl_LuhnOk_ok s_ r1 h2) (cj rfl (cj1 h1)))))))) (fun h1 =>
    Pn.some (Fn.of [.bit false, .bit false, .bit false] (p := [(decide ((s_.size : Int) ≤ 19)) = false,
     (decide ((s_.size : Int) ≤ 19)) = false,
     (decide ((s_.size : Int) ≤ 19)) = false]) (by kernel_rfl) (cj h1 (cj h1 (cj1 h1)))))
def impl_isWide (s_ : ByteArray) (n : Int) : Option (Bool) :=
 (impl_Digits s_).bind fun r1 =>
 if r1 = true then
  some ((s_.size : Int) == n)
 else
  some false
theorem impl_isWide_ok (s_ : ByteArray) (n : Int) : Pn (fun y => Fn Tryd.prog 81 [(false, E9 s_), (false, E3 n)] (E4 y) []) (impl_isWide s_ n) := by
  unfold impl_isWide
  exact
   Pn.bind (fun r1 h1 =>
    Pn.ite (fun h2 =>
     Pn.some (Fn.of [.call [] (E4 r1) [], .bit true, .bit true, .bit true, .bit true, .bit true] (p := [Fn Tryd.prog 118 [(false, E9 s_)] (E4 r1) [],
      (true || ((E4 r1).nv && nvL [])) = true,
      r1 = true,
      r1 = true,
      r1 = true,
      r1 = true,
      r1 = true]) (by kernel_rfl) (cj (impl_Digits_ok s_ r1 h1) (cj rfl (cj h2 (cj h2 (cj h2 (cj h2 (cj1 h2))))))))) (fun h2 =>
     Pn.some (Fn.of [.call [] (E4 r1) [], .bit false, .bit false, .bit false, .bit false, .bit false] (p := [Fn Tryd.prog 118 [(false, E9 s_)] (E4 r1) [],
      (true || ((E4 r1).nv && nvL [])) = true,
      r1 = false,
      r1 = false,
      r1 = false,
      r1 = false,
      r1 = false]) (by kernel_rfl) (cj (impl_Digits_ok s_ r1 h1) (cj rfl (cj h2 (cj h2 (cj h2 (cj h2 (cj1 h2))))))))))
def slices_Index_int_l0 (s_ : List Int) (v_ : Int) : List Int → List Int → Option (Lo Unit Int)
  | [], p1 =>
   some (.out ())
  | x1 :: t1, p1 =>
   if (v_ == x1) = true then
    some (.ret (p1.length : Int))
   else
    slices_Index_int_l0 s_ v_ t1 (p1 ++ [x1])
theorem slices_Index_int_l0_ok (s_ : List Int) (v_ : Int) (h2 : capOk s_.length = true) : ∀ (t1 p1 : List Int) (_ : s_ = p1 ++ t1) , Pn (LpO Tryd.prog (sub (codeOf Tryd.prog 119) [1, 0, 1, 0, 0]) (st 19 [(0, V.sl false 3 (List.map E3 s_)), (1, V.sc (.int .i64 v_)), (7, V.sc (.int .i64 (s_.length : Int))), (8, V.sc (.int .i64 (p1.length : Int)))] [] []) (fun (y : Lo Unit Int) => Lo.elim y (fun s => (X.out 0, st 19 [] [] [])) (fun s => (X.ret, st 19 [(4, V.sc (.int .i64 s))] [] [])))) (slices_Index_int_l0 s_ v_ t1 p1)
  | [], p1, h1 => by
    unfold slices_Index_int_l0
    exact
     Pn.some (LpO.out [.bit false, .mask [], .ren []] (p := [(decide ((p1.length : Int) < (s_.length : Int))) = false]) (by kernel_rfl) (show X.out 0 ≠ X.go from nofun) (cj1 (rng_end h1)))
  | x1 :: t1, p1, h1 => by
    unfold slices_Index_int_l0
    exact
     Pn.ite (fun h3 =>
      Pn.some (LpO.out [.bit true, .el (E3 x1), .bit true, .wait 2, .mask [4], .ren []] (p := [(decide ((p1.length : Int) < (s_.length : Int))) = true,
       (0 : Int) ≤ (p1.length : Int),
       (List.map E3 s_)[(p1.length : Int).toNat]? = some (E3 x1),
       (v_ == x1) = true]) (by kernel_rfl) (show X.ret ≠ X.go from nofun) (cj (rng_lt h1) (cj (by omega) (cj (rng_get _ h1) (cj1 h3)))))) (fun h3 =>
      LpO.go [.bit true, .el (E3 x1), .bit false, .wait 2, .mask [0, 1, 7, 8], .ren [], .nm 8 (V.sc (.int .i64 ((p1 ++ [x1]).length : Int)))] (p := [(decide ((p1.length : Int) < (s_.length : Int))) = true,
       (0 : Int) ≤ (p1.length : Int),
       (List.map E3 s_)[(p1.length : Int).toNat]? = some (E3 x1),
       (v_ == x1) = false,
       V.sc (.int .i64 (i64 ((p1.length : Int) + 1))) = V.sc (.int .i64 ((p1 ++ [x1]).length : Int))]) (by kernel_rfl) (cj (rng_lt h1) (cj (by omega) (cj (rng_get _ h1) (cj h3 (cj1 (rng_next h1 h2)))))) (slices_Index_int_l0_ok s_ v_ h2 t1 (p1 ++ [x1]) (rng_step h1)))
def slices_Index_int (s_ : List Int) (v_ : Int) : Option (Int) :=
 if (capOk s_.length) = true then
  (slices_Index_int_l0 s_ v_ s_ []).bind fun r1 =>
  Lo.elim r1 (fun s1 =>
   some (-1)) (fun s2 =>
   some s2)
 else none
theorem slices_Index_int_ok (s_ : List Int) (v_ : Int) : Pn (fun y => Fn Tryd.prog 119 [(false, E53 s_), (false, E3 v_)] (E3 y) []) (slices_Index_int s_ v_) := by
  unfold slices_Index_int
  exact
   Pn.ite (fun h4 =>
    Pn.bind (fun r1 h5 =>
     Pn.lo (fun s1 h6 =>
      Pn.some (Fn.of [.wait 3, .nm 7 (V.sc (.int .i64 (s_.length : Int))), .wait 2, .mask [0, 1, 7, 8], .ren [], .loop (X.out 0) (st 19 [] [] [])] (p := [V.sc (.int .i64 ((List.map E3 s_).length : Int)) = V.sc (.int .i64 (s_.length : Int)),
       Loop Tryd.prog (sub (codeOf Tryd.prog 119) [1, 0, 1, 0, 0]) (st 19 [(0, V.sl false 3 (List.map E3 s_)), (1, V.sc (.int .i64 v_)), (7, V.sc (.int .i64 (s_.length : Int))), (8, V.sc (.int .i64 0))] [] []) (X.out 0) (st 19 [] [] [])]) (by kernel_rfl) (cj (len_nm _ _) (cj1 ((slices_Index_int_l0_ok s_ v_ h4 s_ [] rfl r1 h5).at h6))))) (fun s2 h7 =>
      Pn.some (Fn.of [.wait 3, .nm 7 (V.sc (.int .i64 (s_.length : Int))), .wait 2, .mask [0, 1, 7, 8], .ren [], .loop (X.ret) (st 19 [(4, V.sc (.int .i64 s2))] [] [])] (p := [V.sc (.int .i64 ((List.map E3 s_).length : Int)) = V.sc (.int .i64 (s_.length : Int)),
       Loop Tryd.prog (sub (codeOf Tryd.prog 119) [1, 0, 1, 0, 0]) (st 19 [(0, V.sl false 3 (List.map E3 s_)), (1, V.sc (.int .i64 v_)), (7, V.sc (.int .i64 (s_.length : Int))), (8, V.sc (.int .i64 0))] [] []) (X.ret) (st 19 [(4, V.sc (.int .i64 s2))] [] [])]) (by kernel_rfl) (cj (len_nm _ _) (cj1 ((slices_Index_int_l0_ok s_ v_ h4 s_ [] rfl r1 h5).at h7))))))) (fun h4 =>
    Pn.none)
def slices_Contains_int (s_ : List Int) (v_ : Int) : Option (Bool) :=
 (slices_Index_int s_ v_).bind fun r1 =>
 some (decide (0 ≤ r1))
theorem slices_Contains_int_ok (s_ : List Int) (v_ : Int) : Pn (fun y => Fn Tryd.prog 84 [(false, E53 s_), (false, E3 v_)] (E4 y) []) (slices_Contains_int s_ v_) := by
  unfold slices_Contains_int
  exact
   Pn.bind (fun r1 h1 =>
    Pn.some (Fn.of [.call [] (E3 r1) []] (p := [Fn Tryd.prog 119 [(false, E53 s_), (false, E3 v_)] (E3 r1) [],
     (true || ((E3 r1).nv && nvL [])) = true]) (by kernel_rfl) (cj (slices_Index_int_ok s_ v_ r1 h1) (cj1 rfl))))
def impl_uses (op : Int) (no : Int) : Option (Bool) :=
 (impl_opOf op).bind fun r1 =>
 (slices_Contains_int r1.fields no).bind fun r2 =>
 some r2
theorem impl_uses_ok (op : Int) (no : Int) : Pn (fun y => Fn Tryd.prog 39 [(false, E3 op), (false, E3 no)] (E4 y) []) (impl_uses op no) := by
  unfold impl_uses
  exact
   Pn.bind (fun r1 h1 =>
    Pn.bind (fun r2 h2 =>
     Pn.some (Fn.of [.call [] (E92 r1) [], .call [] (E4 r2) []] (p := [Fn Tryd.prog 79 [(false, E3 op)] (E92 r1) [],
      (true || ((E92 r1).nv && nvL [])) = true,
      Fn Tryd.prog 84 [(false, E53 r1.fields), (false, E3 no)] (E4 r2) [],
      (false || ((E4 r2).nv && nvL [])) = true]) (by kernel_rfl) (cj (impl_opOf_ok op r1 h1) (cj rfl (cj (slices_Contains_int_ok r1.fields no r2 h2) (cj1 (by simp [V.nv, nvL, nvL_all, nv_E4]))))))))
def impl_HoldIdOk_l0 (s_ : ByteArray) : Nat → Int → Option (Lo Unit Unit)
  | 0, _ => none
  | fuel + 1, v1 =>
   if (decide (v1 < (s_.size : Int))) = true then
    if (decide (0 ≤ v1)) = true then
     if (decide ((v1 : Int) < (s_.size : Int))) = true then
      if (decide ((sAt s_ v1) < 48)) = true then
       if (decide ((sAt s_ v1) < 97)) = true then
        some (.ret ())
       else
        if (decide (122 < (sAt s_ v1))) = true then
         some (.ret ())
        else
         impl_HoldIdOk_l0 s_ fuel (i64 (v1 + 1))
      else
       if (decide (57 < (sAt s_ v1))) = true then
        if (decide ((sAt s_ v1) < 97)) = true then
         some (.ret ())
        else
         if (decide (122 < (sAt s_ v1))) = true then
          some (.ret ())
         else
          impl_HoldIdOk_l0 s_ fuel (i64 (v1 + 1))
       else
        impl_HoldIdOk_l0 s_ fuel (i64 (v1 + 1))
     else none
    else none
   else
    some (.out ())
theorem impl_HoldIdOk_l0_ok (s_ : ByteArray) : ∀ (fuel : Nat) (v1 : Int), Pn (LpO Tryd.prog (sub (codeOf Tryd.prog 82) [1, 0, 1, 0, 0]) (st 35 [(0, V.sc (.string s_)), (5, V.sc (.int .i64 (s_.size : Int))), (6, V.sc (.int .i64 v1))] [] []) (fun (y : Lo Unit Unit) => Lo.elim y (fun s => (X.out 0, st 35 [(0, V.sc (.string s_))] [] [])) (fun s => (X.ret, st 35 [(2, V.sc (.bool false))] [] [])))) (impl_HoldIdOk_l0 s_ fuel v1)
  | 0, _ => Pn.none
  | fuel + 1, v1 => by
    unfold impl_HoldIdOk_l0
    exact
     Pn.ite (fun h1 =>
      Pn.ite (fun h2 =>
       Pn.ite (fun h3 =>
        Pn.ite (fun h4 =>
         Pn.ite (fun h5 =>
          Pn.some (LpO.out [.bit true, .bit true, .bit true, .bit true, .bit true, .bit true, .bit true, .bit true, .bit true, .bit true, .bit true, .bit true, .bit true, .bit true, .bit true, .bit true, .bit true, .bit true, .bit true, .wait 1, .mask [2], .ren []] (p := [(decide (v1 < (s_.size : Int))) = true,
           (0 : Int) ≤ v1,
           (v1 : Int) < s_.size,
           (decide ((sAt s_ v1) < 48)) = true,
           (decide ((sAt s_ v1) < 48)) = true,
           (decide ((sAt s_ v1) < 48)) = true,
           (decide ((sAt s_ v1) < 48)) = true,
           (decide ((sAt s_ v1) < 48)) = true,
           true = true,
           true = true,
           true = true,
           (0 : Int) ≤ v1,
           (v1 : Int) < s_.size,
           true = true,
           true = true,
           (decide ((sAt s_ v1) < 97)) = true,
           (decide ((sAt s_ v1) < 97)) = true,
           (decide ((sAt s_ v1) < 97)) = true,
           (decide ((sAt s_ v1) < 97)) = true,
           true = true,
           (decide ((sAt s_ v1) < 97)) = true,
           true = true,
           true = true]) (by kernel_rfl) (show X.ret ≠ X.go from nofun) (cj h1 (cj (od h2) (cj (od h3) (cj h4 (cj h4 (cj h4 (cj h4 (cj h4 (cj rfl (cj rfl (cj rfl (cj (od h2) (cj (od h3) (cj rfl (cj rfl (cj h5 (cj h5 (cj h5 (cj h5 (cj rfl (cj h5 (cj rfl (cj1 rfl))))))))))))))))))))))))) (fun h5 =>
          Pn.ite (fun h6 =>
           Pn.some (LpO.out [.bit true, .bit true, .bit true, .bit true, .bit true, .bit true, .bit true, .bit true, .bit true, .bit true, .bit true, .bit false, .bit false, .bit false, .bit false, .bit true, .bit false, .bit true, .bit true, .wait 1, .mask [2], .ren []] (p := [(decide (v1 < (s_.size : Int))) = true,
            (0 : Int) ≤ v1,
            (v1 : Int) < s_.size,
            (decide ((sAt s_ v1) < 48)) = true,
            (decide ((sAt s_ v1) < 48)) = true,
            (decide ((sAt s_ v1) < 48)) = true,
            (decide ((sAt s_ v1) < 48)) = true,
            (decide ((sAt s_ v1) < 48)) = true,
            true = true,
            true = true,
            true = true,
            (0 : Int) ≤ v1,
            (v1 : Int) < s_.size,
            true = true,
            true = true,
            (decide ((sAt s_ v1) < 97)) = false,
            (decide ((sAt s_ v1) < 97)) = false,
            (decide ((sAt s_ v1) < 97)) = false,
            (0 : Int) ≤ v1,
            (v1 : Int) < s_.size,
            (decide ((sAt s_ v1) < 97)) = false,
            true = true,
            (decide ((sAt s_ v1) < 97)) = false,
            true = true,
            (decide (122 < (sAt s_ v1))) = true]) (by kernel_rfl) (show X.ret ≠ X.go from nofun) (cj h1 (cj (od h2) (cj (od h3) (cj h4 (cj h4 (cj h4 (cj h4 (cj h4 (cj rfl (cj rfl (cj rfl (cj (od h2) (cj (od h3) (cj rfl (cj rfl (cj h5 (cj h5 (cj h5 (cj (od h2) (cj (od h3) (cj h5 (cj rfl (cj h5 (cj rfl (cj1 h6))))))))))))))))))))))))))) (fun h6 =>
           LpO.go [.bit true, .bit true, .bit true, .bit true, .bit true, .bit true, .bit true, .bit true, .bit true, .bit true, .bit true, .bit false, .bit false, .bit false, .bit false, .bit true, .bit false, .bit true, .bit false, .wait 2, .mask [0, 5, 6], .ren []] (p := [(decide (v1 < (s_.size : Int))) = true,
            (0 : Int) ≤ v1,
            (v1 : Int) < s_.size,
            (decide ((sAt s_ v1) < 48)) = true,
            (decide ((sAt s_ v1) < 48)) = true,
            (decide ((sAt s_ v1) < 48)) = true,
            (decide ((sAt s_ v1) < 48)) = true,
            (decide ((sAt s_ v1) < 48)) = true,
            true = true,
            true = true,
            true = true,
            (0 : Int) ≤ v1,
            (v1 : Int) < s_.size,
            true = true,
            true = true,
            (decide ((sAt s_ v1) < 97)) = false,
            (decide ((sAt s_ v1) < 97)) = false,
            (decide ((sAt s_ v1) < 97)) = false,
            (0 : Int) ≤ v1,
            (v1 : Int) < s_.size,
            (decide ((sAt s_ v1) < 97)) = false,
            true = true,
            (decide ((sAt s_ v1) < 97)) = false,
            true = true,
            (decide (122 < (sAt s_ v1))) = false]) (by kernel_rfl) (cj h1 (cj (od h2) (cj (od h3) (cj h4 (cj h4 (cj h4 (cj h4 (cj h4 (cj rfl (cj rfl (cj rfl (cj (od h2) (cj (od h3) (cj rfl (cj rfl (cj h5 (cj h5 (cj h5 (cj (od h2) (cj (od h3) (cj h5 (cj rfl (cj h5 (cj rfl (cj1 h6))))))))))))))))))))))))) (impl_HoldIdOk_l0_ok s_ fuel (i64 (v1 + 1)))))) (fun h4 =>
         Pn.ite (fun h7 =>
          Pn.ite (fun h8 =>
           Pn.some (LpO.out [.bit true, .bit false, .bit false, .bit false, .bit false, .bit false, .bit true, .bit true, .bit true, .bit true, .bit true, .bit true, .bit true, .bit true, .bit true, .bit true, .bit true, .bit true, .bit true, .wait 1, .mask [2], .ren []] (p := [(decide (v1 < (s_.size : Int))) = true,
            (0 : Int) ≤ v1,
            (v1 : Int) < s_.size,
            (decide ((sAt s_ v1) < 48)) = false,
            (decide ((sAt s_ v1) < 48)) = false,
            (decide ((sAt s_ v1) < 48)) = false,
            (0 : Int) ≤ v1,
            (v1 : Int) < s_.size,
            (decide ((sAt s_ v1) < 48)) = false,
            (decide ((sAt s_ v1) < 48)) = false,
            (decide (57 < (sAt s_ v1))) = true,
            (decide (57 < (sAt s_ v1))) = true,
            (decide (57 < (sAt s_ v1))) = true,
            (0 : Int) ≤ v1,
            (v1 : Int) < s_.size,
            (decide (57 < (sAt s_ v1))) = true,
            (decide (57 < (sAt s_ v1))) = true,
            (decide ((sAt s_ v1) < 97)) = true,
            (decide ((sAt s_ v1) < 97)) = true,
            (decide ((sAt s_ v1) < 97)) = true,
            (decide ((sAt s_ v1) < 97)) = true,
            (decide (57 < (sAt s_ v1))) = true,
            (decide ((sAt s_ v1) < 97)) = true,
            (decide (57 < (sAt s_ v1))) = true,
            true = true]) (by kernel_rfl) (show X.ret ≠ X.go from nofun) (cj h1 (cj (od h2) (cj (od h3) (cj h4 (cj h4 (cj h4 (cj (od h2) (cj (od h3) (cj h4 (cj h4 (cj h7 (cj h7 (cj h7 (cj (od h2) (cj (od h3) (cj h7 (cj h7 (cj h8 (cj h8 (cj h8 (cj h8 (cj h7 (cj h8 (cj h7 (cj1 rfl))))))))))))))))))))))))))) (fun h8 =>
           Pn.ite (fun h9 =>
            Pn.some (LpO.out [.bit true, .bit false, .bit false, .bit false, .bit false, .bit false, .bit true, .bit true, .bit true, .bit true, .bit true, .bit false, .bit false, .bit false, .bit false, .bit true, .bit false, .bit true, .bit true, .wait 1, .mask [2], .ren []] (p := [(decide (v1 < (s_.size : Int))) = true,
             (0 : Int) ≤ v1,
             (v1 : Int) < s_.size,
             (decide ((sAt s_ v1) < 48)) = false,
             (decide ((sAt s_ v1) < 48)) = false,
             (decide ((sAt s_ v1) < 48)) = false,
             (0 : Int) ≤ v1,
             (v1 : Int) < s_.size,
             (decide ((sAt s_ v1) < 48)) = false,
             (decide ((sAt s_ v1) < 48)) = false,
             (decide (57 < (sAt s_ v1))) = true,
             (decide (57 < (sAt s_ v1))) = true,
             (decide (57 < (sAt s_ v1))) = true,
             (0 : Int) ≤ v1,
             (v1 : Int) < s_.size,
             (decide (57 < (sAt s_ v1))) = true,
             (decide (57 < (sAt s_ v1))) = true,
             (decide ((sAt s_ v1) < 97)) = false,
             (decide ((sAt s_ v1) < 97)) = false,
             (decide ((sAt s_ v1) < 97)) = false,
             (0 : Int) ≤ v1,
             (v1 : Int) < s_.size,
             (decide ((sAt s_ v1) < 97)) = false,
             (decide (57 < (sAt s_ v1))) = true,
             (decide ((sAt s_ v1) < 97)) = false,
             (decide (57 < (sAt s_ v1))) = true,
             (decide (122 < (sAt s_ v1))) = true]) (by kernel_rfl) (show X.ret ≠ X.go from nofun) (cj h1 (cj (od h2) (cj (od h3) (cj h4 (cj h4 (cj h4 (cj (od h2) (cj (od h3) (cj h4 (cj h4 (cj h7 (cj h7 (cj h7 (cj (od h2) (cj (od h3) (cj h7 (cj h7 (cj h8 (cj h8 (cj h8 (cj (od h2) (cj (od h3) (cj h8 (cj h7 (cj h8 (cj h7 (cj1 h9))))))))))))))))))))))))))))) (fun h9 =>
            LpO.go [.bit true, .bit false, .bit false, .bit false, .bit false, .bit false, .bit true, .bit true, .bit true, .bit true, .bit true, .bit false, .bit false, .bit false, .bit false, .bit true, .bit false, .bit true, .bit false, .wait 2, .mask [0, 5, 6], .ren []] (p := [(decide (v1 < (s_.size : Int))) = true,
             (0 : Int) ≤ v1,
             (v1 : Int) < s_.size,
             (decide ((sAt s_ v1) < 48)) = false,
             (decide ((sAt s_ v1) < 48)) = false,
             (decide ((sAt s_ v1) < 48)) = false,
             (0 : Int) ≤ v1,
             (v1 : Int) < s_.size,
             (decide ((sAt s_ v1) < 48)) = false,
             (decide ((sAt s_ v1) < 48)) = false,
             (decide (57 < (sAt s_ v1))) = true,
             (decide (57 < (sAt s_ v1))) = true,
             (decide (57 < (sAt s_ v1))) = true,
             (0 : Int) ≤ v1,
             (v1 : Int) < s_.size,
             (decide (57 < (sAt s_ v1))) = true,
             (decide (57 < (sAt s_ v1))) = true,
             (decide ((sAt s_ v1) < 97)) = false,
             (decide ((sAt s_ v1) < 97)) = false,
             (decide ((sAt s_ v1) < 97)) = false,
             (0 : Int) ≤ v1,
             (v1 : Int) < s_.size,
             (decide ((sAt s_ v1) < 97)) = false,
             (decide (57 < (sAt s_ v1))) = true,
             (decide ((sAt s_ v1) < 97)) = false,
             (decide (57 < (sAt s_ v1))) = true,
             (decide (122 < (sAt s_ v1))) = false]) (by kernel_rfl) (cj h1 (cj (od h2) (cj (od h3) (cj h4 (cj h4 (cj h4 (cj (od h2) (cj (od h3) (cj h4 (cj h4 (cj h7 (cj h7 (cj h7 (cj (od h2) (cj (od h3) (cj h7 (cj h7 (cj h8 (cj h8 (cj h8 (cj (od h2) (cj (od h3) (cj h8 (cj h7 (cj h8 (cj h7 (cj1 h9))))))))))))))))))))))))))) (impl_HoldIdOk_l0_ok s_ fuel (i64 (v1 + 1)))))) (fun h7 =>
          LpO.go [.bit true, .bit false, .bit false, .bit false, .bit false, .bit false, .bit false, .bit false, .bit false, .bit false, .bit false, .bit false, .bit false, .bit false, .wait 2, .mask [0, 5, 6], .ren []] (p := [(decide (v1 < (s_.size : Int))) = true,
           (0 : Int) ≤ v1,
           (v1 : Int) < s_.size,
           (decide ((sAt s_ v1) < 48)) = false,
           (decide ((sAt s_ v1) < 48)) = false,
           (decide ((sAt s_ v1) < 48)) = false,
           (0 : Int) ≤ v1,
           (v1 : Int) < s_.size,
           (decide ((sAt s_ v1) < 48)) = false,
           (decide ((sAt s_ v1) < 48)) = false,
           (decide (57 < (sAt s_ v1))) = false,
           (decide (57 < (sAt s_ v1))) = false,
           (decide (57 < (sAt s_ v1))) = false,
           (decide (57 < (sAt s_ v1))) = false,
           (decide (57 < (sAt s_ v1))) = false,
           (decide (57 < (sAt s_ v1))) = false,
           (decide (57 < (sAt s_ v1))) = false,
           false = false]) (by kernel_rfl) (cj h1 (cj (od h2) (cj (od h3) (cj h4 (cj h4 (cj h4 (cj (od h2) (cj (od h3) (cj h4 (cj h4 (cj h7 (cj h7 (cj h7 (cj h7 (cj h7 (cj h7 (cj h7 (cj1 rfl)))))))))))))))))) (impl_HoldIdOk_l0_ok s_ fuel (i64 (v1 + 1)))))) (fun h3 =>
        Pn.none)) (fun h2 =>
       Pn.none)) (fun h1 =>
      Pn.some (LpO.out [.bit false, .mask [0], .ren []] (p := [(decide (v1 < (s_.size : Int))) = false]) (by kernel_rfl) (show X.out 0 ≠ X.go from nofun) (cj1 h1)))
def impl_HoldIdOk (s_ : ByteArray) : Option (Bool) :=
 (impl_HoldIdOk_l0 s_ FUEL 0).bind fun r1 =>
 Lo.elim r1 (fun s1 =>
  (impl_within (s_.size : Int) 1 6).bind fun r2 =>
  some r2) (fun s2 =>
  some false)
theorem impl_HoldIdOk_ok (s_ : ByteArray) : Pn (fun y => Fn Tryd.prog 82 [(false, E9 s_)] (E4 y) []) (impl_HoldIdOk s_) := by
  unfold impl_HoldIdOk
  exact
   Pn.bind (fun r1 h10 =>
    Pn.lo (fun s1 h11 =>
     Pn.bind (fun r2 h13 =>
      Pn.some (Fn.of [.wait 5, .mask [0, 5, 6], .ren [], .loop (X.out 0) (st 35 [(0, V.sc (.string s_))] [] []), .call [] (E4 r2) []] (p := [Loop Tryd.prog (sub (codeOf Tryd.prog 82) [1, 0, 1, 0, 0]) (st 35 [(0, V.sc (.string s_)), (5, V.sc (.int .i64 (s_.size : Int))), (6, V.sc (.int .i64 0))] [] []) (X.out 0) (st 35 [(0, V.sc (.string s_))] [] []),
       Fn Tryd.prog 83 [(false, E3 (s_.size : Int)), (false, E3 1), (false, E3 6)] (E4 r2) [],
       (true || ((E4 r2).nv && nvL [])) = true]) (by kernel_rfl) (cj ((impl_HoldIdOk_l0_ok s_ FUEL 0 r1 h10).at h11) (cj (impl_within_ok (s_.size : Int) 1 6 r2 h13) (cj1 rfl)))))) (fun s2 h12 =>
     Pn.some (Fn.of [.wait 5, .mask [0, 5, 6], .ren [], .loop (X.ret) (st 35 [(2, V.sc (.bool false))] [] [])] (p := [Loop Tryd.prog (sub (codeOf Tryd.prog 82) [1, 0, 1, 0, 0]) (st 35 [(0, V.sc (.string s_)), (5, V.sc (.int .i64 (s_.size : Int))), (6, V.sc (.int .i64 0))] [] []) (X.ret) (st 35 [(2, V.sc (.bool false))] [] [])]) (by kernel_rfl) (cj1 ((impl_HoldIdOk_l0_ok s_ FUEL 0 r1 h10).at h12)))))
def impl_ReqOk_c0 (o : Req) (r1 : opRow) : Option (Lo Unit Unit) :=
 if (r1.name == (bs [])) = true then
  some (.ret ())
 else
  if (o.Mti == r1.mti) = true then
   (impl_AcctIdOk o.Acct).bind fun r2 =>
   if r2 = true then
    (impl_isWide o.Trace 6).bind fun r3 =>
    if r3 = true then
     some (.out ())
    else
     some (.ret ())
   else
    some (.ret ())
  else
   some (.ret ())
theorem impl_ReqOk_c0_ok (o : Req) (r1 : opRow) : Pn (JnO Tryd.prog (sub (codeOf Tryd.prog 37) [1, 1, 0]) (st 79 [(1, V.ptr 0 0), (3, V.ptr 1 0)] [Blk.box 26 [V.sc (.int .i64 o.Op), V.sc (.string o.Acct), V.sc (.string o.Other), V.sc (.string o.Hold), V.sc (.string o.Trace), V.sc (.string o.Mti), V.sc (.int .i64 o.Amount), V.sc (.int .i64 o.Ttl)], Blk.box 92 [V.sc (.string r1.mti), V.sc (.string r1.code), V.sc (.string r1.name), V.ow 2], Blk.row 3 (List.map E3 r1.fields) []] []) (fun (y : Lo Unit Unit) => Lo.elim y (fun s => (X.go, st 79 [(1, V.ptr 0 0)] [Blk.box 26 [V.sc (.int .i64 o.Op), V.sc (.string o.Acct), V.sc (.string o.Other), V.sc (.string o.Hold), V.sc (.string o.Trace), V.sc (.string o.Mti), V.sc (.int .i64 o.Amount), V.sc (.int .i64 o.Ttl)]] [])) (fun s => (X.ret, st 79 [(2, V.sc (.bool false))] [] [])))) (impl_ReqOk_c0 o r1) := by
  unfold impl_ReqOk_c0
  exact
   Pn.ite (fun h2 =>
    Pn.some (JnO.of [.bit true, .bit true, .bit true, .bit true, .bit true, .bit true, .bit true, .bit true, .bit true, .bit true, .bit true, .bit true, .bit true, .bit true, .bit true, .bit true, .bit true, .wait 1, .mask [2], .ren []] (p := [(r1.name == (bs [])) = true,
     (r1.name == (bs [])) = true,
     (r1.name == (bs [])) = true,
     (r1.name == (bs [])) = true,
     (r1.name == (bs [])) = true,
     (r1.name == (bs [])) = true,
     true = true,
     true = true,
     true = true,
     true = true,
     true = true,
     true = true,
     true = true,
     true = true,
     true = true,
     true = true,
     true = true]) (by kernel_rfl) (cj h2 (cj h2 (cj h2 (cj h2 (cj h2 (cj h2 (cj rfl (cj rfl (cj rfl (cj rfl (cj rfl (cj rfl (cj rfl (cj rfl (cj rfl (cj rfl (cj1 rfl))))))))))))))))))) (fun h2 =>
    Pn.ite (fun h3 =>
     Pn.bind (fun r2 h4 =>
      Pn.ite (fun h5 =>
       Pn.bind (fun r3 h6 =>
        Pn.ite (fun h7 =>
         Pn.some (JnO.of [.bit false, .bit false, .bit false, .bit false, .bit false, .bit false, .bit false, .bit false, .bit false, .call [] (E4 r2) [], .bit false, .bit false, .bit false, .bit false, .bit false, .call [] (E4 r3) [], .bit false, .bit false, .bit false, .mask [1], .ren [0]] (p := [(r1.name == (bs [])) = false,
          (r1.name == (bs [])) = false,
          (r1.name == (bs [])) = false,
          (r1.name == (bs [])) = false,
          (r1.name == (bs [])) = false,
          (r1.name == (bs [])) = false,
          (!(o.Mti == r1.mti)) = false,
          (!(o.Mti == r1.mti)) = false,
          (!(o.Mti == r1.mti)) = false,
          Fn Tryd.prog 80 [(false, E9 o.Acct)] (E4 r2) [],
          (true || ((E4 r2).nv && nvL [])) = true,
          (!(o.Mti == r1.mti)) = false,
          (!(o.Mti == r1.mti)) = false,
          (!r2) = false,
          (!r2) = false,
          (!r2) = false,
          Fn Tryd.prog 81 [(false, E9 o.Trace), (false, E3 6)] (E4 r3) [],
          (true || ((E4 r3).nv && nvL [])) = true,
          (!r2) = false,
          (!r2) = false,
          (!r3) = false]) (by kernel_rfl) (cj h2 (cj h2 (cj h2 (cj h2 (cj h2 (cj h2 (cj (nf h3) (cj (nf h3) (cj (nf h3) (cj (impl_AcctIdOk_ok o.Acct r2 h4) (cj rfl (cj (nf h3) (cj (nf h3) (cj (nf h5) (cj (nf h5) (cj (nf h5) (cj (impl_isWide_ok o.Trace 6 r3 h6) (cj rfl (cj (nf h5) (cj (nf h5) (cj1 (nf h7)))))))))))))))))))))))) (fun h7 =>
         Pn.some (JnO.of [.bit false, .bit false, .bit false, .bit false, .bit false, .bit false, .bit false, .bit false, .bit false, .call [] (E4 r2) [], .bit false, .bit false, .bit false, .bit false, .bit false, .call [] (E4 r3) [], .bit false, .bit false, .bit true, .wait 1, .mask [2], .ren []] (p := [(r1.name == (bs [])) = false,
          (r1.name == (bs [])) = false,
          (r1.name == (bs [])) = false,
          (r1.name == (bs [])) = false,
          (r1.name == (bs [])) = false,
          (r1.name == (bs [])) = false,
          (!(o.Mti == r1.mti)) = false,
          (!(o.Mti == r1.mti)) = false,
          (!(o.Mti == r1.mti)) = false,
          Fn Tryd.prog 80 [(false, E9 o.Acct)] (E4 r2) [],
          (true || ((E4 r2).nv && nvL [])) = true,
          (!(o.Mti == r1.mti)) = false,
          (!(o.Mti == r1.mti)) = false,
          (!r2) = false,
          (!r2) = false,
          (!r2) = false,
          Fn Tryd.prog 81 [(false, E9 o.Trace), (false, E3 6)] (E4 r3) [],
          (true || ((E4 r3).nv && nvL [])) = true,
          (!r2) = false,
          (!r2) = false,
          (!r3) = true]) (by kernel_rfl) (cj h2 (cj h2 (cj h2 (cj h2 (cj h2 (cj h2 (cj (nf h3) (cj (nf h3) (cj (nf h3) (cj (impl_AcctIdOk_ok o.Acct r2 h4) (cj rfl (cj (nf h3) (cj (nf h3) (cj (nf h5) (cj (nf h5) (cj (nf h5) (cj (impl_isWide_ok o.Trace 6 r3 h6) (cj rfl (cj (nf h5) (cj (nf h5) (cj1 (nt h7)))))))))))))))))))))))))) (fun h5 =>
       Pn.some (JnO.of [.bit false, .bit false, .bit false, .bit false, .bit false, .bit false, .bit false, .bit false, .bit false, .call [] (E4 r2) [], .bit false, .bit false, .bit true, .bit true, .bit true, .bit true, .bit true, .bit true, .wait 1, .mask [2], .ren []] (p := [(r1.name == (bs [])) = false,
        (r1.name == (bs [])) = false,
        (r1.name == (bs [])) = false,
        (r1.name == (bs [])) = false,
        (r1.name == (bs [])) = false,
        (r1.name == (bs [])) = false,
        (!(o.Mti == r1.mti)) = false,
        (!(o.Mti == r1.mti)) = false,
        (!(o.Mti == r1.mti)) = false,
        Fn Tryd.prog 80 [(false, E9 o.Acct)] (E4 r2) [],
        (true || ((E4 r2).nv && nvL [])) = true,
        (!(o.Mti == r1.mti)) = false,
        (!(o.Mti == r1.mti)) = false,
        (!r2) = true,
        (!r2) = true,
        (!r2) = true,
        (!r2) = true,
        (!r2) = true,
        true = true]) (by kernel_rfl) (cj h2 (cj h2 (cj h2 (cj h2 (cj h2 (cj h2 (cj (nf h3) (cj (nf h3) (cj (nf h3) (cj (impl_AcctIdOk_ok o.Acct r2 h4) (cj rfl (cj (nf h3) (cj (nf h3) (cj (nt h5) (cj (nt h5) (cj (nt h5) (cj (nt h5) (cj (nt h5) (cj1 rfl))))))))))))))))))))))) (fun h3 =>
     Pn.some (JnO.of [.bit false, .bit false, .bit false, .bit false, .bit false, .bit false, .bit true, .bit true, .bit true, .bit true, .bit true, .bit true, .bit true, .bit true, .bit true, .bit true, .bit true, .wait 1, .mask [2], .ren []] (p := [(r1.name == (bs [])) = false,
      (r1.name == (bs [])) = false,
      (r1.name == (bs [])) = false,
      (r1.name == (bs [])) = false,
      (r1.name == (bs [])) = false,
      (r1.name == (bs [])) = false,
      (!(o.Mti == r1.mti)) = true,
      (!(o.Mti == r1.mti)) = true,
      (!(o.Mti == r1.mti)) = true,
      (!(o.Mti == r1.mti)) = true,
      (!(o.Mti == r1.mti)) = true,
      true = true,
      true = true,
      true = true,
      true = true,
      true = true,
      true = true]) (by kernel_rfl) (cj h2 (cj h2 (cj h2 (cj h2 (cj h2 (cj h2 (cj (nt h3) (cj (nt h3) (cj (nt h3) (cj (nt h3) (cj (nt h3) (cj rfl (cj rfl (cj rfl (cj rfl (cj rfl (cj1 rfl))))))))))))))))))))
def impl_ReqOk_c1 (o : Req) : Option (Bool) :=
 (impl_uses o.Op 38).bind fun r5 =>
 if r5 = true then
  (impl_HoldIdOk o.Hold).bind fun r6 =>
  some r6
 else
  some (o.Hold == (bs []))
theorem impl_ReqOk_c1_ok (o : Req) : Pn (JnO Tryd.prog (sub (codeOf Tryd.prog 37) [1, 1, 1, 1, 0]) (st 79 [(1, V.ptr 0 0), (4, V.sc (.bool (o.Hold == (bs [])))), (5, V.sc (.bool (o.Amount == 0))), (6, V.sc (.bool (o.Ttl == 0))), (7, V.sc (.bool (o.Other == (bs []))))] [Blk.box 26 [V.sc (.int .i64 o.Op), V.sc (.string o.Acct), V.sc (.string o.Other), V.sc (.string o.Hold), V.sc (.string o.Trace), V.sc (.string o.Mti), V.sc (.int .i64 o.Amount), V.sc (.int .i64 o.Ttl)]] []) (fun (y : Bool) => (X.go, st 79 [(1, V.ptr 0 0), (4, V.sc (.bool y)), (5, V.sc (.bool (o.Amount == 0))), (6, V.sc (.bool (o.Ttl == 0))), (7, V.sc (.bool (o.Other == (bs []))))] [Blk.box 26 [V.sc (.int .i64 o.Op), V.sc (.string o.Acct), V.sc (.string o.Other), V.sc (.string o.Hold), V.sc (.string o.Trace), V.sc (.string o.Mti), V.sc (.int .i64 o.Amount), V.sc (.int .i64 o.Ttl)]] []))) (impl_ReqOk_c1 o) := by
  unfold impl_ReqOk_c1
  exact
   Pn.bind (fun r5 h11 =>
    Pn.ite (fun h12 =>
     Pn.bind (fun r6 h13 =>
      Pn.some (JnO.of [.call [] (E4 r5) [], .bit true, .call [] (E4 r6) [], .wait 2, .mask [1, 4, 5, 6, 7], .ren [0]] (p := [Fn Tryd.prog 39 [(false, E3 o.Op), (false, E3 38)] (E4 r5) [],
       (true || ((E4 r5).nv && nvL [])) = true,
       r5 = true,
       Fn Tryd.prog 82 [(false, E9 o.Hold)] (E4 r6) [],
       (true || ((E4 r6).nv && nvL [])) = true]) (by kernel_rfl) (cj (impl_uses_ok o.Op 38 r5 h11) (cj rfl (cj h12 (cj (impl_HoldIdOk_ok o.Hold r6 h13) (cj1 rfl)))))))) (fun h12 =>
     Pn.some (JnO.of [.call [] (E4 r5) [], .bit false, .mask [1, 4, 5, 6, 7], .ren [0]] (p := [Fn Tryd.prog 39 [(false, E3 o.Op), (false, E3 38)] (E4 r5) [],
      (true || ((E4 r5).nv && nvL [])) = true,
      r5 = false]) (by kernel_rfl) (cj (impl_uses_ok o.Op 38 r5 h11) (cj rfl (cj1 h12))))))
def impl_ReqOk_c2 (o : Req) (r7 : Bool) : Option (Bool) :=
 (impl_uses o.Op 4).bind fun r8 =>
 if r8 = true then
  (impl_within o.Amount 0 999999999999).bind fun r9 =>
  some r9
 else
  some (o.Amount == 0)
theorem impl_ReqOk_c2_ok (o : Req) (r7 : Bool) : Pn (JnO Tryd.prog (sub (codeOf Tryd.prog 37) [1, 1, 1, 1, 1, 0]) (st 79 [(1, V.ptr 0 0), (4, V.sc (.bool r7)), (5, V.sc (.bool (o.Amount == 0))), (6, V.sc (.bool (o.Ttl == 0))), (7, V.sc (.bool (o.Other == (bs []))))] [Blk.box 26 [V.sc (.int .i64 o.Op), V.sc (.string o.Acct), V.sc (.string o.Other), V.sc (.string o.Hold), V.sc (.string o.Trace), V.sc (.string o.Mti), V.sc (.int .i64 o.Amount), V.sc (.int .i64 o.Ttl)]] []) (fun (y : Bool) => (X.go, st 79 [(1, V.ptr 0 0), (4, V.sc (.bool r7)), (5, V.sc (.bool y)), (6, V.sc (.bool (o.Ttl == 0))), (7, V.sc (.bool (o.Other == (bs []))))] [Blk.box 26 [V.sc (.int .i64 o.Op), V.sc (.string o.Acct), V.sc (.string o.Other), V.sc (.string o.Hold), V.sc (.string o.Trace), V.sc (.string o.Mti), V.sc (.int .i64 o.Amount), V.sc (.int .i64 o.Ttl)]] []))) (impl_ReqOk_c2 o r7) := by
  unfold impl_ReqOk_c2
  exact
   Pn.bind (fun r8 h15 =>
    Pn.ite (fun h16 =>
     Pn.bind (fun r9 h17 =>
      Pn.some (JnO.of [.call [] (E4 r8) [], .bit true, .call [] (E4 r9) [], .wait 2, .mask [1, 4, 5, 6, 7], .ren [0]] (p := [Fn Tryd.prog 39 [(false, E3 o.Op), (false, E3 4)] (E4 r8) [],
       (true || ((E4 r8).nv && nvL [])) = true,
       r8 = true,
       Fn Tryd.prog 83 [(false, E3 o.Amount), (false, E3 0), (false, E3 999999999999)] (E4 r9) [],
       (true || ((E4 r9).nv && nvL [])) = true]) (by kernel_rfl) (cj (impl_uses_ok o.Op 4 r8 h15) (cj rfl (cj h16 (cj (impl_within_ok o.Amount 0 999999999999 r9 h17) (cj1 rfl)))))))) (fun h16 =>
     Pn.some (JnO.of [.call [] (E4 r8) [], .bit false, .mask [1, 4, 5, 6, 7], .ren [0]] (p := [Fn Tryd.prog 39 [(false, E3 o.Op), (false, E3 4)] (E4 r8) [],
      (true || ((E4 r8).nv && nvL [])) = true,
      r8 = false]) (by kernel_rfl) (cj (impl_uses_ok o.Op 4 r8 h15) (cj rfl (cj1 h16))))))
def impl_ReqOk_c3 (o : Req) (r7 : Bool) (r10 : Bool) : Option (Bool) :=
 (impl_uses o.Op 14).bind fun r11 =>
 if r11 = true then
  (impl_within o.Ttl 0 9999).bind fun r12 =>
  some r12
 else
  some (o.Ttl == 0)
theorem impl_ReqOk_c3_ok (o : Req) (r7 : Bool) (r10 : Bool) : Pn (JnO Tryd.prog (sub (codeOf Tryd.prog 37) [1, 1, 1, 1, 1, 1, 0]) (st 79 [(1, V.ptr 0 0), (4, V.sc (.bool r7)), (5, V.sc (.bool r10)), (6, V.sc (.bool (o.Ttl == 0))), (7, V.sc (.bool (o.Other == (bs []))))] [Blk.box 26 [V.sc (.int .i64 o.Op), V.sc (.string o.Acct), V.sc (.string o.Other), V.sc (.string o.Hold), V.sc (.string o.Trace), V.sc (.string o.Mti), V.sc (.int .i64 o.Amount), V.sc (.int .i64 o.Ttl)]] []) (fun (y : Bool) => (X.go, st 79 [(1, V.ptr 0 0), (4, V.sc (.bool r7)), (5, V.sc (.bool r10)), (6, V.sc (.bool y)), (7, V.sc (.bool (o.Other == (bs []))))] [Blk.box 26 [V.sc (.int .i64 o.Op), V.sc (.string o.Acct), V.sc (.string o.Other), V.sc (.string o.Hold), V.sc (.string o.Trace), V.sc (.string o.Mti), V.sc (.int .i64 o.Amount), V.sc (.int .i64 o.Ttl)]] []))) (impl_ReqOk_c3 o r7 r10) := by
  unfold impl_ReqOk_c3
  exact
   Pn.bind (fun r11 h19 =>
    Pn.ite (fun h20 =>
     Pn.bind (fun r12 h21 =>
      Pn.some (JnO.of [.call [] (E4 r11) [], .bit true, .call [] (E4 r12) [], .wait 2, .mask [1, 4, 5, 6, 7], .ren [0]] (p := [Fn Tryd.prog 39 [(false, E3 o.Op), (false, E3 14)] (E4 r11) [],
       (true || ((E4 r11).nv && nvL [])) = true,
       r11 = true,
       Fn Tryd.prog 83 [(false, E3 o.Ttl), (false, E3 0), (false, E3 9999)] (E4 r12) [],
       (true || ((E4 r12).nv && nvL [])) = true]) (by kernel_rfl) (cj (impl_uses_ok o.Op 14 r11 h19) (cj rfl (cj h20 (cj (impl_within_ok o.Ttl 0 9999 r12 h21) (cj1 rfl)))))))) (fun h20 =>
     Pn.some (JnO.of [.call [] (E4 r11) [], .bit false, .mask [1, 4, 5, 6, 7], .ren [0]] (p := [Fn Tryd.prog 39 [(false, E3 o.Op), (false, E3 14)] (E4 r11) [],
      (true || ((E4 r11).nv && nvL [])) = true,
      r11 = false]) (by kernel_rfl) (cj (impl_uses_ok o.Op 14 r11 h19) (cj rfl (cj1 h20))))))
def impl_ReqOk_c4 (o : Req) (r7 : Bool) (r10 : Bool) (r13 : Bool) : Option (Bool) :=
 (impl_uses o.Op 103).bind fun r14 =>
 if r14 = true then
  (impl_AcctIdOk o.Other).bind fun r15 =>
  some r15
 else
  some (o.Other == (bs []))
theorem impl_ReqOk_c4_ok (o : Req) (r7 : Bool) (r10 : Bool) (r13 : Bool) : Pn (JnO Tryd.prog (sub (codeOf Tryd.prog 37) [1, 1, 1, 1, 1, 1, 1, 0]) (st 79 [(1, V.ptr 0 0), (4, V.sc (.bool r7)), (5, V.sc (.bool r10)), (6, V.sc (.bool r13)), (7, V.sc (.bool (o.Other == (bs []))))] [Blk.box 26 [V.sc (.int .i64 o.Op), V.sc (.string o.Acct), V.sc (.string o.Other), V.sc (.string o.Hold), V.sc (.string o.Trace), V.sc (.string o.Mti), V.sc (.int .i64 o.Amount), V.sc (.int .i64 o.Ttl)]] []) (fun (y : Bool) => (X.go, st 79 [(4, V.sc (.bool r7)), (5, V.sc (.bool r10)), (6, V.sc (.bool r13)), (7, V.sc (.bool y))] [] []))) (impl_ReqOk_c4 o r7 r10 r13) := by
  unfold impl_ReqOk_c4
  exact
   Pn.bind (fun r14 h23 =>
    Pn.ite (fun h24 =>
     Pn.bind (fun r15 h25 =>
      Pn.some (JnO.of [.call [] (E4 r14) [], .bit true, .call [] (E4 r15) [], .wait 2, .mask [4, 5, 6, 7], .ren []] (p := [Fn Tryd.prog 39 [(false, E3 o.Op), (false, E3 103)] (E4 r14) [],
       (true || ((E4 r14).nv && nvL [])) = true,
       r14 = true,
       Fn Tryd.prog 80 [(false, E9 o.Other)] (E4 r15) [],
       (true || ((E4 r15).nv && nvL [])) = true]) (by kernel_rfl) (cj (impl_uses_ok o.Op 103 r14 h23) (cj rfl (cj h24 (cj (impl_AcctIdOk_ok o.Other r15 h25) (cj1 rfl)))))))) (fun h24 =>
     Pn.some (JnO.of [.call [] (E4 r14) [], .bit false, .mask [4, 5, 6, 7], .ren []] (p := [Fn Tryd.prog 39 [(false, E3 o.Op), (false, E3 103)] (E4 r14) [],
      (true || ((E4 r14).nv && nvL [])) = true,
      r14 = false]) (by kernel_rfl) (cj (impl_uses_ok o.Op 103 r14 h23) (cj rfl (cj1 h24))))))
def impl_ReqOk (o : Req) : Option (Bool) :=
 (impl_opOf o.Op).bind fun r1 =>
 (impl_ReqOk_c0 o r1).bind fun r4 =>
 Lo.elim r4 (fun s1 =>
  (impl_ReqOk_c1 o).bind fun r7 =>
  (impl_ReqOk_c2 o r7).bind fun r10 =>
  (impl_ReqOk_c3 o r7 r10).bind fun r13 =>
  (impl_ReqOk_c4 o r7 r10 r13).bind fun r16 =>
  if r7 = true then
   if r10 = true then
    if r13 = true then
     some r16
    else
     some false
   else
    some false
  else
   some false) (fun s2 =>
  some false)
theorem impl_ReqOk_ok (o : Req) : Pn (fun y => Fn Tryd.prog 37 [(false, E26 o)] (E4 y) []) (impl_ReqOk o) := by
  unfold impl_ReqOk
  exact
   Pn.bind (fun r1 h1 =>
    Pn.bind (fun r4 h8 =>
     Pn.lo (fun s1 h9 =>
      Pn.bind (fun r7 h14 =>
       Pn.bind (fun r10 h18 =>
        Pn.bind (fun r13 h22 =>
         Pn.bind (fun r16 h26 =>
          Pn.ite (fun h27 =>
           Pn.ite (fun h28 =>
            Pn.ite (fun h29 =>
             Pn.some (Fn.of [.call [] (E92 r1) [], .wait 3, .mask [1, 3], .ren [0, 2, 1], .join 7 (X.go) (st 79 [(1, V.ptr 0 0)] [Blk.box 26 [V.sc (.int .i64 o.Op), V.sc (.string o.Acct), V.sc (.string o.Other), V.sc (.string o.Hold), V.sc (.string o.Trace), V.sc (.string o.Mti), V.sc (.int .i64 o.Amount), V.sc (.int .i64 o.Ttl)]] []), .draw [], .wait 16, .mask [1, 4, 5, 6, 7], .ren [0], .join 5 (X.go) (st 79 [(1, V.ptr 0 0), (4, V.sc (.bool r7)), (5, V.sc (.bool (o.Amount == 0))), (6, V.sc (.bool (o.Ttl == 0))), (7, V.sc (.bool (o.Other == (bs []))))] [Blk.box 26 [V.sc (.int .i64 o.Op), V.sc (.string o.Acct), V.sc (.string o.Other), V.sc (.string o.Hold), V.sc (.string o.Trace), V.sc (.string o.Mti), V.sc (.int .i64 o.Amount), V.sc (.int .i64 o.Ttl)]] []), .wait 1, .mask [1, 4, 5, 6, 7], .ren [0], .join 5 (X.go) (st 79 [(1, V.ptr 0 0), (4, V.sc (.bool r7)), (5, V.sc (.bool r10)), (6, V.sc (.bool (o.Ttl == 0))), (7, V.sc (.bool (o.Other == (bs []))))] [Blk.box 26 [V.sc (.int .i64 o.Op), V.sc (.string o.Acct), V.sc (.string o.Other), V.sc (.string o.Hold), V.sc (.string o.Trace), V.sc (.string o.Mti), V.sc (.int .i64 o.Amount), V.sc (.int .i64 o.Ttl)]] []), .wait 1, .mask [1, 4, 5, 6, 7], .ren [0], .join 5 (X.go) (st 79 [(1, V.ptr 0 0), (4, V.sc (.bool r7)), (5, V.sc (.bool r10)), (6, V.sc (.bool r13)), (7, V.sc (.bool (o.Other == (bs []))))] [Blk.box 26 [V.sc (.int .i64 o.Op), V.sc (.string o.Acct), V.sc (.string o.Other), V.sc (.string o.Hold), V.sc (.string o.Trace), V.sc (.string o.Mti), V.sc (.int .i64 o.Amount), V.sc (.int .i64 o.Ttl)]] []), .wait 1, .mask [1, 4, 5, 6, 7], .ren [0], .join 5 (X.go) (st 79 [(4, V.sc (.bool r7)), (5, V.sc (.bool r10)), (6, V.sc (.bool r13)), (7, V.sc (.bool r16))] [] []), .bit true, .bit true, .bit true, .bit true, .bit true, .bit true] (p := [Fn Tryd.prog 79 [(false, E3 o.Op)] (E92 r1) [],
              (true || ((E92 r1).nv && nvL [])) = true,
              HT Tryd.prog (sub (codeOf Tryd.prog 37) [1, 1, 0]) (st 79 [(1, V.ptr 0 0), (3, V.ptr 1 0)] [Blk.box 26 [V.sc (.int .i64 o.Op), V.sc (.string o.Acct), V.sc (.string o.Other), V.sc (.string o.Hold), V.sc (.string o.Trace), V.sc (.string o.Mti), V.sc (.int .i64 o.Amount), V.sc (.int .i64 o.Ttl)], Blk.box 92 [V.sc (.string r1.mti), V.sc (.string r1.code), V.sc (.string r1.name), V.ow 2], Blk.row 3 (List.map E3 r1.fields) []] []) (X.go) (st 79 [(1, V.ptr 0 0)] [Blk.box 26 [V.sc (.int .i64 o.Op), V.sc (.string o.Acct), V.sc (.string o.Other), V.sc (.string o.Hold), V.sc (.string o.Trace), V.sc (.string o.Mti), V.sc (.int .i64 o.Amount), V.sc (.int .i64 o.Ttl)]] []),
              HT Tryd.prog (sub (codeOf Tryd.prog 37) [1, 1, 1, 1, 0]) (st 79 [(1, V.ptr 0 0), (4, V.sc (.bool (o.Hold == (bs [])))), (5, V.sc (.bool (o.Amount == 0))), (6, V.sc (.bool (o.Ttl == 0))), (7, V.sc (.bool (o.Other == (bs []))))] [Blk.box 26 [V.sc (.int .i64 o.Op), V.sc (.string o.Acct), V.sc (.string o.Other), V.sc (.string o.Hold), V.sc (.string o.Trace), V.sc (.string o.Mti), V.sc (.int .i64 o.Amount), V.sc (.int .i64 o.Ttl)]] []) (X.go) (st 79 [(1, V.ptr 0 0), (4, V.sc (.bool r7)), (5, V.sc (.bool (o.Amount == 0))), (6, V.sc (.bool (o.Ttl == 0))), (7, V.sc (.bool (o.Other == (bs []))))] [Blk.box 26 [V.sc (.int .i64 o.Op), V.sc (.string o.Acct), V.sc (.string o.Other), V.sc (.string o.Hold), V.sc (.string o.Trace), V.sc (.string o.Mti), V.sc (.int .i64 o.Amount), V.sc (.int .i64 o.Ttl)]] []),
              HT Tryd.prog (sub (codeOf Tryd.prog 37) [1, 1, 1, 1, 1, 0]) (st 79 [(1, V.ptr 0 0), (4, V.sc (.bool r7)), (5, V.sc (.bool (o.Amount == 0))), (6, V.sc (.bool (o.Ttl == 0))), (7, V.sc (.bool (o.Other == (bs []))))] [Blk.box 26 [V.sc (.int .i64 o.Op), V.sc (.string o.Acct), V.sc (.string o.Other), V.sc (.string o.Hold), V.sc (.string o.Trace), V.sc (.string o.Mti), V.sc (.int .i64 o.Amount), V.sc (.int .i64 o.Ttl)]] []) (X.go) (st 79 [(1, V.ptr 0 0), (4, V.sc (.bool r7)), (5, V.sc (.bool r10)), (6, V.sc (.bool (o.Ttl == 0))), (7, V.sc (.bool (o.Other == (bs []))))] [Blk.box 26 [V.sc (.int .i64 o.Op), V.sc (.string o.Acct), V.sc (.string o.Other), V.sc (.string o.Hold), V.sc (.string o.Trace), V.sc (.string o.Mti), V.sc (.int .i64 o.Amount), V.sc (.int .i64 o.Ttl)]] []),
              HT Tryd.prog (sub (codeOf Tryd.prog 37) [1, 1, 1, 1, 1, 1, 0]) (st 79 [(1, V.ptr 0 0), (4, V.sc (.bool r7)), (5, V.sc (.bool r10)), (6, V.sc (.bool (o.Ttl == 0))), (7, V.sc (.bool (o.Other == (bs []))))] [Blk.box 26 [V.sc (.int .i64 o.Op), V.sc (.string o.Acct), V.sc (.string o.Other), V.sc (.string o.Hold), V.sc (.string o.Trace), V.sc (.string o.Mti), V.sc (.int .i64 o.Amount), V.sc (.int .i64 o.Ttl)]] []) (X.go) (st 79 [(1, V.ptr 0 0), (4, V.sc (.bool r7)), (5, V.sc (.bool r10)), (6, V.sc (.bool r13)), (7, V.sc (.bool (o.Other == (bs []))))] [Blk.box 26 [V.sc (.int .i64 o.Op), V.sc (.string o.Acct), V.sc (.string o.Other), V.sc (.string o.Hold), V.sc (.string o.Trace), V.sc (.string o.Mti), V.sc (.int .i64 o.Amount), V.sc (.int .i64 o.Ttl)]] []),
              HT Tryd.prog (sub (codeOf Tryd.prog 37) [1, 1, 1, 1, 1, 1, 1, 0]) (st 79 [(1, V.ptr 0 0), (4, V.sc (.bool r7)), (5, V.sc (.bool r10)), (6, V.sc (.bool r13)), (7, V.sc (.bool (o.Other == (bs []))))] [Blk.box 26 [V.sc (.int .i64 o.Op), V.sc (.string o.Acct), V.sc (.string o.Other), V.sc (.string o.Hold), V.sc (.string o.Trace), V.sc (.string o.Mti), V.sc (.int .i64 o.Amount), V.sc (.int .i64 o.Ttl)]] []) (X.go) (st 79 [(4, V.sc (.bool r7)), (5, V.sc (.bool r10)), (6, V.sc (.bool r13)), (7, V.sc (.bool r16))] [] []),
              r7 = true,
              r7 = true,
              r10 = true,
              r10 = true,
              r13 = true,
              r13 = true]) (by kernel_rfl) (cj (impl_opOf_ok o.Op r1 h1) (cj rfl (cj ((impl_ReqOk_c0_ok o r1 r4 h8).at h9) (cj (impl_ReqOk_c1_ok o r7 h14) (cj (impl_ReqOk_c2_ok o r7 r10 h18) (cj (impl_ReqOk_c3_ok o r7 r10 r13 h22) (cj (impl_ReqOk_c4_ok o r7 r10 r13 r16 h26) (cj h27 (cj h27 (cj h28 (cj h28 (cj h29 (cj1 h29))))))))))))))) (fun h29 =>
             Pn.some (Fn.of [.call [] (E92 r1) [], .wait 3, .mask [1, 3], .ren [0, 2, 1], .join 7 (X.go) (st 79 [(1, V.ptr 0 0)] [Blk.box 26 [V.sc (.int .i64 o.Op), V.sc (.string o.Acct), V.sc (.string o.Other), V.sc (.string o.Hold), V.sc (.string o.Trace), V.sc (.string o.Mti), V.sc (.int .i64 o.Amount), V.sc (.int .i64 o.Ttl)]] []), .draw [], .wait 16, .mask [1, 4, 5, 6, 7], .ren [0], .join 5 (X.go) (st 79 [(1, V.ptr 0 0), (4, V.sc (.bool r7)), (5, V.sc (.bool (o.Amount == 0))), (6, V.sc (.bool (o.Ttl == 0))), (7, V.sc (.bool (o.Other == (bs []))))] [Blk.box 26 [V.sc (.int .i64 o.Op), V.sc (.string o.Acct), V.sc (.string o.Other), V.sc (.string o.Hold), V.sc (.string o.Trace), V.sc (.string o.Mti), V.sc (.int .i64 o.Amount), V.sc (.int .i64 o.Ttl)]] []), .wait 1, .mask [1, 4, 5, 6, 7], .ren [0], .join 5 (X.go) (st 79 [(1, V.ptr 0 0), (4, V.sc (.bool r7)), (5, V.sc (.bool r10)), (6, V.sc (.bool (o.Ttl == 0))), (7, V.sc (.bool (o.Other == (bs []))))] [Blk.box 26 [V.sc (.int .i64 o.Op), V.sc (.string o.Acct), V.sc (.string o.Other), V.sc (.string o.Hold), V.sc (.string o.Trace), V.sc (.string o.Mti), V.sc (.int .i64 o.Amount), V.sc (.int .i64 o.Ttl)]] []), .wait 1, .mask [1, 4, 5, 6, 7], .ren [0], .join 5 (X.go) (st 79 [(1, V.ptr 0 0), (4, V.sc (.bool r7)), (5, V.sc (.bool r10)), (6, V.sc (.bool r13)), (7, V.sc (.bool (o.Other == (bs []))))] [Blk.box 26 [V.sc (.int .i64 o.Op), V.sc (.string o.Acct), V.sc (.string o.Other), V.sc (.string o.Hold), V.sc (.string o.Trace), V.sc (.string o.Mti), V.sc (.int .i64 o.Amount), V.sc (.int .i64 o.Ttl)]] []), .wait 1, .mask [1, 4, 5, 6, 7], .ren [0], .join 5 (X.go) (st 79 [(4, V.sc (.bool r7)), (5, V.sc (.bool r10)), (6, V.sc (.bool r13)), (7, V.sc (.bool r16))] [] []), .bit true, .bit true, .bit true, .bit true, .bit false, .bit false] (p := [Fn Tryd.prog 79 [(false, E3 o.Op)] (E92 r1) [],
              (true || ((E92 r1).nv && nvL [])) = true,
              HT Tryd.prog (sub (codeOf Tryd.prog 37) [1, 1, 0]) (st 79 [(1, V.ptr 0 0), (3, V.ptr 1 0)] [Blk.box 26 [V.sc (.int .i64 o.Op), V.sc (.string o.Acct), V.sc (.string o.Other), V.sc (.string o.Hold), V.sc (.string o.Trace), V.sc (.string o.Mti), V.sc (.int .i64 o.Amount), V.sc (.int .i64 o.Ttl)], Blk.box 92 [V.sc (.string r1.mti), V.sc (.string r1.code), V.sc (.string r1.name), V.ow 2], Blk.row 3 (List.map E3 r1.fields) []] []) (X.go) (st 79 [(1, V.ptr 0 0)] [Blk.box 26 [V.sc (.int .i64 o.Op), V.sc (.string o.Acct), V.sc (.string o.Other), V.sc (.string o.Hold), V.sc (.string o.Trace), V.sc (.string o.Mti), V.sc (.int .i64 o.Amount), V.sc (.int .i64 o.Ttl)]] []),
              HT Tryd.prog (sub (codeOf Tryd.prog 37) [1, 1, 1, 1, 0]) (st 79 [(1, V.ptr 0 0), (4, V.sc (.bool (o.Hold == (bs [])))), (5, V.sc (.bool (o.Amount == 0))), (6, V.sc (.bool (o.Ttl == 0))), (7, V.sc (.bool (o.Other == (bs []))))] [Blk.box 26 [V.sc (.int .i64 o.Op), V.sc (.string o.Acct), V.sc (.string o.Other), V.sc (.string o.Hold), V.sc (.string o.Trace), V.sc (.string o.Mti), V.sc (.int .i64 o.Amount), V.sc (.int .i64 o.Ttl)]] []) (X.go) (st 79 [(1, V.ptr 0 0), (4, V.sc (.bool r7)), (5, V.sc (.bool (o.Amount == 0))), (6, V.sc (.bool (o.Ttl == 0))), (7, V.sc (.bool (o.Other == (bs []))))] [Blk.box 26 [V.sc (.int .i64 o.Op), V.sc (.string o.Acct), V.sc (.string o.Other), V.sc (.string o.Hold), V.sc (.string o.Trace), V.sc (.string o.Mti), V.sc (.int .i64 o.Amount), V.sc (.int .i64 o.Ttl)]] []),
              HT Tryd.prog (sub (codeOf Tryd.prog 37) [1, 1, 1, 1, 1, 0]) (st 79 [(1, V.ptr 0 0), (4, V.sc (.bool r7)), (5, V.sc (.bool (o.Amount == 0))), (6, V.sc (.bool (o.Ttl == 0))), (7, V.sc (.bool (o.Other == (bs []))))] [Blk.box 26 [V.sc (.int .i64 o.Op), V.sc (.string o.Acct), V.sc (.string o.Other), V.sc (.string o.Hold), V.sc (.string o.Trace), V.sc (.string o.Mti), V.sc (.int .i64 o.Amount), V.sc (.int .i64 o.Ttl)]] []) (X.go) (st 79 [(1, V.ptr 0 0), (4, V.sc (.bool r7)), (5, V.sc (.bool r10)), (6, V.sc (.bool (o.Ttl == 0))), (7, V.sc (.bool (o.Other == (bs []))))] [Blk.box 26 [V.sc (.int .i64 o.Op), V.sc (.string o.Acct), V.sc (.string o.Other), V.sc (.string o.Hold), V.sc (.string o.Trace), V.sc (.string o.Mti), V.sc (.int .i64 o.Amount), V.sc (.int .i64 o.Ttl)]] []),
              HT Tryd.prog (sub (codeOf Tryd.prog 37) [1, 1, 1, 1, 1, 1, 0]) (st 79 [(1, V.ptr 0 0), (4, V.sc (.bool r7)), (5, V.sc (.bool r10)), (6, V.sc (.bool (o.Ttl == 0))), (7, V.sc (.bool (o.Other == (bs []))))] [Blk.box 26 [V.sc (.int .i64 o.Op), V.sc (.string o.Acct), V.sc (.string o.Other), V.sc (.string o.Hold), V.sc (.string o.Trace), V.sc (.string o.Mti), V.sc (.int .i64 o.Amount), V.sc (.int .i64 o.Ttl)]] []) (X.go) (st 79 [(1, V.ptr 0 0), (4, V.sc (.bool r7)), (5, V.sc (.bool r10)), (6, V.sc (.bool r13)), (7, V.sc (.bool (o.Other == (bs []))))] [Blk.box 26 [V.sc (.int .i64 o.Op), V.sc (.string o.Acct), V.sc (.string o.Other), V.sc (.string o.Hold), V.sc (.string o.Trace), V.sc (.string o.Mti), V.sc (.int .i64 o.Amount), V.sc (.int .i64 o.Ttl)]] []),
              HT Tryd.prog (sub (codeOf Tryd.prog 37) [1, 1, 1, 1, 1, 1, 1, 0]) (st 79 [(1, V.ptr 0 0), (4, V.sc (.bool r7)), (5, V.sc (.bool r10)), (6, V.sc (.bool r13)), (7, V.sc (.bool (o.Other == (bs []))))] [Blk.box 26 [V.sc (.int .i64 o.Op), V.sc (.string o.Acct), V.sc (.string o.Other), V.sc (.string o.Hold), V.sc (.string o.Trace), V.sc (.string o.Mti), V.sc (.int .i64 o.Amount), V.sc (.int .i64 o.Ttl)]] []) (X.go) (st 79 [(4, V.sc (.bool r7)), (5, V.sc (.bool r10)), (6, V.sc (.bool r13)), (7, V.sc (.bool r16))] [] []),
              r7 = true,
              r7 = true,
              r10 = true,
              r10 = true,
              r13 = false,
              r13 = false]) (by kernel_rfl) (cj (impl_opOf_ok o.Op r1 h1) (cj rfl (cj ((impl_ReqOk_c0_ok o r1 r4 h8).at h9) (cj (impl_ReqOk_c1_ok o r7 h14) (cj (impl_ReqOk_c2_ok o r7 r10 h18) (cj (impl_ReqOk_c3_ok o r7 r10 r13 h22) (cj (impl_ReqOk_c4_ok o r7 r10 r13 r16 h26) (cj h27 (cj h27 (cj h28 (cj h28 (cj h29 (cj1 h29)))))))))))))))) (fun h28 =>
            Pn.some (Fn.of [.call [] (E92 r1) [], .wait 3, .mask [1, 3], .ren [0, 2, 1], .join 7 (X.go) (st 79 [(1, V.ptr 0 0)] [Blk.box 26 [V.sc (.int .i64 o.Op), V.sc (.string o.Acct), V.sc (.string o.Other), V.sc (.string o.Hold), V.sc (.string o.Trace), V.sc (.string o.Mti), V.sc (.int .i64 o.Amount), V.sc (.int .i64 o.Ttl)]] []), .draw [], .wait 16, .mask [1, 4, 5, 6, 7], .ren [0], .join 5 (X.go) (st 79 [(1, V.ptr 0 0), (4, V.sc (.bool r7)), (5, V.sc (.bool (o.Amount == 0))), (6, V.sc (.bool (o.Ttl == 0))), (7, V.sc (.bool (o.Other == (bs []))))] [Blk.box 26 [V.sc (.int .i64 o.Op), V.sc (.string o.Acct), V.sc (.string o.Other), V.sc (.string o.Hold), V.sc (.string o.Trace), V.sc (.string o.Mti), V.sc (.int .i64 o.Amount), V.sc (.int .i64 o.Ttl)]] []), .wait 1, .mask [1, 4, 5, 6, 7], .ren [0], .join 5 (X.go) (st 79 [(1, V.ptr 0 0), (4, V.sc (.bool r7)), (5, V.sc (.bool r10)), (6, V.sc (.bool (o.Ttl == 0))), (7, V.sc (.bool (o.Other == (bs []))))] [Blk.box 26 [V.sc (.int .i64 o.Op), V.sc (.string o.Acct), V.sc (.string o.Other), V.sc (.string o.Hold), V.sc (.string o.Trace), V.sc (.string o.Mti), V.sc (.int .i64 o.Amount), V.sc (.int .i64 o.Ttl)]] []), .wait 1, .mask [1, 4, 5, 6, 7], .ren [0], .join 5 (X.go) (st 79 [(1, V.ptr 0 0), (4, V.sc (.bool r7)), (5, V.sc (.bool r10)), (6, V.sc (.bool r13)), (7, V.sc (.bool (o.Other == (bs []))))] [Blk.box 26 [V.sc (.int .i64 o.Op), V.sc (.string o.Acct), V.sc (.string o.Other), V.sc (.string o.Hold), V.sc (.string o.Trace), V.sc (.string o.Mti), V.sc (.int .i64 o.Amount), V.sc (.int .i64 o.Ttl)]] []), .wait 1, .mask [1, 4, 5, 6, 7], .ren [0], .join 5 (X.go) (st 79 [(4, V.sc (.bool r7)), (5, V.sc (.bool r10)), (6, V.sc (.bool r13)), (7, V.sc (.bool r16))] [] []), .bit true, .bit true, .bit false, .bit false, .bit false, .bit false] (p := [Fn Tryd.prog 79 [(false, E3 o.Op)] (E92 r1) [],
             (true || ((E92 r1).nv && nvL [])) = true,
             HT Tryd.prog (sub (codeOf Tryd.prog 37) [1, 1, 0]) (st 79 [(1, V.ptr 0 0), (3, V.ptr 1 0)] [Blk.box 26 [V.sc (.int .i64 o.Op), V.sc (.string o.Acct), V.sc (.string o.Other), V.sc (.string o.Hold), V.sc (.string o.Trace), V.sc (.string o.Mti), V.sc (.int .i64 o.Amount), V.sc (.int .i64 o.Ttl)], Blk.box 92 [V.sc (.string r1.mti), V.sc (.string r1.code), V.sc (.string r1.name), V.ow 2], Blk.row 3 (List.map E3 r1.fields) []] []) (X.go) (st 79 [(1, V.ptr 0 0)] [Blk.box 26 [V.sc (.int .i64 o.Op), V.sc (.string o.Acct), V.sc (.string o.Other), V.sc (.string o.Hold), V.sc (.string o.Trace), V.sc (.string o.Mti), V.sc (.int .i64 o.Amount), V.sc (.int .i64 o.Ttl)]] []),
             HT Tryd.prog (sub (codeOf Tryd.prog 37) [1, 1, 1, 1, 0]) (st 79 [(1, V.ptr 0 0), (4, V.sc (.bool (o.Hold == (bs [])))), (5, V.sc (.bool (o.Amount == 0))), (6, V.sc (.bool (o.Ttl == 0))), (7, V.sc (.bool (o.Other == (bs []))))] [Blk.box 26 [V.sc (.int .i64 o.Op), V.sc (.string o.Acct), V.sc (.string o.Other), V.sc (.string o.Hold), V.sc (.string o.Trace), V.sc (.string o.Mti), V.sc (.int .i64 o.Amount), V.sc (.int .i64 o.Ttl)]] []) (X.go) (st 79 [(1, V.ptr 0 0), (4, V.sc (.bool r7)), (5, V.sc (.bool (o.Amount == 0))), (6, V.sc (.bool (o.Ttl == 0))), (7, V.sc (.bool (o.Other == (bs []))))] [Blk.box 26 [V.sc (.int .i64 o.Op), V.sc (.string o.Acct), V.sc (.string o.Other), V.sc (.string o.Hold), V.sc (.string o.Trace), V.sc (.string o.Mti), V.sc (.int .i64 o.Amount), V.sc (.int .i64 o.Ttl)]] []),
             HT Tryd.prog (sub (codeOf Tryd.prog 37) [1, 1, 1, 1, 1, 0]) (st 79 [(1, V.ptr 0 0), (4, V.sc (.bool r7)), (5, V.sc (.bool (o.Amount == 0))), (6, V.sc (.bool (o.Ttl == 0))), (7, V.sc (.bool (o.Other == (bs []))))] [Blk.box 26 [V.sc (.int .i64 o.Op), V.sc (.string o.Acct), V.sc (.string o.Other), V.sc (.string o.Hold), V.sc (.string o.Trace), V.sc (.string o.Mti), V.sc (.int .i64 o.Amount), V.sc (.int .i64 o.Ttl)]] []) (X.go) (st 79 [(1, V.ptr 0 0), (4, V.sc (.bool r7)), (5, V.sc (.bool r10)), (6, V.sc (.bool (o.Ttl == 0))), (7, V.sc (.bool (o.Other == (bs []))))] [Blk.box 26 [V.sc (.int .i64 o.Op), V.sc (.string o.Acct), V.sc (.string o.Other), V.sc (.string o.Hold), V.sc (.string o.Trace), V.sc (.string o.Mti), V.sc (.int .i64 o.Amount), V.sc (.int .i64 o.Ttl)]] []),
             HT Tryd.prog (sub (codeOf Tryd.prog 37) [1, 1, 1, 1, 1, 1, 0]) (st 79 [(1, V.ptr 0 0), (4, V.sc (.bool r7)), (5, V.sc (.bool r10)), (6, V.sc (.bool (o.Ttl == 0))), (7, V.sc (.bool (o.Other == (bs []))))] [Blk.box 26 [V.sc (.int .i64 o.Op), V.sc (.string o.Acct), V.sc (.string o.Other), V.sc (.string o.Hold), V.sc (.string o.Trace), V.sc (.string o.Mti), V.sc (.int .i64 o.Amount), V.sc (.int .i64 o.Ttl)]] []) (X.go) (st 79 [(1, V.ptr 0 0), (4, V.sc (.bool r7)), (5, V.sc (.bool r10)), (6, V.sc (.bool r13)), (7, V.sc (.bool (o.Other == (bs []))))] [Blk.box 26 [V.sc (.int .i64 o.Op), V.sc (.string o.Acct), V.sc (.string o.Other), V.sc (.string o.Hold), V.sc (.string o.Trace), V.sc (.string o.Mti), V.sc (.int .i64 o.Amount), V.sc (.int .i64 o.Ttl)]] []),
             HT Tryd.prog (sub (codeOf Tryd.prog 37) [1, 1, 1, 1, 1, 1, 1, 0]) (st 79 [(1, V.ptr 0 0), (4, V.sc (.bool r7)), (5, V.sc (.bool r10)), (6, V.sc (.bool r13)), (7, V.sc (.bool (o.Other == (bs []))))] [Blk.box 26 [V.sc (.int .i64 o.Op), V.sc (.string o.Acct), V.sc (.string o.Other), V.sc (.string o.Hold), V.sc (.string o.Trace), V.sc (.string o.Mti), V.sc (.int .i64 o.Amount), V.sc (.int .i64 o.Ttl)]] []) (X.go) (st 79 [(4, V.sc (.bool r7)), (5, V.sc (.bool r10)), (6, V.sc (.bool r13)), (7, V.sc (.bool r16))] [] []),
             r7 = true,
             r7 = true,
             r10 = false,
             r10 = false,
             false = false,
             false = false]) (by kernel_rfl) (cj (impl_opOf_ok o.Op r1 h1) (cj rfl (cj ((impl_ReqOk_c0_ok o r1 r4 h8).at h9) (cj (impl_ReqOk_c1_ok o r7 h14) (cj (impl_ReqOk_c2_ok o r7 r10 h18) (cj (impl_ReqOk_c3_ok o r7 r10 r13 h22) (cj (impl_ReqOk_c4_ok o r7 r10 r13 r16 h26) (cj h27 (cj h27 (cj h28 (cj h28 (cj rfl (cj1 rfl)))))))))))))))) (fun h27 =>
           Pn.some (Fn.of [.call [] (E92 r1) [], .wait 3, .mask [1, 3], .ren [0, 2, 1], .join 7 (X.go) (st 79 [(1, V.ptr 0 0)] [Blk.box 26 [V.sc (.int .i64 o.Op), V.sc (.string o.Acct), V.sc (.string o.Other), V.sc (.string o.Hold), V.sc (.string o.Trace), V.sc (.string o.Mti), V.sc (.int .i64 o.Amount), V.sc (.int .i64 o.Ttl)]] []), .draw [], .wait 16, .mask [1, 4, 5, 6, 7], .ren [0], .join 5 (X.go) (st 79 [(1, V.ptr 0 0), (4, V.sc (.bool r7)), (5, V.sc (.bool (o.Amount == 0))), (6, V.sc (.bool (o.Ttl == 0))), (7, V.sc (.bool (o.Other == (bs []))))] [Blk.box 26 [V.sc (.int .i64 o.Op), V.sc (.string o.Acct), V.sc (.string o.Other), V.sc (.string o.Hold), V.sc (.string o.Trace), V.sc (.string o.Mti), V.sc (.int .i64 o.Amount), V.sc (.int .i64 o.Ttl)]] []), .wait 1, .mask [1, 4, 5, 6, 7], .ren [0], .join 5 (X.go) (st 79 [(1, V.ptr 0 0), (4, V.sc (.bool r7)), (5, V.sc (.bool r10)), (6, V.sc (.bool (o.Ttl == 0))), (7, V.sc (.bool (o.Other == (bs []))))] [Blk.box 26 [V.sc (.int .i64 o.Op), V.sc (.string o.Acct), V.sc (.string o.Other), V.sc (.string o.Hold), V.sc (.string o.Trace), V.sc (.string o.Mti), V.sc (.int .i64 o.Amount), V.sc (.int .i64 o.Ttl)]] []), .wait 1, .mask [1, 4, 5, 6, 7], .ren [0], .join 5 (X.go) (st 79 [(1, V.ptr 0 0), (4, V.sc (.bool r7)), (5, V.sc (.bool r10)), (6, V.sc (.bool r13)), (7, V.sc (.bool (o.Other == (bs []))))] [Blk.box 26 [V.sc (.int .i64 o.Op), V.sc (.string o.Acct), V.sc (.string o.Other), V.sc (.string o.Hold), V.sc (.string o.Trace), V.sc (.string o.Mti), V.sc (.int .i64 o.Amount), V.sc (.int .i64 o.Ttl)]] []), .wait 1, .mask [1, 4, 5, 6, 7], .ren [0], .join 5 (X.go) (st 79 [(4, V.sc (.bool r7)), (5, V.sc (.bool r10)), (6, V.sc (.bool r13)), (7, V.sc (.bool r16))] [] []), .bit false, .bit false, .bit false, .bit false, .bit false, .bit false] (p := [Fn Tryd.prog 79 [(false, E3 o.Op)] (E92 r1) [],
            (true || ((E92 r1).nv && nvL [])) = true,
            HT Tryd.prog (sub (codeOf Tryd.prog 37) [1, 1, 0]) (st 79 [(1, V.ptr 0 0), (3, V.ptr 1 0)] [Blk.box 26 [V.sc (.int .i64 o.Op), V.sc (.string o.Acct), V.sc (.string o.Other), V.sc (.string o.Hold), V.sc (.string o.Trace), V.sc (.string o.Mti), V.sc (.int .i64 o.Amount), V.sc (.int .i64 o.Ttl)], Blk.box 92 [V.sc (.string r1.mti), V.sc (.string r1.code), V.sc (.string r1.name), V.ow 2], Blk.row 3 (List.map E3 r1.fields) []] []) (X.go) (st 79 [(1, V.ptr 0 0)] [Blk.box 26 [V.sc (.int .i64 o.Op), V.sc (.string o.Acct), V.sc (.string o.Other), V.sc (.string o.Hold), V.sc (.string o.Trace), V.sc (.string o.Mti), V.sc (.int .i64 o.Amount), V.sc (.int .i64 o.Ttl)]] []),
            HT Tryd.prog (sub (codeOf Tryd.prog 37) [1, 1, 1, 1, 0]) (st 79 [(1, V.ptr 0 0), (4, V.sc (.bool (o.Hold == (bs [])))), (5, V.sc (.bool (o.Amount == 0))), (6, V.sc (.bool (o.Ttl == 0))), (7, V.sc (.bool (o.Other == (bs []))))] [Blk.box 26 [V.sc (.int .i64 o.Op), V.sc (.string o.Acct), V.sc (.string o.Other), V.sc (.string o.Hold), V.sc (.string o.Trace), V.sc (.string o.Mti), V.sc (.int .i64 o.Amount), V.sc (.int .i64 o.Ttl)]] []) (X.go) (st 79 [(1, V.ptr 0 0), (4, V.sc (.bool r7)), (5, V.sc (.bool (o.Amount == 0))), (6, V.sc (.bool (o.Ttl == 0))), (7, V.sc (.bool (o.Other == (bs []))))] [Blk.box 26 [V.sc (.int .i64 o.Op), V.sc (.string o.Acct), V.sc (.string o.Other), V.sc (.string o.Hold), V.sc (.string o.Trace), V.sc (.string o.Mti), V.sc (.int .i64 o.Amount), V.sc (.int .i64 o.Ttl)]] []),
            HT Tryd.prog (sub (codeOf Tryd.prog 37) [1, 1, 1, 1, 1, 0]) (st 79 [(1, V.ptr 0 0), (4, V.sc (.bool r7)), (5, V.sc (.bool (o.Amount == 0))), (6, V.sc (.bool (o.Ttl == 0))), (7, V.sc (.bool (o.Other == (bs []))))] [Blk.box 26 [V.sc (.int .i64 o.Op), V.sc (.string o.Acct), V.sc (.string o.Other), V.sc (.string o.Hold), V.sc (.string o.Trace), V.sc (.string o.Mti), V.sc (.int .i64 o.Amount), V.sc (.int .i64 o.Ttl)]] []) (X.go) (st 79 [(1, V.ptr 0 0), (4, V.sc (.bool r7)), (5, V.sc (.bool r10)), (6, V.sc (.bool (o.Ttl == 0))), (7, V.sc (.bool (o.Other == (bs []))))] [Blk.box 26 [V.sc (.int .i64 o.Op), V.sc (.string o.Acct), V.sc (.string o.Other), V.sc (.string o.Hold), V.sc (.string o.Trace), V.sc (.string o.Mti), V.sc (.int .i64 o.Amount), V.sc (.int .i64 o.Ttl)]] []),
            HT Tryd.prog (sub (codeOf Tryd.prog 37) [1, 1, 1, 1, 1, 1, 0]) (st 79 [(1, V.ptr 0 0), (4, V.sc (.bool r7)), (5, V.sc (.bool r10)), (6, V.sc (.bool (o.Ttl == 0))), (7, V.sc (.bool (o.Other == (bs []))))] [Blk.box 26 [V.sc (.int .i64 o.Op), V.sc (.string o.Acct), V.sc (.string o.Other), V.sc (.string o.Hold), V.sc (.string o.Trace), V.sc (.string o.Mti), V.sc (.int .i64 o.Amount), V.sc (.int .i64 o.Ttl)]] []) (X.go) (st 79 [(1, V.ptr 0 0), (4, V.sc (.bool r7)), (5, V.sc (.bool r10)), (6, V.sc (.bool r13)), (7, V.sc (.bool (o.Other == (bs []))))] [Blk.box 26 [V.sc (.int .i64 o.Op), V.sc (.string o.Acct), V.sc (.string o.Other), V.sc (.string o.Hold), V.sc (.string o.Trace), V.sc (.string o.Mti), V.sc (.int .i64 o.Amount), V.sc (.int .i64 o.Ttl)]] []),
            HT Tryd.prog (sub (codeOf Tryd.prog 37) [1, 1, 1, 1, 1, 1, 1, 0]) (st 79 [(1, V.ptr 0 0), (4, V.sc (.bool r7)), (5, V.sc (.bool r10)), (6, V.sc (.bool r13)), (7, V.sc (.bool (o.Other == (bs []))))] [Blk.box 26 [V.sc (.int .i64 o.Op), V.sc (.string o.Acct), V.sc (.string o.Other), V.sc (.string o.Hold), V.sc (.string o.Trace), V.sc (.string o.Mti), V.sc (.int .i64 o.Amount), V.sc (.int .i64 o.Ttl)]] []) (X.go) (st 79 [(4, V.sc (.bool r7)), (5, V.sc (.bool r10)), (6, V.sc (.bool r13)), (7, V.sc (.bool r16))] [] []),
            r7 = false,
            r7 = false,
            false = false,
            false = false,
            false = false,
            false = false]) (by kernel_rfl) (cj (impl_opOf_ok o.Op r1 h1) (cj rfl (cj ((impl_ReqOk_c0_ok o r1 r4 h8).at h9) (cj (impl_ReqOk_c1_ok o r7 h14) (cj (impl_ReqOk_c2_ok o r7 r10 h18) (cj (impl_ReqOk_c3_ok o r7 r10 r13 h22) (cj (impl_ReqOk_c4_ok o r7 r10 r13 r16 h26) (cj h27 (cj h27 (cj rfl (cj rfl (cj rfl (cj1 rfl)))))))))))))))))))) (fun s2 h10 =>
      Pn.some (Fn.of [.call [] (E92 r1) [], .wait 3, .mask [1, 3], .ren [0, 2, 1], .join 7 (X.ret) (st 79 [(2, V.sc (.bool false))] [] [])] (p := [Fn Tryd.prog 79 [(false, E3 o.Op)] (E92 r1) [],
       (true || ((E92 r1).nv && nvL [])) = true,
       HT Tryd.prog (sub (codeOf Tryd.prog 37) [1, 1, 0]) (st 79 [(1, V.ptr 0 0), (3, V.ptr 1 0)] [Blk.box 26 [V.sc (.int .i64 o.Op), V.sc (.string o.Acct), V.sc (.string o.Other), V.sc (.string o.Hold), V.sc (.string o.Trace), V.sc (.string o.Mti), V.sc (.int .i64 o.Amount), V.sc (.int .i64 o.Ttl)], Blk.box 92 [V.sc (.string r1.mti), V.sc (.string r1.code), V.sc (.string r1.name), V.ow 2], Blk.row 3 (List.map E3 r1.fields) []] []) (X.ret) (st 79 [(2, V.sc (.bool false))] [] [])]) (by kernel_rfl) (cj (impl_opOf_ok o.Op r1 h1) (cj rfl (cj1 ((impl_ReqOk_c0_ok o r1 r4 h8).at h10))))))))
def impl_OpName (op : Int) : Option (ByteArray) :=
 (impl_opOf op).bind fun r1 =>
 some r1.name
theorem impl_OpName_ok (op : Int) : Pn (fun y => Fn Tryd.prog 38 [(false, E3 op)] (E9 y) []) (impl_OpName op) := by
  unfold impl_OpName
  exact
   Pn.bind (fun r1 h1 =>
    Pn.some (Fn.of [.call [] (E92 r1) []] (p := [Fn Tryd.prog 79 [(false, E3 op)] (E92 r1) [],
     (true || ((E92 r1).nv && nvL [])) = true]) (by kernel_rfl) (cj (impl_opOf_ok op r1 h1) (cj1 rfl))))
def impl_isMoney (n : Int) : Option (Bool) :=
 (impl_within n 0 4611686018427387904).bind fun r1 =>
 some r1
theorem impl_isMoney_ok (n : Int) : Pn (fun y => Fn Tryd.prog 85 [(false, E3 n)] (E4 y) []) (impl_isMoney n) := by
  unfold impl_isMoney
  exact
   Pn.bind (fun r1 h1 =>
    Pn.some (Fn.of [.call [] (E4 r1) []] (p := [Fn Tryd.prog 83 [(false, E3 n), (false, E3 0), (false, E3 4611686018427387904)] (E4 r1) [],
     (true || ((E4 r1).nv && nvL [])) = true]) (by kernel_rfl) (cj (impl_within_ok n 0 4611686018427387904 r1 h1) (cj1 rfl))))
def strconv_Itoa (i : Int) : Option ByteArray := if (decide (-9223372036854775808 ≤ i) && decide (i ≤ 9223372036854775807)) = true then some ⟨(Lib.itoa i).toArray⟩ else none
theorem strconv_Itoa_ok (i : Int) : Pn (fun y => Fn Tryd.prog 86 [(false, E3 i)] (E9 y) []) (strconv_Itoa i) := by
  unfold strconv_Itoa
  exact Pn.ite (fun h => Pn.some (Fn.flat [.int .i64 i] (by kernel_rfl) rfl fun w hw => by
    simp only [Bool.and_eq_true, decide_eq_true_eq] at h
    obtain ⟨cs, t, z, e1, e2⟩ := hw _ (List.Mem.head _)
    exact (Go.Proofs.Any.strconv_Itoa Tryd.laysM171 i h.1 h.2 w (tab_of (by kernel_rfl) e1 e2)).mono fun e w2 ⟨h1, k, os, h2⟩ => ⟨h1, h2 ▸ Lib.below_grow _ w (Nat.le_refl _) k os⟩)) (fun _ => Pn.none)
def impl_NumText (n : Int) : Option (ByteArray) :=
 (impl_isMoney n).bind fun r1 =>
 if r1 = true then
  (strconv_Itoa n).bind fun r2 =>
  some r2
 else
  some (bs [])
theorem impl_NumText_ok (n : Int) : Pn (fun y => Fn Tryd.prog 40 [(false, E3 n)] (E9 y) []) (impl_NumText n) := by
  unfold impl_NumText
  exact
   Pn.bind (fun r1 h1 =>
    Pn.ite (fun h2 =>
     Pn.bind (fun r2 h3 =>
      Pn.some (Fn.of [.call [] (E4 r1) [], .bit false, .call [] (E9 r2) []] (p := [Fn Tryd.prog 85 [(false, E3 n)] (E4 r1) [],
       (true || ((E4 r1).nv && nvL [])) = true,
       (!r1) = false,
       Fn Tryd.prog 86 [(false, E3 n)] (E9 r2) [],
       (true || ((E9 r2).nv && nvL [])) = true]) (by kernel_rfl) (cj (impl_isMoney_ok n r1 h1) (cj rfl (cj (nf h2) (cj (strconv_Itoa_ok n r2 h3) (cj1 rfl)))))))) (fun h2 =>
     Pn.some (Fn.of [.call [] (E4 r1) [], .bit true] (p := [Fn Tryd.prog 85 [(false, E3 n)] (E4 r1) [],
      (true || ((E4 r1).nv && nvL [])) = true,
      (!r1) = true]) (by kernel_rfl) (cj (impl_isMoney_ok n r1 h1) (cj rfl (cj1 (nt h2)))))))
def strings_Join (o : List ByteArray) (o_ : ByteArray) : Option ByteArray := if (decide (o.length ≤ 140737488355328) && decide ((joined o o_).size ≤ 140737488355328)) = true then some (joined o o_) else none
theorem strings_Join_ok (o : List ByteArray) (o_ : ByteArray) : Pn (fun y => Fn Tryd.prog 41 [(false, E65 o), (false, E9 o_)] (E9 y) []) (strings_Join o o_) := by
  unfold strings_Join
  exact Pn.ite (fun h => Pn.some (by
    simp only [Bool.and_eq_true, decide_eq_true_eq] at h
    exact Fn.join (by kernel_rfl) (fun a c s w => Go.Proofs.Any.strings_Join_none Tryd.lays156 Tryd.Builder_Extra_156 a c s w) (fun bk o c xs s w h1 h2 h3 h4 h5 => Go.Proofs.Any.strings_Join Tryd.lays156 Tryd.Builder_Extra_156 bk o c xs s w h1 h2 h3 h4 h5) o o_ h.1 h.2)) (fun _ => Pn.none)
def impl_ReqText_c0 (q : Req) : Option (Lo Unit Unit) :=
 (impl_ReqOk q).bind fun r1 =>
 if r1 = true then
  some (.out ())
 else
  some (.ret ())
theorem impl_ReqText_c0_ok (q : Req) : Pn (JnO Tryd.prog (sub (codeOf Tryd.prog 11) [1, 0]) (st 51 [(1, V.ptr 0 0)] [Blk.box 26 [V.sc (.int .i64 q.Op), V.sc (.string q.Acct), V.sc (.string q.Other), V.sc (.string q.Hold), V.sc (.string q.Trace), V.sc (.string q.Mti), V.sc (.int .i64 q.Amount), V.sc (.int .i64 q.Ttl)]] []) (fun (y : Lo Unit Unit) => Lo.elim y (fun s => (X.go, st 51 [(1, V.ptr 0 0)] [Blk.box 26 [V.sc (.int .i64 q.Op), V.sc (.string q.Acct), V.sc (.string q.Other), V.sc (.string q.Hold), V.sc (.string q.Trace), V.sc (.string q.Mti), V.sc (.int .i64 q.Amount), V.sc (.int .i64 q.Ttl)]] [])) (fun s => (X.ret, st 51 [(2, V.sc (.string (bs [])))] [] [])))) (impl_ReqText_c0 q) := by
  unfold impl_ReqText_c0
  exact
   Pn.bind (fun r1 h1 =>
    Pn.ite (fun h2 =>
     Pn.some (JnO.of [.call [] (E4 r1) [], .bit false, .mask [1], .ren [0]] (p := [Fn Tryd.prog 37 [(false, E26 q)] (E4 r1) [],
      (true || ((E4 r1).nv && nvL [])) = true,
      (!r1) = false]) (by kernel_rfl) (cj (impl_ReqOk_ok q r1 h1) (cj rfl (cj1 (nf h2)))))) (fun h2 =>
     Pn.some (JnO.of [.call [] (E4 r1) [], .bit true, .wait 1, .mask [2], .ren []] (p := [Fn Tryd.prog 37 [(false, E26 q)] (E4 r1) [],
      (true || ((E4 r1).nv && nvL [])) = true,
      (!r1) = true]) (by kernel_rfl) (cj (impl_ReqOk_ok q r1 h1) (cj rfl (cj1 (nt h2)))))))
def impl_ReqText_c1 (q : Req) (r3 : ByteArray) : Option ((List ByteArray)) :=
 (impl_uses q.Op 38).bind fun r4 =>
 if r4 = true then
  some [r3, q.Acct, q.Trace, q.Hold]
 else
  some [r3, q.Acct, q.Trace]
theorem impl_ReqText_c1_ok (q : Req) (r3 : ByteArray) : Pn (JnO Tryd.prog (sub (codeOf Tryd.prog 11) [1, 1, 1, 0]) (st 51 [(1, V.ptr 0 0), (3, V.ow 1)] [Blk.box 26 [V.sc (.int .i64 q.Op), V.sc (.string q.Acct), V.sc (.string q.Other), V.sc (.string q.Hold), V.sc (.string q.Trace), V.sc (.string q.Mti), V.sc (.int .i64 q.Amount), V.sc (.int .i64 q.Ttl)], Blk.row 9 [V.sc (.string r3), V.sc (.string q.Acct), V.sc (.string q.Trace)] []] []) (fun (y : (List ByteArray)) => (X.go, st 51 [(1, V.ptr 0 0), (3, V.ow 1)] [Blk.box 26 [V.sc (.int .i64 q.Op), V.sc (.string q.Acct), V.sc (.string q.Other), V.sc (.string q.Hold), V.sc (.string q.Trace), V.sc (.string q.Mti), V.sc (.int .i64 q.Amount), V.sc (.int .i64 q.Ttl)], Blk.row 9 (List.map E9 y) []] []))) (impl_ReqText_c1 q r3) := by
  unfold impl_ReqText_c1
  exact
   Pn.bind (fun r4 h7 =>
    Pn.ite (fun h8 =>
     Pn.some (JnO.of [.call [] (E4 r4) [], .bit true, .cp [V.sc (.string q.Hold)], .wait 2, .mask [1, 3], .ren [0, 3]] (p := [Fn Tryd.prog 39 [(false, E3 q.Op), (false, E3 38)] (E4 r4) [],
      (true || ((E4 r4).nv && nvL [])) = true,
      r4 = true,
      [V.sc (.string q.Hold)] = [V.sc (.string q.Hold)],
      [V.sc (.string q.Hold)].all V.flatE = true,
      [V.sc (.string r3), V.sc (.string q.Acct), V.sc (.string q.Trace)].length + [V.sc (.string q.Hold)].length ≤ 9223372036854775807,
      ([V.sc (.string r3), V.sc (.string q.Acct), V.sc (.string q.Trace)].length + [V.sc (.string q.Hold)].length) * 16 ≤ 140737488355328]) (by kernel_rfl) (cj (impl_uses_ok q.Op 38 r4 h7) (cj rfl (cj h8 (cj rfl (cj rfl (cj (Nat.le_of_ble_eq_true rfl) (cj1 (Nat.le_of_ble_eq_true rfl)))))))))) (fun h8 =>
     Pn.some (JnO.of [.call [] (E4 r4) [], .bit false, .mask [1, 3], .ren [0, 1]] (p := [Fn Tryd.prog 39 [(false, E3 q.Op), (false, E3 38)] (E4 r4) [],
      (true || ((E4 r4).nv && nvL [])) = true,
      r4 = false]) (by kernel_rfl) (cj (impl_uses_ok q.Op 38 r4 h7) (cj rfl (cj1 h8))))))
def impl_ReqText_c2 (q : Req) (r5 : (List ByteArray)) : Option ((List ByteArray)) :=
 (impl_uses q.Op 4).bind fun r6 =>
 if r6 = true then
  (impl_NumText q.Amount).bind fun r7 =>
  if (capOk (r5.length + 1)) = true then
   some (r5 ++ [r7])
  else none
 else
  some r5
theorem impl_ReqText_c2_ok (q : Req) (r5 : (List ByteArray)) : Pn (JnO Tryd.prog (sub (codeOf Tryd.prog 11) [1, 1, 1, 1, 0]) (st 51 [(1, V.ptr 0 0), (3, V.ow 1)] [Blk.box 26 [V.sc (.int .i64 q.Op), V.sc (.string q.Acct), V.sc (.string q.Other), V.sc (.string q.Hold), V.sc (.string q.Trace), V.sc (.string q.Mti), V.sc (.int .i64 q.Amount), V.sc (.int .i64 q.Ttl)], Blk.row 9 (List.map E9 r5) []] []) (fun (y : (List ByteArray)) => (X.go, st 51 [(1, V.ptr 0 0), (3, V.ow 1)] [Blk.box 26 [V.sc (.int .i64 q.Op), V.sc (.string q.Acct), V.sc (.string q.Other), V.sc (.string q.Hold), V.sc (.string q.Trace), V.sc (.string q.Mti), V.sc (.int .i64 q.Amount), V.sc (.int .i64 q.Ttl)], Blk.row 9 (List.map E9 y) []] []))) (impl_ReqText_c2 q r5) := by
  unfold impl_ReqText_c2
  exact
   Pn.bind (fun r6 h10 =>
    Pn.ite (fun h11 =>
     Pn.bind (fun r7 h12 =>
      Pn.ite (fun h13 =>
       Pn.some (JnO.of [.call [] (E4 r6) [], .bit true, .call [] (E9 r7) [], .cp [V.sc (.string r7)], .nb 3 (.row 9 (List.map E9 (r5 ++ [r7])) []), .wait 2, .mask [1, 3], .ren [0, 3]] (p := [Fn Tryd.prog 39 [(false, E3 q.Op), (false, E3 4)] (E4 r6) [],
        (true || ((E4 r6).nv && nvL [])) = true,
        r6 = true,
        Fn Tryd.prog 40 [(false, E3 q.Amount)] (E9 r7) [],
        (true || ((E9 r7).nv && nvL [])) = true,
        [V.sc (.string r7)] = [V.sc (.string r7)],
        [V.sc (.string r7)].all V.flatE = true,
        (List.map E9 r5).length + [V.sc (.string r7)].length ≤ 9223372036854775807,
        ((List.map E9 r5).length + [V.sc (.string r7)].length) * 16 ≤ 140737488355328,
        Blk.row 9 ((List.map E9 r5) ++ [V.sc (.string r7)]) [] = Blk.row 9 (List.map E9 (r5 ++ [r7])) []]) (by kernel_rfl) (cj (impl_uses_ok q.Op 4 r6 h10) (cj rfl (cj h11 (cj (impl_NumText_ok q.Amount r7 h12) (cj rfl (cj rfl (cj rfl (cj (cap1 (capN (by simp) h13)) (cj (cap2 (capN (by simp) h13) (by decide)) (cj1 (nb_app E9 r5 [r7]))))))))))))) (fun h13 =>
       Pn.none))) (fun h11 =>
     Pn.some (JnO.of [.call [] (E4 r6) [], .bit false, .mask [1, 3], .ren [0, 1]] (p := [Fn Tryd.prog 39 [(false, E3 q.Op), (false, E3 4)] (E4 r6) [],
      (true || ((E4 r6).nv && nvL [])) = true,
      r6 = false]) (by kernel_rfl) (cj (impl_uses_ok q.Op 4 r6 h10) (cj rfl (cj1 h11))))))
def impl_ReqText_c3 (q : Req) (r8 : (List ByteArray)) : Option ((List ByteArray)) :=
 (impl_uses q.Op 14).bind fun r9 =>
 if r9 = true then
  (impl_NumText q.Ttl).bind fun r10 =>
  if (capOk (r8.length + 1)) = true then
   some (r8 ++ [r10])
  else none
 else
  some r8
theorem impl_ReqText_c3_ok (q : Req) (r8 : (List ByteArray)) : Pn (JnO Tryd.prog (sub (codeOf Tryd.prog 11) [1, 1, 1, 1, 1, 0]) (st 51 [(1, V.ptr 0 0), (3, V.ow 1)] [Blk.box 26 [V.sc (.int .i64 q.Op), V.sc (.string q.Acct), V.sc (.string q.Other), V.sc (.string q.Hold), V.sc (.string q.Trace), V.sc (.string q.Mti), V.sc (.int .i64 q.Amount), V.sc (.int .i64 q.Ttl)], Blk.row 9 (List.map E9 r8) []] []) (fun (y : (List ByteArray)) => (X.go, st 51 [(1, V.ptr 0 0), (3, V.ow 1)] [Blk.box 26 [V.sc (.int .i64 q.Op), V.sc (.string q.Acct), V.sc (.string q.Other), V.sc (.string q.Hold), V.sc (.string q.Trace), V.sc (.string q.Mti), V.sc (.int .i64 q.Amount), V.sc (.int .i64 q.Ttl)], Blk.row 9 (List.map E9 y) []] []))) (impl_ReqText_c3 q r8) := by
  unfold impl_ReqText_c3
  exact
   Pn.bind (fun r9 h15 =>
    Pn.ite (fun h16 =>
     Pn.bind (fun r10 h17 =>
      Pn.ite (fun h18 =>
       Pn.some (JnO.of [.call [] (E4 r9) [], .bit true, .call [] (E9 r10) [], .cp [V.sc (.string r10)], .nb 3 (.row 9 (List.map E9 (r8 ++ [r10])) []), .wait 2, .mask [1, 3], .ren [0, 3]] (p := [Fn Tryd.prog 39 [(false, E3 q.Op), (false, E3 14)] (E4 r9) [],
        (true || ((E4 r9).nv && nvL [])) = true,
        r9 = true,
        Fn Tryd.prog 40 [(false, E3 q.Ttl)] (E9 r10) [],
        (true || ((E9 r10).nv && nvL [])) = true,
        [V.sc (.string r10)] = [V.sc (.string r10)],
        [V.sc (.string r10)].all V.flatE = true,
        (List.map E9 r8).length + [V.sc (.string r10)].length ≤ 9223372036854775807,
        ((List.map E9 r8).length + [V.sc (.string r10)].length) * 16 ≤ 140737488355328,
        Blk.row 9 ((List.map E9 r8) ++ [V.sc (.string r10)]) [] = Blk.row 9 (List.map E9 (r8 ++ [r10])) []]) (by kernel_rfl) (cj (impl_uses_ok q.Op 14 r9 h15) (cj rfl (cj h16 (cj (impl_NumText_ok q.Ttl r10 h17) (cj rfl (cj rfl (cj rfl (cj (cap1 (capN (by simp) h18)) (cj (cap2 (capN (by simp) h18) (by decide)) (cj1 (nb_app E9 r8 [r10]))))))))))))) (fun h18 =>
       Pn.none))) (fun h16 =>
     Pn.some (JnO.of [.call [] (E4 r9) [], .bit false, .mask [1, 3], .ren [0, 1]] (p := [Fn Tryd.prog 39 [(false, E3 q.Op), (false, E3 14)] (E4 r9) [],
      (true || ((E4 r9).nv && nvL [])) = true,
      r9 = false]) (by kernel_rfl) (cj (impl_uses_ok q.Op 14 r9 h15) (cj rfl (cj1 h16))))))
def impl_ReqText_c4 (q : Req) (r11 : (List ByteArray)) : Option ((List ByteArray)) :=
 (impl_uses q.Op 103).bind fun r12 =>
 if r12 = true then
  if (capOk (r11.length + 1)) = true then
   some (r11 ++ [q.Other])
  else none
 else
  some r11
theorem impl_ReqText_c4_ok (q : Req) (r11 : (List ByteArray)) : Pn (JnO Tryd.prog (sub (codeOf Tryd.prog 11) [1, 1, 1, 1, 1, 1, 0]) (st 51 [(1, V.ptr 0 0), (3, V.ow 1)] [Blk.box 26 [V.sc (.int .i64 q.Op), V.sc (.string q.Acct), V.sc (.string q.Other), V.sc (.string q.Hold), V.sc (.string q.Trace), V.sc (.string q.Mti), V.sc (.int .i64 q.Amount), V.sc (.int .i64 q.Ttl)], Blk.row 9 (List.map E9 r11) []] []) (fun (y : (List ByteArray)) => (X.go, st 51 [(3, V.ow 0)] [Blk.row 9 (List.map E9 y) []] []))) (impl_ReqText_c4 q r11) := by
  unfold impl_ReqText_c4
  exact
   Pn.bind (fun r12 h20 =>
    Pn.ite (fun h21 =>
     Pn.ite (fun h22 =>
      Pn.some (JnO.of [.call [] (E4 r12) [], .bit true, .cp [V.sc (.string q.Other)], .nb 3 (.row 9 (List.map E9 (r11 ++ [q.Other])) []), .wait 2, .mask [3], .ren [3]] (p := [Fn Tryd.prog 39 [(false, E3 q.Op), (false, E3 103)] (E4 r12) [],
       (true || ((E4 r12).nv && nvL [])) = true,
       r12 = true,
       [V.sc (.string q.Other)] = [V.sc (.string q.Other)],
       [V.sc (.string q.Other)].all V.flatE = true,
       (List.map E9 r11).length + [V.sc (.string q.Other)].length ≤ 9223372036854775807,
       ((List.map E9 r11).length + [V.sc (.string q.Other)].length) * 16 ≤ 140737488355328,
       Blk.row 9 ((List.map E9 r11) ++ [V.sc (.string q.Other)]) [] = Blk.row 9 (List.map E9 (r11 ++ [q.Other])) []]) (by kernel_rfl) (cj (impl_uses_ok q.Op 103 r12 h20) (cj rfl (cj h21 (cj rfl (cj rfl (cj (cap1 (capN (by simp) h22)) (cj (cap2 (capN (by simp) h22) (by decide)) (cj1 (nb_app E9 r11 [q.Other]))))))))))) (fun h22 =>
      Pn.none)) (fun h21 =>
     Pn.some (JnO.of [.call [] (E4 r12) [], .bit false, .mask [3], .ren [1]] (p := [Fn Tryd.prog 39 [(false, E3 q.Op), (false, E3 103)] (E4 r12) [],
      (true || ((E4 r12).nv && nvL [])) = true,
      r12 = false]) (by kernel_rfl) (cj (impl_uses_ok q.Op 103 r12 h20) (cj rfl (cj1 h21))))))
def impl_ReqText (q : Req) : Option (ByteArray) :=
 (impl_ReqText_c0 q).bind fun r2 =>
 Lo.elim r2 (fun s1 =>
  (impl_OpName q.Op).bind fun r3 =>
  (impl_ReqText_c1 q r3).bind fun r5 =>
  (impl_ReqText_c2 q r5).bind fun r8 =>
  (impl_ReqText_c3 q r8).bind fun r11 =>
  (impl_ReqText_c4 q r11).bind fun r13 =>
  (strings_Join r13 (bs [32])).bind fun r14 =>
  some r14) (fun s2 =>
  some (bs []))
theorem impl_ReqText_ok (q : Req) : Pn (fun y => Fn Tryd.prog 11 [(false, E26 q)] (E9 y) []) (impl_ReqText q) := by
  unfold impl_ReqText
  exact
   Pn.bind (fun r2 h3 =>
    Pn.lo (fun s1 h4 =>
     Pn.bind (fun r3 h6 =>
      Pn.bind (fun r5 h9 =>
       Pn.bind (fun r8 h14 =>
        Pn.bind (fun r11 h19 =>
         Pn.bind (fun r13 h23 =>
          Pn.bind (fun r14 h24 =>
           Pn.some (Fn.of [.wait 3, .mask [1], .ren [0], .join 7 (X.go) (st 51 [(1, V.ptr 0 0)] [Blk.box 26 [V.sc (.int .i64 q.Op), V.sc (.string q.Acct), V.sc (.string q.Other), V.sc (.string q.Hold), V.sc (.string q.Trace), V.sc (.string q.Mti), V.sc (.int .i64 q.Amount), V.sc (.int .i64 q.Ttl)]] []), .draw [], .call [] (E9 r3) [], .wait 3, .mask [1, 3], .ren [0, 1], .join 5 (X.go) (st 51 [(1, V.ptr 0 0), (3, V.ow 1)] [Blk.box 26 [V.sc (.int .i64 q.Op), V.sc (.string q.Acct), V.sc (.string q.Other), V.sc (.string q.Hold), V.sc (.string q.Trace), V.sc (.string q.Mti), V.sc (.int .i64 q.Amount), V.sc (.int .i64 q.Ttl)], Blk.row 9 (List.map E9 r5) []] []), .wait 1, .mask [1, 3], .ren [0, 1], .join 5 (X.go) (st 51 [(1, V.ptr 0 0), (3, V.ow 1)] [Blk.box 26 [V.sc (.int .i64 q.Op), V.sc (.string q.Acct), V.sc (.string q.Other), V.sc (.string q.Hold), V.sc (.string q.Trace), V.sc (.string q.Mti), V.sc (.int .i64 q.Amount), V.sc (.int .i64 q.Ttl)], Blk.row 9 (List.map E9 r8) []] []), .wait 1, .mask [1, 3], .ren [0, 1], .join 5 (X.go) (st 51 [(1, V.ptr 0 0), (3, V.ow 1)] [Blk.box 26 [V.sc (.int .i64 q.Op), V.sc (.string q.Acct), V.sc (.string q.Other), V.sc (.string q.Hold), V.sc (.string q.Trace), V.sc (.string q.Mti), V.sc (.int .i64 q.Amount), V.sc (.int .i64 q.Ttl)], Blk.row 9 (List.map E9 r11) []] []), .wait 1, .mask [1, 3], .ren [0, 1], .join 5 (X.go) (st 51 [(3, V.ow 0)] [Blk.row 9 (List.map E9 r13) []] []), .call [] (E9 r14) []] (p := [HT Tryd.prog (sub (codeOf Tryd.prog 11) [1, 0]) (st 51 [(1, V.ptr 0 0)] [Blk.box 26 [V.sc (.int .i64 q.Op), V.sc (.string q.Acct), V.sc (.string q.Other), V.sc (.string q.Hold), V.sc (.string q.Trace), V.sc (.string q.Mti), V.sc (.int .i64 q.Amount), V.sc (.int .i64 q.Ttl)]] []) (X.go) (st 51 [(1, V.ptr 0 0)] [Blk.box 26 [V.sc (.int .i64 q.Op), V.sc (.string q.Acct), V.sc (.string q.Other), V.sc (.string q.Hold), V.sc (.string q.Trace), V.sc (.string q.Mti), V.sc (.int .i64 q.Amount), V.sc (.int .i64 q.Ttl)]] []),
            Fn Tryd.prog 38 [(false, E3 q.Op)] (E9 r3) [],
            (true || ((E9 r3).nv && nvL [])) = true,
            HT Tryd.prog (sub (codeOf Tryd.prog 11) [1, 1, 1, 0]) (st 51 [(1, V.ptr 0 0), (3, V.ow 1)] [Blk.box 26 [V.sc (.int .i64 q.Op), V.sc (.string q.Acct), V.sc (.string q.Other), V.sc (.string q.Hold), V.sc (.string q.Trace), V.sc (.string q.Mti), V.sc (.int .i64 q.Amount), V.sc (.int .i64 q.Ttl)], Blk.row 9 [V.sc (.string r3), V.sc (.string q.Acct), V.sc (.string q.Trace)] []] []) (X.go) (st 51 [(1, V.ptr 0 0), (3, V.ow 1)] [Blk.box 26 [V.sc (.int .i64 q.Op), V.sc (.string q.Acct), V.sc (.string q.Other), V.sc (.string q.Hold), V.sc (.string q.Trace), V.sc (.string q.Mti), V.sc (.int .i64 q.Amount), V.sc (.int .i64 q.Ttl)], Blk.row 9 (List.map E9 r5) []] []),
            HT Tryd.prog (sub (codeOf Tryd.prog 11) [1, 1, 1, 1, 0]) (st 51 [(1, V.ptr 0 0), (3, V.ow 1)] [Blk.box 26 [V.sc (.int .i64 q.Op), V.sc (.string q.Acct), V.sc (.string q.Other), V.sc (.string q.Hold), V.sc (.string q.Trace), V.sc (.string q.Mti), V.sc (.int .i64 q.Amount), V.sc (.int .i64 q.Ttl)], Blk.row 9 (List.map E9 r5) []] []) (X.go) (st 51 [(1, V.ptr 0 0), (3, V.ow 1)] [Blk.box 26 [V.sc (.int .i64 q.Op), V.sc (.string q.Acct), V.sc (.string q.Other), V.sc (.string q.Hold), V.sc (.string q.Trace), V.sc (.string q.Mti), V.sc (.int .i64 q.Amount), V.sc (.int .i64 q.Ttl)], Blk.row 9 (List.map E9 r8) []] []),
            HT Tryd.prog (sub (codeOf Tryd.prog 11) [1, 1, 1, 1, 1, 0]) (st 51 [(1, V.ptr 0 0), (3, V.ow 1)] [Blk.box 26 [V.sc (.int .i64 q.Op), V.sc (.string q.Acct), V.sc (.string q.Other), V.sc (.string q.Hold), V.sc (.string q.Trace), V.sc (.string q.Mti), V.sc (.int .i64 q.Amount), V.sc (.int .i64 q.Ttl)], Blk.row 9 (List.map E9 r8) []] []) (X.go) (st 51 [(1, V.ptr 0 0), (3, V.ow 1)] [Blk.box 26 [V.sc (.int .i64 q.Op), V.sc (.string q.Acct), V.sc (.string q.Other), V.sc (.string q.Hold), V.sc (.string q.Trace), V.sc (.string q.Mti), V.sc (.int .i64 q.Amount), V.sc (.int .i64 q.Ttl)], Blk.row 9 (List.map E9 r11) []] []),
            HT Tryd.prog (sub (codeOf Tryd.prog 11) [1, 1, 1, 1, 1, 1, 0]) (st 51 [(1, V.ptr 0 0), (3, V.ow 1)] [Blk.box 26 [V.sc (.int .i64 q.Op), V.sc (.string q.Acct), V.sc (.string q.Other), V.sc (.string q.Hold), V.sc (.string q.Trace), V.sc (.string q.Mti), V.sc (.int .i64 q.Amount), V.sc (.int .i64 q.Ttl)], Blk.row 9 (List.map E9 r11) []] []) (X.go) (st 51 [(3, V.ow 0)] [Blk.row 9 (List.map E9 r13) []] []),
            Fn Tryd.prog 41 [(false, E65 r13), (false, E9 (bs [32]))] (E9 r14) [],
            (false || ((E9 r14).nv && nvL [])) = true]) (by kernel_rfl) (cj ((impl_ReqText_c0_ok q r2 h3).at h4) (cj (impl_OpName_ok q.Op r3 h6) (cj rfl (cj (impl_ReqText_c1_ok q r3 r5 h9) (cj (impl_ReqText_c2_ok q r5 r8 h14) (cj (impl_ReqText_c3_ok q r8 r11 h19) (cj (impl_ReqText_c4_ok q r11 r13 h23) (cj (strings_Join_ok r13 (bs [32]) r14 h24) (cj1 (by simp [V.nv, nvL, nvL_all, nv_E9])))))))))))))))))) (fun s2 h5 =>
     Pn.some (Fn.of [.wait 3, .mask [1], .ren [0], .join 7 (X.ret) (st 51 [(2, V.sc (.string (bs [])))] [] [])] (p := [HT Tryd.prog (sub (codeOf Tryd.prog 11) [1, 0]) (st 51 [(1, V.ptr 0 0)] [Blk.box 26 [V.sc (.int .i64 q.Op), V.sc (.string q.Acct), V.sc (.string q.Other), V.sc (.string q.Hold), V.sc (.string q.Trace), V.sc (.string q.Mti), V.sc (.int .i64 q.Amount), V.sc (.int .i64 q.Ttl)]] []) (X.ret) (st 51 [(2, V.sc (.string (bs [])))] [] [])]) (by kernel_rfl) (cj1 ((impl_ReqText_c0_ok q r2 h3).at h5)))))
def laws_FnExactReqText (aQ : Req) : Option (Bool) :=
 (laws_szReq aQ 1048576).bind fun r1 =>
 if (decide (r1 < 0)) = true then
  some true
 else
  (laws_toReq aQ).bind fun r2 =>
  (spec_ReqText r2).bind fun r3 =>
  (laws_toReq aQ).bind fun r4 =>
  (impl_ReqText r4).bind fun r5 =>
  if (r5 == r3) = true then
   some true
  else
   some false
theorem laws_FnExactReqText_ok (aQ : Req) : Pn (fun y => Fn Tryd.prog 3 [(false, E23 aQ)] (E4 y) []) (laws_FnExactReqText aQ) := by
  unfold laws_FnExactReqText
  exact
   Pn.bind (fun r1 h1 =>
    Pn.ite (fun h2 =>
     Pn.some (Fn.of [.call [] (E3 r1) [], .bit true] (p := [Fn Tryd.prog 8 [(false, E23 aQ), (false, E3 1048576)] (E3 r1) [],
      (true || ((E3 r1).nv && nvL [])) = true,
      (decide (r1 < 0)) = true]) (by kernel_rfl) (cj (laws_szReq_ok aQ 1048576 r1 h1) (cj rfl (cj1 h2))))) (fun h2 =>
     Pn.bind (fun r2 h3 =>
      Pn.bind (fun r3 h4 =>
       Pn.bind (fun r4 h5 =>
        Pn.bind (fun r5 h6 =>
         Pn.ite (fun h7 =>
          Pn.some (Fn.of [.call [] (E3 r1) [], .bit false, .call [] (E26 r2) [], .call [] (E9 r3) [], .call [] (E26 r4) [], .call [] (E9 r5) [], .bit false] (p := [Fn Tryd.prog 8 [(false, E23 aQ), (false, E3 1048576)] (E3 r1) [],
           (true || ((E3 r1).nv && nvL [])) = true,
           (decide (r1 < 0)) = false,
           Fn Tryd.prog 10 [(false, E23 aQ)] (E26 r2) [],
           (true || ((E26 r2).nv && nvL [])) = true,
           Fn Tryd.prog 9 [(false, E26 r2)] (E9 r3) [],
           (true || ((E9 r3).nv && nvL [])) = true,
           Fn Tryd.prog 10 [(false, E23 aQ)] (E26 r4) [],
           (true || ((E26 r4).nv && nvL [])) = true,
           Fn Tryd.prog 11 [(false, E26 r4)] (E9 r5) [],
           (true || ((E9 r5).nv && nvL [])) = true,
           (!(r5 == r3)) = false]) (by kernel_rfl) (cj (laws_szReq_ok aQ 1048576 r1 h1) (cj rfl (cj h2 (cj (laws_toReq_ok aQ r2 h3) (cj rfl (cj (spec_ReqText_ok r2 r3 h4) (cj rfl (cj (laws_toReq_ok aQ r4 h5) (cj rfl (cj (impl_ReqText_ok r4 r5 h6) (cj rfl (cj1 (nf h7))))))))))))))) (fun h7 =>
          Pn.some (Fn.of [.call [] (E3 r1) [], .bit false, .call [] (E26 r2) [], .call [] (E9 r3) [], .call [] (E26 r4) [], .call [] (E9 r5) [], .bit true] (p := [Fn Tryd.prog 8 [(false, E23 aQ), (false, E3 1048576)] (E3 r1) [],
           (true || ((E3 r1).nv && nvL [])) = true,
           (decide (r1 < 0)) = false,
           Fn Tryd.prog 10 [(false, E23 aQ)] (E26 r2) [],
           (true || ((E26 r2).nv && nvL [])) = true,
           Fn Tryd.prog 9 [(false, E26 r2)] (E9 r3) [],
           (true || ((E9 r3).nv && nvL [])) = true,
           Fn Tryd.prog 10 [(false, E23 aQ)] (E26 r4) [],
           (true || ((E26 r4).nv && nvL [])) = true,
           Fn Tryd.prog 11 [(false, E26 r4)] (E9 r5) [],
           (true || ((E9 r5).nv && nvL [])) = true,
           (!(r5 == r3)) = true]) (by kernel_rfl) (cj (laws_szReq_ok aQ 1048576 r1 h1) (cj rfl (cj h2 (cj (laws_toReq_ok aQ r2 h3) (cj rfl (cj (spec_ReqText_ok r2 r3 h4) (cj rfl (cj (laws_toReq_ok aQ r4 h5) (cj rfl (cj (impl_ReqText_ok r4 r5 h6) (cj rfl (cj1 (nt h7)))))))))))))))))))))
end Go.Proofs.YtjnnbcdakaabbaaDoorM
