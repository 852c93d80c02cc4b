/- Printed by gen.py: functions on plain data, and that the program computes them. No condition. -/
import Derived.Test.YtephmimhaokhlaaGreatDnG0
namespace Go.Proofs.YtephmimhaokhlaaGreatM
set_option linter.unusedVariables false
set_option linter.unusedSimpArgs false
open Go.RowKit
set_option maxRecDepth 100000

def impl_BookOk_l0 (b : Book) : List Acct → List Acct → Option (Lo Unit Unit)
  | [], p1 =>
   some (.out ())
  | x1 :: t1, p1 =>
   (impl_AcctOk x1).bind fun r1 =>
   if r1 = true then
    if (decide (0 < (p1.length : Int))) = true then
     if (decide (0 ≤ (i64 ((p1.length : Int) - 1)))) = true then
      (b.Accts[(i64 ((p1.length : Int) - 1)).toNat]?).bind fun x2 =>
      if (Op.bytesLess x1.Id.toList x2.Id.toList || (x1.Id == x2.Id)) = true then
       some (.ret ())
      else
       impl_BookOk_l0 b t1 (p1 ++ [x1])
     else none
    else
     impl_BookOk_l0 b t1 (p1 ++ [x1])
   else
    some (.ret ())
theorem impl_BookOk_l0_ok (b : Book) (h2 : capOk b.Accts.length = true) : ∀ (t1 p1 : List Acct) (_ : b.Accts = p1 ++ t1) , Pn (LpO Tryz.prog (sub (codeOf Tryz.prog 59) [1, 0, 1, 0, 0]) (st 37 [(1, V.ptr 0 0), (6, V.sl false 48 (List.map E48 b.Accts)), (7, V.sc (.int .i64 (b.Accts.length : Int))), (8, V.sc (.int .i64 (p1.length : Int)))] [Blk.box 28 [V.sl false 48 (List.map E48 b.Accts)]] []) (fun (y : Lo Unit Unit) => Lo.elim y (fun s => (X.out 0, st 37 [(1, V.ptr 0 0)] [Blk.box 28 [V.sl false 48 (List.map E48 b.Accts)]] [])) (fun s => (X.ret, st 37 [(2, V.sc (.bool false))] [] [])))) (impl_BookOk_l0 b t1 p1)
  | [], p1, h1 => by
    unfold impl_BookOk_l0
    exact
     Pn.some (LpO.out [.bit false, .mask [1], .ren [0]] (p := [(decide ((p1.length : Int) < (b.Accts.length : Int))) = false]) (by kernel_rfl) (show X.out 0 ≠ X.go from nofun) (cj1 (rng_end h1)))
  | x1 :: t1, p1, h1 => by
    unfold impl_BookOk_l0
    exact
     Pn.bind (fun r1 h3 =>
      Pn.ite (fun h4 =>
       Pn.ite (fun h5 =>
        Pn.ite (fun h6 =>
         Pn.bind (fun x2 h7 =>
          Pn.ite (fun h8 =>
           Pn.some (LpO.out [.bit true, .el (E48 x1), .draw [], .call [] (E4 r1) [], .bit false, .bit false, .bit false, .bit true, .bit true, .bit true, .bit true, .bit true, .bit true, .bit true, .el (E48 x2), .bit true, .bit true, .bit true, .bit false, .bit true, .bit false, .bit true, .wait 1, .mask [2], .ren []] (p := [(decide ((p1.length : Int) < (b.Accts.length : Int))) = true,
            (0 : Int) ≤ (p1.length : Int),
            (List.map E48 b.Accts)[(p1.length : Int).toNat]? = some (E48 x1),
            Fn Tryz.prog 60 [(false, E48 x1)] (E4 r1) [],
            (true || ((E4 r1).nv && nvL [])) = true,
            (!r1) = false,
            (!r1) = false,
            (!r1) = false,
            (decide (0 < (p1.length : Int))) = true,
            (decide (0 < (p1.length : Int))) = true,
            (decide (0 < (p1.length : Int))) = true,
            (decide (0 < (p1.length : Int))) = true,
            (decide (0 < (p1.length : Int))) = true,
            (decide (0 < (p1.length : Int))) = true,
            (decide (0 < (p1.length : Int))) = true,
            (0 : Int) ≤ (i64 ((p1.length : Int) - 1)),
            (List.map E48 b.Accts)[(i64 ((p1.length : Int) - 1)).toNat]? = some (E48 x2),
            (decide (0 < (p1.length : Int))) = true,
            (decide (0 < (p1.length : Int))) = true,
            (decide (0 < (p1.length : Int))) = true,
            (!r1) = false,
            (decide (0 < (p1.length : Int))) = true,
            (!r1) = false,
            (Op.bytesLess x1.Id.toList x2.Id.toList || (x1.Id == x2.Id)) = true]) (by kernel_rfl) (show X.ret ≠ X.go from nofun) (cj (rng_lt h1) (cj (by omega) (cj (rng_get _ h1) (cj (impl_AcctOk_ok x1 r1 h3) (cj rfl (cj (nf h4) (cj (nf h4) (cj (nf h4) (cj h5 (cj h5 (cj h5 (cj h5 (cj h5 (cj h5 (cj h5 (cj (od h6) (cj (map_get h7) (cj h5 (cj h5 (cj h5 (cj (nf h4) (cj h5 (cj (nf h4) (cj1 h8)))))))))))))))))))))))))) (fun h8 =>
           LpO.go [.bit true, .el (E48 x1), .draw [], .call [] (E4 r1) [], .bit false, .bit false, .bit false, .bit true, .bit true, .bit true, .bit true, .bit true, .bit true, .bit true, .el (E48 x2), .bit true, .bit true, .bit true, .bit false, .bit true, .bit false, .bit false, .wait 2, .mask [1, 6, 7, 8], .ren [0], .nm 8 (V.sc (.int .i64 ((p1 ++ [x1]).length : Int)))] (p := [(decide ((p1.length : Int) < (b.Accts.length : Int))) = true,
            (0 : Int) ≤ (p1.length : Int),
            (List.map E48 b.Accts)[(p1.length : Int).toNat]? = some (E48 x1),
            Fn Tryz.prog 60 [(false, E48 x1)] (E4 r1) [],
            (true || ((E4 r1).nv && nvL [])) = true,
            (!r1) = false,
            (!r1) = false,
            (!r1) = false,
            (decide (0 < (p1.length : Int))) = true,
            (decide (0 < (p1.length : Int))) = true,
            (decide (0 < (p1.length : Int))) = true,
            (decide (0 < (p1.length : Int))) = true,
            (decide (0 < (p1.length : Int))) = true,
            (decide (0 < (p1.length : Int))) = true,
            (decide (0 < (p1.length : Int))) = true,
            (0 : Int) ≤ (i64 ((p1.length : Int) - 1)),
            (List.map E48 b.Accts)[(i64 ((p1.length : Int) - 1)).toNat]? = some (E48 x2),
            (decide (0 < (p1.length : Int))) = true,
            (decide (0 < (p1.length : Int))) = true,
            (decide (0 < (p1.length : Int))) = true,
            (!r1) = false,
            (decide (0 < (p1.length : Int))) = true,
            (!r1) = false,
            (Op.bytesLess x1.Id.toList x2.Id.toList || (x1.Id == x2.Id)) = false,
            V.sc (.int .i64 (i64 ((p1.length : Int) + 1))) = V.sc (.int .i64 ((p1 ++ [x1]).length : Int))]) (by kernel_rfl) (cj (rng_lt h1) (cj (by omega) (cj (rng_get _ h1) (cj (impl_AcctOk_ok x1 r1 h3) (cj rfl (cj (nf h4) (cj (nf h4) (cj (nf h4) (cj h5 (cj h5 (cj h5 (cj h5 (cj h5 (cj h5 (cj h5 (cj (od h6) (cj (map_get h7) (cj h5 (cj h5 (cj h5 (cj (nf h4) (cj h5 (cj (nf h4) (cj h8 (cj1 (rng_next h1 h2)))))))))))))))))))))))))) (impl_BookOk_l0_ok b h2 t1 (p1 ++ [x1]) (rng_step h1))))) (fun h6 =>
         Pn.none)) (fun h5 =>
        LpO.go [.bit true, .el (E48 x1), .draw [], .call [] (E4 r1) [], .bit false, .bit false, .bit false, .bit false, .bit false, .bit false, .bit false, .bit false, .bit false, .bit false, .bit false, .bit false, .bit false, .bit false, .bit false, .bit false, .bit false, .wait 2, .mask [1, 6, 7, 8], .ren [0], .nm 8 (V.sc (.int .i64 ((p1 ++ [x1]).length : Int)))] (p := [(decide ((p1.length : Int) < (b.Accts.length : Int))) = true,
         (0 : Int) ≤ (p1.length : Int),
         (List.map E48 b.Accts)[(p1.length : Int).toNat]? = some (E48 x1),
         Fn Tryz.prog 60 [(false, E48 x1)] (E4 r1) [],
         (true || ((E4 r1).nv && nvL [])) = true,
         (!r1) = false,
         (!r1) = false,
         (!r1) = false,
         (decide (0 < (p1.length : Int))) = false,
         (decide (0 < (p1.length : Int))) = false,
         (decide (0 < (p1.length : Int))) = false,
         (decide (0 < (p1.length : Int))) = false,
         (decide (0 < (p1.length : Int))) = false,
         (decide (0 < (p1.length : Int))) = false,
         (decide (0 < (p1.length : Int))) = false,
         (decide (0 < (p1.length : Int))) = false,
         (decide (0 < (p1.length : Int))) = false,
         (decide (0 < (p1.length : Int))) = false,
         (!r1) = false,
         (decide (0 < (p1.length : Int))) = false,
         (!r1) = false,
         false = false,
         V.sc (.int .i64 (i64 ((p1.length : Int) + 1))) = V.sc (.int .i64 ((p1 ++ [x1]).length : Int))]) (by kernel_rfl) (cj (rng_lt h1) (cj (by omega) (cj (rng_get _ h1) (cj (impl_AcctOk_ok x1 r1 h3) (cj rfl (cj (nf h4) (cj (nf h4) (cj (nf h4) (cj h5 (cj h5 (cj h5 (cj h5 (cj h5 (cj h5 (cj h5 (cj h5 (cj h5 (cj h5 (cj (nf h4) (cj h5 (cj (nf h4) (cj rfl (cj1 (rng_next h1 h2)))))))))))))))))))))))) (impl_BookOk_l0_ok b h2 t1 (p1 ++ [x1]) (rng_step h1)))) (fun h4 =>
       Pn.some (LpO.out [.bit true, .el (E48 x1), .draw [], .call [] (E4 r1) [], .bit true, .bit true, .bit true, .bit true, .bit true, .bit true, .wait 1, .mask [2], .ren []] (p := [(decide ((p1.length : Int) < (b.Accts.length : Int))) = true,
        (0 : Int) ≤ (p1.length : Int),
        (List.map E48 b.Accts)[(p1.length : Int).toNat]? = some (E48 x1),
        Fn Tryz.prog 60 [(false, E48 x1)] (E4 r1) [],
        (true || ((E4 r1).nv && nvL [])) = true,
        (!r1) = true,
        (!r1) = true,
        (!r1) = true,
        (!r1) = true,
        (!r1) = true,
        true = true]) (by kernel_rfl) (show X.ret ≠ X.go from nofun) (cj (rng_lt h1) (cj (by omega) (cj (rng_get _ h1) (cj (impl_AcctOk_ok x1 r1 h3) (cj rfl (cj (nt h4) (cj (nt h4) (cj (nt h4) (cj (nt h4) (cj (nt h4) (cj1 rfl))))))))))))))
def impl_BookOk (b : Book) : Option (Bool) :=
 if (capOk b.Accts.length) = true then
  (impl_BookOk_l0 b b.Accts []).bind fun r2 =>
  Lo.elim r2 (fun s1 =>
   some (decide ((b.Accts.length : Int) ≤ 6))) (fun s2 =>
   some false)
 else none
theorem impl_BookOk_ok (b : Book) : Pn (fun y => Fn Tryz.prog 59 [(false, E28 b)] (E4 y) []) (impl_BookOk b) := by
  unfold impl_BookOk
  exact
   Pn.ite (fun h9 =>
    Pn.bind (fun r2 h10 =>
     Pn.lo (fun s1 h11 =>
      Pn.some (Fn.of [.wait 5, .nm 7 (V.sc (.int .i64 (b.Accts.length : Int))), .wait 2, .mask [1, 6, 7, 8], .ren [0], .loop (X.out 0) (st 37 [(1, V.ptr 0 0)] [Blk.box 28 [V.sl false 48 (List.map E48 b.Accts)]] []), .wait 3, .nm 35 (V.sc (.int .i64 (b.Accts.length : Int)))] (p := [V.sc (.int .i64 ((List.map E48 b.Accts).length : Int)) = V.sc (.int .i64 (b.Accts.length : Int)),
       Loop Tryz.prog (sub (codeOf Tryz.prog 59) [1, 0, 1, 0, 0]) (st 37 [(1, V.ptr 0 0), (6, V.sl false 48 (List.map E48 b.Accts)), (7, V.sc (.int .i64 (b.Accts.length : Int))), (8, V.sc (.int .i64 0))] [Blk.box 28 [V.sl false 48 (List.map E48 b.Accts)]] []) (X.out 0) (st 37 [(1, V.ptr 0 0)] [Blk.box 28 [V.sl false 48 (List.map E48 b.Accts)]] []),
       V.sc (.int .i64 ((List.map E48 b.Accts).length : Int)) = V.sc (.int .i64 (b.Accts.length : Int))]) (by kernel_rfl) (cj (len_nm _ _) (cj ((impl_BookOk_l0_ok b h9 b.Accts [] rfl r2 h10).at h11) (cj1 (len_nm _ _)))))) (fun s2 h12 =>
      Pn.some (Fn.of [.wait 5, .nm 7 (V.sc (.int .i64 (b.Accts.length : Int))), .wait 2, .mask [1, 6, 7, 8], .ren [0], .loop (X.ret) (st 37 [(2, V.sc (.bool false))] [] [])] (p := [V.sc (.int .i64 ((List.map E48 b.Accts).length : Int)) = V.sc (.int .i64 (b.Accts.length : Int)),
       Loop Tryz.prog (sub (codeOf Tryz.prog 59) [1, 0, 1, 0, 0]) (st 37 [(1, V.ptr 0 0), (6, V.sl false 48 (List.map E48 b.Accts)), (7, V.sc (.int .i64 (b.Accts.length : Int))), (8, V.sc (.int .i64 0))] [Blk.box 28 [V.sl false 48 (List.map E48 b.Accts)]] []) (X.ret) (st 37 [(2, V.sc (.bool false))] [] [])]) (by kernel_rfl) (cj (len_nm _ _) (cj1 ((impl_BookOk_l0_ok b h9 b.Accts [] rfl r2 h10).at h12))))))) (fun h9 =>
    Pn.none)
def impl_Fnv_l0 (s_ : ByteArray) : Nat → Int → Int → Option (Int)
  | 0, _, _ => none
  | fuel + 1, v1, v2 =>
   if (decide (v2 < (s_.size : Int))) = true then
    if (decide (0 ≤ v2)) = true then
     if (decide ((v2 : Int) < (s_.size : Int))) = true then
      impl_Fnv_l0 s_ fuel (u32 ((bxor .u32 v1 (u32 (sAt s_ v2))) * 16777619)) (i64 (v2 + 1))
     else none
    else none
   else
    some v1
theorem impl_Fnv_l0_ok (s_ : ByteArray) : ∀ (fuel : Nat) (v1 : Int) (v2 : Int), Pn (LpO Tryz.prog (sub (codeOf Tryz.prog 127) [1, 1, 0, 1, 0, 0]) (st 20 [(0, V.sc (.string s_)), (3, V.sc (.int .u32 v1)), (6, V.sc (.int .i64 (s_.size : Int))), (7, V.sc (.int .i64 v2))] [] []) (fun (y : Int) => (X.out 0, st 20 [(3, V.sc (.int .u32 y))] [] []))) (impl_Fnv_l0 s_ fuel v1 v2)
  | 0, _, _ => Pn.none
  | fuel + 1, v1, v2 => by
    unfold impl_Fnv_l0
    exact
     Pn.ite (fun h1 =>
      Pn.ite (fun h2 =>
       Pn.ite (fun h3 =>
        LpO.go [.bit true, .wait 12, .mask [0, 3, 6, 7], .ren []] (p := [(decide (v2 < (s_.size : Int))) = true,
         (0 : Int) ≤ v2,
         (v2 : Int) < s_.size]) (by kernel_rfl) (cj h1 (cj (od h2) (cj1 (od h3)))) (impl_Fnv_l0_ok s_ fuel (u32 ((bxor .u32 v1 (u32 (sAt s_ v2))) * 16777619)) (i64 (v2 + 1)))) (fun h3 =>
        Pn.none)) (fun h2 =>
       Pn.none)) (fun h1 =>
      Pn.some (LpO.out [.bit false, .mask [3], .ren []] (p := [(decide (v2 < (s_.size : Int))) = false]) (by kernel_rfl) (show X.out 0 ≠ X.go from nofun) (cj1 h1)))
def impl_Fnv (s_ : ByteArray) : Option (Int) :=
 (impl_Fnv_l0 s_ FUEL 2166136261 0).bind fun r1 =>
 some (i64 r1)
theorem impl_Fnv_ok (s_ : ByteArray) : Pn (fun y => Fn Tryz.prog 127 [(false, E9 s_)] (E3 y) []) (impl_Fnv s_) := by
  unfold impl_Fnv
  exact
   Pn.bind (fun r1 h4 =>
    Pn.some (Fn.of [.wait 6, .mask [0, 3, 6, 7], .ren [], .loop (X.out 0) (st 20 [(3, V.sc (.int .u32 r1))] [] [])] (p := [Loop Tryz.prog (sub (codeOf Tryz.prog 127) [1, 1, 0, 1, 0, 0]) (st 20 [(0, V.sc (.string s_)), (3, V.sc (.int .u32 2166136261)), (6, V.sc (.int .i64 (s_.size : Int))), (7, V.sc (.int .i64 0))] [] []) (X.out 0) (st 20 [(3, V.sc (.int .u32 r1))] [] [])]) (by kernel_rfl) (cj1 (impl_Fnv_l0_ok s_ FUEL 2166136261 0 r1 h4))))
def impl_StripeNo (id : ByteArray) (n : Int) : Option (Int) :=
 if (decide (n < 1)) = true then
  some 0
 else
  (impl_Fnv id).bind fun r1 =>
  if (decide (n ≠ 0)) = true then
   some (Int.tmod r1 n)
  else none
theorem impl_StripeNo_ok (id : ByteArray) (n : Int) : Pn (fun y => Fn Tryz.prog 75 [(false, E9 id), (false, E3 n)] (E3 y) []) (impl_StripeNo id n) := by
  unfold impl_StripeNo
  exact
   Pn.ite (fun h1 =>
    Pn.some (Fn.of [.bit true] (p := [(decide (n < 1)) = true]) (by kernel_rfl) (cj1 h1))) (fun h1 =>
    Pn.bind (fun r1 h2 =>
     Pn.ite (fun h3 =>
      Pn.some (Fn.of [.bit false, .call [] (E3 r1) []] (p := [(decide (n < 1)) = false,
       Fn Tryz.prog 127 [(false, E9 id)] (E3 r1) [],
       (true || ((E3 r1).nv && nvL [])) = true,
       (n : Int) ≠ 0]) (by kernel_rfl) (cj h1 (cj (impl_Fnv_ok id r1 h2) (cj rfl (cj1 (od h3))))))) (fun h3 =>
      Pn.none)))
def slices_Clone_impl_Hold (s_ : List Hold) : Option (List Hold) := if capOk s_.length = true then some s_ else none
theorem slices_Clone_impl_Hold_ok : ∀ (s_ : List Hold), Pn (fun y => Fn Tryz.prog 119 [(false, E44 s_)] (E44 y) []) (slices_Clone_impl_Hold s_)
  | [] => by
    unfold slices_Clone_impl_Hold
    exact Pn.ite (fun h => Pn.some (Fn.two [] [.bit true] [.bit false, .cp (List.map E129 []), .nb 1 (.row 129 (List.map E129 []) [])] (p := []) (pT := [true = true]) (pF := [false = false, (List.map E129 []).map V.vw = (List.map E129 []), ([] : List V).length + (List.map E129 []).length ≤ 9223372036854775807, (([] : List V).length + (List.map E129 []).length) * 32 ≤ 140737488355328, Blk.row 129 (([] : List V) ++ (List.map E129 [])) [] = Blk.row 129 (List.map E129 []) []]) (by kernel_rfl) trivial (cj1 rfl) (cj rfl (cj (vw_id (fun _ => rfl) _) (cj (cap1 (capN (by simp) h)) (cj (cap2 (capN (by simp) h) (by decide)) (cj1 rfl))))))) (fun _ => Pn.none)
  | x :: t => by
    unfold slices_Clone_impl_Hold
    exact Pn.ite (fun h => Pn.some (Fn.two [] [.bit true] [.bit false, .cp (List.map E129 (x :: t)), .nb 1 (.row 129 (List.map E129 (x :: t)) [])] (p := []) (pT := [false = false, (List.map E129 (x :: t)).map V.vw = (List.map E129 (x :: t)), ([] : List V).length + (List.map E129 (x :: t)).length ≤ 9223372036854775807, (([] : List V).length + (List.map E129 (x :: t)).length) * 32 ≤ 140737488355328, Blk.row 129 (([] : List V) ++ (List.map E129 (x :: t))) [] = Blk.row 129 (List.map E129 (x :: t)) []]) (pF := [false = false, (List.map E129 (x :: t)).map V.vw = (List.map E129 (x :: t)), ([] : List V).length + (List.map E129 (x :: t)).length ≤ 9223372036854775807, (([] : List V).length + (List.map E129 (x :: t)).length) * 32 ≤ 140737488355328, Blk.row 129 (([] : List V) ++ (List.map E129 (x :: t))) [] = Blk.row 129 (List.map E129 (x :: t)) []]) (by kernel_rfl) trivial (cj rfl (cj (vw_id (fun _ => rfl) _) (cj (cap1 (capN (by simp) h)) (cj (cap2 (capN (by simp) h) (by decide)) (cj1 rfl))))) (cj rfl (cj (vw_id (fun _ => rfl) _) (cj (cap1 (capN (by simp) h)) (cj (cap2 (capN (by simp) h) (by decide)) (cj1 rfl))))))) (fun _ => Pn.none)
def slices_Clone_int (s_ : List Int) : Option (List Int) := if capOk s_.length = true then some s_ else none
theorem slices_Clone_int_ok : ∀ (s_ : List Int), Pn (fun y => Fn Tryz.prog 152 [(false, E35 s_)] (E35 y) []) (slices_Clone_int s_)
  | [] => by
    unfold slices_Clone_int
    exact Pn.ite (fun h => Pn.some (Fn.two [] [.bit true] [.bit false, .cp (List.map E3 []), .nb 1 (.row 3 (List.map E3 []) [])] (p := []) (pT := [true = true]) (pF := [false = false, (List.map E3 []).map V.vw = (List.map E3 []), ([] : List V).length + (List.map E3 []).length ≤ 9223372036854775807, (([] : List V).length + (List.map E3 []).length) * 8 ≤ 140737488355328, Blk.row 3 (([] : List V) ++ (List.map E3 [])) [] = Blk.row 3 (List.map E3 []) []]) (by kernel_rfl) trivial (cj1 rfl) (cj rfl (cj (vw_id (fun _ => rfl) _) (cj (cap1 (capN (by simp) h)) (cj (cap2 (capN (by simp) h) (by decide)) (cj1 rfl))))))) (fun _ => Pn.none)
  | x :: t => by
    unfold slices_Clone_int
    exact Pn.ite (fun h => Pn.some (Fn.two [] [.bit true] [.bit false, .cp (List.map E3 (x :: t)), .nb 1 (.row 3 (List.map E3 (x :: t)) [])] (p := []) (pT := [false = false, (List.map E3 (x :: t)).map V.vw = (List.map E3 (x :: t)), ([] : List V).length + (List.map E3 (x :: t)).length ≤ 9223372036854775807, (([] : List V).length + (List.map E3 (x :: t)).length) * 8 ≤ 140737488355328, Blk.row 3 (([] : List V) ++ (List.map E3 (x :: t))) [] = Blk.row 3 (List.map E3 (x :: t)) []]) (pF := [false = false, (List.map E3 (x :: t)).map V.vw = (List.map E3 (x :: t)), ([] : List V).length + (List.map E3 (x :: t)).length ≤ 9223372036854775807, (([] : List V).length + (List.map E3 (x :: t)).length) * 8 ≤ 140737488355328, Blk.row 3 (([] : List V) ++ (List.map E3 (x :: t))) [] = Blk.row 3 (List.map E3 (x :: t)) []]) (by kernel_rfl) trivial (cj rfl (cj (vw_id (fun _ => rfl) _) (cj (cap1 (capN (by simp) h)) (cj (cap2 (capN (by simp) h) (by decide)) (cj1 rfl))))) (cj rfl (cj (vw_id (fun _ => rfl) _) (cj (cap1 (capN (by simp) h)) (cj (cap2 (capN (by simp) h) (by decide)) (cj1 rfl))))))) (fun _ => Pn.none)
def impl_Ring_copied (r_ : Ring) : Option (Ring) :=
 (slices_Clone_int r_.Counts).bind fun r1 =>
 (slices_Clone_int r_.Sums).bind fun r2 =>
 some (Ring.mk r_.Span r_.Head r1 r2)
theorem impl_Ring_copied_ok (r_ : Ring) : Pn (fun y => Fn Tryz.prog 120 [(false, E45 r_)] (E45 y) []) (impl_Ring_copied r_) := by
  unfold impl_Ring_copied
  exact
   Pn.bind (fun r1 h1 =>
    Pn.bind (fun r2 h2 =>
     Pn.some (Fn.of [.draw [7, 9], .call [] (E35 r1) [], .call [] (E35 r2) []] (p := [Fn Tryz.prog 152 [(false, E35 r_.Counts)] (E35 r1) [],
      (true || ((E35 r1).nv && nvL [])) = true,
      Fn Tryz.prog 152 [(false, E35 r_.Sums)] (E35 r2) [],
      (true || ((E35 r2).nv && nvL [])) = true]) (by kernel_rfl) (cj (slices_Clone_int_ok r_.Counts r1 h1) (cj rfl (cj (slices_Clone_int_ok r_.Sums r2 h2) (cj1 rfl)))))))
def slices_Clone_byte (s_ : List Int) : Option (List Int) := if capOk s_.length = true then some s_ else none
theorem slices_Clone_byte_ok : ∀ (s_ : List Int), Pn (fun y => Fn Tryz.prog 153 [(false, E118 s_)] (E118 y) []) (slices_Clone_byte s_)
  | [] => by
    unfold slices_Clone_byte
    exact Pn.ite (fun h => Pn.some (Fn.two [] [.bit true] [.bit false, .cp (List.map E5 []), .nb 1 (.row 5 (List.map E5 []) [])] (p := []) (pT := [true = true]) (pF := [false = false, (List.map E5 []).map V.vw = (List.map E5 []), ([] : List V).length + (List.map E5 []).length ≤ 9223372036854775807, (([] : List V).length + (List.map E5 []).length) * 1 ≤ 140737488355328, Blk.row 5 (([] : List V) ++ (List.map E5 [])) [] = Blk.row 5 (List.map E5 []) []]) (by kernel_rfl) trivial (cj1 rfl) (cj rfl (cj (vw_id (fun _ => rfl) _) (cj (cap1 (capN (by simp) h)) (cj (cap2 (capN (by simp) h) (by decide)) (cj1 rfl))))))) (fun _ => Pn.none)
  | x :: t => by
    unfold slices_Clone_byte
    exact Pn.ite (fun h => Pn.some (Fn.two [] [.bit true] [.bit false, .cp (List.map E5 (x :: t)), .nb 1 (.row 5 (List.map E5 (x :: t)) [])] (p := []) (pT := [false = false, (List.map E5 (x :: t)).map V.vw = (List.map E5 (x :: t)), ([] : List V).length + (List.map E5 (x :: t)).length ≤ 9223372036854775807, (([] : List V).length + (List.map E5 (x :: t)).length) * 1 ≤ 140737488355328, Blk.row 5 (([] : List V) ++ (List.map E5 (x :: t))) [] = Blk.row 5 (List.map E5 (x :: t)) []]) (pF := [false = false, (List.map E5 (x :: t)).map V.vw = (List.map E5 (x :: t)), ([] : List V).length + (List.map E5 (x :: t)).length ≤ 9223372036854775807, (([] : List V).length + (List.map E5 (x :: t)).length) * 1 ≤ 140737488355328, Blk.row 5 (([] : List V) ++ (List.map E5 (x :: t))) [] = Blk.row 5 (List.map E5 (x :: t)) []]) (by kernel_rfl) trivial (cj rfl (cj (vw_id (fun _ => rfl) _) (cj (cap1 (capN (by simp) h)) (cj (cap2 (capN (by simp) h) (by decide)) (cj1 rfl))))) (cj rfl (cj (vw_id (fun _ => rfl) _) (cj (cap1 (capN (by simp) h)) (cj (cap2 (capN (by simp) h) (by decide)) (cj1 rfl))))))) (fun _ => Pn.none)
def impl_copySlots_l0 (l : List Slot) : List Slot → (List Slot) → Option ((List Slot))
  | [], v1 =>
   some v1
  | x1 :: t1, v1 =>
   (slices_Clone_byte x1.Reply).bind fun r1 =>
   if (capOk (v1.length + 1)) = true then
    impl_copySlots_l0 l t1 (v1 ++ [(Slot.mk x1.Trace x1.Mti r1)])
   else none
theorem impl_copySlots_l0_ok (l : List Slot) (h2 : capOk l.length = true) : ∀ (t1 p1 : List Slot) (_ : l = p1 ++ t1) (v1 : List Slot), Pn (LpO Tryz.prog (sub (codeOf Tryz.prog 121) [1, 1, 0, 1, 0, 0]) (st 26 [(3, V.ow 0), (7, V.sl false 132 (List.map E132 l)), (8, V.sc (.int .i64 (l.length : Int))), (9, V.sc (.int .i64 (p1.length : Int)))] [Blk.row 132 (List.map E132 v1) []] []) (fun (y : (List Slot)) => (X.out 0, st 26 [(3, V.ow 0)] [Blk.row 132 (List.map E132 y) []] []))) (impl_copySlots_l0 l t1 v1)
  | [], p1, h1, v1 => by
    unfold impl_copySlots_l0
    exact
     Pn.some (LpO.out [.bit false, .mask [3], .ren [0]] (p := [(decide ((p1.length : Int) < (l.length : Int))) = false]) (by kernel_rfl) (show X.out 0 ≠ X.go from nofun) (cj1 (rng_end h1)))
  | x1 :: t1, p1, h1, v1 => by
    unfold impl_copySlots_l0
    exact
     Pn.bind (fun r1 h3 =>
      Pn.ite (fun h4 =>
       LpO.go [.bit true, .el (E132 x1), .draw [10], .call [] (E118 r1) [], .wait 2, .shut 3, .mv, .nb 4 (.row 132 (List.map E132 (v1 ++ [(Slot.mk x1.Trace x1.Mti r1)])) []), .wait 4, .mask [3, 7, 8, 9], .ren [4], .nm 9 (V.sc (.int .i64 ((p1 ++ [x1]).length : Int)))] (p := [(decide ((p1.length : Int) < (l.length : Int))) = true,
        (0 : Int) ≤ (p1.length : Int),
        (List.map E132 l)[(p1.length : Int).toNat]? = some (E132 x1),
        Fn Tryz.prog 153 [(false, E118 x1.Reply)] (E118 r1) [],
        (true || ((E118 r1).nv && nvL [])) = true,
        (List.map E132 v1).length + [V.agg [V.sc (.string x1.Trace), V.sc (.string x1.Mti), V.sl true 5 (List.map E5 r1)]].length ≤ 9223372036854775807,
        ((List.map E132 v1).length + [V.agg [V.sc (.string x1.Trace), V.sc (.string x1.Mti), V.sl true 5 (List.map E5 r1)]].length) * 56 ≤ 140737488355328,
        Blk.row 132 ((List.map E132 v1) ++ [V.agg [V.sc (.string x1.Trace), V.sc (.string x1.Mti), V.sl true 5 (List.map E5 r1)]]) [] = Blk.row 132 (List.map E132 (v1 ++ [(Slot.mk x1.Trace x1.Mti r1)])) [],
        V.sc (.int .i64 (i64 ((p1.length : Int) + 1))) = V.sc (.int .i64 ((p1 ++ [x1]).length : Int))]) (by kernel_rfl) (cj (rng_lt h1) (cj (by omega) (cj (rng_get _ h1) (cj (slices_Clone_byte_ok x1.Reply r1 h3) (cj rfl (cj (cap1 (capN (by simp) h4)) (cj (cap2 (capN (by simp) h4) (by decide)) (cj (nb_app E132 v1 [(Slot.mk x1.Trace x1.Mti r1)]) (cj1 (rng_next h1 h2)))))))))) (impl_copySlots_l0_ok l h2 t1 (p1 ++ [x1]) (rng_step h1) (v1 ++ [(Slot.mk x1.Trace x1.Mti r1)]))) (fun h4 =>
       Pn.none))
def impl_copySlots (l : List Slot) : Option ((List Slot)) :=
 if (capOk l.length) = true then
  (impl_copySlots_l0 l l []).bind fun r2 =>
  some r2
 else none
theorem impl_copySlots_ok (l : List Slot) : Pn (fun y => Fn Tryz.prog 121 [(false, E46 l)] (E46 y) []) (impl_copySlots l) := by
  unfold impl_copySlots
  exact
   Pn.ite (fun h5 =>
    Pn.bind (fun r2 h6 =>
     Pn.some (Fn.of [.wait 5, .nm 8 (V.sc (.int .i64 (l.length : Int))), .wait 2, .mask [3, 7, 8, 9], .ren [0], .loop (X.out 0) (st 26 [(3, V.ow 0)] [Blk.row 132 (List.map E132 r2) []] [])] (p := [V.sc (.int .i64 ((List.map E132 l).length : Int)) = V.sc (.int .i64 (l.length : Int)),
      Loop Tryz.prog (sub (codeOf Tryz.prog 121) [1, 1, 0, 1, 0, 0]) (st 26 [(3, V.ow 0), (7, V.sl false 132 (List.map E132 l)), (8, V.sc (.int .i64 (l.length : Int))), (9, V.sc (.int .i64 0))] [Blk.row 132 ([] : List V) []] []) (X.out 0) (st 26 [(3, V.ow 0)] [Blk.row 132 (List.map E132 r2) []] [])]) (by kernel_rfl) (cj (len_nm _ _) (cj1 (impl_copySlots_l0_ok l h5 l [] rfl [] r2 h6)))))) (fun h5 =>
    Pn.none)
def impl_Acct_copied (a : Acct) : Option (Acct) :=
 (slices_Clone_impl_Hold a.Holds).bind fun r1 =>
 (impl_Ring_copied a.Ring).bind fun r2 =>
 (impl_copySlots a.Slots).bind fun r3 =>
 some (Acct.mk a.Id a.Limit a.Posted a.Most a.MostSum r1 r2 r3)
theorem impl_Acct_copied_ok (a : Acct) : Pn (fun y => Fn Tryz.prog 62 [(false, E48 a)] (E48 y) []) (impl_Acct_copied a) := by
  unfold impl_Acct_copied
  exact
   Pn.bind (fun r1 h1 =>
    Pn.bind (fun r2 h2 =>
     Pn.bind (fun r3 h3 =>
      Pn.some (Fn.of [.draw [10, 12, 14], .call [] (E44 r1) [], .call [] (E45 r2) [], .call [] (E46 r3) []] (p := [Fn Tryz.prog 119 [(false, E44 a.Holds)] (E44 r1) [],
       (true || ((E44 r1).nv && nvL [])) = true,
       Fn Tryz.prog 120 [(false, E45 a.Ring)] (E45 r2) [],
       (true || ((E45 r2).nv && nvL [])) = true,
       Fn Tryz.prog 121 [(false, E46 a.Slots)] (E46 r3) [],
       (true || ((E46 r3).nv && nvL [])) = true]) (by kernel_rfl) (cj (slices_Clone_impl_Hold_ok a.Holds r1 h1) (cj rfl (cj (impl_Ring_copied_ok a.Ring r2 h2) (cj rfl (cj (impl_copySlots_ok a.Slots r3 h3) (cj1 rfl))))))))))
def impl_Spread_s3 (n : Int) (r4 : Int) (b : Book) (p1 : List Acct) (x1 : Acct) (r5 : Acct) (v3 : List Stripe) (x2 : Stripe) : St := st 52 [(1, V.sc (.int .i64 n)), (5, V.ow 0), (7, V.ptr 2 0), (8, V.sc (.int .i64 r4)), (27, V.sl false 48 (List.map E48 b.Accts)), (28, V.sc (.int .i64 (b.Accts.length : Int))), (29, V.sc (.int .i64 (p1.length : Int))), (30, V.sc (.bool (decide ((p1.length : Int) < (b.Accts.length : Int))))), (31, V.cp [V.sc (.string x1.Id), V.sc (.int .i64 x1.Limit), V.sc (.int .i64 x1.Posted), V.sc (.int .i64 x1.Most), V.sc (.int .i64 x1.MostSum), V.sl true 129 (List.map E129 x1.Holds), V.sc (.int .i64 x1.Ring.Span), V.sc (.int .i64 x1.Ring.Head), V.sl true 3 (List.map E3 x1.Ring.Counts), V.sl true 3 (List.map E3 x1.Ring.Sums), V.sl true 132 (List.map E132 x1.Slots)]), (32, V.agg [V.sc (.string x1.Id), V.sc (.int .i64 x1.Limit), V.sc (.int .i64 x1.Posted), V.sc (.int .i64 x1.Most), V.sc (.int .i64 x1.MostSum), V.sl false 129 (List.map E129 x1.Holds), V.sc (.int .i64 x1.Ring.Span), V.sc (.int .i64 x1.Ring.Head), V.sl false 3 (List.map E3 x1.Ring.Counts), V.sl false 3 (List.map E3 x1.Ring.Sums), V.sl false 132 (List.map E132 x1.Slots)]), (33, V.ptr 2 0), (34, V.sc (.string x1.Id)), (35, V.sc (.int .i64 n)), (36, V.sc (.int .i64 r4)), (37, V.ow 0), (38, V.sc (.int .i64 r4)), (39, V.ow 0), (40, V.sc (.int .i64 r4)), (41, V.ep 0 2 r4.toNat 0), (42, V.ep 0 2 r4.toNat 1), (44, V.agg [V.sc (.string x1.Id), V.sc (.int .i64 x1.Limit), V.sc (.int .i64 x1.Posted), V.sc (.int .i64 x1.Most), V.sc (.int .i64 x1.MostSum), V.sl false 129 (List.map E129 x1.Holds), V.sc (.int .i64 x1.Ring.Span), V.sc (.int .i64 x1.Ring.Head), V.sl false 3 (List.map E3 x1.Ring.Counts), V.sl false 3 (List.map E3 x1.Ring.Sums), V.sl false 132 (List.map E132 x1.Slots)]), (45, V.agg [V.sc (.string r5.Id), V.sc (.int .i64 r5.Limit), V.sc (.int .i64 r5.Posted), V.sc (.int .i64 r5.Most), V.sc (.int .i64 r5.MostSum), V.un, V.sc (.int .i64 r5.Ring.Span), V.sc (.int .i64 r5.Ring.Head), V.un, V.un, V.un]), (47, V.ow 1), (48, V.ep 0 2 r4.toNat 0), (49, V.ep 0 2 r4.toNat 1)] [Blk.row 102 (List.map E102 v3) [(r4.toNat, V.agg [V.sc (.int .i64 x2.Owner), V.ow 1])], Blk.row 48 (List.map E48 (x2.Accts ++ [r5])) [], Blk.box 48 [V.sc (.string x1.Id), V.sc (.int .i64 x1.Limit), V.sc (.int .i64 x1.Posted), V.sc (.int .i64 x1.Most), V.sc (.int .i64 x1.MostSum), V.sl false 129 (List.map E129 x1.Holds), V.sc (.int .i64 x1.Ring.Span), V.sc (.int .i64 x1.Ring.Head), V.sl false 3 (List.map E3 x1.Ring.Counts), V.sl false 3 (List.map E3 x1.Ring.Sums), V.sl false 132 (List.map E132 x1.Slots)]] []
def impl_Spread_l0 (b : Book) (n : Int) : Nat → Int → (List Stripe) → Option ((List Stripe))
  | 0, _, _ => none
  | fuel + 1, v1, v2 =>
   if (decide (v1 < n)) = true then
    if (capOk (v2.length + 1)) = true then
     impl_Spread_l0 b n fuel (i64 (v1 + 1)) (v2 ++ [(Stripe.mk (-1) [])])
    else none
   else
    some v2
theorem impl_Spread_l0_ok (b : Book) (n : Int) : ∀ (fuel : Nat) (v1 : Int) (v2 : List Stripe), Pn (LpO Tryz.prog (sub (codeOf Tryz.prog 28) [1, 1, 1, 0, 1, 0, 0]) (st 52 [(1, V.sc (.int .i64 n)), (2, V.ptr 0 0), (5, V.ow 1), (18, V.sc (.int .i64 n)), (19, V.sc (.int .i64 v1))] [Blk.box 28 [V.sl false 48 (List.map E48 b.Accts)], Blk.row 102 (List.map E102 v2) []] []) (fun (y : (List Stripe)) => (X.out 0, st 52 [(1, V.sc (.int .i64 n)), (2, V.ptr 0 0), (5, V.ow 1)] [Blk.box 28 [V.sl false 48 (List.map E48 b.Accts)], Blk.row 102 (List.map E102 y) []] []))) (impl_Spread_l0 b n fuel v1 v2)
  | 0, _, _ => Pn.none
  | fuel + 1, v1, v2 => by
    unfold impl_Spread_l0
    exact
     Pn.ite (fun h5 =>
      Pn.ite (fun h6 =>
       LpO.go [.bit true, .mv, .nb 3 (.row 102 (List.map E102 (v2 ++ [(Stripe.mk (-1) [])])) []), .wait 4, .mask [1, 2, 5, 18, 19], .ren [0, 3]] (p := [(decide (v1 < n)) = true,
        (List.map E102 v2).length + [V.agg [V.sc (.int .i64 (-1)), V.sl true 48 ([] : List V)]].length ≤ 9223372036854775807,
        ((List.map E102 v2).length + [V.agg [V.sc (.int .i64 (-1)), V.sl true 48 ([] : List V)]].length) * 32 ≤ 140737488355328,
        Blk.row 102 ((List.map E102 v2) ++ [V.agg [V.sc (.int .i64 (-1)), V.sl true 48 ([] : List V)]]) [] = Blk.row 102 (List.map E102 (v2 ++ [(Stripe.mk (-1) [])])) []]) (by kernel_rfl) (cj h5 (cj (cap1 (capN (by simp) h6)) (cj (cap2 (capN (by simp) h6) (by decide)) (cj1 (nb_app E102 v2 [(Stripe.mk (-1) [])]))))) (impl_Spread_l0_ok b n fuel (i64 (v1 + 1)) (v2 ++ [(Stripe.mk (-1) [])]))) (fun h6 =>
       Pn.none)) (fun h5 =>
      Pn.some (LpO.out [.bit false, .mask [1, 2, 5], .ren [0, 1]] (p := [(decide (v1 < n)) = false]) (by kernel_rfl) (show X.out 0 ≠ X.go from nofun) (cj1 h5)))
def impl_Spread_l1 (b : Book) (n : Int) : List Acct → (List Stripe) → Option ((List Stripe))
  | [], v3 =>
   some v3
  | x1 :: t1, v3 =>
   (impl_StripeNo x1.Id n).bind fun r4 =>
   if (decide (0 ≤ r4)) = true then
    (v3[r4.toNat]?).bind fun x2 =>
    (impl_Acct_copied x1).bind fun r5 =>
    if (capOk (x2.Accts.length + 1)) = true then
     impl_Spread_l1 b n t1 (v3.set r4.toNat (Stripe.mk x2.Owner (x2.Accts ++ [r5])))
    else none
   else none
theorem impl_Spread_l1_ok (b : Book) (n : Int) (h9 : capOk b.Accts.length = true) : ∀ (t1 p1 : List Acct) (_ : b.Accts = p1 ++ t1) (v3 : List Stripe), Pn (LpO Tryz.prog (sub (codeOf Tryz.prog 28) [1, 1, 1, 1, 0, 1, 0, 0]) (st 52 [(1, V.sc (.int .i64 n)), (5, V.ow 0), (27, V.sl false 48 (List.map E48 b.Accts)), (28, V.sc (.int .i64 (b.Accts.length : Int))), (29, V.sc (.int .i64 (p1.length : Int)))] [Blk.row 102 (List.map E102 v3) []] []) (fun (y : (List Stripe)) => (X.out 2, st 52 [(5, V.ow 0)] [Blk.row 102 (List.map E102 y) []] []))) (impl_Spread_l1 b n t1 v3)
  | [], p1, h8, v3 => by
    unfold impl_Spread_l1
    exact
     Pn.some (LpO.out [.bit false, .mask [5], .ren [0]] (p := [(decide ((p1.length : Int) < (b.Accts.length : Int))) = false]) (by kernel_rfl) (show X.out 2 ≠ X.go from nofun) (cj1 (rng_end h8)))
  | x1 :: t1, p1, h8, v3 => by
    unfold impl_Spread_l1
    exact
     Pn.bind (fun r4 h10 =>
      Pn.ite (fun h11 =>
       Pn.bind (fun x2 h12 =>
        Pn.bind (fun r5 h13 =>
         Pn.ite (fun h14 =>
          LpO.go [.bit true, .el (E48 x1), .call [] (E3 r4) [], .draw [10, 13], .wait 2, .foc 0 r4.toNat (E102 x2), .fo 0, .loop .go ((impl_Spread_s3 n r4 b p1 x1 r5 v3 x2)), .loop .go ((impl_Spread_s3 n r4 b p1 x1 r5 v3 x2)), .call [] (E48 r5) [], .wait 1, .shut 7, .mv, .nb 8 (.row 48 (List.map E48 (x2.Accts ++ [r5])) []), .fo 0, .ren [0, 8, 1], .call [] (E48 r5) [], .loop .go ((impl_Spread_s3 n r4 b p1 x1 r5 v3 x2)), .wait 1, .shut 7, .mv, .nb 8 (.row 48 (List.map E48 (x2.Accts ++ [r5])) []), .fo 0, .ren [0, 8, 1], .wait 1, .shut 7, .loop .go ((impl_Spread_s3 n r4 b p1 x1 r5 v3 x2)), .mv, .nb 8 (.row 48 (List.map E48 (x2.Accts ++ [r5])) []), .fo 0, .ren [0, 8, 1], .mv, .nb 8 (.row 48 (List.map E48 (x2.Accts ++ [r5])) []), .fo 0, .ren [0, 8, 1], .ren [0, 1, 2], .ren [0, 1, 2], .ren [0, 1, 2], .loop .go ((impl_Spread_s3 n r4 b p1 x1 r5 v3 x2)), .call [] (E48 r5) [], .wait 1, .shut 7, .mv, .nb 8 (.row 48 (List.map E48 (x2.Accts ++ [r5])) []), .fo 0, .ren [0, 8, 1], .call [] (E48 r5) [], .loop .go ((impl_Spread_s3 n r4 b p1 x1 r5 v3 x2)), .wait 1, .shut 7, .mv, .nb 8 (.row 48 (List.map E48 (x2.Accts ++ [r5])) []), .fo 0, .ren [0, 8, 1], .wait 1, .shut 7, .loop .go ((impl_Spread_s3 n r4 b p1 x1 r5 v3 x2)), .mv, .nb 8 (.row 48 (List.map E48 (x2.Accts ++ [r5])) []), .fo 0, .ren [0, 8, 1], .mv, .nb 8 (.row 48 (List.map E48 (x2.Accts ++ [r5])) []), .fo 0, .ren [0, 8, 1], .ren [0, 1, 2], .ren [0, 1, 2], .ren [0, 1, 2], .call [] (E48 r5) [], .loop .go ((impl_Spread_s3 n r4 b p1 x1 r5 v3 x2)), .loop .go ((impl_Spread_s3 n r4 b p1 x1 r5 v3 x2)), .wait 1, .shut 7, .mv, .nb 8 (.row 48 (List.map E48 (x2.Accts ++ [r5])) []), .fo 0, .ren [0, 8, 1], .wait 1, .shut 7, .loop .go ((impl_Spread_s3 n r4 b p1 x1 r5 v3 x2)), .mv, .nb 8 (.row 48 (List.map E48 (x2.Accts ++ [r5])) []), .fo 0, .ren [0, 8, 1], .mv, .nb 8 (.row 48 (List.map E48 (x2.Accts ++ [r5])) []), .fo 0, .ren [0, 8, 1], .ren [0, 1, 2], .ren [0, 1, 2], .loop .go ((impl_Spread_s3 n r4 b p1 x1 r5 v3 x2)), .wait 1, .shut 7, .mv, .nb 8 (.row 48 (List.map E48 (x2.Accts ++ [r5])) []), .fo 0, .ren [0, 8, 1], .wait 1, .shut 7, .loop .go ((impl_Spread_s3 n r4 b p1 x1 r5 v3 x2)), .mv, .nb 8 (.row 48 (List.map E48 (x2.Accts ++ [r5])) []), .fo 0, .ren [0, 8, 1], .mv, .nb 8 (.row 48 (List.map E48 (x2.Accts ++ [r5])) []), .fo 0, .ren [0, 8, 1], .ren [0, 1, 2], .ren [0, 1, 2], .wait 1, .shut 7, .loop .go ((impl_Spread_s3 n r4 b p1 x1 r5 v3 x2)), .loop .go ((impl_Spread_s3 n r4 b p1 x1 r5 v3 x2)), .mv, .nb 8 (.row 48 (List.map E48 (x2.Accts ++ [r5])) []), .fo 0, .ren [0, 8, 1], .mv, .nb 8 (.row 48 (List.map E48 (x2.Accts ++ [r5])) []), .fo 0, .ren [0, 8, 1], .ren [0, 1, 2], .loop .go ((impl_Spread_s3 n r4 b p1 x1 r5 v3 x2)), .mv, .nb 8 (.row 48 (List.map E48 (x2.Accts ++ [r5])) []), .fo 0, .ren [0, 8, 1], .mv, .nb 8 (.row 48 (List.map E48 (x2.Accts ++ [r5])) []), .fo 0, .ren [0, 8, 1], .ren [0, 1, 2], .mv, .nb 8 (.row 48 (List.map E48 (x2.Accts ++ [r5])) []), .fo 0, .ren [0, 8, 1], .ren [0, 1, 2], .ren [0, 1, 2], .wait 3, .shut 0, .nb 0 (.row 102 (List.map E102 (v3.set r4.toNat (Stripe.mk x2.Owner (x2.Accts ++ [r5])))) []), .mask [1, 5, 27, 28, 29], .ren [0], .nm 29 (V.sc (.int .i64 ((p1 ++ [x1]).length : Int)))] (p := [(decide ((p1.length : Int) < (b.Accts.length : Int))) = true,
           (0 : Int) ≤ (p1.length : Int),
           (List.map E48 b.Accts)[(p1.length : Int).toNat]? = some (E48 x1),
           Fn Tryz.prog 75 [(false, E9 x1.Id), (false, E3 n)] (E3 r4) [],
           (true || ((E3 r4).nv && nvL [])) = true,
           (0 : Int) ≤ r4,
           (r4 : Int) < ((List.map E102 v3).length : Int),
           look [] r4.toNat = none,
           (List.map E102 v3)[r4.toNat]? = some (E102 x2),
           look [(r4.toNat, V.agg [V.sc (.int .i64 x2.Owner), V.ow 2])] r4.toNat = some (V.agg [V.sc (.int .i64 x2.Owner), V.ow 2]),
           r4.toNat < (List.map E102 v3).length,
           Fn Tryz.prog 62 [(false, E48 x1)] (E48 r5) [],
           (true || ((E48 r5).nv && nvL [])) = true,
           (List.map E48 x2.Accts).length + [V.agg [V.sc (.string r5.Id), V.sc (.int .i64 r5.Limit), V.sc (.int .i64 r5.Posted), V.sc (.int .i64 r5.Most), V.sc (.int .i64 r5.MostSum), V.sl true 129 (List.map E129 r5.Holds), V.sc (.int .i64 r5.Ring.Span), V.sc (.int .i64 r5.Ring.Head), V.sl true 3 (List.map E3 r5.Ring.Counts), V.sl true 3 (List.map E3 r5.Ring.Sums), V.sl true 132 (List.map E132 r5.Slots)]].length ≤ 9223372036854775807,
           ((List.map E48 x2.Accts).length + [V.agg [V.sc (.string r5.Id), V.sc (.int .i64 r5.Limit), V.sc (.int .i64 r5.Posted), V.sc (.int .i64 r5.Most), V.sc (.int .i64 r5.MostSum), V.sl true 129 (List.map E129 r5.Holds), V.sc (.int .i64 r5.Ring.Span), V.sc (.int .i64 r5.Ring.Head), V.sl true 3 (List.map E3 r5.Ring.Counts), V.sl true 3 (List.map E3 r5.Ring.Sums), V.sl true 132 (List.map E132 r5.Slots)]].length) * 160 ≤ 140737488355328,
           Blk.row 48 ((List.map E48 x2.Accts) ++ [V.agg [V.sc (.string r5.Id), V.sc (.int .i64 r5.Limit), V.sc (.int .i64 r5.Posted), V.sc (.int .i64 r5.Most), V.sc (.int .i64 r5.MostSum), V.sl true 129 (List.map E129 r5.Holds), V.sc (.int .i64 r5.Ring.Span), V.sc (.int .i64 r5.Ring.Head), V.sl true 3 (List.map E3 r5.Ring.Counts), V.sl true 3 (List.map E3 r5.Ring.Sums), V.sl true 132 (List.map E132 r5.Slots)]]) [] = Blk.row 48 (List.map E48 (x2.Accts ++ [r5])) [],
           (0 : Int) ≤ r4,
           (r4 : Int) < ((List.map E102 v3).length : Int),
           look [(r4.toNat, V.agg [V.sc (.int .i64 x2.Owner), V.ow 2])] r4.toNat = some (V.agg [V.sc (.int .i64 x2.Owner), V.ow 2]),
           r4.toNat < (List.map E102 v3).length,
           r4.toNat = r4.toNat,
           (impl_Spread_s3 n r4 b p1 x1 r5 v3 x2) = (impl_Spread_s3 n r4 b p1 x1 r5 v3 x2),
           Fn Tryz.prog 62 [(false, E48 x1)] (E48 r5) [],
           (true || ((E48 r5).nv && nvL [])) = true,
           (List.map E48 x2.Accts).length + [V.agg [V.sc (.string r5.Id), V.sc (.int .i64 r5.Limit), V.sc (.int .i64 r5.Posted), V.sc (.int .i64 r5.Most), V.sc (.int .i64 r5.MostSum), V.sl true 129 (List.map E129 r5.Holds), V.sc (.int .i64 r5.Ring.Span), V.sc (.int .i64 r5.Ring.Head), V.sl true 3 (List.map E3 r5.Ring.Counts), V.sl true 3 (List.map E3 r5.Ring.Sums), V.sl true 132 (List.map E132 r5.Slots)]].length ≤ 9223372036854775807,
           ((List.map E48 x2.Accts).length + [V.agg [V.sc (.string r5.Id), V.sc (.int .i64 r5.Limit), V.sc (.int .i64 r5.Posted), V.sc (.int .i64 r5.Most), V.sc (.int .i64 r5.MostSum), V.sl true 129 (List.map E129 r5.Holds), V.sc (.int .i64 r5.Ring.Span), V.sc (.int .i64 r5.Ring.Head), V.sl true 3 (List.map E3 r5.Ring.Counts), V.sl true 3 (List.map E3 r5.Ring.Sums), V.sl true 132 (List.map E132 r5.Slots)]].length) * 160 ≤ 140737488355328,
           Blk.row 48 ((List.map E48 x2.Accts) ++ [V.agg [V.sc (.string r5.Id), V.sc (.int .i64 r5.Limit), V.sc (.int .i64 r5.Posted), V.sc (.int .i64 r5.Most), V.sc (.int .i64 r5.MostSum), V.sl true 129 (List.map E129 r5.Holds), V.sc (.int .i64 r5.Ring.Span), V.sc (.int .i64 r5.Ring.Head), V.sl true 3 (List.map E3 r5.Ring.Counts), V.sl true 3 (List.map E3 r5.Ring.Sums), V.sl true 132 (List.map E132 r5.Slots)]]) [] = Blk.row 48 (List.map E48 (x2.Accts ++ [r5])) [],
           (0 : Int) ≤ r4,
           (r4 : Int) < ((List.map E102 v3).length : Int),
           look [(r4.toNat, V.agg [V.sc (.int .i64 x2.Owner), V.ow 2])] r4.toNat = some (V.agg [V.sc (.int .i64 x2.Owner), V.ow 2]),
           r4.toNat < (List.map E102 v3).length,
           r4.toNat = r4.toNat,
           (impl_Spread_s3 n r4 b p1 x1 r5 v3 x2) = (impl_Spread_s3 n r4 b p1 x1 r5 v3 x2),
           (List.map E48 x2.Accts).length + [V.agg [V.sc (.string r5.Id), V.sc (.int .i64 r5.Limit), V.sc (.int .i64 r5.Posted), V.sc (.int .i64 r5.Most), V.sc (.int .i64 r5.MostSum), V.sl true 129 (List.map E129 r5.Holds), V.sc (.int .i64 r5.Ring.Span), V.sc (.int .i64 r5.Ring.Head), V.sl true 3 (List.map E3 r5.Ring.Counts), V.sl true 3 (List.map E3 r5.Ring.Sums), V.sl true 132 (List.map E132 r5.Slots)]].length ≤ 9223372036854775807,
           ((List.map E48 x2.Accts).length + [V.agg [V.sc (.string r5.Id), V.sc (.int .i64 r5.Limit), V.sc (.int .i64 r5.Posted), V.sc (.int .i64 r5.Most), V.sc (.int .i64 r5.MostSum), V.sl true 129 (List.map E129 r5.Holds), V.sc (.int .i64 r5.Ring.Span), V.sc (.int .i64 r5.Ring.Head), V.sl true 3 (List.map E3 r5.Ring.Counts), V.sl true 3 (List.map E3 r5.Ring.Sums), V.sl true 132 (List.map E132 r5.Slots)]].length) * 160 ≤ 140737488355328,
           Blk.row 48 ((List.map E48 x2.Accts) ++ [V.agg [V.sc (.string r5.Id), V.sc (.int .i64 r5.Limit), V.sc (.int .i64 r5.Posted), V.sc (.int .i64 r5.Most), V.sc (.int .i64 r5.MostSum), V.sl true 129 (List.map E129 r5.Holds), V.sc (.int .i64 r5.Ring.Span), V.sc (.int .i64 r5.Ring.Head), V.sl true 3 (List.map E3 r5.Ring.Counts), V.sl true 3 (List.map E3 r5.Ring.Sums), V.sl true 132 (List.map E132 r5.Slots)]]) [] = Blk.row 48 (List.map E48 (x2.Accts ++ [r5])) [],
           (0 : Int) ≤ r4,
           (r4 : Int) < ((List.map E102 v3).length : Int),
           look [(r4.toNat, V.agg [V.sc (.int .i64 x2.Owner), V.ow 2])] r4.toNat = some (V.agg [V.sc (.int .i64 x2.Owner), V.ow 2]),
           r4.toNat < (List.map E102 v3).length,
           r4.toNat = r4.toNat,
           (impl_Spread_s3 n r4 b p1 x1 r5 v3 x2) = (impl_Spread_s3 n r4 b p1 x1 r5 v3 x2),
           (List.map E48 x2.Accts).length + [V.agg [V.sc (.string r5.Id), V.sc (.int .i64 r5.Limit), V.sc (.int .i64 r5.Posted), V.sc (.int .i64 r5.Most), V.sc (.int .i64 r5.MostSum), V.sl true 129 (List.map E129 r5.Holds), V.sc (.int .i64 r5.Ring.Span), V.sc (.int .i64 r5.Ring.Head), V.sl true 3 (List.map E3 r5.Ring.Counts), V.sl true 3 (List.map E3 r5.Ring.Sums), V.sl true 132 (List.map E132 r5.Slots)]].length ≤ 9223372036854775807,
           ((List.map E48 x2.Accts).length + [V.agg [V.sc (.string r5.Id), V.sc (.int .i64 r5.Limit), V.sc (.int .i64 r5.Posted), V.sc (.int .i64 r5.Most), V.sc (.int .i64 r5.MostSum), V.sl true 129 (List.map E129 r5.Holds), V.sc (.int .i64 r5.Ring.Span), V.sc (.int .i64 r5.Ring.Head), V.sl true 3 (List.map E3 r5.Ring.Counts), V.sl true 3 (List.map E3 r5.Ring.Sums), V.sl true 132 (List.map E132 r5.Slots)]].length) * 160 ≤ 140737488355328,
           Blk.row 48 ((List.map E48 x2.Accts) ++ [V.agg [V.sc (.string r5.Id), V.sc (.int .i64 r5.Limit), V.sc (.int .i64 r5.Posted), V.sc (.int .i64 r5.Most), V.sc (.int .i64 r5.MostSum), V.sl true 129 (List.map E129 r5.Holds), V.sc (.int .i64 r5.Ring.Span), V.sc (.int .i64 r5.Ring.Head), V.sl true 3 (List.map E3 r5.Ring.Counts), V.sl true 3 (List.map E3 r5.Ring.Sums), V.sl true 132 (List.map E132 r5.Slots)]]) [] = Blk.row 48 (List.map E48 (x2.Accts ++ [r5])) [],
           (0 : Int) ≤ r4,
           (r4 : Int) < ((List.map E102 v3).length : Int),
           look [(r4.toNat, V.agg [V.sc (.int .i64 x2.Owner), V.ow 2])] r4.toNat = some (V.agg [V.sc (.int .i64 x2.Owner), V.ow 2]),
           r4.toNat < (List.map E102 v3).length,
           r4.toNat = r4.toNat,
           (impl_Spread_s3 n r4 b p1 x1 r5 v3 x2) = (impl_Spread_s3 n r4 b p1 x1 r5 v3 x2),
           (impl_Spread_s3 n r4 b p1 x1 r5 v3 x2) = (impl_Spread_s3 n r4 b p1 x1 r5 v3 x2),
           (impl_Spread_s3 n r4 b p1 x1 r5 v3 x2) = (impl_Spread_s3 n r4 b p1 x1 r5 v3 x2),
           (impl_Spread_s3 n r4 b p1 x1 r5 v3 x2) = (impl_Spread_s3 n r4 b p1 x1 r5 v3 x2),
           Fn Tryz.prog 62 [(false, E48 x1)] (E48 r5) [],
           (true || ((E48 r5).nv && nvL [])) = true,
           (List.map E48 x2.Accts).length + [V.agg [V.sc (.string r5.Id), V.sc (.int .i64 r5.Limit), V.sc (.int .i64 r5.Posted), V.sc (.int .i64 r5.Most), V.sc (.int .i64 r5.MostSum), V.sl true 129 (List.map E129 r5.Holds), V.sc (.int .i64 r5.Ring.Span), V.sc (.int .i64 r5.Ring.Head), V.sl true 3 (List.map E3 r5.Ring.Counts), V.sl true 3 (List.map E3 r5.Ring.Sums), V.sl true 132 (List.map E132 r5.Slots)]].length ≤ 9223372036854775807,
           ((List.map E48 x2.Accts).length + [V.agg [V.sc (.string r5.Id), V.sc (.int .i64 r5.Limit), V.sc (.int .i64 r5.Posted), V.sc (.int .i64 r5.Most), V.sc (.int .i64 r5.MostSum), V.sl true 129 (List.map E129 r5.Holds), V.sc (.int .i64 r5.Ring.Span), V.sc (.int .i64 r5.Ring.Head), V.sl true 3 (List.map E3 r5.Ring.Counts), V.sl true 3 (List.map E3 r5.Ring.Sums), V.sl true 132 (List.map E132 r5.Slots)]].length) * 160 ≤ 140737488355328,
           Blk.row 48 ((List.map E48 x2.Accts) ++ [V.agg [V.sc (.string r5.Id), V.sc (.int .i64 r5.Limit), V.sc (.int .i64 r5.Posted), V.sc (.int .i64 r5.Most), V.sc (.int .i64 r5.MostSum), V.sl true 129 (List.map E129 r5.Holds), V.sc (.int .i64 r5.Ring.Span), V.sc (.int .i64 r5.Ring.Head), V.sl true 3 (List.map E3 r5.Ring.Counts), V.sl true 3 (List.map E3 r5.Ring.Sums), V.sl true 132 (List.map E132 r5.Slots)]]) [] = Blk.row 48 (List.map E48 (x2.Accts ++ [r5])) [],
           (0 : Int) ≤ r4,
           (r4 : Int) < ((List.map E102 v3).length : Int),
           look [(r4.toNat, V.agg [V.sc (.int .i64 x2.Owner), V.ow 2])] r4.toNat = some (V.agg [V.sc (.int .i64 x2.Owner), V.ow 2]),
           r4.toNat < (List.map E102 v3).length,
           r4.toNat = r4.toNat,
           (impl_Spread_s3 n r4 b p1 x1 r5 v3 x2) = (impl_Spread_s3 n r4 b p1 x1 r5 v3 x2),
           Fn Tryz.prog 62 [(false, E48 x1)] (E48 r5) [],
           (true || ((E48 r5).nv && nvL [])) = true,
           (List.map E48 x2.Accts).length + [V.agg [V.sc (.string r5.Id), V.sc (.int .i64 r5.Limit), V.sc (.int .i64 r5.Posted), V.sc (.int .i64 r5.Most), V.sc (.int .i64 r5.MostSum), V.sl true 129 (List.map E129 r5.Holds), V.sc (.int .i64 r5.Ring.Span), V.sc (.int .i64 r5.Ring.Head), V.sl true 3 (List.map E3 r5.Ring.Counts), V.sl true 3 (List.map E3 r5.Ring.Sums), V.sl true 132 (List.map E132 r5.Slots)]].length ≤ 9223372036854775807,
           ((List.map E48 x2.Accts).length + [V.agg [V.sc (.string r5.Id), V.sc (.int .i64 r5.Limit), V.sc (.int .i64 r5.Posted), V.sc (.int .i64 r5.Most), V.sc (.int .i64 r5.MostSum), V.sl true 129 (List.map E129 r5.Holds), V.sc (.int .i64 r5.Ring.Span), V.sc (.int .i64 r5.Ring.Head), V.sl true 3 (List.map E3 r5.Ring.Counts), V.sl true 3 (List.map E3 r5.Ring.Sums), V.sl true 132 (List.map E132 r5.Slots)]].length) * 160 ≤ 140737488355328,
           Blk.row 48 ((List.map E48 x2.Accts) ++ [V.agg [V.sc (.string r5.Id), V.sc (.int .i64 r5.Limit), V.sc (.int .i64 r5.Posted), V.sc (.int .i64 r5.Most), V.sc (.int .i64 r5.MostSum), V.sl true 129 (List.map E129 r5.Holds), V.sc (.int .i64 r5.Ring.Span), V.sc (.int .i64 r5.Ring.Head), V.sl true 3 (List.map E3 r5.Ring.Counts), V.sl true 3 (List.map E3 r5.Ring.Sums), V.sl true 132 (List.map E132 r5.Slots)]]) [] = Blk.row 48 (List.map E48 (x2.Accts ++ [r5])) [],
           (0 : Int) ≤ r4,
           (r4 : Int) < ((List.map E102 v3).length : Int),
           look [(r4.toNat, V.agg [V.sc (.int .i64 x2.Owner), V.ow 2])] r4.toNat = some (V.agg [V.sc (.int .i64 x2.Owner), V.ow 2]),
           r4.toNat < (List.map E102 v3).length,
           r4.toNat = r4.toNat,
           (impl_Spread_s3 n r4 b p1 x1 r5 v3 x2) = (impl_Spread_s3 n r4 b p1 x1 r5 v3 x2),
           (List.map E48 x2.Accts).length + [V.agg [V.sc (.string r5.Id), V.sc (.int .i64 r5.Limit), V.sc (.int .i64 r5.Posted), V.sc (.int .i64 r5.Most), V.sc (.int .i64 r5.MostSum), V.sl true 129 (List.map E129 r5.Holds), V.sc (.int .i64 r5.Ring.Span), V.sc (.int .i64 r5.Ring.Head), V.sl true 3 (List.map E3 r5.Ring.Counts), V.sl true 3 (List.map E3 r5.Ring.Sums), V.sl true 132 (List.map E132 r5.Slots)]].length ≤ 9223372036854775807,
           ((List.map E48 x2.Accts).length + [V.agg [V.sc (.string r5.Id), V.sc (.int .i64 r5.Limit), V.sc (.int .i64 r5.Posted), V.sc (.int .i64 r5.Most), V.sc (.int .i64 r5.MostSum), V.sl true 129 (List.map E129 r5.Holds), V.sc (.int .i64 r5.Ring.Span), V.sc (.int .i64 r5.Ring.Head), V.sl true 3 (List.map E3 r5.Ring.Counts), V.sl true 3 (List.map E3 r5.Ring.Sums), V.sl true 132 (List.map E132 r5.Slots)]].length) * 160 ≤ 140737488355328,
           Blk.row 48 ((List.map E48 x2.Accts) ++ [V.agg [V.sc (.string r5.Id), V.sc (.int .i64 r5.Limit), V.sc (.int .i64 r5.Posted), V.sc (.int .i64 r5.Most), V.sc (.int .i64 r5.MostSum), V.sl true 129 (List.map E129 r5.Holds), V.sc (.int .i64 r5.Ring.Span), V.sc (.int .i64 r5.Ring.Head), V.sl true 3 (List.map E3 r5.Ring.Counts), V.sl true 3 (List.map E3 r5.Ring.Sums), V.sl true 132 (List.map E132 r5.Slots)]]) [] = Blk.row 48 (List.map E48 (x2.Accts ++ [r5])) [],
           (0 : Int) ≤ r4,
           (r4 : Int) < ((List.map E102 v3).length : Int),
           look [(r4.toNat, V.agg [V.sc (.int .i64 x2.Owner), V.ow 2])] r4.toNat = some (V.agg [V.sc (.int .i64 x2.Owner), V.ow 2]),
           r4.toNat < (List.map E102 v3).length,
           r4.toNat = r4.toNat,
           (impl_Spread_s3 n r4 b p1 x1 r5 v3 x2) = (impl_Spread_s3 n r4 b p1 x1 r5 v3 x2),
           (List.map E48 x2.Accts).length + [V.agg [V.sc (.string r5.Id), V.sc (.int .i64 r5.Limit), V.sc (.int .i64 r5.Posted), V.sc (.int .i64 r5.Most), V.sc (.int .i64 r5.MostSum), V.sl true 129 (List.map E129 r5.Holds), V.sc (.int .i64 r5.Ring.Span), V.sc (.int .i64 r5.Ring.Head), V.sl true 3 (List.map E3 r5.Ring.Counts), V.sl true 3 (List.map E3 r5.Ring.Sums), V.sl true 132 (List.map E132 r5.Slots)]].length ≤ 9223372036854775807,
           ((List.map E48 x2.Accts).length + [V.agg [V.sc (.string r5.Id), V.sc (.int .i64 r5.Limit), V.sc (.int .i64 r5.Posted), V.sc (.int .i64 r5.Most), V.sc (.int .i64 r5.MostSum), V.sl true 129 (List.map E129 r5.Holds), V.sc (.int .i64 r5.Ring.Span), V.sc (.int .i64 r5.Ring.Head), V.sl true 3 (List.map E3 r5.Ring.Counts), V.sl true 3 (List.map E3 r5.Ring.Sums), V.sl true 132 (List.map E132 r5.Slots)]].length) * 160 ≤ 140737488355328,
           Blk.row 48 ((List.map E48 x2.Accts) ++ [V.agg [V.sc (.string r5.Id), V.sc (.int .i64 r5.Limit), V.sc (.int .i64 r5.Posted), V.sc (.int .i64 r5.Most), V.sc (.int .i64 r5.MostSum), V.sl true 129 (List.map E129 r5.Holds), V.sc (.int .i64 r5.Ring.Span), V.sc (.int .i64 r5.Ring.Head), V.sl true 3 (List.map E3 r5.Ring.Counts), V.sl true 3 (List.map E3 r5.Ring.Sums), V.sl true 132 (List.map E132 r5.Slots)]]) [] = Blk.row 48 (List.map E48 (x2.Accts ++ [r5])) [],
           (0 : Int) ≤ r4,
           (r4 : Int) < ((List.map E102 v3).length : Int),
           look [(r4.toNat, V.agg [V.sc (.int .i64 x2.Owner), V.ow 2])] r4.toNat = some (V.agg [V.sc (.int .i64 x2.Owner), V.ow 2]),
           r4.toNat < (List.map E102 v3).length,
           r4.toNat = r4.toNat,
           (impl_Spread_s3 n r4 b p1 x1 r5 v3 x2) = (impl_Spread_s3 n r4 b p1 x1 r5 v3 x2),
           (impl_Spread_s3 n r4 b p1 x1 r5 v3 x2) = (impl_Spread_s3 n r4 b p1 x1 r5 v3 x2),
           (impl_Spread_s3 n r4 b p1 x1 r5 v3 x2) = (impl_Spread_s3 n r4 b p1 x1 r5 v3 x2),
           (impl_Spread_s3 n r4 b p1 x1 r5 v3 x2) = (impl_Spread_s3 n r4 b p1 x1 r5 v3 x2),
           Fn Tryz.prog 62 [(false, E48 x1)] (E48 r5) [],
           (true || ((E48 r5).nv && nvL [])) = true,
           (List.map E48 x2.Accts).length + [V.agg [V.sc (.string r5.Id), V.sc (.int .i64 r5.Limit), V.sc (.int .i64 r5.Posted), V.sc (.int .i64 r5.Most), V.sc (.int .i64 r5.MostSum), V.sl true 129 (List.map E129 r5.Holds), V.sc (.int .i64 r5.Ring.Span), V.sc (.int .i64 r5.Ring.Head), V.sl true 3 (List.map E3 r5.Ring.Counts), V.sl true 3 (List.map E3 r5.Ring.Sums), V.sl true 132 (List.map E132 r5.Slots)]].length ≤ 9223372036854775807,
           ((List.map E48 x2.Accts).length + [V.agg [V.sc (.string r5.Id), V.sc (.int .i64 r5.Limit), V.sc (.int .i64 r5.Posted), V.sc (.int .i64 r5.Most), V.sc (.int .i64 r5.MostSum), V.sl true 129 (List.map E129 r5.Holds), V.sc (.int .i64 r5.Ring.Span), V.sc (.int .i64 r5.Ring.Head), V.sl true 3 (List.map E3 r5.Ring.Counts), V.sl true 3 (List.map E3 r5.Ring.Sums), V.sl true 132 (List.map E132 r5.Slots)]].length) * 160 ≤ 140737488355328,
           Blk.row 48 ((List.map E48 x2.Accts) ++ [V.agg [V.sc (.string r5.Id), V.sc (.int .i64 r5.Limit), V.sc (.int .i64 r5.Posted), V.sc (.int .i64 r5.Most), V.sc (.int .i64 r5.MostSum), V.sl true 129 (List.map E129 r5.Holds), V.sc (.int .i64 r5.Ring.Span), V.sc (.int .i64 r5.Ring.Head), V.sl true 3 (List.map E3 r5.Ring.Counts), V.sl true 3 (List.map E3 r5.Ring.Sums), V.sl true 132 (List.map E132 r5.Slots)]]) [] = Blk.row 48 (List.map E48 (x2.Accts ++ [r5])) [],
           (0 : Int) ≤ r4,
           (r4 : Int) < ((List.map E102 v3).length : Int),
           look [(r4.toNat, V.agg [V.sc (.int .i64 x2.Owner), V.ow 2])] r4.toNat = some (V.agg [V.sc (.int .i64 x2.Owner), V.ow 2]),
           r4.toNat < (List.map E102 v3).length,
           r4.toNat = r4.toNat,
           (impl_Spread_s3 n r4 b p1 x1 r5 v3 x2) = (impl_Spread_s3 n r4 b p1 x1 r5 v3 x2),
           (List.map E48 x2.Accts).length + [V.agg [V.sc (.string r5.Id), V.sc (.int .i64 r5.Limit), V.sc (.int .i64 r5.Posted), V.sc (.int .i64 r5.Most), V.sc (.int .i64 r5.MostSum), V.sl true 129 (List.map E129 r5.Holds), V.sc (.int .i64 r5.Ring.Span), V.sc (.int .i64 r5.Ring.Head), V.sl true 3 (List.map E3 r5.Ring.Counts), V.sl true 3 (List.map E3 r5.Ring.Sums), V.sl true 132 (List.map E132 r5.Slots)]].length ≤ 9223372036854775807,
           ((List.map E48 x2.Accts).length + [V.agg [V.sc (.string r5.Id), V.sc (.int .i64 r5.Limit), V.sc (.int .i64 r5.Posted), V.sc (.int .i64 r5.Most), V.sc (.int .i64 r5.MostSum), V.sl true 129 (List.map E129 r5.Holds), V.sc (.int .i64 r5.Ring.Span), V.sc (.int .i64 r5.Ring.Head), V.sl true 3 (List.map E3 r5.Ring.Counts), V.sl true 3 (List.map E3 r5.Ring.Sums), V.sl true 132 (List.map E132 r5.Slots)]].length) * 160 ≤ 140737488355328,
           Blk.row 48 ((List.map E48 x2.Accts) ++ [V.agg [V.sc (.string r5.Id), V.sc (.int .i64 r5.Limit), V.sc (.int .i64 r5.Posted), V.sc (.int .i64 r5.Most), V.sc (.int .i64 r5.MostSum), V.sl true 129 (List.map E129 r5.Holds), V.sc (.int .i64 r5.Ring.Span), V.sc (.int .i64 r5.Ring.Head), V.sl true 3 (List.map E3 r5.Ring.Counts), V.sl true 3 (List.map E3 r5.Ring.Sums), V.sl true 132 (List.map E132 r5.Slots)]]) [] = Blk.row 48 (List.map E48 (x2.Accts ++ [r5])) [],
           (0 : Int) ≤ r4,
           (r4 : Int) < ((List.map E102 v3).length : Int),
           look [(r4.toNat, V.agg [V.sc (.int .i64 x2.Owner), V.ow 2])] r4.toNat = some (V.agg [V.sc (.int .i64 x2.Owner), V.ow 2]),
           r4.toNat < (List.map E102 v3).length,
           r4.toNat = r4.toNat,
           (impl_Spread_s3 n r4 b p1 x1 r5 v3 x2) = (impl_Spread_s3 n r4 b p1 x1 r5 v3 x2),
           (List.map E48 x2.Accts).length + [V.agg [V.sc (.string r5.Id), V.sc (.int .i64 r5.Limit), V.sc (.int .i64 r5.Posted), V.sc (.int .i64 r5.Most), V.sc (.int .i64 r5.MostSum), V.sl true 129 (List.map E129 r5.Holds), V.sc (.int .i64 r5.Ring.Span), V.sc (.int .i64 r5.Ring.Head), V.sl true 3 (List.map E3 r5.Ring.Counts), V.sl true 3 (List.map E3 r5.Ring.Sums), V.sl true 132 (List.map E132 r5.Slots)]].length ≤ 9223372036854775807,
           ((List.map E48 x2.Accts).length + [V.agg [V.sc (.string r5.Id), V.sc (.int .i64 r5.Limit), V.sc (.int .i64 r5.Posted), V.sc (.int .i64 r5.Most), V.sc (.int .i64 r5.MostSum), V.sl true 129 (List.map E129 r5.Holds), V.sc (.int .i64 r5.Ring.Span), V.sc (.int .i64 r5.Ring.Head), V.sl true 3 (List.map E3 r5.Ring.Counts), V.sl true 3 (List.map E3 r5.Ring.Sums), V.sl true 132 (List.map E132 r5.Slots)]].length) * 160 ≤ 140737488355328,
           Blk.row 48 ((List.map E48 x2.Accts) ++ [V.agg [V.sc (.string r5.Id), V.sc (.int .i64 r5.Limit), V.sc (.int .i64 r5.Posted), V.sc (.int .i64 r5.Most), V.sc (.int .i64 r5.MostSum), V.sl true 129 (List.map E129 r5.Holds), V.sc (.int .i64 r5.Ring.Span), V.sc (.int .i64 r5.Ring.Head), V.sl true 3 (List.map E3 r5.Ring.Counts), V.sl true 3 (List.map E3 r5.Ring.Sums), V.sl true 132 (List.map E132 r5.Slots)]]) [] = Blk.row 48 (List.map E48 (x2.Accts ++ [r5])) [],
           (0 : Int) ≤ r4,
           (r4 : Int) < ((List.map E102 v3).length : Int),
           look [(r4.toNat, V.agg [V.sc (.int .i64 x2.Owner), V.ow 2])] r4.toNat = some (V.agg [V.sc (.int .i64 x2.Owner), V.ow 2]),
           r4.toNat < (List.map E102 v3).length,
           r4.toNat = r4.toNat,
           (impl_Spread_s3 n r4 b p1 x1 r5 v3 x2) = (impl_Spread_s3 n r4 b p1 x1 r5 v3 x2),
           (impl_Spread_s3 n r4 b p1 x1 r5 v3 x2) = (impl_Spread_s3 n r4 b p1 x1 r5 v3 x2),
           (impl_Spread_s3 n r4 b p1 x1 r5 v3 x2) = (impl_Spread_s3 n r4 b p1 x1 r5 v3 x2),
           (List.map E48 x2.Accts).length + [V.agg [V.sc (.string r5.Id), V.sc (.int .i64 r5.Limit), V.sc (.int .i64 r5.Posted), V.sc (.int .i64 r5.Most), V.sc (.int .i64 r5.MostSum), V.sl true 129 (List.map E129 r5.Holds), V.sc (.int .i64 r5.Ring.Span), V.sc (.int .i64 r5.Ring.Head), V.sl true 3 (List.map E3 r5.Ring.Counts), V.sl true 3 (List.map E3 r5.Ring.Sums), V.sl true 132 (List.map E132 r5.Slots)]].length ≤ 9223372036854775807,
           ((List.map E48 x2.Accts).length + [V.agg [V.sc (.string r5.Id), V.sc (.int .i64 r5.Limit), V.sc (.int .i64 r5.Posted), V.sc (.int .i64 r5.Most), V.sc (.int .i64 r5.MostSum), V.sl true 129 (List.map E129 r5.Holds), V.sc (.int .i64 r5.Ring.Span), V.sc (.int .i64 r5.Ring.Head), V.sl true 3 (List.map E3 r5.Ring.Counts), V.sl true 3 (List.map E3 r5.Ring.Sums), V.sl true 132 (List.map E132 r5.Slots)]].length) * 160 ≤ 140737488355328,
           Blk.row 48 ((List.map E48 x2.Accts) ++ [V.agg [V.sc (.string r5.Id), V.sc (.int .i64 r5.Limit), V.sc (.int .i64 r5.Posted), V.sc (.int .i64 r5.Most), V.sc (.int .i64 r5.MostSum), V.sl true 129 (List.map E129 r5.Holds), V.sc (.int .i64 r5.Ring.Span), V.sc (.int .i64 r5.Ring.Head), V.sl true 3 (List.map E3 r5.Ring.Counts), V.sl true 3 (List.map E3 r5.Ring.Sums), V.sl true 132 (List.map E132 r5.Slots)]]) [] = Blk.row 48 (List.map E48 (x2.Accts ++ [r5])) [],
           (0 : Int) ≤ r4,
           (r4 : Int) < ((List.map E102 v3).length : Int),
           look [(r4.toNat, V.agg [V.sc (.int .i64 x2.Owner), V.ow 2])] r4.toNat = some (V.agg [V.sc (.int .i64 x2.Owner), V.ow 2]),
           r4.toNat < (List.map E102 v3).length,
           r4.toNat = r4.toNat,
           (impl_Spread_s3 n r4 b p1 x1 r5 v3 x2) = (impl_Spread_s3 n r4 b p1 x1 r5 v3 x2),
           (List.map E48 x2.Accts).length + [V.agg [V.sc (.string r5.Id), V.sc (.int .i64 r5.Limit), V.sc (.int .i64 r5.Posted), V.sc (.int .i64 r5.Most), V.sc (.int .i64 r5.MostSum), V.sl true 129 (List.map E129 r5.Holds), V.sc (.int .i64 r5.Ring.Span), V.sc (.int .i64 r5.Ring.Head), V.sl true 3 (List.map E3 r5.Ring.Counts), V.sl true 3 (List.map E3 r5.Ring.Sums), V.sl true 132 (List.map E132 r5.Slots)]].length ≤ 9223372036854775807,
           ((List.map E48 x2.Accts).length + [V.agg [V.sc (.string r5.Id), V.sc (.int .i64 r5.Limit), V.sc (.int .i64 r5.Posted), V.sc (.int .i64 r5.Most), V.sc (.int .i64 r5.MostSum), V.sl true 129 (List.map E129 r5.Holds), V.sc (.int .i64 r5.Ring.Span), V.sc (.int .i64 r5.Ring.Head), V.sl true 3 (List.map E3 r5.Ring.Counts), V.sl true 3 (List.map E3 r5.Ring.Sums), V.sl true 132 (List.map E132 r5.Slots)]].length) * 160 ≤ 140737488355328,
           Blk.row 48 ((List.map E48 x2.Accts) ++ [V.agg [V.sc (.string r5.Id), V.sc (.int .i64 r5.Limit), V.sc (.int .i64 r5.Posted), V.sc (.int .i64 r5.Most), V.sc (.int .i64 r5.MostSum), V.sl true 129 (List.map E129 r5.Holds), V.sc (.int .i64 r5.Ring.Span), V.sc (.int .i64 r5.Ring.Head), V.sl true 3 (List.map E3 r5.Ring.Counts), V.sl true 3 (List.map E3 r5.Ring.Sums), V.sl true 132 (List.map E132 r5.Slots)]]) [] = Blk.row 48 (List.map E48 (x2.Accts ++ [r5])) [],
           (0 : Int) ≤ r4,
           (r4 : Int) < ((List.map E102 v3).length : Int),
           look [(r4.toNat, V.agg [V.sc (.int .i64 x2.Owner), V.ow 2])] r4.toNat = some (V.agg [V.sc (.int .i64 x2.Owner), V.ow 2]),
           r4.toNat < (List.map E102 v3).length,
           r4.toNat = r4.toNat,
           (impl_Spread_s3 n r4 b p1 x1 r5 v3 x2) = (impl_Spread_s3 n r4 b p1 x1 r5 v3 x2),
           (List.map E48 x2.Accts).length + [V.agg [V.sc (.string r5.Id), V.sc (.int .i64 r5.Limit), V.sc (.int .i64 r5.Posted), V.sc (.int .i64 r5.Most), V.sc (.int .i64 r5.MostSum), V.sl true 129 (List.map E129 r5.Holds), V.sc (.int .i64 r5.Ring.Span), V.sc (.int .i64 r5.Ring.Head), V.sl true 3 (List.map E3 r5.Ring.Counts), V.sl true 3 (List.map E3 r5.Ring.Sums), V.sl true 132 (List.map E132 r5.Slots)]].length ≤ 9223372036854775807,
           ((List.map E48 x2.Accts).length + [V.agg [V.sc (.string r5.Id), V.sc (.int .i64 r5.Limit), V.sc (.int .i64 r5.Posted), V.sc (.int .i64 r5.Most), V.sc (.int .i64 r5.MostSum), V.sl true 129 (List.map E129 r5.Holds), V.sc (.int .i64 r5.Ring.Span), V.sc (.int .i64 r5.Ring.Head), V.sl true 3 (List.map E3 r5.Ring.Counts), V.sl true 3 (List.map E3 r5.Ring.Sums), V.sl true 132 (List.map E132 r5.Slots)]].length) * 160 ≤ 140737488355328,
           Blk.row 48 ((List.map E48 x2.Accts) ++ [V.agg [V.sc (.string r5.Id), V.sc (.int .i64 r5.Limit), V.sc (.int .i64 r5.Posted), V.sc (.int .i64 r5.Most), V.sc (.int .i64 r5.MostSum), V.sl true 129 (List.map E129 r5.Holds), V.sc (.int .i64 r5.Ring.Span), V.sc (.int .i64 r5.Ring.Head), V.sl true 3 (List.map E3 r5.Ring.Counts), V.sl true 3 (List.map E3 r5.Ring.Sums), V.sl true 132 (List.map E132 r5.Slots)]]) [] = Blk.row 48 (List.map E48 (x2.Accts ++ [r5])) [],
           (0 : Int) ≤ r4,
           (r4 : Int) < ((List.map E102 v3).length : Int),
           look [(r4.toNat, V.agg [V.sc (.int .i64 x2.Owner), V.ow 2])] r4.toNat = some (V.agg [V.sc (.int .i64 x2.Owner), V.ow 2]),
           r4.toNat < (List.map E102 v3).length,
           r4.toNat = r4.toNat,
           (impl_Spread_s3 n r4 b p1 x1 r5 v3 x2) = (impl_Spread_s3 n r4 b p1 x1 r5 v3 x2),
           (impl_Spread_s3 n r4 b p1 x1 r5 v3 x2) = (impl_Spread_s3 n r4 b p1 x1 r5 v3 x2),
           (impl_Spread_s3 n r4 b p1 x1 r5 v3 x2) = (impl_Spread_s3 n r4 b p1 x1 r5 v3 x2),
           (List.map E48 x2.Accts).length + [V.agg [V.sc (.string r5.Id), V.sc (.int .i64 r5.Limit), V.sc (.int .i64 r5.Posted), V.sc (.int .i64 r5.Most), V.sc (.int .i64 r5.MostSum), V.sl true 129 (List.map E129 r5.Holds), V.sc (.int .i64 r5.Ring.Span), V.sc (.int .i64 r5.Ring.Head), V.sl true 3 (List.map E3 r5.Ring.Counts), V.sl true 3 (List.map E3 r5.Ring.Sums), V.sl true 132 (List.map E132 r5.Slots)]].length ≤ 9223372036854775807,
           ((List.map E48 x2.Accts).length + [V.agg [V.sc (.string r5.Id), V.sc (.int .i64 r5.Limit), V.sc (.int .i64 r5.Posted), V.sc (.int .i64 r5.Most), V.sc (.int .i64 r5.MostSum), V.sl true 129 (List.map E129 r5.Holds), V.sc (.int .i64 r5.Ring.Span), V.sc (.int .i64 r5.Ring.Head), V.sl true 3 (List.map E3 r5.Ring.Counts), V.sl true 3 (List.map E3 r5.Ring.Sums), V.sl true 132 (List.map E132 r5.Slots)]].length) * 160 ≤ 140737488355328,
           Blk.row 48 ((List.map E48 x2.Accts) ++ [V.agg [V.sc (.string r5.Id), V.sc (.int .i64 r5.Limit), V.sc (.int .i64 r5.Posted), V.sc (.int .i64 r5.Most), V.sc (.int .i64 r5.MostSum), V.sl true 129 (List.map E129 r5.Holds), V.sc (.int .i64 r5.Ring.Span), V.sc (.int .i64 r5.Ring.Head), V.sl true 3 (List.map E3 r5.Ring.Counts), V.sl true 3 (List.map E3 r5.Ring.Sums), V.sl true 132 (List.map E132 r5.Slots)]]) [] = Blk.row 48 (List.map E48 (x2.Accts ++ [r5])) [],
           (0 : Int) ≤ r4,
           (r4 : Int) < ((List.map E102 v3).length : Int),
           look [(r4.toNat, V.agg [V.sc (.int .i64 x2.Owner), V.ow 2])] r4.toNat = some (V.agg [V.sc (.int .i64 x2.Owner), V.ow 2]),
           r4.toNat < (List.map E102 v3).length,
           r4.toNat = r4.toNat,
           (impl_Spread_s3 n r4 b p1 x1 r5 v3 x2) = (impl_Spread_s3 n r4 b p1 x1 r5 v3 x2),
           (List.map E48 x2.Accts).length + [V.agg [V.sc (.string r5.Id), V.sc (.int .i64 r5.Limit), V.sc (.int .i64 r5.Posted), V.sc (.int .i64 r5.Most), V.sc (.int .i64 r5.MostSum), V.sl true 129 (List.map E129 r5.Holds), V.sc (.int .i64 r5.Ring.Span), V.sc (.int .i64 r5.Ring.Head), V.sl true 3 (List.map E3 r5.Ring.Counts), V.sl true 3 (List.map E3 r5.Ring.Sums), V.sl true 132 (List.map E132 r5.Slots)]].length ≤ 9223372036854775807,
           ((List.map E48 x2.Accts).length + [V.agg [V.sc (.string r5.Id), V.sc (.int .i64 r5.Limit), V.sc (.int .i64 r5.Posted), V.sc (.int .i64 r5.Most), V.sc (.int .i64 r5.MostSum), V.sl true 129 (List.map E129 r5.Holds), V.sc (.int .i64 r5.Ring.Span), V.sc (.int .i64 r5.Ring.Head), V.sl true 3 (List.map E3 r5.Ring.Counts), V.sl true 3 (List.map E3 r5.Ring.Sums), V.sl true 132 (List.map E132 r5.Slots)]].length) * 160 ≤ 140737488355328,
           Blk.row 48 ((List.map E48 x2.Accts) ++ [V.agg [V.sc (.string r5.Id), V.sc (.int .i64 r5.Limit), V.sc (.int .i64 r5.Posted), V.sc (.int .i64 r5.Most), V.sc (.int .i64 r5.MostSum), V.sl true 129 (List.map E129 r5.Holds), V.sc (.int .i64 r5.Ring.Span), V.sc (.int .i64 r5.Ring.Head), V.sl true 3 (List.map E3 r5.Ring.Counts), V.sl true 3 (List.map E3 r5.Ring.Sums), V.sl true 132 (List.map E132 r5.Slots)]]) [] = Blk.row 48 (List.map E48 (x2.Accts ++ [r5])) [],
           (0 : Int) ≤ r4,
           (r4 : Int) < ((List.map E102 v3).length : Int),
           look [(r4.toNat, V.agg [V.sc (.int .i64 x2.Owner), V.ow 2])] r4.toNat = some (V.agg [V.sc (.int .i64 x2.Owner), V.ow 2]),
           r4.toNat < (List.map E102 v3).length,
           r4.toNat = r4.toNat,
           (impl_Spread_s3 n r4 b p1 x1 r5 v3 x2) = (impl_Spread_s3 n r4 b p1 x1 r5 v3 x2),
           (impl_Spread_s3 n r4 b p1 x1 r5 v3 x2) = (impl_Spread_s3 n r4 b p1 x1 r5 v3 x2),
           (List.map E48 x2.Accts).length + [V.agg [V.sc (.string r5.Id), V.sc (.int .i64 r5.Limit), V.sc (.int .i64 r5.Posted), V.sc (.int .i64 r5.Most), V.sc (.int .i64 r5.MostSum), V.sl true 129 (List.map E129 r5.Holds), V.sc (.int .i64 r5.Ring.Span), V.sc (.int .i64 r5.Ring.Head), V.sl true 3 (List.map E3 r5.Ring.Counts), V.sl true 3 (List.map E3 r5.Ring.Sums), V.sl true 132 (List.map E132 r5.Slots)]].length ≤ 9223372036854775807,
           ((List.map E48 x2.Accts).length + [V.agg [V.sc (.string r5.Id), V.sc (.int .i64 r5.Limit), V.sc (.int .i64 r5.Posted), V.sc (.int .i64 r5.Most), V.sc (.int .i64 r5.MostSum), V.sl true 129 (List.map E129 r5.Holds), V.sc (.int .i64 r5.Ring.Span), V.sc (.int .i64 r5.Ring.Head), V.sl true 3 (List.map E3 r5.Ring.Counts), V.sl true 3 (List.map E3 r5.Ring.Sums), V.sl true 132 (List.map E132 r5.Slots)]].length) * 160 ≤ 140737488355328,
           Blk.row 48 ((List.map E48 x2.Accts) ++ [V.agg [V.sc (.string r5.Id), V.sc (.int .i64 r5.Limit), V.sc (.int .i64 r5.Posted), V.sc (.int .i64 r5.Most), V.sc (.int .i64 r5.MostSum), V.sl true 129 (List.map E129 r5.Holds), V.sc (.int .i64 r5.Ring.Span), V.sc (.int .i64 r5.Ring.Head), V.sl true 3 (List.map E3 r5.Ring.Counts), V.sl true 3 (List.map E3 r5.Ring.Sums), V.sl true 132 (List.map E132 r5.Slots)]]) [] = Blk.row 48 (List.map E48 (x2.Accts ++ [r5])) [],
           (0 : Int) ≤ r4,
           (r4 : Int) < ((List.map E102 v3).length : Int),
           look [(r4.toNat, V.agg [V.sc (.int .i64 x2.Owner), V.ow 2])] r4.toNat = some (V.agg [V.sc (.int .i64 x2.Owner), V.ow 2]),
           r4.toNat < (List.map E102 v3).length,
           r4.toNat = r4.toNat,
           (impl_Spread_s3 n r4 b p1 x1 r5 v3 x2) = (impl_Spread_s3 n r4 b p1 x1 r5 v3 x2),
           (List.map E48 x2.Accts).length + [V.agg [V.sc (.string r5.Id), V.sc (.int .i64 r5.Limit), V.sc (.int .i64 r5.Posted), V.sc (.int .i64 r5.Most), V.sc (.int .i64 r5.MostSum), V.sl true 129 (List.map E129 r5.Holds), V.sc (.int .i64 r5.Ring.Span), V.sc (.int .i64 r5.Ring.Head), V.sl true 3 (List.map E3 r5.Ring.Counts), V.sl true 3 (List.map E3 r5.Ring.Sums), V.sl true 132 (List.map E132 r5.Slots)]].length ≤ 9223372036854775807,
           ((List.map E48 x2.Accts).length + [V.agg [V.sc (.string r5.Id), V.sc (.int .i64 r5.Limit), V.sc (.int .i64 r5.Posted), V.sc (.int .i64 r5.Most), V.sc (.int .i64 r5.MostSum), V.sl true 129 (List.map E129 r5.Holds), V.sc (.int .i64 r5.Ring.Span), V.sc (.int .i64 r5.Ring.Head), V.sl true 3 (List.map E3 r5.Ring.Counts), V.sl true 3 (List.map E3 r5.Ring.Sums), V.sl true 132 (List.map E132 r5.Slots)]].length) * 160 ≤ 140737488355328,
           Blk.row 48 ((List.map E48 x2.Accts) ++ [V.agg [V.sc (.string r5.Id), V.sc (.int .i64 r5.Limit), V.sc (.int .i64 r5.Posted), V.sc (.int .i64 r5.Most), V.sc (.int .i64 r5.MostSum), V.sl true 129 (List.map E129 r5.Holds), V.sc (.int .i64 r5.Ring.Span), V.sc (.int .i64 r5.Ring.Head), V.sl true 3 (List.map E3 r5.Ring.Counts), V.sl true 3 (List.map E3 r5.Ring.Sums), V.sl true 132 (List.map E132 r5.Slots)]]) [] = Blk.row 48 (List.map E48 (x2.Accts ++ [r5])) [],
           (0 : Int) ≤ r4,
           (r4 : Int) < ((List.map E102 v3).length : Int),
           look [(r4.toNat, V.agg [V.sc (.int .i64 x2.Owner), V.ow 2])] r4.toNat = some (V.agg [V.sc (.int .i64 x2.Owner), V.ow 2]),
           r4.toNat < (List.map E102 v3).length,
           r4.toNat = r4.toNat,
           (impl_Spread_s3 n r4 b p1 x1 r5 v3 x2) = (impl_Spread_s3 n r4 b p1 x1 r5 v3 x2),
           (impl_Spread_s3 n r4 b p1 x1 r5 v3 x2) = (impl_Spread_s3 n r4 b p1 x1 r5 v3 x2),
           (List.map E48 x2.Accts).length + [V.agg [V.sc (.string r5.Id), V.sc (.int .i64 r5.Limit), V.sc (.int .i64 r5.Posted), V.sc (.int .i64 r5.Most), V.sc (.int .i64 r5.MostSum), V.sl true 129 (List.map E129 r5.Holds), V.sc (.int .i64 r5.Ring.Span), V.sc (.int .i64 r5.Ring.Head), V.sl true 3 (List.map E3 r5.Ring.Counts), V.sl true 3 (List.map E3 r5.Ring.Sums), V.sl true 132 (List.map E132 r5.Slots)]].length ≤ 9223372036854775807,
           ((List.map E48 x2.Accts).length + [V.agg [V.sc (.string r5.Id), V.sc (.int .i64 r5.Limit), V.sc (.int .i64 r5.Posted), V.sc (.int .i64 r5.Most), V.sc (.int .i64 r5.MostSum), V.sl true 129 (List.map E129 r5.Holds), V.sc (.int .i64 r5.Ring.Span), V.sc (.int .i64 r5.Ring.Head), V.sl true 3 (List.map E3 r5.Ring.Counts), V.sl true 3 (List.map E3 r5.Ring.Sums), V.sl true 132 (List.map E132 r5.Slots)]].length) * 160 ≤ 140737488355328,
           Blk.row 48 ((List.map E48 x2.Accts) ++ [V.agg [V.sc (.string r5.Id), V.sc (.int .i64 r5.Limit), V.sc (.int .i64 r5.Posted), V.sc (.int .i64 r5.Most), V.sc (.int .i64 r5.MostSum), V.sl true 129 (List.map E129 r5.Holds), V.sc (.int .i64 r5.Ring.Span), V.sc (.int .i64 r5.Ring.Head), V.sl true 3 (List.map E3 r5.Ring.Counts), V.sl true 3 (List.map E3 r5.Ring.Sums), V.sl true 132 (List.map E132 r5.Slots)]]) [] = Blk.row 48 (List.map E48 (x2.Accts ++ [r5])) [],
           (0 : Int) ≤ r4,
           (r4 : Int) < ((List.map E102 v3).length : Int),
           look [(r4.toNat, V.agg [V.sc (.int .i64 x2.Owner), V.ow 2])] r4.toNat = some (V.agg [V.sc (.int .i64 x2.Owner), V.ow 2]),
           r4.toNat < (List.map E102 v3).length,
           r4.toNat = r4.toNat,
           (impl_Spread_s3 n r4 b p1 x1 r5 v3 x2) = (impl_Spread_s3 n r4 b p1 x1 r5 v3 x2),
           (impl_Spread_s3 n r4 b p1 x1 r5 v3 x2) = (impl_Spread_s3 n r4 b p1 x1 r5 v3 x2),
           (impl_Spread_s3 n r4 b p1 x1 r5 v3 x2) = (impl_Spread_s3 n r4 b p1 x1 r5 v3 x2),
           Blk.row 102 ((List.map E102 v3).set r4.toNat (V.agg [V.sc (.int .i64 x2.Owner), V.sl true 48 (List.map E48 (x2.Accts ++ [r5]))])) [] = Blk.row 102 (List.map E102 (v3.set r4.toNat (Stripe.mk x2.Owner (x2.Accts ++ [r5])))) [],
           V.sc (.int .i64 (i64 ((p1.length : Int) + 1))) = V.sc (.int .i64 ((p1 ++ [x1]).length : Int))]) (by kernel_rfl) (cj (rng_lt h8) (cj (by omega) (cj (rng_get _ h8) (cj (impl_StripeNo_ok x1.Id n r4 h10) (cj rfl (cj (od h11) (cj (map_ltN (od h11) h12) (cj rfl (cj (map_get h12) (cj (look_cons_self _ _ _) (cj (map_lt h12) (cj (impl_Acct_copied_ok x1 r5 h13) (cj rfl (cj (cap1 (capN (by simp) h14)) (cj (cap2 (capN (by simp) h14) (by decide)) (cj (nb_app E48 x2.Accts [r5]) (cj (od h11) (cj (map_ltN (od h11) h12) (cj (look_cons_self _ _ _) (cj (map_lt h12) (cj rfl (cj rfl (cj (impl_Acct_copied_ok x1 r5 h13) (cj rfl (cj (cap1 (capN (by simp) h14)) (cj (cap2 (capN (by simp) h14) (by decide)) (cj (nb_app E48 x2.Accts [r5]) (cj (od h11) (cj (map_ltN (od h11) h12) (cj (look_cons_self _ _ _) (cj (map_lt h12) (cj rfl (cj rfl (cj (cap1 (capN (by simp) h14)) (cj (cap2 (capN (by simp) h14) (by decide)) (cj (nb_app E48 x2.Accts [r5]) (cj (od h11) (cj (map_ltN (od h11) h12) (cj (look_cons_self _ _ _) (cj (map_lt h12) (cj rfl (cj rfl (cj (cap1 (capN (by simp) h14)) (cj (cap2 (capN (by simp) h14) (by decide)) (cj (nb_app E48 x2.Accts [r5]) (cj (od h11) (cj (map_ltN (od h11) h12) (cj (look_cons_self _ _ _) (cj (map_lt h12) (cj rfl (cj rfl (cj rfl (cj rfl (cj rfl (cj (impl_Acct_copied_ok x1 r5 h13) (cj rfl (cj (cap1 (capN (by simp) h14)) (cj (cap2 (capN (by simp) h14) (by decide)) (cj (nb_app E48 x2.Accts [r5]) (cj (od h11) (cj (map_ltN (od h11) h12) (cj (look_cons_self _ _ _) (cj (map_lt h12) (cj rfl (cj rfl (cj (impl_Acct_copied_ok x1 r5 h13) (cj rfl (cj (cap1 (capN (by simp) h14)) (cj (cap2 (capN (by simp) h14) (by decide)) (cj (nb_app E48 x2.Accts [r5]) (cj (od h11) (cj (map_ltN (od h11) h12) (cj (look_cons_self _ _ _) (cj (map_lt h12) (cj rfl (cj rfl (cj (cap1 (capN (by simp) h14)) (cj (cap2 (capN (by simp) h14) (by decide)) (cj (nb_app E48 x2.Accts [r5]) (cj (od h11) (cj (map_ltN (od h11) h12) (cj (look_cons_self _ _ _) (cj (map_lt h12) (cj rfl (cj rfl (cj (cap1 (capN (by simp) h14)) (cj (cap2 (capN (by simp) h14) (by decide)) (cj (nb_app E48 x2.Accts [r5]) (cj (od h11) (cj (map_ltN (od h11) h12) (cj (look_cons_self _ _ _) (cj (map_lt h12) (cj rfl (cj rfl (cj rfl (cj rfl (cj rfl (cj (impl_Acct_copied_ok x1 r5 h13) (cj rfl (cj (cap1 (capN (by simp) h14)) (cj (cap2 (capN (by simp) h14) (by decide)) (cj (nb_app E48 x2.Accts [r5]) (cj (od h11) (cj (map_ltN (od h11) h12) (cj (look_cons_self _ _ _) (cj (map_lt h12) (cj rfl (cj rfl (cj (cap1 (capN (by simp) h14)) (cj (cap2 (capN (by simp) h14) (by decide)) (cj (nb_app E48 x2.Accts [r5]) (cj (od h11) (cj (map_ltN (od h11) h12) (cj (look_cons_self _ _ _) (cj (map_lt h12) (cj rfl (cj rfl (cj (cap1 (capN (by simp) h14)) (cj (cap2 (capN (by simp) h14) (by decide)) (cj (nb_app E48 x2.Accts [r5]) (cj (od h11) (cj (map_ltN (od h11) h12) (cj (look_cons_self _ _ _) (cj (map_lt h12) (cj rfl (cj rfl (cj rfl (cj rfl (cj (cap1 (capN (by simp) h14)) (cj (cap2 (capN (by simp) h14) (by decide)) (cj (nb_app E48 x2.Accts [r5]) (cj (od h11) (cj (map_ltN (od h11) h12) (cj (look_cons_self _ _ _) (cj (map_lt h12) (cj rfl (cj rfl (cj (cap1 (capN (by simp) h14)) (cj (cap2 (capN (by simp) h14) (by decide)) (cj (nb_app E48 x2.Accts [r5]) (cj (od h11) (cj (map_ltN (od h11) h12) (cj (look_cons_self _ _ _) (cj (map_lt h12) (cj rfl (cj rfl (cj (cap1 (capN (by simp) h14)) (cj (cap2 (capN (by simp) h14) (by decide)) (cj (nb_app E48 x2.Accts [r5]) (cj (od h11) (cj (map_ltN (od h11) h12) (cj (look_cons_self _ _ _) (cj (map_lt h12) (cj rfl (cj rfl (cj rfl (cj rfl (cj (cap1 (capN (by simp) h14)) (cj (cap2 (capN (by simp) h14) (by decide)) (cj (nb_app E48 x2.Accts [r5]) (cj (od h11) (cj (map_ltN (od h11) h12) (cj (look_cons_self _ _ _) (cj (map_lt h12) (cj rfl (cj rfl (cj (cap1 (capN (by simp) h14)) (cj (cap2 (capN (by simp) h14) (by decide)) (cj (nb_app E48 x2.Accts [r5]) (cj (od h11) (cj (map_ltN (od h11) h12) (cj (look_cons_self _ _ _) (cj (map_lt h12) (cj rfl (cj rfl (cj rfl (cj (cap1 (capN (by simp) h14)) (cj (cap2 (capN (by simp) h14) (by decide)) (cj (nb_app E48 x2.Accts [r5]) (cj (od h11) (cj (map_ltN (od h11) h12) (cj (look_cons_self _ _ _) (cj (map_lt h12) (cj rfl (cj rfl (cj (cap1 (capN (by simp) h14)) (cj (cap2 (capN (by simp) h14) (by decide)) (cj (nb_app E48 x2.Accts [r5]) (cj (od h11) (cj (map_ltN (od h11) h12) (cj (look_cons_self _ _ _) (cj (map_lt h12) (cj rfl (cj rfl (cj rfl (cj (cap1 (capN (by simp) h14)) (cj (cap2 (capN (by simp) h14) (by decide)) (cj (nb_app E48 x2.Accts [r5]) (cj (od h11) (cj (map_ltN (od h11) h12) (cj (look_cons_self _ _ _) (cj (map_lt h12) (cj rfl (cj rfl (cj rfl (cj rfl (cj (nb_set E102 _ _ (Stripe.mk x2.Owner (x2.Accts ++ [r5]))) (cj1 (rng_next h8 h9))))))))))))))))))))))))))))))))))))))))))))))))))))))))))))))))))))))))))))))))))))))))))))))))))))))))))))))))))))))))))))))))))))))))))))))))))))))))))))))))))))))))))))))))))))))))))))))))))))))))))))))))) (impl_Spread_l1_ok b n h9 t1 (p1 ++ [x1]) (rng_step h8) (v3.set r4.toNat (Stripe.mk x2.Owner (x2.Accts ++ [r5]))))) (fun h14 =>
          Pn.none)))) (fun h11 =>
       Pn.none))
def impl_Spread (b : Book) (n : Int) : Option ((List Stripe)) :=
 (impl_BookOk b).bind fun r1 =>
 if r1 = true then
  (impl_within n 1 5).bind fun r2 =>
  if r2 = true then
   (impl_Spread_l0 b n FUEL 0 []).bind fun r3 =>
   if (capOk b.Accts.length) = true then
    (impl_Spread_l1 b n b.Accts r3).bind fun r6 =>
    some r6
   else none
  else
   some []
 else
  some []
theorem impl_Spread_ok (b : Book) (n : Int) : Pn (fun y => Fn Tryz.prog 28 [(false, E28 b), (false, E3 n)] (E56 y) []) (impl_Spread b n) := by
  unfold impl_Spread
  exact
   Pn.bind (fun r1 h1 =>
    Pn.ite (fun h2 =>
     Pn.bind (fun r2 h3 =>
      Pn.ite (fun h4 =>
       Pn.bind (fun r3 h7 =>
        Pn.ite (fun h15 =>
         Pn.bind (fun r6 h16 =>
          Pn.some (Fn.of [.call [] (E4 r1) [], .bit false, .bit false, .call [] (E4 r2) [], .bit false, .bit false, .bit false, .wait 4, .mask [1, 2, 5, 18, 19], .ren [0, 1], .loop (X.out 0) (st 52 [(1, V.sc (.int .i64 n)), (2, V.ptr 0 0), (5, V.ow 1)] [Blk.box 28 [V.sl false 48 (List.map E48 b.Accts)], Blk.row 102 (List.map E102 r3) []] []), .wait 3, .nm 28 (V.sc (.int .i64 (b.Accts.length : Int))), .wait 2, .mask [1, 5, 27, 28, 29], .ren [1], .loop (X.out 2) (st 52 [(5, V.ow 0)] [Blk.row 102 (List.map E102 r6) []] [])] (p := [Fn Tryz.prog 59 [(false, E28 b)] (E4 r1) [],
           (true || ((E4 r1).nv && nvL [])) = true,
           (!r1) = false,
           (!r1) = false,
           Fn Tryz.prog 74 [(false, E3 n), (false, E3 1), (false, E3 5)] (E4 r2) [],
           (true || ((E4 r2).nv && nvL [])) = true,
           (!r1) = false,
           (!r1) = false,
           (!r2) = false,
           Loop Tryz.prog (sub (codeOf Tryz.prog 28) [1, 1, 1, 0, 1, 0, 0]) (st 52 [(1, V.sc (.int .i64 n)), (2, V.ptr 0 0), (5, V.ow 1), (18, V.sc (.int .i64 n)), (19, V.sc (.int .i64 0))] [Blk.box 28 [V.sl false 48 (List.map E48 b.Accts)], Blk.row 102 ([] : List V) []] []) (X.out 0) (st 52 [(1, V.sc (.int .i64 n)), (2, V.ptr 0 0), (5, V.ow 1)] [Blk.box 28 [V.sl false 48 (List.map E48 b.Accts)], Blk.row 102 (List.map E102 r3) []] []),
           V.sc (.int .i64 ((List.map E48 b.Accts).length : Int)) = V.sc (.int .i64 (b.Accts.length : Int)),
           Loop Tryz.prog (sub (codeOf Tryz.prog 28) [1, 1, 1, 1, 0, 1, 0, 0]) (st 52 [(1, V.sc (.int .i64 n)), (5, V.ow 0), (27, V.sl false 48 (List.map E48 b.Accts)), (28, V.sc (.int .i64 (b.Accts.length : Int))), (29, V.sc (.int .i64 0))] [Blk.row 102 (List.map E102 r3) []] []) (X.out 2) (st 52 [(5, V.ow 0)] [Blk.row 102 (List.map E102 r6) []] [])]) (by kernel_rfl) (cj (impl_BookOk_ok b r1 h1) (cj rfl (cj (nf h2) (cj (nf h2) (cj (impl_within_ok n 1 5 r2 h3) (cj rfl (cj (nf h2) (cj (nf h2) (cj (nf h4) (cj (impl_Spread_l0_ok b n FUEL 0 [] r3 h7) (cj (len_nm _ _) (cj1 (impl_Spread_l1_ok b n h15 b.Accts [] rfl r3 r6 h16)))))))))))))))) (fun h15 =>
         Pn.none))) (fun h4 =>
       Pn.some (Fn.of [.call [] (E4 r1) [], .bit false, .bit false, .call [] (E4 r2) [], .bit false, .bit false, .bit true] (p := [Fn Tryz.prog 59 [(false, E28 b)] (E4 r1) [],
        (true || ((E4 r1).nv && nvL [])) = true,
        (!r1) = false,
        (!r1) = false,
        Fn Tryz.prog 74 [(false, E3 n), (false, E3 1), (false, E3 5)] (E4 r2) [],
        (true || ((E4 r2).nv && nvL [])) = true,
        (!r1) = false,
        (!r1) = false,
        (!r2) = true]) (by kernel_rfl) (cj (impl_BookOk_ok b r1 h1) (cj rfl (cj (nf h2) (cj (nf h2) (cj (impl_within_ok n 1 5 r2 h3) (cj rfl (cj (nf h2) (cj (nf h2) (cj1 (nt h4)))))))))))))) (fun h2 =>
     Pn.some (Fn.of [.call [] (E4 r1) [], .bit true, .bit true, .bit true, .bit true, .bit true] (p := [Fn Tryz.prog 59 [(false, E28 b)] (E4 r1) [],
      (true || ((E4 r1).nv && nvL [])) = true,
      (!r1) = true,
      (!r1) = true,
      (!r1) = true,
      (!r1) = true,
      true = true]) (by kernel_rfl) (cj (impl_BookOk_ok b r1 h1) (cj rfl (cj (nt h2) (cj (nt h2) (cj (nt h2) (cj (nt h2) (cj1 rfl))))))))))
def impl_WorldNew (b : Book) (n : Int) : Option (World × Bool) :=
 (impl_Spread b n).bind fun r1 =>
 if ((r1.length : Int) == 0) = true then
  some ((World.mk [] 0 0 []), false)
 else
  some ((World.mk r1 0 0 []), true)
theorem impl_WorldNew_ok (b : Book) (n : Int) : Pn (fun y => Fn Tryz.prog 82 [(false, E28 b), (false, E3 n)] (V.tup [E64 y.1, E4 y.2]) []) (impl_WorldNew b n) := by
  unfold impl_WorldNew
  exact
   Pn.bind (fun r1 h1 =>
    Pn.ite (fun h2 =>
     Pn.some (Fn.of [.call [] (E56 r1) [], .wait 3, .nm 11 (V.sc (.int .i64 (r1.length : Int))), .bit true] (p := [Fn Tryz.prog 28 [(false, E28 b), (false, E3 n)] (E56 r1) [],
      (true || ((E56 r1).nv && nvL [])) = true,
      V.sc (.int .i64 ((List.map E102 r1).length : Int)) = V.sc (.int .i64 (r1.length : Int)),
      ((r1.length : Int) == 0) = true]) (by kernel_rfl) (cj (impl_Spread_ok b n r1 h1) (cj rfl (cj (len_nm _ _) (cj1 h2)))))) (fun h2 =>
     Pn.some (Fn.of [.call [] (E56 r1) [], .wait 3, .nm 11 (V.sc (.int .i64 (r1.length : Int))), .bit false] (p := [Fn Tryz.prog 28 [(false, E28 b), (false, E3 n)] (E56 r1) [],
      (true || ((E56 r1).nv && nvL [])) = true,
      V.sc (.int .i64 ((List.map E102 r1).length : Int)) = V.sc (.int .i64 (r1.length : Int)),
      ((r1.length : Int) == 0) = false]) (by kernel_rfl) (cj (impl_Spread_ok b n r1 h1) (cj rfl (cj (len_nm _ _) (cj1 h2)))))))
def impl_DeskNew (n : Int) : Option (Desk × Bool) :=
 (impl_WorldNew (Book.mk []) n).bind fun r1 =>
 if r1.2 = true then
  some ((Desk.mk (Book.mk []) n r1.1), true)
 else
  some ((Desk.mk (Book.mk []) 0 (World.mk [] 0 0 [])), false)
theorem impl_DeskNew_ok (n : Int) : Pn (fun y => Fn Tryz.prog 34 [(false, E3 n)] (V.tup [E66 y.1, E4 y.2]) []) (impl_DeskNew n) := by
  unfold impl_DeskNew
  exact
   Pn.bind (fun r1 h1 =>
    Pn.ite (fun h2 =>
     Pn.some (Fn.of [.call [] (V.tup [E64 r1.1, E4 r1.2]) [], .bit false] (p := [Fn Tryz.prog 82 [(false, V.agg [V.nl 48]), (false, E3 n)] (V.tup [E64 r1.1, E4 r1.2]) [],
      (true || ((V.tup [E64 r1.1, E4 r1.2]).nv && nvL [])) = true,
      (!r1.2) = false]) (by kernel_rfl) (cj (Fn.nil [48] (by kernel_rfl) (by kernel_rfl) (impl_WorldNew_ok (Book.mk []) n r1 h1)) (cj rfl (cj1 (nf h2)))))) (fun h2 =>
     Pn.some (Fn.of [.call [] (V.tup [E64 r1.1, E4 r1.2]) [], .bit true] (p := [Fn Tryz.prog 82 [(false, V.agg [V.nl 48]), (false, E3 n)] (V.tup [E64 r1.1, E4 r1.2]) [],
      (true || ((V.tup [E64 r1.1, E4 r1.2]).nv && nvL [])) = true,
      (!r1.2) = true]) (by kernel_rfl) (cj (Fn.nil [48] (by kernel_rfl) (by kernel_rfl) (impl_WorldNew_ok (Book.mk []) n r1 h1)) (cj rfl (cj1 (nt h2)))))))
def laws_eqHold (a : Hold) (b : Hold) : Option (Bool) :=
 if (a.Id == b.Id) = true then
  if (a.Amount != b.Amount) = true then
   some false
  else
   if (a.Due != b.Due) = true then
    some false
   else
    some true
 else
  some false
theorem laws_eqHold_ok (a : Hold) (b : Hold) : Pn (fun y => Fn Tryz.prog 122 [(false, E129 a), (false, E129 b)] (E4 y) []) (laws_eqHold a b) := by
  unfold laws_eqHold
  exact
   Pn.ite (fun h1 =>
    Pn.ite (fun h2 =>
     Pn.some (Fn.of [.bit false, .bit true] (p := [(!(a.Id == b.Id)) = false,
      (a.Amount != b.Amount) = true]) (by kernel_rfl) (cj (nf h1) (cj1 h2)))) (fun h2 =>
     Pn.ite (fun h3 =>
      Pn.some (Fn.of [.bit false, .bit false, .bit true] (p := [(!(a.Id == b.Id)) = false,
       (a.Amount != b.Amount) = false,
       (a.Due != b.Due) = true]) (by kernel_rfl) (cj (nf h1) (cj h2 (cj1 h3))))) (fun h3 =>
      Pn.some (Fn.of [.bit false, .bit false, .bit false] (p := [(!(a.Id == b.Id)) = false,
       (a.Amount != b.Amount) = false,
       (a.Due != b.Due) = false]) (by kernel_rfl) (cj (nf h1) (cj h2 (cj1 h3))))))) (fun h1 =>
    Pn.some (Fn.of [.bit true] (p := [(!(a.Id == b.Id)) = true]) (by kernel_rfl) (cj1 (nt h1))))
def laws_eqHoldS_l0 (a : List Hold) (b : List Hold) : List Hold → List Hold → Option (Lo Unit Unit)
  | [], p1 =>
   some (.out ())
  | x1 :: t1, p1 =>
   (b[(p1.length : Int).toNat]?).bind fun x2 =>
   (laws_eqHold x1 x2).bind fun r1 =>
   if r1 = true then
    laws_eqHoldS_l0 a b t1 (p1 ++ [x1])
   else
    some (.ret ())
theorem laws_eqHoldS_l0_ok (a : List Hold) (b : List Hold) (h3 : capOk a.length = true) : ∀ (t1 p1 : List Hold) (_ : a = p1 ++ t1) , Pn (LpO Tryz.prog (sub (codeOf Tryz.prog 63) [1, 1, 0, 1, 0, 0]) (st 27 [(0, V.sl false 129 (List.map E129 a)), (1, V.sl false 129 (List.map E129 b)), (5, V.sc (.int .i64 (p1.length : Int)))] [] []) (fun (y : Lo Unit Unit) => Lo.elim y (fun s => (X.out 0, st 27 [] [] [])) (fun s => (X.ret, st 27 [(4, V.sc (.bool false))] [] [])))) (laws_eqHoldS_l0 a b t1 p1)
  | [], p1, h2 => by
    unfold laws_eqHoldS_l0
    exact
     Pn.some (LpO.out [.wait 3, .nm 13 (V.sc (.int .i64 (a.length : Int))), .bit false, .mask [], .ren []] (p := [V.sc (.int .i64 ((List.map E129 a).length : Int)) = V.sc (.int .i64 (a.length : Int)),
      (decide ((p1.length : Int) < (a.length : Int))) = false]) (by kernel_rfl) (show X.out 0 ≠ X.go from nofun) (cj (len_nm _ _) (cj1 (rng_end h2))))
  | x1 :: t1, p1, h2 => by
    unfold laws_eqHoldS_l0
    exact
     Pn.bind (fun x2 h4 =>
      Pn.bind (fun r1 h5 =>
       Pn.ite (fun h6 =>
        LpO.go [.wait 3, .nm 13 (V.sc (.int .i64 (a.length : Int))), .bit true, .draw [], .el (E129 x1), .el (E129 x2), .call [] (E4 r1) [], .bit false, .wait 3, .mask [0, 1, 5], .ren [], .nm 5 (V.sc (.int .i64 ((p1 ++ [x1]).length : Int)))] (p := [V.sc (.int .i64 ((List.map E129 a).length : Int)) = V.sc (.int .i64 (a.length : Int)),
         (decide ((p1.length : Int) < (a.length : Int))) = true,
         (0 : Int) ≤ (p1.length : Int),
         (List.map E129 a)[(p1.length : Int).toNat]? = some (E129 x1),
         (0 : Int) ≤ (p1.length : Int),
         (List.map E129 b)[(p1.length : Int).toNat]? = some (E129 x2),
         Fn Tryz.prog 122 [(false, E129 x1), (false, E129 x2)] (E4 r1) [],
         (true || ((E4 r1).nv && nvL [])) = true,
         (!r1) = false,
         V.sc (.int .i64 (i64 ((p1.length : Int) + 1))) = V.sc (.int .i64 ((p1 ++ [x1]).length : Int))]) (by kernel_rfl) (cj (len_nm _ _) (cj (rng_lt h2) (cj (by omega) (cj (rng_get _ h2) (cj (by omega) (cj (map_get h4) (cj (laws_eqHold_ok x1 x2 r1 h5) (cj rfl (cj (nf h6) (cj1 (rng_next h2 h3))))))))))) (laws_eqHoldS_l0_ok a b h3 t1 (p1 ++ [x1]) (rng_step h2))) (fun h6 =>
        Pn.some (LpO.out [.wait 3, .nm 13 (V.sc (.int .i64 (a.length : Int))), .bit true, .draw [], .el (E129 x1), .el (E129 x2), .call [] (E4 r1) [], .bit true, .wait 1, .mask [4], .ren []] (p := [V.sc (.int .i64 ((List.map E129 a).length : Int)) = V.sc (.int .i64 (a.length : Int)),
         (decide ((p1.length : Int) < (a.length : Int))) = true,
         (0 : Int) ≤ (p1.length : Int),
         (List.map E129 a)[(p1.length : Int).toNat]? = some (E129 x1),
         (0 : Int) ≤ (p1.length : Int),
         (List.map E129 b)[(p1.length : Int).toNat]? = some (E129 x2),
         Fn Tryz.prog 122 [(false, E129 x1), (false, E129 x2)] (E4 r1) [],
         (true || ((E4 r1).nv && nvL [])) = true,
         (!r1) = true]) (by kernel_rfl) (show X.ret ≠ X.go from nofun) (cj (len_nm _ _) (cj (rng_lt h2) (cj (by omega) (cj (rng_get _ h2) (cj (by omega) (cj (map_get h4) (cj (laws_eqHold_ok x1 x2 r1 h5) (cj rfl (cj1 (nt h6))))))))))))))
def laws_eqHoldS (a : List Hold) (b : List Hold) : Option (Bool) :=
 if ((a.length : Int) != (b.length : Int)) = true then
  some false
 else
  if (capOk a.length) = true then
   (laws_eqHoldS_l0 a b a []).bind fun r2 =>
   Lo.elim r2 (fun s1 =>
    some true) (fun s2 =>
    some false)
  else none
theorem laws_eqHoldS_ok (a : List Hold) (b : List Hold) : Pn (fun y => Fn Tryz.prog 63 [(false, E44 a), (false, E44 b)] (E4 y) []) (laws_eqHoldS a b) := by
  unfold laws_eqHoldS
  exact
   Pn.ite (fun h1 =>
    Pn.some (Fn.of [.wait 3, .nm 7 (V.sc (.int .i64 (a.length : Int))), .wait 2, .nm 9 (V.sc (.int .i64 (b.length : Int))), .bit true] (p := [V.sc (.int .i64 ((List.map E129 a).length : Int)) = V.sc (.int .i64 (a.length : Int)),
     V.sc (.int .i64 ((List.map E129 b).length : Int)) = V.sc (.int .i64 (b.length : Int)),
     ((a.length : Int) != (b.length : Int)) = true]) (by kernel_rfl) (cj (len_nm _ _) (cj (len_nm _ _) (cj1 h1))))) (fun h1 =>
    Pn.ite (fun h7 =>
     Pn.bind (fun r2 h8 =>
      Pn.lo (fun s1 h9 =>
       Pn.some (Fn.of [.wait 3, .nm 7 (V.sc (.int .i64 (a.length : Int))), .wait 2, .nm 9 (V.sc (.int .i64 (b.length : Int))), .bit false, .wait 1, .mask [0, 1, 5], .ren [], .loop (X.out 0) (st 27 [] [] [])] (p := [V.sc (.int .i64 ((List.map E129 a).length : Int)) = V.sc (.int .i64 (a.length : Int)),
        V.sc (.int .i64 ((List.map E129 b).length : Int)) = V.sc (.int .i64 (b.length : Int)),
        ((a.length : Int) != (b.length : Int)) = false,
        Loop Tryz.prog (sub (codeOf Tryz.prog 63) [1, 1, 0, 1, 0, 0]) (st 27 [(0, V.sl false 129 (List.map E129 a)), (1, V.sl false 129 (List.map E129 b)), (5, V.sc (.int .i64 0))] [] []) (X.out 0) (st 27 [] [] [])]) (by kernel_rfl) (cj (len_nm _ _) (cj (len_nm _ _) (cj h1 (cj1 ((laws_eqHoldS_l0_ok a b h7 a [] rfl r2 h8).at h9))))))) (fun s2 h10 =>
       Pn.some (Fn.of [.wait 3, .nm 7 (V.sc (.int .i64 (a.length : Int))), .wait 2, .nm 9 (V.sc (.int .i64 (b.length : Int))), .bit false, .wait 1, .mask [0, 1, 5], .ren [], .loop (X.ret) (st 27 [(4, V.sc (.bool false))] [] [])] (p := [V.sc (.int .i64 ((List.map E129 a).length : Int)) = V.sc (.int .i64 (a.length : Int)),
        V.sc (.int .i64 ((List.map E129 b).length : Int)) = V.sc (.int .i64 (b.length : Int)),
        ((a.length : Int) != (b.length : Int)) = false,
        Loop Tryz.prog (sub (codeOf Tryz.prog 63) [1, 1, 0, 1, 0, 0]) (st 27 [(0, V.sl false 129 (List.map E129 a)), (1, V.sl false 129 (List.map E129 b)), (5, V.sc (.int .i64 0))] [] []) (X.ret) (st 27 [(4, V.sc (.bool false))] [] [])]) (by kernel_rfl) (cj (len_nm _ _) (cj (len_nm _ _) (cj h1 (cj1 ((laws_eqHoldS_l0_ok a b h7 a [] rfl r2 h8).at h10))))))))) (fun h7 =>
     Pn.none))
def laws_eqIntS_l0 (a : List Int) (b : List Int) : List Int → List Int → Option (Lo Unit Unit)
  | [], p1 =>
   some (.out ())
  | x1 :: t1, p1 =>
   (b[(p1.length : Int).toNat]?).bind fun x2 =>
   if (x1 != x2) = true then
    some (.ret ())
   else
    laws_eqIntS_l0 a b t1 (p1 ++ [x1])
theorem laws_eqIntS_l0_ok (a : List Int) (b : List Int) (h3 : capOk a.length = true) : ∀ (t1 p1 : List Int) (_ : a = p1 ++ t1) , Pn (LpO Tryz.prog (sub (codeOf Tryz.prog 123) [1, 1, 0, 1, 0, 0]) (st 26 [(0, V.sl false 3 (List.map E3 a)), (1, V.sl false 3 (List.map E3 b)), (5, V.sc (.int .i64 (p1.length : Int)))] [] []) (fun (y : Lo Unit Unit) => Lo.elim y (fun s => (X.out 0, st 26 [] [] [])) (fun s => (X.ret, st 26 [(4, V.sc (.bool false))] [] [])))) (laws_eqIntS_l0 a b t1 p1)
  | [], p1, h2 => by
    unfold laws_eqIntS_l0
    exact
     Pn.some (LpO.out [.wait 3, .nm 13 (V.sc (.int .i64 (a.length : Int))), .bit false, .mask [], .ren []] (p := [V.sc (.int .i64 ((List.map E3 a).length : Int)) = V.sc (.int .i64 (a.length : Int)),
      (decide ((p1.length : Int) < (a.length : Int))) = false]) (by kernel_rfl) (show X.out 0 ≠ X.go from nofun) (cj (len_nm _ _) (cj1 (rng_end h2))))
  | x1 :: t1, p1, h2 => by
    unfold laws_eqIntS_l0
    exact
     Pn.bind (fun x2 h4 =>
      Pn.ite (fun h5 =>
       Pn.some (LpO.out [.wait 3, .nm 13 (V.sc (.int .i64 (a.length : Int))), .bit true, .draw [], .el (E3 x1), .el (E3 x2), .bit true, .wait 1, .mask [4], .ren []] (p := [V.sc (.int .i64 ((List.map E3 a).length : Int)) = V.sc (.int .i64 (a.length : Int)),
        (decide ((p1.length : Int) < (a.length : Int))) = true,
        (0 : Int) ≤ (p1.length : Int),
        (List.map E3 a)[(p1.length : Int).toNat]? = some (E3 x1),
        (0 : Int) ≤ (p1.length : Int),
        (List.map E3 b)[(p1.length : Int).toNat]? = some (E3 x2),
        (x1 != x2) = true]) (by kernel_rfl) (show X.ret ≠ X.go from nofun) (cj (len_nm _ _) (cj (rng_lt h2) (cj (by omega) (cj (rng_get _ h2) (cj (by omega) (cj (map_get h4) (cj1 h5))))))))) (fun h5 =>
       LpO.go [.wait 3, .nm 13 (V.sc (.int .i64 (a.length : Int))), .bit true, .draw [], .el (E3 x1), .el (E3 x2), .bit false, .wait 3, .mask [0, 1, 5], .ren [], .nm 5 (V.sc (.int .i64 ((p1 ++ [x1]).length : Int)))] (p := [V.sc (.int .i64 ((List.map E3 a).length : Int)) = V.sc (.int .i64 (a.length : Int)),
        (decide ((p1.length : Int) < (a.length : Int))) = true,
        (0 : Int) ≤ (p1.length : Int),
        (List.map E3 a)[(p1.length : Int).toNat]? = some (E3 x1),
        (0 : Int) ≤ (p1.length : Int),
        (List.map E3 b)[(p1.length : Int).toNat]? = some (E3 x2),
        (x1 != x2) = false,
        V.sc (.int .i64 (i64 ((p1.length : Int) + 1))) = V.sc (.int .i64 ((p1 ++ [x1]).length : Int))]) (by kernel_rfl) (cj (len_nm _ _) (cj (rng_lt h2) (cj (by omega) (cj (rng_get _ h2) (cj (by omega) (cj (map_get h4) (cj h5 (cj1 (rng_next h2 h3))))))))) (laws_eqIntS_l0_ok a b h3 t1 (p1 ++ [x1]) (rng_step h2))))
def laws_eqIntS (a : List Int) (b : List Int) : Option (Bool) :=
 if ((a.length : Int) != (b.length : Int)) = true then
  some false
 else
  if (capOk a.length) = true then
   (laws_eqIntS_l0 a b a []).bind fun r1 =>
   Lo.elim r1 (fun s1 =>
    some true) (fun s2 =>
    some false)
  else none
theorem laws_eqIntS_ok (a : List Int) (b : List Int) : Pn (fun y => Fn Tryz.prog 123 [(false, E35 a), (false, E35 b)] (E4 y) []) (laws_eqIntS a b) := by
  unfold laws_eqIntS
  exact
   Pn.ite (fun h1 =>
    Pn.some (Fn.of [.wait 3, .nm 7 (V.sc (.int .i64 (a.length : Int))), .wait 2, .nm 9 (V.sc (.int .i64 (b.length : Int))), .bit true] (p := [V.sc (.int .i64 ((List.map E3 a).length : Int)) = V.sc (.int .i64 (a.length : Int)),
     V.sc (.int .i64 ((List.map E3 b).length : Int)) = V.sc (.int .i64 (b.length : Int)),
     ((a.length : Int) != (b.length : Int)) = true]) (by kernel_rfl) (cj (len_nm _ _) (cj (len_nm _ _) (cj1 h1))))) (fun h1 =>
    Pn.ite (fun h6 =>
     Pn.bind (fun r1 h7 =>
      Pn.lo (fun s1 h8 =>
       Pn.some (Fn.of [.wait 3, .nm 7 (V.sc (.int .i64 (a.length : Int))), .wait 2, .nm 9 (V.sc (.int .i64 (b.length : Int))), .bit false, .wait 1, .mask [0, 1, 5], .ren [], .loop (X.out 0) (st 26 [] [] [])] (p := [V.sc (.int .i64 ((List.map E3 a).length : Int)) = V.sc (.int .i64 (a.length : Int)),
        V.sc (.int .i64 ((List.map E3 b).length : Int)) = V.sc (.int .i64 (b.length : Int)),
        ((a.length : Int) != (b.length : Int)) = false,
        Loop Tryz.prog (sub (codeOf Tryz.prog 123) [1, 1, 0, 1, 0, 0]) (st 26 [(0, V.sl false 3 (List.map E3 a)), (1, V.sl false 3 (List.map E3 b)), (5, V.sc (.int .i64 0))] [] []) (X.out 0) (st 26 [] [] [])]) (by kernel_rfl) (cj (len_nm _ _) (cj (len_nm _ _) (cj h1 (cj1 ((laws_eqIntS_l0_ok a b h6 a [] rfl r1 h7).at h8))))))) (fun s2 h9 =>
       Pn.some (Fn.of [.wait 3, .nm 7 (V.sc (.int .i64 (a.length : Int))), .wait 2, .nm 9 (V.sc (.int .i64 (b.length : Int))), .bit false, .wait 1, .mask [0, 1, 5], .ren [], .loop (X.ret) (st 26 [(4, V.sc (.bool false))] [] [])] (p := [V.sc (.int .i64 ((List.map E3 a).length : Int)) = V.sc (.int .i64 (a.length : Int)),
        V.sc (.int .i64 ((List.map E3 b).length : Int)) = V.sc (.int .i64 (b.length : Int)),
        ((a.length : Int) != (b.length : Int)) = false,
        Loop Tryz.prog (sub (codeOf Tryz.prog 123) [1, 1, 0, 1, 0, 0]) (st 26 [(0, V.sl false 3 (List.map E3 a)), (1, V.sl false 3 (List.map E3 b)), (5, V.sc (.int .i64 0))] [] []) (X.ret) (st 26 [(4, V.sc (.bool false))] [] [])]) (by kernel_rfl) (cj (len_nm _ _) (cj (len_nm _ _) (cj h1 (cj1 ((laws_eqIntS_l0_ok a b h6 a [] rfl r1 h7).at h9))))))))) (fun h6 =>
     Pn.none))
def laws_eqRing (a : Ring) (b : Ring) : Option (Bool) :=
 if (a.Span != b.Span) = true then
  some false
 else
  if (a.Head != b.Head) = true then
   some false
  else
   (laws_eqIntS a.Counts b.Counts).bind fun r1 =>
   if r1 = true then
    (laws_eqIntS a.Sums b.Sums).bind fun r2 =>
    if r2 = true then
     some true
    else
     some false
   else
    some false
theorem laws_eqRing_ok (a : Ring) (b : Ring) : Pn (fun y => Fn Tryz.prog 64 [(false, E45 a), (false, E45 b)] (E4 y) []) (laws_eqRing a b) := by
  unfold laws_eqRing
  exact
   Pn.ite (fun h1 =>
    Pn.some (Fn.of [.bit true] (p := [(a.Span != b.Span) = true]) (by kernel_rfl) (cj1 h1))) (fun h1 =>
    Pn.ite (fun h2 =>
     Pn.some (Fn.of [.bit false, .bit true] (p := [(a.Span != b.Span) = false,
      (a.Head != b.Head) = true]) (by kernel_rfl) (cj h1 (cj1 h2)))) (fun h2 =>
     Pn.bind (fun r1 h3 =>
      Pn.ite (fun h4 =>
       Pn.bind (fun r2 h5 =>
        Pn.ite (fun h6 =>
         Pn.some (Fn.of [.bit false, .bit false, .call [] (E4 r1) [], .bit false, .call [] (E4 r2) [], .bit false] (p := [(a.Span != b.Span) = false,
          (a.Head != b.Head) = false,
          Fn Tryz.prog 123 [(false, E35 a.Counts), (false, E35 b.Counts)] (E4 r1) [],
          (true || ((E4 r1).nv && nvL [])) = true,
          (!r1) = false,
          Fn Tryz.prog 123 [(false, E35 a.Sums), (false, E35 b.Sums)] (E4 r2) [],
          (true || ((E4 r2).nv && nvL [])) = true,
          (!r2) = false]) (by kernel_rfl) (cj h1 (cj h2 (cj (laws_eqIntS_ok a.Counts b.Counts r1 h3) (cj rfl (cj (nf h4) (cj (laws_eqIntS_ok a.Sums b.Sums r2 h5) (cj rfl (cj1 (nf h6))))))))))) (fun h6 =>
         Pn.some (Fn.of [.bit false, .bit false, .call [] (E4 r1) [], .bit false, .call [] (E4 r2) [], .bit true] (p := [(a.Span != b.Span) = false,
          (a.Head != b.Head) = false,
          Fn Tryz.prog 123 [(false, E35 a.Counts), (false, E35 b.Counts)] (E4 r1) [],
          (true || ((E4 r1).nv && nvL [])) = true,
          (!r1) = false,
          Fn Tryz.prog 123 [(false, E35 a.Sums), (false, E35 b.Sums)] (E4 r2) [],
          (true || ((E4 r2).nv && nvL [])) = true,
          (!r2) = true]) (by kernel_rfl) (cj h1 (cj h2 (cj (laws_eqIntS_ok a.Counts b.Counts r1 h3) (cj rfl (cj (nf h4) (cj (laws_eqIntS_ok a.Sums b.Sums r2 h5) (cj rfl (cj1 (nt h6))))))))))))) (fun h4 =>
       Pn.some (Fn.of [.bit false, .bit false, .call [] (E4 r1) [], .bit true] (p := [(a.Span != b.Span) = false,
        (a.Head != b.Head) = false,
        Fn Tryz.prog 123 [(false, E35 a.Counts), (false, E35 b.Counts)] (E4 r1) [],
        (true || ((E4 r1).nv && nvL [])) = true,
        (!r1) = true]) (by kernel_rfl) (cj h1 (cj h2 (cj (laws_eqIntS_ok a.Counts b.Counts r1 h3) (cj rfl (cj1 (nt h4)))))))))))
def laws_eqByteS_l0 (a : List Int) (b : List Int) : List Int → List Int → Option (Lo Unit Unit)
  | [], p1 =>
   some (.out ())
  | x1 :: t1, p1 =>
   (b[(p1.length : Int).toNat]?).bind fun x2 =>
   if (x1 != x2) = true then
    some (.ret ())
   else
    laws_eqByteS_l0 a b t1 (p1 ++ [x1])
theorem laws_eqByteS_l0_ok (a : List Int) (b : List Int) (h3 : capOk a.length = true) : ∀ (t1 p1 : List Int) (_ : a = p1 ++ t1) , Pn (LpO Tryz.prog (sub (codeOf Tryz.prog 154) [1, 1, 0, 1, 0, 0]) (st 26 [(0, V.sl false 5 (List.map E5 a)), (1, V.sl false 5 (List.map E5 b)), (5, V.sc (.int .i64 (p1.length : Int)))] [] []) (fun (y : Lo Unit Unit) => Lo.elim y (fun s => (X.out 0, st 26 [] [] [])) (fun s => (X.ret, st 26 [(4, V.sc (.bool false))] [] [])))) (laws_eqByteS_l0 a b t1 p1)
  | [], p1, h2 => by
    unfold laws_eqByteS_l0
    exact
     Pn.some (LpO.out [.wait 3, .nm 13 (V.sc (.int .i64 (a.length : Int))), .bit false, .mask [], .ren []] (p := [V.sc (.int .i64 ((List.map E5 a).length : Int)) = V.sc (.int .i64 (a.length : Int)),
      (decide ((p1.length : Int) < (a.length : Int))) = false]) (by kernel_rfl) (show X.out 0 ≠ X.go from nofun) (cj (len_nm _ _) (cj1 (rng_end h2))))
  | x1 :: t1, p1, h2 => by
    unfold laws_eqByteS_l0
    exact
     Pn.bind (fun x2 h4 =>
      Pn.ite (fun h5 =>
       Pn.some (LpO.out [.wait 3, .nm 13 (V.sc (.int .i64 (a.length : Int))), .bit true, .draw [], .el (E5 x1), .el (E5 x2), .bit true, .wait 1, .mask [4], .ren []] (p := [V.sc (.int .i64 ((List.map E5 a).length : Int)) = V.sc (.int .i64 (a.length : Int)),
        (decide ((p1.length : Int) < (a.length : Int))) = true,
        (0 : Int) ≤ (p1.length : Int),
        (List.map E5 a)[(p1.length : Int).toNat]? = some (E5 x1),
        (0 : Int) ≤ (p1.length : Int),
        (List.map E5 b)[(p1.length : Int).toNat]? = some (E5 x2),
        (x1 != x2) = true]) (by kernel_rfl) (show X.ret ≠ X.go from nofun) (cj (len_nm _ _) (cj (rng_lt h2) (cj (by omega) (cj (rng_get _ h2) (cj (by omega) (cj (map_get h4) (cj1 h5))))))))) (fun h5 =>
       LpO.go [.wait 3, .nm 13 (V.sc (.int .i64 (a.length : Int))), .bit true, .draw [], .el (E5 x1), .el (E5 x2), .bit false, .wait 3, .mask [0, 1, 5], .ren [], .nm 5 (V.sc (.int .i64 ((p1 ++ [x1]).length : Int)))] (p := [V.sc (.int .i64 ((List.map E5 a).length : Int)) = V.sc (.int .i64 (a.length : Int)),
        (decide ((p1.length : Int) < (a.length : Int))) = true,
        (0 : Int) ≤ (p1.length : Int),
        (List.map E5 a)[(p1.length : Int).toNat]? = some (E5 x1),
        (0 : Int) ≤ (p1.length : Int),
        (List.map E5 b)[(p1.length : Int).toNat]? = some (E5 x2),
        (x1 != x2) = false,
        V.sc (.int .i64 (i64 ((p1.length : Int) + 1))) = V.sc (.int .i64 ((p1 ++ [x1]).length : Int))]) (by kernel_rfl) (cj (len_nm _ _) (cj (rng_lt h2) (cj (by omega) (cj (rng_get _ h2) (cj (by omega) (cj (map_get h4) (cj h5 (cj1 (rng_next h2 h3))))))))) (laws_eqByteS_l0_ok a b h3 t1 (p1 ++ [x1]) (rng_step h2))))
def laws_eqByteS (a : List Int) (b : List Int) : Option (Bool) :=
 if ((a.length : Int) != (b.length : Int)) = true then
  some false
 else
  if (capOk a.length) = true then
   (laws_eqByteS_l0 a b a []).bind fun r1 =>
   Lo.elim r1 (fun s1 =>
    some true) (fun s2 =>
    some false)
  else none
theorem laws_eqByteS_ok (a : List Int) (b : List Int) : Pn (fun y => Fn Tryz.prog 154 [(false, E118 a), (false, E118 b)] (E4 y) []) (laws_eqByteS a b) := by
  unfold laws_eqByteS
  exact
   Pn.ite (fun h1 =>
    Pn.some (Fn.of [.wait 3, .nm 7 (V.sc (.int .i64 (a.length : Int))), .wait 2, .nm 9 (V.sc (.int .i64 (b.length : Int))), .bit true] (p := [V.sc (.int .i64 ((List.map E5 a).length : Int)) = V.sc (.int .i64 (a.length : Int)),
     V.sc (.int .i64 ((List.map E5 b).length : Int)) = V.sc (.int .i64 (b.length : Int)),
     ((a.length : Int) != (b.length : Int)) = true]) (by kernel_rfl) (cj (len_nm _ _) (cj (len_nm _ _) (cj1 h1))))) (fun h1 =>
    Pn.ite (fun h6 =>
     Pn.bind (fun r1 h7 =>
      Pn.lo (fun s1 h8 =>
       Pn.some (Fn.of [.wait 3, .nm 7 (V.sc (.int .i64 (a.length : Int))), .wait 2, .nm 9 (V.sc (.int .i64 (b.length : Int))), .bit false, .wait 1, .mask [0, 1, 5], .ren [], .loop (X.out 0) (st 26 [] [] [])] (p := [V.sc (.int .i64 ((List.map E5 a).length : Int)) = V.sc (.int .i64 (a.length : Int)),
        V.sc (.int .i64 ((List.map E5 b).length : Int)) = V.sc (.int .i64 (b.length : Int)),
        ((a.length : Int) != (b.length : Int)) = false,
        Loop Tryz.prog (sub (codeOf Tryz.prog 154) [1, 1, 0, 1, 0, 0]) (st 26 [(0, V.sl false 5 (List.map E5 a)), (1, V.sl false 5 (List.map E5 b)), (5, V.sc (.int .i64 0))] [] []) (X.out 0) (st 26 [] [] [])]) (by kernel_rfl) (cj (len_nm _ _) (cj (len_nm _ _) (cj h1 (cj1 ((laws_eqByteS_l0_ok a b h6 a [] rfl r1 h7).at h8))))))) (fun s2 h9 =>
       Pn.some (Fn.of [.wait 3, .nm 7 (V.sc (.int .i64 (a.length : Int))), .wait 2, .nm 9 (V.sc (.int .i64 (b.length : Int))), .bit false, .wait 1, .mask [0, 1, 5], .ren [], .loop (X.ret) (st 26 [(4, V.sc (.bool false))] [] [])] (p := [V.sc (.int .i64 ((List.map E5 a).length : Int)) = V.sc (.int .i64 (a.length : Int)),
        V.sc (.int .i64 ((List.map E5 b).length : Int)) = V.sc (.int .i64 (b.length : Int)),
        ((a.length : Int) != (b.length : Int)) = false,
        Loop Tryz.prog (sub (codeOf Tryz.prog 154) [1, 1, 0, 1, 0, 0]) (st 26 [(0, V.sl false 5 (List.map E5 a)), (1, V.sl false 5 (List.map E5 b)), (5, V.sc (.int .i64 0))] [] []) (X.ret) (st 26 [(4, V.sc (.bool false))] [] [])]) (by kernel_rfl) (cj (len_nm _ _) (cj (len_nm _ _) (cj h1 (cj1 ((laws_eqByteS_l0_ok a b h6 a [] rfl r1 h7).at h9))))))))) (fun h6 =>
     Pn.none))
def laws_eqSlot (a : Slot) (b : Slot) : Option (Bool) :=
 if (a.Trace == b.Trace) = true then
  if (a.Mti == b.Mti) = true then
   (laws_eqByteS a.Reply b.Reply).bind fun r1 =>
   if r1 = true then
    some true
   else
    some false
  else
   some false
 else
  some false
theorem laws_eqSlot_ok (a : Slot) (b : Slot) : Pn (fun y => Fn Tryz.prog 124 [(false, E132 a), (false, E132 b)] (E4 y) []) (laws_eqSlot a b) := by
  unfold laws_eqSlot
  exact
   Pn.ite (fun h1 =>
    Pn.ite (fun h2 =>
     Pn.bind (fun r1 h3 =>
      Pn.ite (fun h4 =>
       Pn.some (Fn.of [.bit false, .bit false, .call [] (E4 r1) [], .bit false] (p := [(!(a.Trace == b.Trace)) = false,
        (!(a.Mti == b.Mti)) = false,
        Fn Tryz.prog 154 [(false, E118 a.Reply), (false, E118 b.Reply)] (E4 r1) [],
        (true || ((E4 r1).nv && nvL [])) = true,
        (!r1) = false]) (by kernel_rfl) (cj (nf h1) (cj (nf h2) (cj (laws_eqByteS_ok a.Reply b.Reply r1 h3) (cj rfl (cj1 (nf h4)))))))) (fun h4 =>
       Pn.some (Fn.of [.bit false, .bit false, .call [] (E4 r1) [], .bit true] (p := [(!(a.Trace == b.Trace)) = false,
        (!(a.Mti == b.Mti)) = false,
        Fn Tryz.prog 154 [(false, E118 a.Reply), (false, E118 b.Reply)] (E4 r1) [],
        (true || ((E4 r1).nv && nvL [])) = true,
        (!r1) = true]) (by kernel_rfl) (cj (nf h1) (cj (nf h2) (cj (laws_eqByteS_ok a.Reply b.Reply r1 h3) (cj rfl (cj1 (nt h4)))))))))) (fun h2 =>
     Pn.some (Fn.of [.bit false, .bit true] (p := [(!(a.Trace == b.Trace)) = false,
      (!(a.Mti == b.Mti)) = true]) (by kernel_rfl) (cj (nf h1) (cj1 (nt h2)))))) (fun h1 =>
    Pn.some (Fn.of [.bit true] (p := [(!(a.Trace == b.Trace)) = true]) (by kernel_rfl) (cj1 (nt h1))))
def laws_eqSlotS_l0 (a : List Slot) (b : List Slot) : List Slot → List Slot → Option (Lo Unit Unit)
  | [], p1 =>
   some (.out ())
  | x1 :: t1, p1 =>
   (b[(p1.length : Int).toNat]?).bind fun x2 =>
   (laws_eqSlot x1 x2).bind fun r1 =>
   if r1 = true then
    laws_eqSlotS_l0 a b t1 (p1 ++ [x1])
   else
    some (.ret ())
theorem laws_eqSlotS_l0_ok (a : List Slot) (b : List Slot) (h3 : capOk a.length = true) : ∀ (t1 p1 : List Slot) (_ : a = p1 ++ t1) , Pn (LpO Tryz.prog (sub (codeOf Tryz.prog 65) [1, 1, 0, 1, 0, 0]) (st 27 [(0, V.sl false 132 (List.map E132 a)), (1, V.sl false 132 (List.map E132 b)), (5, V.sc (.int .i64 (p1.length : Int)))] [] []) (fun (y : Lo Unit Unit) => Lo.elim y (fun s => (X.out 0, st 27 [] [] [])) (fun s => (X.ret, st 27 [(4, V.sc (.bool false))] [] [])))) (laws_eqSlotS_l0 a b t1 p1)
  | [], p1, h2 => by
    unfold laws_eqSlotS_l0
    exact
     Pn.some (LpO.out [.wait 3, .nm 13 (V.sc (.int .i64 (a.length : Int))), .bit false, .mask [], .ren []] (p := [V.sc (.int .i64 ((List.map E132 a).length : Int)) = V.sc (.int .i64 (a.length : Int)),
      (decide ((p1.length : Int) < (a.length : Int))) = false]) (by kernel_rfl) (show X.out 0 ≠ X.go from nofun) (cj (len_nm _ _) (cj1 (rng_end h2))))
  | x1 :: t1, p1, h2 => by
    unfold laws_eqSlotS_l0
    exact
     Pn.bind (fun x2 h4 =>
      Pn.bind (fun r1 h5 =>
       Pn.ite (fun h6 =>
        LpO.go [.wait 3, .nm 13 (V.sc (.int .i64 (a.length : Int))), .bit true, .draw [], .el (E132 x1), .el (E132 x2), .call [] (E4 r1) [], .bit false, .wait 3, .mask [0, 1, 5], .ren [], .nm 5 (V.sc (.int .i64 ((p1 ++ [x1]).length : Int)))] (p := [V.sc (.int .i64 ((List.map E132 a).length : Int)) = V.sc (.int .i64 (a.length : Int)),
         (decide ((p1.length : Int) < (a.length : Int))) = true,
         (0 : Int) ≤ (p1.length : Int),
         (List.map E132 a)[(p1.length : Int).toNat]? = some (E132 x1),
         (0 : Int) ≤ (p1.length : Int),
         (List.map E132 b)[(p1.length : Int).toNat]? = some (E132 x2),
         Fn Tryz.prog 124 [(false, E132 x1), (false, E132 x2)] (E4 r1) [],
         (true || ((E4 r1).nv && nvL [])) = true,
         (!r1) = false,
         V.sc (.int .i64 (i64 ((p1.length : Int) + 1))) = V.sc (.int .i64 ((p1 ++ [x1]).length : Int))]) (by kernel_rfl) (cj (len_nm _ _) (cj (rng_lt h2) (cj (by omega) (cj (rng_get _ h2) (cj (by omega) (cj (map_get h4) (cj (laws_eqSlot_ok x1 x2 r1 h5) (cj rfl (cj (nf h6) (cj1 (rng_next h2 h3))))))))))) (laws_eqSlotS_l0_ok a b h3 t1 (p1 ++ [x1]) (rng_step h2))) (fun h6 =>
        Pn.some (LpO.out [.wait 3, .nm 13 (V.sc (.int .i64 (a.length : Int))), .bit true, .draw [], .el (E132 x1), .el (E132 x2), .call [] (E4 r1) [], .bit true, .wait 1, .mask [4], .ren []] (p := [V.sc (.int .i64 ((List.map E132 a).length : Int)) = V.sc (.int .i64 (a.length : Int)),
         (decide ((p1.length : Int) < (a.length : Int))) = true,
         (0 : Int) ≤ (p1.length : Int),
         (List.map E132 a)[(p1.length : Int).toNat]? = some (E132 x1),
         (0 : Int) ≤ (p1.length : Int),
         (List.map E132 b)[(p1.length : Int).toNat]? = some (E132 x2),
         Fn Tryz.prog 124 [(false, E132 x1), (false, E132 x2)] (E4 r1) [],
         (true || ((E4 r1).nv && nvL [])) = true,
         (!r1) = true]) (by kernel_rfl) (show X.ret ≠ X.go from nofun) (cj (len_nm _ _) (cj (rng_lt h2) (cj (by omega) (cj (rng_get _ h2) (cj (by omega) (cj (map_get h4) (cj (laws_eqSlot_ok x1 x2 r1 h5) (cj rfl (cj1 (nt h6))))))))))))))
def laws_eqSlotS (a : List Slot) (b : List Slot) : Option (Bool) :=
 if ((a.length : Int) != (b.length : Int)) = true then
  some false
 else
  if (capOk a.length) = true then
   (laws_eqSlotS_l0 a b a []).bind fun r2 =>
   Lo.elim r2 (fun s1 =>
    some true) (fun s2 =>
    some false)
  else none
theorem laws_eqSlotS_ok (a : List Slot) (b : List Slot) : Pn (fun y => Fn Tryz.prog 65 [(false, E46 a), (false, E46 b)] (E4 y) []) (laws_eqSlotS a b) := by
  unfold laws_eqSlotS
  exact
   Pn.ite (fun h1 =>
    Pn.some (Fn.of [.wait 3, .nm 7 (V.sc (.int .i64 (a.length : Int))), .wait 2, .nm 9 (V.sc (.int .i64 (b.length : Int))), .bit true] (p := [V.sc (.int .i64 ((List.map E132 a).length : Int)) = V.sc (.int .i64 (a.length : Int)),
     V.sc (.int .i64 ((List.map E132 b).length : Int)) = V.sc (.int .i64 (b.length : Int)),
     ((a.length : Int) != (b.length : Int)) = true]) (by kernel_rfl) (cj (len_nm _ _) (cj (len_nm _ _) (cj1 h1))))) (fun h1 =>
    Pn.ite (fun h7 =>
     Pn.bind (fun r2 h8 =>
      Pn.lo (fun s1 h9 =>
       Pn.some (Fn.of [.wait 3, .nm 7 (V.sc (.int .i64 (a.length : Int))), .wait 2, .nm 9 (V.sc (.int .i64 (b.length : Int))), .bit false, .wait 1, .mask [0, 1, 5], .ren [], .loop (X.out 0) (st 27 [] [] [])] (p := [V.sc (.int .i64 ((List.map E132 a).length : Int)) = V.sc (.int .i64 (a.length : Int)),
        V.sc (.int .i64 ((List.map E132 b).length : Int)) = V.sc (.int .i64 (b.length : Int)),
        ((a.length : Int) != (b.length : Int)) = false,
        Loop Tryz.prog (sub (codeOf Tryz.prog 65) [1, 1, 0, 1, 0, 0]) (st 27 [(0, V.sl false 132 (List.map E132 a)), (1, V.sl false 132 (List.map E132 b)), (5, V.sc (.int .i64 0))] [] []) (X.out 0) (st 27 [] [] [])]) (by kernel_rfl) (cj (len_nm _ _) (cj (len_nm _ _) (cj h1 (cj1 ((laws_eqSlotS_l0_ok a b h7 a [] rfl r2 h8).at h9))))))) (fun s2 h10 =>
       Pn.some (Fn.of [.wait 3, .nm 7 (V.sc (.int .i64 (a.length : Int))), .wait 2, .nm 9 (V.sc (.int .i64 (b.length : Int))), .bit false, .wait 1, .mask [0, 1, 5], .ren [], .loop (X.ret) (st 27 [(4, V.sc (.bool false))] [] [])] (p := [V.sc (.int .i64 ((List.map E132 a).length : Int)) = V.sc (.int .i64 (a.length : Int)),
        V.sc (.int .i64 ((List.map E132 b).length : Int)) = V.sc (.int .i64 (b.length : Int)),
        ((a.length : Int) != (b.length : Int)) = false,
        Loop Tryz.prog (sub (codeOf Tryz.prog 65) [1, 1, 0, 1, 0, 0]) (st 27 [(0, V.sl false 132 (List.map E132 a)), (1, V.sl false 132 (List.map E132 b)), (5, V.sc (.int .i64 0))] [] []) (X.ret) (st 27 [(4, V.sc (.bool false))] [] [])]) (by kernel_rfl) (cj (len_nm _ _) (cj (len_nm _ _) (cj h1 (cj1 ((laws_eqSlotS_l0_ok a b h7 a [] rfl r2 h8).at h10))))))))) (fun h7 =>
     Pn.none))
def laws_eqAcct (a : Acct) (b : Acct) : Option (Bool) :=
 if (a.Id == b.Id) = true then
  if (a.Limit != b.Limit) = true then
   some false
  else
   if (a.Posted != b.Posted) = true then
    some false
   else
    if (a.Most != b.Most) = true then
     some false
    else
     if (a.MostSum != b.MostSum) = true then
      some false
     else
      (laws_eqHoldS a.Holds b.Holds).bind fun r1 =>
      if r1 = true then
       (laws_eqRing a.Ring b.Ring).bind fun r2 =>
       if r2 = true then
        (laws_eqSlotS a.Slots b.Slots).bind fun r3 =>
        if r3 = true then
         some true
        else
         some false
       else
        some false
      else
       some false
 else
  some false
theorem laws_eqAcct_ok (a : Acct) (b : Acct) : Pn (fun y => Fn Tryz.prog 20 [(false, E48 a), (false, E48 b)] (E4 y) []) (laws_eqAcct a b) := by
  unfold laws_eqAcct
  exact
   Pn.ite (fun h1 =>
    Pn.ite (fun h2 =>
     Pn.some (Fn.of [.bit false, .bit true] (p := [(!(a.Id == b.Id)) = false,
      (a.Limit != b.Limit) = true]) (by kernel_rfl) (cj (nf h1) (cj1 h2)))) (fun h2 =>
     Pn.ite (fun h3 =>
      Pn.some (Fn.of [.bit false, .bit false, .bit true] (p := [(!(a.Id == b.Id)) = false,
       (a.Limit != b.Limit) = false,
       (a.Posted != b.Posted) = true]) (by kernel_rfl) (cj (nf h1) (cj h2 (cj1 h3))))) (fun h3 =>
      Pn.ite (fun h4 =>
       Pn.some (Fn.of [.bit false, .bit false, .bit false, .bit true] (p := [(!(a.Id == b.Id)) = false,
        (a.Limit != b.Limit) = false,
        (a.Posted != b.Posted) = false,
        (a.Most != b.Most) = true]) (by kernel_rfl) (cj (nf h1) (cj h2 (cj h3 (cj1 h4)))))) (fun h4 =>
       Pn.ite (fun h5 =>
        Pn.some (Fn.of [.bit false, .bit false, .bit false, .bit false, .bit true] (p := [(!(a.Id == b.Id)) = false,
         (a.Limit != b.Limit) = false,
         (a.Posted != b.Posted) = false,
         (a.Most != b.Most) = false,
         (a.MostSum != b.MostSum) = true]) (by kernel_rfl) (cj (nf h1) (cj h2 (cj h3 (cj h4 (cj1 h5))))))) (fun h5 =>
        Pn.bind (fun r1 h6 =>
         Pn.ite (fun h7 =>
          Pn.bind (fun r2 h8 =>
           Pn.ite (fun h9 =>
            Pn.bind (fun r3 h10 =>
             Pn.ite (fun h11 =>
              Pn.some (Fn.of [.bit false, .bit false, .bit false, .bit false, .bit false, .call [] (E4 r1) [], .bit false, .call [] (E4 r2) [], .bit false, .call [] (E4 r3) [], .bit false] (p := [(!(a.Id == b.Id)) = false,
               (a.Limit != b.Limit) = false,
               (a.Posted != b.Posted) = false,
               (a.Most != b.Most) = false,
               (a.MostSum != b.MostSum) = false,
               Fn Tryz.prog 63 [(false, E44 a.Holds), (false, E44 b.Holds)] (E4 r1) [],
               (true || ((E4 r1).nv && nvL [])) = true,
               (!r1) = false,
               Fn Tryz.prog 64 [(false, E45 a.Ring), (false, E45 b.Ring)] (E4 r2) [],
               (true || ((E4 r2).nv && nvL [])) = true,
               (!r2) = false,
               Fn Tryz.prog 65 [(false, E46 a.Slots), (false, E46 b.Slots)] (E4 r3) [],
               (true || ((E4 r3).nv && nvL [])) = true,
               (!r3) = false]) (by kernel_rfl) (cj (nf h1) (cj h2 (cj h3 (cj h4 (cj h5 (cj (laws_eqHoldS_ok a.Holds b.Holds r1 h6) (cj rfl (cj (nf h7) (cj (laws_eqRing_ok a.Ring b.Ring r2 h8) (cj rfl (cj (nf h9) (cj (laws_eqSlotS_ok a.Slots b.Slots r3 h10) (cj rfl (cj1 (nf h11))))))))))))))))) (fun h11 =>
              Pn.some (Fn.of [.bit false, .bit false, .bit false, .bit false, .bit false, .call [] (E4 r1) [], .bit false, .call [] (E4 r2) [], .bit false, .call [] (E4 r3) [], .bit true] (p := [(!(a.Id == b.Id)) = false,
               (a.Limit != b.Limit) = false,
               (a.Posted != b.Posted) = false,
               (a.Most != b.Most) = false,
               (a.MostSum != b.MostSum) = false,
               Fn Tryz.prog 63 [(false, E44 a.Holds), (false, E44 b.Holds)] (E4 r1) [],
               (true || ((E4 r1).nv && nvL [])) = true,
               (!r1) = false,
               Fn Tryz.prog 64 [(false, E45 a.Ring), (false, E45 b.Ring)] (E4 r2) [],
               (true || ((E4 r2).nv && nvL [])) = true,
               (!r2) = false,
               Fn Tryz.prog 65 [(false, E46 a.Slots), (false, E46 b.Slots)] (E4 r3) [],
               (true || ((E4 r3).nv && nvL [])) = true,
               (!r3) = true]) (by kernel_rfl) (cj (nf h1) (cj h2 (cj h3 (cj h4 (cj h5 (cj (laws_eqHoldS_ok a.Holds b.Holds r1 h6) (cj rfl (cj (nf h7) (cj (laws_eqRing_ok a.Ring b.Ring r2 h8) (cj rfl (cj (nf h9) (cj (laws_eqSlotS_ok a.Slots b.Slots r3 h10) (cj rfl (cj1 (nt h11))))))))))))))))))) (fun h9 =>
            Pn.some (Fn.of [.bit false, .bit false, .bit false, .bit false, .bit false, .call [] (E4 r1) [], .bit false, .call [] (E4 r2) [], .bit true] (p := [(!(a.Id == b.Id)) = false,
             (a.Limit != b.Limit) = false,
             (a.Posted != b.Posted) = false,
             (a.Most != b.Most) = false,
             (a.MostSum != b.MostSum) = false,
             Fn Tryz.prog 63 [(false, E44 a.Holds), (false, E44 b.Holds)] (E4 r1) [],
             (true || ((E4 r1).nv && nvL [])) = true,
             (!r1) = false,
             Fn Tryz.prog 64 [(false, E45 a.Ring), (false, E45 b.Ring)] (E4 r2) [],
             (true || ((E4 r2).nv && nvL [])) = true,
             (!r2) = true]) (by kernel_rfl) (cj (nf h1) (cj h2 (cj h3 (cj h4 (cj h5 (cj (laws_eqHoldS_ok a.Holds b.Holds r1 h6) (cj rfl (cj (nf h7) (cj (laws_eqRing_ok a.Ring b.Ring r2 h8) (cj rfl (cj1 (nt h9)))))))))))))))) (fun h7 =>
          Pn.some (Fn.of [.bit false, .bit false, .bit false, .bit false, .bit false, .call [] (E4 r1) [], .bit true] (p := [(!(a.Id == b.Id)) = false,
           (a.Limit != b.Limit) = false,
           (a.Posted != b.Posted) = false,
           (a.Most != b.Most) = false,
           (a.MostSum != b.MostSum) = false,
           Fn Tryz.prog 63 [(false, E44 a.Holds), (false, E44 b.Holds)] (E4 r1) [],
           (true || ((E4 r1).nv && nvL [])) = true,
           (!r1) = true]) (by kernel_rfl) (cj (nf h1) (cj h2 (cj h3 (cj h4 (cj h5 (cj (laws_eqHoldS_ok a.Holds b.Holds r1 h6) (cj rfl (cj1 (nt h7))))))))))))))))) (fun h1 =>
    Pn.some (Fn.of [.bit true] (p := [(!(a.Id == b.Id)) = true]) (by kernel_rfl) (cj1 (nt h1))))
def laws_eqAcctS_l0 (a : List Acct) (b : List Acct) : List Acct → List Acct → Option (Lo Unit Unit)
  | [], p1 =>
   some (.out ())
  | x1 :: t1, p1 =>
   (b[(p1.length : Int).toNat]?).bind fun x2 =>
   (laws_eqAcct x1 x2).bind fun r1 =>
   if r1 = true then
    laws_eqAcctS_l0 a b t1 (p1 ++ [x1])
   else
    some (.ret ())
theorem laws_eqAcctS_l0_ok (a : List Acct) (b : List Acct) (h3 : capOk a.length = true) : ∀ (t1 p1 : List Acct) (_ : a = p1 ++ t1) , Pn (LpO Tryz.prog (sub (codeOf Tryz.prog 44) [1, 1, 0, 1, 0, 0]) (st 27 [(0, V.sl false 48 (List.map E48 a)), (1, V.sl false 48 (List.map E48 b)), (5, V.sc (.int .i64 (p1.length : Int)))] [] []) (fun (y : Lo Unit Unit) => Lo.elim y (fun s => (X.out 0, st 27 [] [] [])) (fun s => (X.ret, st 27 [(4, V.sc (.bool false))] [] [])))) (laws_eqAcctS_l0 a b t1 p1)
  | [], p1, h2 => by
    unfold laws_eqAcctS_l0
    exact
     Pn.some (LpO.out [.wait 3, .nm 13 (V.sc (.int .i64 (a.length : Int))), .bit false, .mask [], .ren []] (p := [V.sc (.int .i64 ((List.map E48 a).length : Int)) = V.sc (.int .i64 (a.length : Int)),
      (decide ((p1.length : Int) < (a.length : Int))) = false]) (by kernel_rfl) (show X.out 0 ≠ X.go from nofun) (cj (len_nm _ _) (cj1 (rng_end h2))))
  | x1 :: t1, p1, h2 => by
    unfold laws_eqAcctS_l0
    exact
     Pn.bind (fun x2 h4 =>
      Pn.bind (fun r1 h5 =>
       Pn.ite (fun h6 =>
        LpO.go [.wait 3, .nm 13 (V.sc (.int .i64 (a.length : Int))), .bit true, .draw [], .el (E48 x1), .el (E48 x2), .call [] (E4 r1) [], .bit false, .wait 3, .mask [0, 1, 5], .ren [], .nm 5 (V.sc (.int .i64 ((p1 ++ [x1]).length : Int)))] (p := [V.sc (.int .i64 ((List.map E48 a).length : Int)) = V.sc (.int .i64 (a.length : Int)),
         (decide ((p1.length : Int) < (a.length : Int))) = true,
         (0 : Int) ≤ (p1.length : Int),
         (List.map E48 a)[(p1.length : Int).toNat]? = some (E48 x1),
         (0 : Int) ≤ (p1.length : Int),
         (List.map E48 b)[(p1.length : Int).toNat]? = some (E48 x2),
         Fn Tryz.prog 20 [(false, E48 x1), (false, E48 x2)] (E4 r1) [],
         (true || ((E4 r1).nv && nvL [])) = true,
         (!r1) = false,
         V.sc (.int .i64 (i64 ((p1.length : Int) + 1))) = V.sc (.int .i64 ((p1 ++ [x1]).length : Int))]) (by kernel_rfl) (cj (len_nm _ _) (cj (rng_lt h2) (cj (by omega) (cj (rng_get _ h2) (cj (by omega) (cj (map_get h4) (cj (laws_eqAcct_ok x1 x2 r1 h5) (cj rfl (cj (nf h6) (cj1 (rng_next h2 h3))))))))))) (laws_eqAcctS_l0_ok a b h3 t1 (p1 ++ [x1]) (rng_step h2))) (fun h6 =>
        Pn.some (LpO.out [.wait 3, .nm 13 (V.sc (.int .i64 (a.length : Int))), .bit true, .draw [], .el (E48 x1), .el (E48 x2), .call [] (E4 r1) [], .bit true, .wait 1, .mask [4], .ren []] (p := [V.sc (.int .i64 ((List.map E48 a).length : Int)) = V.sc (.int .i64 (a.length : Int)),
         (decide ((p1.length : Int) < (a.length : Int))) = true,
         (0 : Int) ≤ (p1.length : Int),
         (List.map E48 a)[(p1.length : Int).toNat]? = some (E48 x1),
         (0 : Int) ≤ (p1.length : Int),
         (List.map E48 b)[(p1.length : Int).toNat]? = some (E48 x2),
         Fn Tryz.prog 20 [(false, E48 x1), (false, E48 x2)] (E4 r1) [],
         (true || ((E4 r1).nv && nvL [])) = true,
         (!r1) = true]) (by kernel_rfl) (show X.ret ≠ X.go from nofun) (cj (len_nm _ _) (cj (rng_lt h2) (cj (by omega) (cj (rng_get _ h2) (cj (by omega) (cj (map_get h4) (cj (laws_eqAcct_ok x1 x2 r1 h5) (cj rfl (cj1 (nt h6))))))))))))))
def laws_eqAcctS (a : List Acct) (b : List Acct) : Option (Bool) :=
 if ((a.length : Int) != (b.length : Int)) = true then
  some false
 else
  if (capOk a.length) = true then
   (laws_eqAcctS_l0 a b a []).bind fun r2 =>
   Lo.elim r2 (fun s1 =>
    some true) (fun s2 =>
    some false)
  else none
theorem laws_eqAcctS_ok (a : List Acct) (b : List Acct) : Pn (fun y => Fn Tryz.prog 44 [(false, E26 a), (false, E26 b)] (E4 y) []) (laws_eqAcctS a b) := by
  unfold laws_eqAcctS
  exact
   Pn.ite (fun h1 =>
    Pn.some (Fn.of [.wait 3, .nm 7 (V.sc (.int .i64 (a.length : Int))), .wait 2, .nm 9 (V.sc (.int .i64 (b.length : Int))), .bit true] (p := [V.sc (.int .i64 ((List.map E48 a).length : Int)) = V.sc (.int .i64 (a.length : Int)),
     V.sc (.int .i64 ((List.map E48 b).length : Int)) = V.sc (.int .i64 (b.length : Int)),
     ((a.length : Int) != (b.length : Int)) = true]) (by kernel_rfl) (cj (len_nm _ _) (cj (len_nm _ _) (cj1 h1))))) (fun h1 =>
    Pn.ite (fun h7 =>
     Pn.bind (fun r2 h8 =>
      Pn.lo (fun s1 h9 =>
       Pn.some (Fn.of [.wait 3, .nm 7 (V.sc (.int .i64 (a.length : Int))), .wait 2, .nm 9 (V.sc (.int .i64 (b.length : Int))), .bit false, .wait 1, .mask [0, 1, 5], .ren [], .loop (X.out 0) (st 27 [] [] [])] (p := [V.sc (.int .i64 ((List.map E48 a).length : Int)) = V.sc (.int .i64 (a.length : Int)),
        V.sc (.int .i64 ((List.map E48 b).length : Int)) = V.sc (.int .i64 (b.length : Int)),
        ((a.length : Int) != (b.length : Int)) = false,
        Loop Tryz.prog (sub (codeOf Tryz.prog 44) [1, 1, 0, 1, 0, 0]) (st 27 [(0, V.sl false 48 (List.map E48 a)), (1, V.sl false 48 (List.map E48 b)), (5, V.sc (.int .i64 0))] [] []) (X.out 0) (st 27 [] [] [])]) (by kernel_rfl) (cj (len_nm _ _) (cj (len_nm _ _) (cj h1 (cj1 ((laws_eqAcctS_l0_ok a b h7 a [] rfl r2 h8).at h9))))))) (fun s2 h10 =>
       Pn.some (Fn.of [.wait 3, .nm 7 (V.sc (.int .i64 (a.length : Int))), .wait 2, .nm 9 (V.sc (.int .i64 (b.length : Int))), .bit false, .wait 1, .mask [0, 1, 5], .ren [], .loop (X.ret) (st 27 [(4, V.sc (.bool false))] [] [])] (p := [V.sc (.int .i64 ((List.map E48 a).length : Int)) = V.sc (.int .i64 (a.length : Int)),
        V.sc (.int .i64 ((List.map E48 b).length : Int)) = V.sc (.int .i64 (b.length : Int)),
        ((a.length : Int) != (b.length : Int)) = false,
        Loop Tryz.prog (sub (codeOf Tryz.prog 44) [1, 1, 0, 1, 0, 0]) (st 27 [(0, V.sl false 48 (List.map E48 a)), (1, V.sl false 48 (List.map E48 b)), (5, V.sc (.int .i64 0))] [] []) (X.ret) (st 27 [(4, V.sc (.bool false))] [] [])]) (by kernel_rfl) (cj (len_nm _ _) (cj (len_nm _ _) (cj h1 (cj1 ((laws_eqAcctS_l0_ok a b h7 a [] rfl r2 h8).at h10))))))))) (fun h7 =>
     Pn.none))
def laws_eqBook (a : Book) (b : Book) : Option (Bool) :=
 (laws_eqAcctS a.Accts b.Accts).bind fun r1 =>
 if r1 = true then
  some true
 else
  some false
theorem laws_eqBook_ok (a : Book) (b : Book) : Pn (fun y => Fn Tryz.prog 13 [(false, E28 a), (false, E28 b)] (E4 y) []) (laws_eqBook a b) := by
  unfold laws_eqBook
  exact
   Pn.bind (fun r1 h1 =>
    Pn.ite (fun h2 =>
     Pn.some (Fn.of [.call [] (E4 r1) [], .bit false] (p := [Fn Tryz.prog 44 [(false, E26 a.Accts), (false, E26 b.Accts)] (E4 r1) [],
      (true || ((E4 r1).nv && nvL [])) = true,
      (!r1) = false]) (by kernel_rfl) (cj (laws_eqAcctS_ok a.Accts b.Accts r1 h1) (cj rfl (cj1 (nf h2)))))) (fun h2 =>
     Pn.some (Fn.of [.call [] (E4 r1) [], .bit true] (p := [Fn Tryz.prog 44 [(false, E26 a.Accts), (false, E26 b.Accts)] (E4 r1) [],
      (true || ((E4 r1).nv && nvL [])) = true,
      (!r1) = true]) (by kernel_rfl) (cj (laws_eqAcctS_ok a.Accts b.Accts r1 h1) (cj rfl (cj1 (nt h2)))))))
def laws_eqStripe (a : Stripe) (b : Stripe) : Option (Bool) :=
 if (a.Owner != b.Owner) = true then
  some false
 else
  (laws_eqAcctS a.Accts b.Accts).bind fun r1 =>
  if r1 = true then
   some true
  else
   some false
theorem laws_eqStripe_ok (a : Stripe) (b : Stripe) : Pn (fun y => Fn Tryz.prog 77 [(false, E102 a), (false, E102 b)] (E4 y) []) (laws_eqStripe a b) := by
  unfold laws_eqStripe
  exact
   Pn.ite (fun h1 =>
    Pn.some (Fn.of [.bit true] (p := [(a.Owner != b.Owner) = true]) (by kernel_rfl) (cj1 h1))) (fun h1 =>
    Pn.bind (fun r1 h2 =>
     Pn.ite (fun h3 =>
      Pn.some (Fn.of [.bit false, .call [] (E4 r1) [], .bit false] (p := [(a.Owner != b.Owner) = false,
       Fn Tryz.prog 44 [(false, E26 a.Accts), (false, E26 b.Accts)] (E4 r1) [],
       (true || ((E4 r1).nv && nvL [])) = true,
       (!r1) = false]) (by kernel_rfl) (cj h1 (cj (laws_eqAcctS_ok a.Accts b.Accts r1 h2) (cj rfl (cj1 (nf h3))))))) (fun h3 =>
      Pn.some (Fn.of [.bit false, .call [] (E4 r1) [], .bit true] (p := [(a.Owner != b.Owner) = false,
       Fn Tryz.prog 44 [(false, E26 a.Accts), (false, E26 b.Accts)] (E4 r1) [],
       (true || ((E4 r1).nv && nvL [])) = true,
       (!r1) = true]) (by kernel_rfl) (cj h1 (cj (laws_eqAcctS_ok a.Accts b.Accts r1 h2) (cj rfl (cj1 (nt h3)))))))))
def laws_eqStripeS_l0 (a : List Stripe) (b : List Stripe) : List Stripe → List Stripe → Option (Lo Unit Unit)
  | [], p1 =>
   some (.out ())
  | x1 :: t1, p1 =>
   (b[(p1.length : Int).toNat]?).bind fun x2 =>
   (laws_eqStripe x1 x2).bind fun r1 =>
   if r1 = true then
    laws_eqStripeS_l0 a b t1 (p1 ++ [x1])
   else
    some (.ret ())
theorem laws_eqStripeS_l0_ok (a : List Stripe) (b : List Stripe) (h3 : capOk a.length = true) : ∀ (t1 p1 : List Stripe) (_ : a = p1 ++ t1) , Pn (LpO Tryz.prog (sub (codeOf Tryz.prog 26) [1, 1, 0, 1, 0, 0]) (st 27 [(0, V.sl false 102 (List.map E102 a)), (1, V.sl false 102 (List.map E102 b)), (5, V.sc (.int .i64 (p1.length : Int)))] [] []) (fun (y : Lo Unit Unit) => Lo.elim y (fun s => (X.out 0, st 27 [] [] [])) (fun s => (X.ret, st 27 [(4, V.sc (.bool false))] [] [])))) (laws_eqStripeS_l0 a b t1 p1)
  | [], p1, h2 => by
    unfold laws_eqStripeS_l0
    exact
     Pn.some (LpO.out [.wait 3, .nm 13 (V.sc (.int .i64 (a.length : Int))), .bit false, .mask [], .ren []] (p := [V.sc (.int .i64 ((List.map E102 a).length : Int)) = V.sc (.int .i64 (a.length : Int)),
      (decide ((p1.length : Int) < (a.length : Int))) = false]) (by kernel_rfl) (show X.out 0 ≠ X.go from nofun) (cj (len_nm _ _) (cj1 (rng_end h2))))
  | x1 :: t1, p1, h2 => by
    unfold laws_eqStripeS_l0
    exact
     Pn.bind (fun x2 h4 =>
      Pn.bind (fun r1 h5 =>
       Pn.ite (fun h6 =>
        LpO.go [.wait 3, .nm 13 (V.sc (.int .i64 (a.length : Int))), .bit true, .draw [], .el (E102 x1), .el (E102 x2), .call [] (E4 r1) [], .bit false, .wait 3, .mask [0, 1, 5], .ren [], .nm 5 (V.sc (.int .i64 ((p1 ++ [x1]).length : Int)))] (p := [V.sc (.int .i64 ((List.map E102 a).length : Int)) = V.sc (.int .i64 (a.length : Int)),
         (decide ((p1.length : Int) < (a.length : Int))) = true,
         (0 : Int) ≤ (p1.length : Int),
         (List.map E102 a)[(p1.length : Int).toNat]? = some (E102 x1),
         (0 : Int) ≤ (p1.length : Int),
         (List.map E102 b)[(p1.length : Int).toNat]? = some (E102 x2),
         Fn Tryz.prog 77 [(false, E102 x1), (false, E102 x2)] (E4 r1) [],
         (true || ((E4 r1).nv && nvL [])) = true,
         (!r1) = false,
         V.sc (.int .i64 (i64 ((p1.length : Int) + 1))) = V.sc (.int .i64 ((p1 ++ [x1]).length : Int))]) (by kernel_rfl) (cj (len_nm _ _) (cj (rng_lt h2) (cj (by omega) (cj (rng_get _ h2) (cj (by omega) (cj (map_get h4) (cj (laws_eqStripe_ok x1 x2 r1 h5) (cj rfl (cj (nf h6) (cj1 (rng_next h2 h3))))))))))) (laws_eqStripeS_l0_ok a b h3 t1 (p1 ++ [x1]) (rng_step h2))) (fun h6 =>
        Pn.some (LpO.out [.wait 3, .nm 13 (V.sc (.int .i64 (a.length : Int))), .bit true, .draw [], .el (E102 x1), .el (E102 x2), .call [] (E4 r1) [], .bit true, .wait 1, .mask [4], .ren []] (p := [V.sc (.int .i64 ((List.map E102 a).length : Int)) = V.sc (.int .i64 (a.length : Int)),
         (decide ((p1.length : Int) < (a.length : Int))) = true,
         (0 : Int) ≤ (p1.length : Int),
         (List.map E102 a)[(p1.length : Int).toNat]? = some (E102 x1),
         (0 : Int) ≤ (p1.length : Int),
         (List.map E102 b)[(p1.length : Int).toNat]? = some (E102 x2),
         Fn Tryz.prog 77 [(false, E102 x1), (false, E102 x2)] (E4 r1) [],
         (true || ((E4 r1).nv && nvL [])) = true,
         (!r1) = true]) (by kernel_rfl) (show X.ret ≠ X.go from nofun) (cj (len_nm _ _) (cj (rng_lt h2) (cj (by omega) (cj (rng_get _ h2) (cj (by omega) (cj (map_get h4) (cj (laws_eqStripe_ok x1 x2 r1 h5) (cj rfl (cj1 (nt h6))))))))))))))
def laws_eqStripeS (a : List Stripe) (b : List Stripe) : Option (Bool) :=
 if ((a.length : Int) != (b.length : Int)) = true then
  some false
 else
  if (capOk a.length) = true then
   (laws_eqStripeS_l0 a b a []).bind fun r2 =>
   Lo.elim r2 (fun s1 =>
    some true) (fun s2 =>
    some false)
  else none
theorem laws_eqStripeS_ok (a : List Stripe) (b : List Stripe) : Pn (fun y => Fn Tryz.prog 26 [(false, E56 a), (false, E56 b)] (E4 y) []) (laws_eqStripeS a b) := by
  unfold laws_eqStripeS
  exact
   Pn.ite (fun h1 =>
    Pn.some (Fn.of [.wait 3, .nm 7 (V.sc (.int .i64 (a.length : Int))), .wait 2, .nm 9 (V.sc (.int .i64 (b.length : Int))), .bit true] (p := [V.sc (.int .i64 ((List.map E102 a).length : Int)) = V.sc (.int .i64 (a.length : Int)),
     V.sc (.int .i64 ((List.map E102 b).length : Int)) = V.sc (.int .i64 (b.length : Int)),
     ((a.length : Int) != (b.length : Int)) = true]) (by kernel_rfl) (cj (len_nm _ _) (cj (len_nm _ _) (cj1 h1))))) (fun h1 =>
    Pn.ite (fun h7 =>
     Pn.bind (fun r2 h8 =>
      Pn.lo (fun s1 h9 =>
       Pn.some (Fn.of [.wait 3, .nm 7 (V.sc (.int .i64 (a.length : Int))), .wait 2, .nm 9 (V.sc (.int .i64 (b.length : Int))), .bit false, .wait 1, .mask [0, 1, 5], .ren [], .loop (X.out 0) (st 27 [] [] [])] (p := [V.sc (.int .i64 ((List.map E102 a).length : Int)) = V.sc (.int .i64 (a.length : Int)),
        V.sc (.int .i64 ((List.map E102 b).length : Int)) = V.sc (.int .i64 (b.length : Int)),
        ((a.length : Int) != (b.length : Int)) = false,
        Loop Tryz.prog (sub (codeOf Tryz.prog 26) [1, 1, 0, 1, 0, 0]) (st 27 [(0, V.sl false 102 (List.map E102 a)), (1, V.sl false 102 (List.map E102 b)), (5, V.sc (.int .i64 0))] [] []) (X.out 0) (st 27 [] [] [])]) (by kernel_rfl) (cj (len_nm _ _) (cj (len_nm _ _) (cj h1 (cj1 ((laws_eqStripeS_l0_ok a b h7 a [] rfl r2 h8).at h9))))))) (fun s2 h10 =>
       Pn.some (Fn.of [.wait 3, .nm 7 (V.sc (.int .i64 (a.length : Int))), .wait 2, .nm 9 (V.sc (.int .i64 (b.length : Int))), .bit false, .wait 1, .mask [0, 1, 5], .ren [], .loop (X.ret) (st 27 [(4, V.sc (.bool false))] [] [])] (p := [V.sc (.int .i64 ((List.map E102 a).length : Int)) = V.sc (.int .i64 (a.length : Int)),
        V.sc (.int .i64 ((List.map E102 b).length : Int)) = V.sc (.int .i64 (b.length : Int)),
        ((a.length : Int) != (b.length : Int)) = false,
        Loop Tryz.prog (sub (codeOf Tryz.prog 26) [1, 1, 0, 1, 0, 0]) (st 27 [(0, V.sl false 102 (List.map E102 a)), (1, V.sl false 102 (List.map E102 b)), (5, V.sc (.int .i64 0))] [] []) (X.ret) (st 27 [(4, V.sc (.bool false))] [] [])]) (by kernel_rfl) (cj (len_nm _ _) (cj (len_nm _ _) (cj h1 (cj1 ((laws_eqStripeS_l0_ok a b h7 a [] rfl r2 h8).at h10))))))))) (fun h7 =>
     Pn.none))
def laws_eqTask (a : Task) (b : Task) : Option (Bool) :=
 (laws_eqByteS a.Data b.Data).bind fun r1 =>
 if r1 = true then
  if (a.Pc != b.Pc) = true then
   some false
  else
   (laws_eqIntS a.Set b.Set).bind fun r2 =>
   if r2 = true then
    if (a.Held != b.Held) = true then
     some false
    else
     if (a.Inv != b.Inv) = true then
      some false
     else
      if (a.Lin != b.Lin) = true then
       some false
      else
       if (a.Res != b.Res) = true then
        some false
       else
        if (a.At != b.At) = true then
         some false
        else
         (laws_eqByteS a.Reply b.Reply).bind fun r3 =>
         if r3 = true then
          some true
         else
          some false
   else
    some false
 else
  some false
theorem laws_eqTask_ok (a : Task) (b : Task) : Pn (fun y => Fn Tryz.prog 157 [(false, E163 a), (false, E163 b)] (E4 y) []) (laws_eqTask a b) := by
  unfold laws_eqTask
  exact
   Pn.bind (fun r1 h1 =>
    Pn.ite (fun h2 =>
     Pn.ite (fun h3 =>
      Pn.some (Fn.of [.call [] (E4 r1) [], .bit false, .bit true] (p := [Fn Tryz.prog 154 [(false, E118 a.Data), (false, E118 b.Data)] (E4 r1) [],
       (true || ((E4 r1).nv && nvL [])) = true,
       (!r1) = false,
       (a.Pc != b.Pc) = true]) (by kernel_rfl) (cj (laws_eqByteS_ok a.Data b.Data r1 h1) (cj rfl (cj (nf h2) (cj1 h3)))))) (fun h3 =>
      Pn.bind (fun r2 h4 =>
       Pn.ite (fun h5 =>
        Pn.ite (fun h6 =>
         Pn.some (Fn.of [.call [] (E4 r1) [], .bit false, .bit false, .call [] (E4 r2) [], .bit false, .bit true] (p := [Fn Tryz.prog 154 [(false, E118 a.Data), (false, E118 b.Data)] (E4 r1) [],
          (true || ((E4 r1).nv && nvL [])) = true,
          (!r1) = false,
          (a.Pc != b.Pc) = false,
          Fn Tryz.prog 123 [(false, E35 a.Set), (false, E35 b.Set)] (E4 r2) [],
          (true || ((E4 r2).nv && nvL [])) = true,
          (!r2) = false,
          (a.Held != b.Held) = true]) (by kernel_rfl) (cj (laws_eqByteS_ok a.Data b.Data r1 h1) (cj rfl (cj (nf h2) (cj h3 (cj (laws_eqIntS_ok a.Set b.Set r2 h4) (cj rfl (cj (nf h5) (cj1 h6)))))))))) (fun h6 =>
         Pn.ite (fun h7 =>
          Pn.some (Fn.of [.call [] (E4 r1) [], .bit false, .bit false, .call [] (E4 r2) [], .bit false, .bit false, .bit true] (p := [Fn Tryz.prog 154 [(false, E118 a.Data), (false, E118 b.Data)] (E4 r1) [],
           (true || ((E4 r1).nv && nvL [])) = true,
           (!r1) = false,
           (a.Pc != b.Pc) = false,
           Fn Tryz.prog 123 [(false, E35 a.Set), (false, E35 b.Set)] (E4 r2) [],
           (true || ((E4 r2).nv && nvL [])) = true,
           (!r2) = false,
           (a.Held != b.Held) = false,
           (a.Inv != b.Inv) = true]) (by kernel_rfl) (cj (laws_eqByteS_ok a.Data b.Data r1 h1) (cj rfl (cj (nf h2) (cj h3 (cj (laws_eqIntS_ok a.Set b.Set r2 h4) (cj rfl (cj (nf h5) (cj h6 (cj1 h7))))))))))) (fun h7 =>
          Pn.ite (fun h8 =>
           Pn.some (Fn.of [.call [] (E4 r1) [], .bit false, .bit false, .call [] (E4 r2) [], .bit false, .bit false, .bit false, .bit true] (p := [Fn Tryz.prog 154 [(false, E118 a.Data), (false, E118 b.Data)] (E4 r1) [],
            (true || ((E4 r1).nv && nvL [])) = true,
            (!r1) = false,
            (a.Pc != b.Pc) = false,
            Fn Tryz.prog 123 [(false, E35 a.Set), (false, E35 b.Set)] (E4 r2) [],
            (true || ((E4 r2).nv && nvL [])) = true,
            (!r2) = false,
            (a.Held != b.Held) = false,
            (a.Inv != b.Inv) = false,
            (a.Lin != b.Lin) = true]) (by kernel_rfl) (cj (laws_eqByteS_ok a.Data b.Data r1 h1) (cj rfl (cj (nf h2) (cj h3 (cj (laws_eqIntS_ok a.Set b.Set r2 h4) (cj rfl (cj (nf h5) (cj h6 (cj h7 (cj1 h8)))))))))))) (fun h8 =>
           Pn.ite (fun h9 =>
            Pn.some (Fn.of [.call [] (E4 r1) [], .bit false, .bit false, .call [] (E4 r2) [], .bit false, .bit false, .bit false, .bit false, .bit true] (p := [Fn Tryz.prog 154 [(false, E118 a.Data), (false, E118 b.Data)] (E4 r1) [],
             (true || ((E4 r1).nv && nvL [])) = true,
             (!r1) = false,
             (a.Pc != b.Pc) = false,
             Fn Tryz.prog 123 [(false, E35 a.Set), (false, E35 b.Set)] (E4 r2) [],
             (true || ((E4 r2).nv && nvL [])) = true,
             (!r2) = false,
             (a.Held != b.Held) = false,
             (a.Inv != b.Inv) = false,
             (a.Lin != b.Lin) = false,
             (a.Res != b.Res) = true]) (by kernel_rfl) (cj (laws_eqByteS_ok a.Data b.Data r1 h1) (cj rfl (cj (nf h2) (cj h3 (cj (laws_eqIntS_ok a.Set b.Set r2 h4) (cj rfl (cj (nf h5) (cj h6 (cj h7 (cj h8 (cj1 h9))))))))))))) (fun h9 =>
            Pn.ite (fun h10 =>
             Pn.some (Fn.of [.call [] (E4 r1) [], .bit false, .bit false, .call [] (E4 r2) [], .bit false, .bit false, .bit false, .bit false, .bit false, .bit true] (p := [Fn Tryz.prog 154 [(false, E118 a.Data), (false, E118 b.Data)] (E4 r1) [],
              (true || ((E4 r1).nv && nvL [])) = true,
              (!r1) = false,
              (a.Pc != b.Pc) = false,
              Fn Tryz.prog 123 [(false, E35 a.Set), (false, E35 b.Set)] (E4 r2) [],
              (true || ((E4 r2).nv && nvL [])) = true,
              (!r2) = false,
              (a.Held != b.Held) = false,
              (a.Inv != b.Inv) = false,
              (a.Lin != b.Lin) = false,
              (a.Res != b.Res) = false,
              (a.At != b.At) = true]) (by kernel_rfl) (cj (laws_eqByteS_ok a.Data b.Data r1 h1) (cj rfl (cj (nf h2) (cj h3 (cj (laws_eqIntS_ok a.Set b.Set r2 h4) (cj rfl (cj (nf h5) (cj h6 (cj h7 (cj h8 (cj h9 (cj1 h10)))))))))))))) (fun h10 =>
             Pn.bind (fun r3 h11 =>
              Pn.ite (fun h12 =>
               Pn.some (Fn.of [.call [] (E4 r1) [], .bit false, .bit false, .call [] (E4 r2) [], .bit false, .bit false, .bit false, .bit false, .bit false, .bit false, .call [] (E4 r3) [], .bit false] (p := [Fn Tryz.prog 154 [(false, E118 a.Data), (false, E118 b.Data)] (E4 r1) [],
                (true || ((E4 r1).nv && nvL [])) = true,
                (!r1) = false,
                (a.Pc != b.Pc) = false,
                Fn Tryz.prog 123 [(false, E35 a.Set), (false, E35 b.Set)] (E4 r2) [],
                (true || ((E4 r2).nv && nvL [])) = true,
                (!r2) = false,
                (a.Held != b.Held) = false,
                (a.Inv != b.Inv) = false,
                (a.Lin != b.Lin) = false,
                (a.Res != b.Res) = false,
                (a.At != b.At) = false,
                Fn Tryz.prog 154 [(false, E118 a.Reply), (false, E118 b.Reply)] (E4 r3) [],
                (true || ((E4 r3).nv && nvL [])) = true,
                (!r3) = false]) (by kernel_rfl) (cj (laws_eqByteS_ok a.Data b.Data r1 h1) (cj rfl (cj (nf h2) (cj h3 (cj (laws_eqIntS_ok a.Set b.Set r2 h4) (cj rfl (cj (nf h5) (cj h6 (cj h7 (cj h8 (cj h9 (cj h10 (cj (laws_eqByteS_ok a.Reply b.Reply r3 h11) (cj rfl (cj1 (nf h12)))))))))))))))))) (fun h12 =>
               Pn.some (Fn.of [.call [] (E4 r1) [], .bit false, .bit false, .call [] (E4 r2) [], .bit false, .bit false, .bit false, .bit false, .bit false, .bit false, .call [] (E4 r3) [], .bit true] (p := [Fn Tryz.prog 154 [(false, E118 a.Data), (false, E118 b.Data)] (E4 r1) [],
                (true || ((E4 r1).nv && nvL [])) = true,
                (!r1) = false,
                (a.Pc != b.Pc) = false,
                Fn Tryz.prog 123 [(false, E35 a.Set), (false, E35 b.Set)] (E4 r2) [],
                (true || ((E4 r2).nv && nvL [])) = true,
                (!r2) = false,
                (a.Held != b.Held) = false,
                (a.Inv != b.Inv) = false,
                (a.Lin != b.Lin) = false,
                (a.Res != b.Res) = false,
                (a.At != b.At) = false,
                Fn Tryz.prog 154 [(false, E118 a.Reply), (false, E118 b.Reply)] (E4 r3) [],
                (true || ((E4 r3).nv && nvL [])) = true,
                (!r3) = true]) (by kernel_rfl) (cj (laws_eqByteS_ok a.Data b.Data r1 h1) (cj rfl (cj (nf h2) (cj h3 (cj (laws_eqIntS_ok a.Set b.Set r2 h4) (cj rfl (cj (nf h5) (cj h6 (cj h7 (cj h8 (cj h9 (cj h10 (cj (laws_eqByteS_ok a.Reply b.Reply r3 h11) (cj rfl (cj1 (nt h12))))))))))))))))))))))))) (fun h5 =>
        Pn.some (Fn.of [.call [] (E4 r1) [], .bit false, .bit false, .call [] (E4 r2) [], .bit true] (p := [Fn Tryz.prog 154 [(false, E118 a.Data), (false, E118 b.Data)] (E4 r1) [],
         (true || ((E4 r1).nv && nvL [])) = true,
         (!r1) = false,
         (a.Pc != b.Pc) = false,
         Fn Tryz.prog 123 [(false, E35 a.Set), (false, E35 b.Set)] (E4 r2) [],
         (true || ((E4 r2).nv && nvL [])) = true,
         (!r2) = true]) (by kernel_rfl) (cj (laws_eqByteS_ok a.Data b.Data r1 h1) (cj rfl (cj (nf h2) (cj h3 (cj (laws_eqIntS_ok a.Set b.Set r2 h4) (cj rfl (cj1 (nt h5))))))))))))) (fun h2 =>
     Pn.some (Fn.of [.call [] (E4 r1) [], .bit true] (p := [Fn Tryz.prog 154 [(false, E118 a.Data), (false, E118 b.Data)] (E4 r1) [],
      (true || ((E4 r1).nv && nvL [])) = true,
      (!r1) = true]) (by kernel_rfl) (cj (laws_eqByteS_ok a.Data b.Data r1 h1) (cj rfl (cj1 (nt h2)))))))
def laws_eqTaskS_l0 (a : List Task) (b : List Task) : List Task → List Task → Option (Lo Unit Unit)
  | [], p1 =>
   some (.out ())
  | x1 :: t1, p1 =>
   (b[(p1.length : Int).toNat]?).bind fun x2 =>
   (laws_eqTask x1 x2).bind fun r1 =>
   if r1 = true then
    laws_eqTaskS_l0 a b t1 (p1 ++ [x1])
   else
    some (.ret ())
theorem laws_eqTaskS_l0_ok (a : List Task) (b : List Task) (h3 : capOk a.length = true) : ∀ (t1 p1 : List Task) (_ : a = p1 ++ t1) , Pn (LpO Tryz.prog (sub (codeOf Tryz.prog 132) [1, 1, 0, 1, 0, 0]) (st 27 [(0, V.sl false 163 (List.map E163 a)), (1, V.sl false 163 (List.map E163 b)), (5, V.sc (.int .i64 (p1.length : Int)))] [] []) (fun (y : Lo Unit Unit) => Lo.elim y (fun s => (X.out 0, st 27 [] [] [])) (fun s => (X.ret, st 27 [(4, V.sc (.bool false))] [] [])))) (laws_eqTaskS_l0 a b t1 p1)
  | [], p1, h2 => by
    unfold laws_eqTaskS_l0
    exact
     Pn.some (LpO.out [.wait 3, .nm 13 (V.sc (.int .i64 (a.length : Int))), .bit false, .mask [], .ren []] (p := [V.sc (.int .i64 ((List.map E163 a).length : Int)) = V.sc (.int .i64 (a.length : Int)),
      (decide ((p1.length : Int) < (a.length : Int))) = false]) (by kernel_rfl) (show X.out 0 ≠ X.go from nofun) (cj (len_nm _ _) (cj1 (rng_end h2))))
  | x1 :: t1, p1, h2 => by
    unfold laws_eqTaskS_l0
    exact
     Pn.bind (fun x2 h4 =>
      Pn.bind (fun r1 h5 =>
       Pn.ite (fun h6 =>
        LpO.go [.wait 3, .nm 13 (V.sc (.int .i64 (a.length : Int))), .bit true, .draw [], .el (E163 x1), .el (E163 x2), .call [] (E4 r1) [], .bit false, .wait 3, .mask [0, 1, 5], .ren [], .nm 5 (V.sc (.int .i64 ((p1 ++ [x1]).length : Int)))] (p := [V.sc (.int .i64 ((List.map E163 a).length : Int)) = V.sc (.int .i64 (a.length : Int)),
         (decide ((p1.length : Int) < (a.length : Int))) = true,
         (0 : Int) ≤ (p1.length : Int),
         (List.map E163 a)[(p1.length : Int).toNat]? = some (E163 x1),
         (0 : Int) ≤ (p1.length : Int),
         (List.map E163 b)[(p1.length : Int).toNat]? = some (E163 x2),
         Fn Tryz.prog 157 [(false, E163 x1), (false, E163 x2)] (E4 r1) [],
         (true || ((E4 r1).nv && nvL [])) = true,
         (!r1) = false,
         V.sc (.int .i64 (i64 ((p1.length : Int) + 1))) = V.sc (.int .i64 ((p1 ++ [x1]).length : Int))]) (by kernel_rfl) (cj (len_nm _ _) (cj (rng_lt h2) (cj (by omega) (cj (rng_get _ h2) (cj (by omega) (cj (map_get h4) (cj (laws_eqTask_ok x1 x2 r1 h5) (cj rfl (cj (nf h6) (cj1 (rng_next h2 h3))))))))))) (laws_eqTaskS_l0_ok a b h3 t1 (p1 ++ [x1]) (rng_step h2))) (fun h6 =>
        Pn.some (LpO.out [.wait 3, .nm 13 (V.sc (.int .i64 (a.length : Int))), .bit true, .draw [], .el (E163 x1), .el (E163 x2), .call [] (E4 r1) [], .bit true, .wait 1, .mask [4], .ren []] (p := [V.sc (.int .i64 ((List.map E163 a).length : Int)) = V.sc (.int .i64 (a.length : Int)),
         (decide ((p1.length : Int) < (a.length : Int))) = true,
         (0 : Int) ≤ (p1.length : Int),
         (List.map E163 a)[(p1.length : Int).toNat]? = some (E163 x1),
         (0 : Int) ≤ (p1.length : Int),
         (List.map E163 b)[(p1.length : Int).toNat]? = some (E163 x2),
         Fn Tryz.prog 157 [(false, E163 x1), (false, E163 x2)] (E4 r1) [],
         (true || ((E4 r1).nv && nvL [])) = true,
         (!r1) = true]) (by kernel_rfl) (show X.ret ≠ X.go from nofun) (cj (len_nm _ _) (cj (rng_lt h2) (cj (by omega) (cj (rng_get _ h2) (cj (by omega) (cj (map_get h4) (cj (laws_eqTask_ok x1 x2 r1 h5) (cj rfl (cj1 (nt h6))))))))))))))
def laws_eqTaskS (a : List Task) (b : List Task) : Option (Bool) :=
 if ((a.length : Int) != (b.length : Int)) = true then
  some false
 else
  if (capOk a.length) = true then
   (laws_eqTaskS_l0 a b a []).bind fun r2 =>
   Lo.elim r2 (fun s1 =>
    some true) (fun s2 =>
    some false)
  else none
theorem laws_eqTaskS_ok (a : List Task) (b : List Task) : Pn (fun y => Fn Tryz.prog 132 [(false, E62 a), (false, E62 b)] (E4 y) []) (laws_eqTaskS a b) := by
  unfold laws_eqTaskS
  exact
   Pn.ite (fun h1 =>
    Pn.some (Fn.of [.wait 3, .nm 7 (V.sc (.int .i64 (a.length : Int))), .wait 2, .nm 9 (V.sc (.int .i64 (b.length : Int))), .bit true] (p := [V.sc (.int .i64 ((List.map E163 a).length : Int)) = V.sc (.int .i64 (a.length : Int)),
     V.sc (.int .i64 ((List.map E163 b).length : Int)) = V.sc (.int .i64 (b.length : Int)),
     ((a.length : Int) != (b.length : Int)) = true]) (by kernel_rfl) (cj (len_nm _ _) (cj (len_nm _ _) (cj1 h1))))) (fun h1 =>
    Pn.ite (fun h7 =>
     Pn.bind (fun r2 h8 =>
      Pn.lo (fun s1 h9 =>
       Pn.some (Fn.of [.wait 3, .nm 7 (V.sc (.int .i64 (a.length : Int))), .wait 2, .nm 9 (V.sc (.int .i64 (b.length : Int))), .bit false, .wait 1, .mask [0, 1, 5], .ren [], .loop (X.out 0) (st 27 [] [] [])] (p := [V.sc (.int .i64 ((List.map E163 a).length : Int)) = V.sc (.int .i64 (a.length : Int)),
        V.sc (.int .i64 ((List.map E163 b).length : Int)) = V.sc (.int .i64 (b.length : Int)),
        ((a.length : Int) != (b.length : Int)) = false,
        Loop Tryz.prog (sub (codeOf Tryz.prog 132) [1, 1, 0, 1, 0, 0]) (st 27 [(0, V.sl false 163 (List.map E163 a)), (1, V.sl false 163 (List.map E163 b)), (5, V.sc (.int .i64 0))] [] []) (X.out 0) (st 27 [] [] [])]) (by kernel_rfl) (cj (len_nm _ _) (cj (len_nm _ _) (cj h1 (cj1 ((laws_eqTaskS_l0_ok a b h7 a [] rfl r2 h8).at h9))))))) (fun s2 h10 =>
       Pn.some (Fn.of [.wait 3, .nm 7 (V.sc (.int .i64 (a.length : Int))), .wait 2, .nm 9 (V.sc (.int .i64 (b.length : Int))), .bit false, .wait 1, .mask [0, 1, 5], .ren [], .loop (X.ret) (st 27 [(4, V.sc (.bool false))] [] [])] (p := [V.sc (.int .i64 ((List.map E163 a).length : Int)) = V.sc (.int .i64 (a.length : Int)),
        V.sc (.int .i64 ((List.map E163 b).length : Int)) = V.sc (.int .i64 (b.length : Int)),
        ((a.length : Int) != (b.length : Int)) = false,
        Loop Tryz.prog (sub (codeOf Tryz.prog 132) [1, 1, 0, 1, 0, 0]) (st 27 [(0, V.sl false 163 (List.map E163 a)), (1, V.sl false 163 (List.map E163 b)), (5, V.sc (.int .i64 0))] [] []) (X.ret) (st 27 [(4, V.sc (.bool false))] [] [])]) (by kernel_rfl) (cj (len_nm _ _) (cj (len_nm _ _) (cj h1 (cj1 ((laws_eqTaskS_l0_ok a b h7 a [] rfl r2 h8).at h10))))))))) (fun h7 =>
     Pn.none))
def laws_eqWorld (a : World) (b : World) : Option (Bool) :=
 (laws_eqStripeS a.Stripes b.Stripes).bind fun r1 =>
 if r1 = true then
  if (a.Now != b.Now) = true then
   some false
  else
   if (a.Step != b.Step) = true then
    some false
   else
    (laws_eqTaskS a.Tasks b.Tasks).bind fun r2 =>
    if r2 = true then
     some true
    else
     some false
 else
  some false
theorem laws_eqWorld_ok (a : World) (b : World) : Pn (fun y => Fn Tryz.prog 83 [(false, E64 a), (false, E64 b)] (E4 y) []) (laws_eqWorld a b) := by
  unfold laws_eqWorld
  exact
   Pn.bind (fun r1 h1 =>
    Pn.ite (fun h2 =>
     Pn.ite (fun h3 =>
      Pn.some (Fn.of [.call [] (E4 r1) [], .bit false, .bit true] (p := [Fn Tryz.prog 26 [(false, E56 a.Stripes), (false, E56 b.Stripes)] (E4 r1) [],
       (true || ((E4 r1).nv && nvL [])) = true,
       (!r1) = false,
       (a.Now != b.Now) = true]) (by kernel_rfl) (cj (laws_eqStripeS_ok a.Stripes b.Stripes r1 h1) (cj rfl (cj (nf h2) (cj1 h3)))))) (fun h3 =>
      Pn.ite (fun h4 =>
       Pn.some (Fn.of [.call [] (E4 r1) [], .bit false, .bit false, .bit true] (p := [Fn Tryz.prog 26 [(false, E56 a.Stripes), (false, E56 b.Stripes)] (E4 r1) [],
        (true || ((E4 r1).nv && nvL [])) = true,
        (!r1) = false,
        (a.Now != b.Now) = false,
        (a.Step != b.Step) = true]) (by kernel_rfl) (cj (laws_eqStripeS_ok a.Stripes b.Stripes r1 h1) (cj rfl (cj (nf h2) (cj h3 (cj1 h4))))))) (fun h4 =>
       Pn.bind (fun r2 h5 =>
        Pn.ite (fun h6 =>
         Pn.some (Fn.of [.call [] (E4 r1) [], .bit false, .bit false, .bit false, .call [] (E4 r2) [], .bit false] (p := [Fn Tryz.prog 26 [(false, E56 a.Stripes), (false, E56 b.Stripes)] (E4 r1) [],
          (true || ((E4 r1).nv && nvL [])) = true,
          (!r1) = false,
          (a.Now != b.Now) = false,
          (a.Step != b.Step) = false,
          Fn Tryz.prog 132 [(false, E62 a.Tasks), (false, E62 b.Tasks)] (E4 r2) [],
          (true || ((E4 r2).nv && nvL [])) = true,
          (!r2) = false]) (by kernel_rfl) (cj (laws_eqStripeS_ok a.Stripes b.Stripes r1 h1) (cj rfl (cj (nf h2) (cj h3 (cj h4 (cj (laws_eqTaskS_ok a.Tasks b.Tasks r2 h5) (cj rfl (cj1 (nf h6))))))))))) (fun h6 =>
         Pn.some (Fn.of [.call [] (E4 r1) [], .bit false, .bit false, .bit false, .call [] (E4 r2) [], .bit true] (p := [Fn Tryz.prog 26 [(false, E56 a.Stripes), (false, E56 b.Stripes)] (E4 r1) [],
          (true || ((E4 r1).nv && nvL [])) = true,
          (!r1) = false,
          (a.Now != b.Now) = false,
          (a.Step != b.Step) = false,
          Fn Tryz.prog 132 [(false, E62 a.Tasks), (false, E62 b.Tasks)] (E4 r2) [],
          (true || ((E4 r2).nv && nvL [])) = true,
          (!r2) = true]) (by kernel_rfl) (cj (laws_eqStripeS_ok a.Stripes b.Stripes r1 h1) (cj rfl (cj (nf h2) (cj h3 (cj h4 (cj (laws_eqTaskS_ok a.Tasks b.Tasks r2 h5) (cj rfl (cj1 (nt h6))))))))))))))) (fun h2 =>
     Pn.some (Fn.of [.call [] (E4 r1) [], .bit true] (p := [Fn Tryz.prog 26 [(false, E56 a.Stripes), (false, E56 b.Stripes)] (E4 r1) [],
      (true || ((E4 r1).nv && nvL [])) = true,
      (!r1) = true]) (by kernel_rfl) (cj (laws_eqStripeS_ok a.Stripes b.Stripes r1 h1) (cj rfl (cj1 (nt h2)))))))
def laws_eqDesk (a : Desk) (b : Desk) : Option (Bool) :=
 (laws_eqBook a.Book b.Book).bind fun r1 =>
 if r1 = true then
  if (a.Parts != b.Parts) = true then
   some false
  else
   (laws_eqWorld a.World b.World).bind fun r2 =>
   if r2 = true then
    some true
   else
    some false
 else
  some false
theorem laws_eqDesk_ok (a : Desk) (b : Desk) : Pn (fun y => Fn Tryz.prog 35 [(false, E66 a), (false, E66 b)] (E4 y) []) (laws_eqDesk a b) := by
  unfold laws_eqDesk
  exact
   Pn.bind (fun r1 h1 =>
    Pn.ite (fun h2 =>
     Pn.ite (fun h3 =>
      Pn.some (Fn.of [.call [] (E4 r1) [], .bit false, .bit true] (p := [Fn Tryz.prog 13 [(false, E28 a.Book), (false, E28 b.Book)] (E4 r1) [],
       (true || ((E4 r1).nv && nvL [])) = true,
       (!r1) = false,
       (a.Parts != b.Parts) = true]) (by kernel_rfl) (cj (laws_eqBook_ok a.Book b.Book r1 h1) (cj rfl (cj (nf h2) (cj1 h3)))))) (fun h3 =>
      Pn.bind (fun r2 h4 =>
       Pn.ite (fun h5 =>
        Pn.some (Fn.of [.call [] (E4 r1) [], .bit false, .bit false, .call [] (E4 r2) [], .bit false] (p := [Fn Tryz.prog 13 [(false, E28 a.Book), (false, E28 b.Book)] (E4 r1) [],
         (true || ((E4 r1).nv && nvL [])) = true,
         (!r1) = false,
         (a.Parts != b.Parts) = false,
         Fn Tryz.prog 83 [(false, E64 a.World), (false, E64 b.World)] (E4 r2) [],
         (true || ((E4 r2).nv && nvL [])) = true,
         (!r2) = false]) (by kernel_rfl) (cj (laws_eqBook_ok a.Book b.Book r1 h1) (cj rfl (cj (nf h2) (cj h3 (cj (laws_eqWorld_ok a.World b.World r2 h4) (cj rfl (cj1 (nf h5)))))))))) (fun h5 =>
        Pn.some (Fn.of [.call [] (E4 r1) [], .bit false, .bit false, .call [] (E4 r2) [], .bit true] (p := [Fn Tryz.prog 13 [(false, E28 a.Book), (false, E28 b.Book)] (E4 r1) [],
         (true || ((E4 r1).nv && nvL [])) = true,
         (!r1) = false,
         (a.Parts != b.Parts) = false,
         Fn Tryz.prog 83 [(false, E64 a.World), (false, E64 b.World)] (E4 r2) [],
         (true || ((E4 r2).nv && nvL [])) = true,
         (!r2) = true]) (by kernel_rfl) (cj (laws_eqBook_ok a.Book b.Book r1 h1) (cj rfl (cj (nf h2) (cj h3 (cj (laws_eqWorld_ok a.World b.World r2 h4) (cj rfl (cj1 (nt h5))))))))))))) (fun h2 =>
     Pn.some (Fn.of [.call [] (E4 r1) [], .bit true] (p := [Fn Tryz.prog 13 [(false, E28 a.Book), (false, E28 b.Book)] (E4 r1) [],
      (true || ((E4 r1).nv && nvL [])) = true,
      (!r1) = true]) (by kernel_rfl) (cj (laws_eqBook_ok a.Book b.Book r1 h1) (cj rfl (cj1 (nt h2)))))))
def laws_markText_l0  : Nat → Int → ByteArray → Option (ByteArray)
  | 0, _, _ => none
  | fuel + 1, v1, v2 =>
   if (decide (0 < v1)) = true then
    if (decide ((bstr [u8 (i64 (48 + (Int.tmod v1 10)))]).size + v2.size ≤ 9223372036854775807)) = true then
     laws_markText_l0 fuel (i64 (Int.tdiv v1 10)) ((bstr [u8 (i64 (48 + (Int.tmod v1 10)))]) ++ v2)
    else none
   else
    some v2
theorem laws_markText_l0_ok  : ∀ (fuel : Nat) (v1 : Int) (v2 : ByteArray), Pn (LpO Tryz.prog (sub (codeOf Tryz.prog 90) [1, 1, 1, 0, 0, 0]) (st 20 [(0, V.sc (.int .i64 v1)), (3, V.sc (.string v2))] [] []) (fun (y : ByteArray) => (X.out 0, st 20 [(3, V.sc (.string y))] [] []))) (laws_markText_l0 fuel v1 v2)
  | 0, _, _ => Pn.none
  | fuel + 1, v1, v2 => by
    unfold laws_markText_l0
    exact
     Pn.ite (fun h2 =>
      Pn.ite (fun h3 =>
       LpO.go [.bit true, .ints [u8 (i64 (48 + (Int.tmod v1 10)))], .wait 7, .mask [0, 3], .ren []] (p := [(decide (0 < v1)) = true,
        (10 : Int) ≠ 0,
        [V.sc (.int .u8 (u8 (i64 (48 + (Int.tmod v1 10)))))] = [u8 (i64 (48 + (Int.tmod v1 10)))].map fun n => V.sc (.int .u8 n),
        (bstr [u8 (i64 (48 + (Int.tmod v1 10)))]).size + v2.size ≤ 9223372036854775807,
        (10 : Int) ≠ 0]) (by kernel_rfl) (cj h2 (cj (by decide) (cj rfl (cj (od h3) (cj1 (by decide)))))) (laws_markText_l0_ok fuel (i64 (Int.tdiv v1 10)) ((bstr [u8 (i64 (48 + (Int.tmod v1 10)))]) ++ v2))) (fun h3 =>
       Pn.none)) (fun h2 =>
      Pn.some (LpO.out [.bit false, .mask [3], .ren []] (p := [(decide (0 < v1)) = false]) (by kernel_rfl) (show X.out 0 ≠ X.go from nofun) (cj1 h2)))
def laws_markText (k : Int) : Option (ByteArray) :=
 if (decide (k ≤ 0)) = true then
  some (bs [109, 48])
 else
  (laws_markText_l0 FUEL k (bs [])).bind fun r1 =>
  if (decide ((bs [109]).size + r1.size ≤ 9223372036854775807)) = true then
   some ((bs [109]) ++ r1)
  else none
theorem laws_markText_ok (k : Int) : Pn (fun y => Fn Tryz.prog 90 [(false, E3 k)] (E9 y) []) (laws_markText k) := by
  unfold laws_markText
  exact
   Pn.ite (fun h1 =>
    Pn.some (Fn.of [.bit true] (p := [(decide (k ≤ 0)) = true]) (by kernel_rfl) (cj1 h1))) (fun h1 =>
    Pn.bind (fun r1 h4 =>
     Pn.ite (fun h5 =>
      Pn.some (Fn.of [.bit false, .wait 1, .mask [0, 3], .ren [], .loop (X.out 0) (st 20 [(3, V.sc (.string r1))] [] [])] (p := [(decide (k ≤ 0)) = false,
       Loop Tryz.prog (sub (codeOf Tryz.prog 90) [1, 1, 1, 0, 0, 0]) (st 20 [(0, V.sc (.int .i64 k)), (3, V.sc (.string (bs [])))] [] []) (X.out 0) (st 20 [(3, V.sc (.string r1))] [] []),
       (bs [109]).size + r1.size ≤ 9223372036854775807]) (by kernel_rfl) (cj h1 (cj (laws_markText_l0_ok FUEL k (bs []) r1 h4) (cj1 (od h5)))))) (fun h5 =>
      Pn.none)))
def laws_markHoldS_l0  : Nat → Int → Int → (List Hold) → Option (Int × (List Hold))
  | 0, _, _, _ => none
  | fuel + 1, v1, v2, v3 =>
   if (decide (v2 < (v3.length : Int))) = true then
    (laws_markText v1).bind fun r1 =>
    if (decide (0 ≤ v2)) = true then
     (v3[v2.toNat]?).bind fun x1 =>
     ((v3.set v2.toNat (Hold.mk r1 x1.Amount x1.Due))[v2.toNat]?).bind fun x2 =>
     (((v3.set v2.toNat (Hold.mk r1 x1.Amount x1.Due)).set v2.toNat (Hold.mk x2.Id (i64 (v1 + 1)) x2.Due))[v2.toNat]?).bind fun x3 =>
     laws_markHoldS_l0 fuel (i64 ((i64 ((i64 (v1 + 1)) + 1)) + 1)) (i64 (v2 + 1)) (((v3.set v2.toNat (Hold.mk r1 x1.Amount x1.Due)).set v2.toNat (Hold.mk x2.Id (i64 (v1 + 1)) x2.Due)).set v2.toNat (Hold.mk x3.Id x3.Amount (i64 ((i64 (v1 + 1)) + 1))))
    else none
   else
    some (v1, v3)
theorem laws_markHoldS_l0_ok  : ∀ (fuel : Nat) (v1 : Int) (v2 : Int) (v3 : List Hold), Pn (LpO Tryz.prog (sub (codeOf Tryz.prog 66) [1, 0, 1, 0, 0]) (st 35 [(0, V.ow 0), (1, V.sc (.int .i64 v1)), (5, V.sc (.int .i64 v2))] [Blk.row 129 (List.map E129 v3) []] [some 0]) (fun (y : Int × (List Hold)) => (X.out 0, st 35 [(1, V.sc (.int .i64 y.1))] [Blk.row 129 (List.map E129 y.2) []] [some 0]))) (laws_markHoldS_l0 fuel v1 v2 v3)
  | 0, _, _, _ => Pn.none
  | fuel + 1, v1, v2, v3 => by
    unfold laws_markHoldS_l0
    exact
     Pn.ite (fun h1 =>
      Pn.bind (fun r1 h2 =>
       Pn.ite (fun h3 =>
        Pn.bind (fun x1 h4 =>
         Pn.bind (fun x2 h5 =>
          Pn.bind (fun x3 h6 =>
           LpO.go [.wait 3, .nm 8 (V.sc (.int .i64 (v3.length : Int))), .bit true, .call [] (E9 r1) [], .el (E129 x1), .nb 0 (.row 129 (List.map E129 (v3.set v2.toNat (Hold.mk r1 x1.Amount x1.Due))) []), .el (E129 x2), .nb 0 (.row 129 (List.map E129 ((v3.set v2.toNat (Hold.mk r1 x1.Amount x1.Due)).set v2.toNat (Hold.mk x2.Id (i64 (v1 + 1)) x2.Due))) []), .el (E129 x3), .nb 0 (.row 129 (List.map E129 (((v3.set v2.toNat (Hold.mk r1 x1.Amount x1.Due)).set v2.toNat (Hold.mk x2.Id (i64 (v1 + 1)) x2.Due)).set v2.toNat (Hold.mk x3.Id x3.Amount (i64 ((i64 (v1 + 1)) + 1))))) []), .wait 7, .mask [0, 1, 5], .ren [0]] (p := [V.sc (.int .i64 ((List.map E129 v3).length : Int)) = V.sc (.int .i64 (v3.length : Int)),
            (decide (v2 < (v3.length : Int))) = true,
            Fn Tryz.prog 90 [(false, E3 v1)] (E9 r1) [],
            (true || ((E9 r1).nv && nvL [])) = true,
            (0 : Int) ≤ v2,
            (v2 : Int) < ((List.map E129 v3).length : Int),
            look [] v2.toNat = none,
            (List.map E129 v3)[v2.toNat]? = some (E129 x1),
            Blk.row 129 ((List.map E129 v3).set v2.toNat (V.agg [V.sc (.string r1), V.sc (.int .i64 x1.Amount), V.sc (.int .i64 x1.Due)])) [] = Blk.row 129 (List.map E129 (v3.set v2.toNat (Hold.mk r1 x1.Amount x1.Due))) [],
            (0 : Int) ≤ v2,
            (v2 : Int) < ((List.map E129 (v3.set v2.toNat (Hold.mk r1 x1.Amount x1.Due))).length : Int),
            look [] v2.toNat = none,
            (List.map E129 (v3.set v2.toNat (Hold.mk r1 x1.Amount x1.Due)))[v2.toNat]? = some (E129 x2),
            Blk.row 129 ((List.map E129 (v3.set v2.toNat (Hold.mk r1 x1.Amount x1.Due))).set v2.toNat (V.agg [V.sc (.string x2.Id), V.sc (.int .i64 (i64 (v1 + 1))), V.sc (.int .i64 x2.Due)])) [] = Blk.row 129 (List.map E129 ((v3.set v2.toNat (Hold.mk r1 x1.Amount x1.Due)).set v2.toNat (Hold.mk x2.Id (i64 (v1 + 1)) x2.Due))) [],
            (0 : Int) ≤ v2,
            (v2 : Int) < ((List.map E129 ((v3.set v2.toNat (Hold.mk r1 x1.Amount x1.Due)).set v2.toNat (Hold.mk x2.Id (i64 (v1 + 1)) x2.Due))).length : Int),
            look [] v2.toNat = none,
            (List.map E129 ((v3.set v2.toNat (Hold.mk r1 x1.Amount x1.Due)).set v2.toNat (Hold.mk x2.Id (i64 (v1 + 1)) x2.Due)))[v2.toNat]? = some (E129 x3),
            Blk.row 129 ((List.map E129 ((v3.set v2.toNat (Hold.mk r1 x1.Amount x1.Due)).set v2.toNat (Hold.mk x2.Id (i64 (v1 + 1)) x2.Due))).set v2.toNat (V.agg [V.sc (.string x3.Id), V.sc (.int .i64 x3.Amount), V.sc (.int .i64 (i64 ((i64 (v1 + 1)) + 1)))])) [] = Blk.row 129 (List.map E129 (((v3.set v2.toNat (Hold.mk r1 x1.Amount x1.Due)).set v2.toNat (Hold.mk x2.Id (i64 (v1 + 1)) x2.Due)).set v2.toNat (Hold.mk x3.Id x3.Amount (i64 ((i64 (v1 + 1)) + 1))))) []]) (by kernel_rfl) (cj (len_nm _ _) (cj h1 (cj (laws_markText_ok v1 r1 h2) (cj rfl (cj (od h3) (cj (map_ltN (od h3) h4) (cj rfl (cj (map_get h4) (cj (nb_set E129 _ _ (Hold.mk r1 x1.Amount x1.Due)) (cj (od h3) (cj (map_ltN (od h3) h5) (cj rfl (cj (map_get h5) (cj (nb_set E129 _ _ (Hold.mk x2.Id (i64 (v1 + 1)) x2.Due)) (cj (od h3) (cj (map_ltN (od h3) h6) (cj rfl (cj (map_get h6) (cj1 (nb_set E129 _ _ (Hold.mk x3.Id x3.Amount (i64 ((i64 (v1 + 1)) + 1))))))))))))))))))))))) (laws_markHoldS_l0_ok fuel (i64 ((i64 ((i64 (v1 + 1)) + 1)) + 1)) (i64 (v2 + 1)) (((v3.set v2.toNat (Hold.mk r1 x1.Amount x1.Due)).set v2.toNat (Hold.mk x2.Id (i64 (v1 + 1)) x2.Due)).set v2.toNat (Hold.mk x3.Id x3.Amount (i64 ((i64 (v1 + 1)) + 1))))))))) (fun h3 =>
        Pn.none))) (fun h1 =>
      Pn.some (LpO.out [.wait 3, .nm 8 (V.sc (.int .i64 (v3.length : Int))), .bit false, .mask [1], .ren [0]] (p := [V.sc (.int .i64 ((List.map E129 v3).length : Int)) = V.sc (.int .i64 (v3.length : Int)),
       (decide (v2 < (v3.length : Int))) = false]) (by kernel_rfl) (show X.out 0 ≠ X.go from nofun) (cj (len_nm _ _) (cj1 h1))))
def laws_markHoldS (a : List Hold) (k : Int) : Option (Int × (List Hold)) :=
 (laws_markHoldS_l0 FUEL k 0 a).bind fun r2 =>
 some (r2.1, r2.2)
theorem laws_markHoldS_ok (a : List Hold) (k : Int) : Pn (fun y => Fn Tryz.prog 66 [(true, E44 a), (false, E3 k)] (E3 y.1) [V.sl true 129 (List.map E129 y.2)]) (laws_markHoldS a k) := by
  unfold laws_markHoldS
  exact
   Pn.bind (fun r2 h7 =>
    Pn.some (Fn.of [.wait 3, .mask [0, 1, 5], .ren [0], .loop (X.out 0) (st 35 [(1, V.sc (.int .i64 r2.1))] [Blk.row 129 (List.map E129 r2.2) []] [some 0])] (p := [Loop Tryz.prog (sub (codeOf Tryz.prog 66) [1, 0, 1, 0, 0]) (st 35 [(0, V.ow 0), (1, V.sc (.int .i64 k)), (5, V.sc (.int .i64 0))] [Blk.row 129 (List.map E129 a) []] [some 0]) (X.out 0) (st 35 [(1, V.sc (.int .i64 r2.1))] [Blk.row 129 (List.map E129 r2.2) []] [some 0])]) (by kernel_rfl) (cj1 (laws_markHoldS_l0_ok FUEL k 0 a r2 h7))))
def laws_markIntS_l0  : Nat → Int → Int → (List Int) → Option (Int × (List Int))
  | 0, _, _, _ => none
  | fuel + 1, v1, v2, v3 =>
   if (decide (v2 < (v3.length : Int))) = true then
    if (decide (0 ≤ v2)) = true then
     (v3[v2.toNat]?).bind fun x1 =>
     laws_markIntS_l0 fuel (i64 (v1 + 1)) (i64 (v2 + 1)) (v3.set v2.toNat v1)
    else none
   else
    some (v1, v3)
theorem laws_markIntS_l0_ok  : ∀ (fuel : Nat) (v1 : Int) (v2 : Int) (v3 : List Int), Pn (LpO Tryz.prog (sub (codeOf Tryz.prog 91) [1, 0, 1, 0, 0]) (st 19 [(0, V.ow 0), (1, V.sc (.int .i64 v1)), (5, V.sc (.int .i64 v2))] [Blk.row 3 (List.map E3 v3) []] [some 0]) (fun (y : Int × (List Int)) => (X.out 0, st 19 [(1, V.sc (.int .i64 y.1))] [Blk.row 3 (List.map E3 y.2) []] [some 0]))) (laws_markIntS_l0 fuel v1 v2 v3)
  | 0, _, _, _ => Pn.none
  | fuel + 1, v1, v2, v3 => by
    unfold laws_markIntS_l0
    exact
     Pn.ite (fun h1 =>
      Pn.ite (fun h2 =>
       Pn.bind (fun x1 h3 =>
        LpO.go [.wait 3, .nm 8 (V.sc (.int .i64 (v3.length : Int))), .bit true, .el (E3 x1), .nb 0 (.row 3 (List.map E3 (v3.set v2.toNat v1)) []), .wait 7, .mask [0, 1, 5], .ren [0]] (p := [V.sc (.int .i64 ((List.map E3 v3).length : Int)) = V.sc (.int .i64 (v3.length : Int)),
         (decide (v2 < (v3.length : Int))) = true,
         (0 : Int) ≤ v2,
         (v2 : Int) < ((List.map E3 v3).length : Int),
         look [] v2.toNat = none,
         (List.map E3 v3)[v2.toNat]? = some (E3 x1),
         Blk.row 3 ((List.map E3 v3).set v2.toNat (V.sc (.int .i64 v1))) [] = Blk.row 3 (List.map E3 (v3.set v2.toNat v1)) []]) (by kernel_rfl) (cj (len_nm _ _) (cj h1 (cj (od h2) (cj (map_ltN (od h2) h3) (cj rfl (cj (map_get h3) (cj1 (nb_set E3 _ _ v1)))))))) (laws_markIntS_l0_ok fuel (i64 (v1 + 1)) (i64 (v2 + 1)) (v3.set v2.toNat v1)))) (fun h2 =>
       Pn.none)) (fun h1 =>
      Pn.some (LpO.out [.wait 3, .nm 8 (V.sc (.int .i64 (v3.length : Int))), .bit false, .mask [1], .ren [0]] (p := [V.sc (.int .i64 ((List.map E3 v3).length : Int)) = V.sc (.int .i64 (v3.length : Int)),
       (decide (v2 < (v3.length : Int))) = false]) (by kernel_rfl) (show X.out 0 ≠ X.go from nofun) (cj (len_nm _ _) (cj1 h1))))
def laws_markIntS (a : List Int) (k : Int) : Option (Int × (List Int)) :=
 (laws_markIntS_l0 FUEL k 0 a).bind fun r1 =>
 some (r1.1, r1.2)
theorem laws_markIntS_ok (a : List Int) (k : Int) : Pn (fun y => Fn Tryz.prog 91 [(true, E35 a), (false, E3 k)] (E3 y.1) [V.sl true 3 (List.map E3 y.2)]) (laws_markIntS a k) := by
  unfold laws_markIntS
  exact
   Pn.bind (fun r1 h4 =>
    Pn.some (Fn.of [.wait 3, .mask [0, 1, 5], .ren [0], .loop (X.out 0) (st 19 [(1, V.sc (.int .i64 r1.1))] [Blk.row 3 (List.map E3 r1.2) []] [some 0])] (p := [Loop Tryz.prog (sub (codeOf Tryz.prog 91) [1, 0, 1, 0, 0]) (st 19 [(0, V.ow 0), (1, V.sc (.int .i64 k)), (5, V.sc (.int .i64 0))] [Blk.row 3 (List.map E3 a) []] [some 0]) (X.out 0) (st 19 [(1, V.sc (.int .i64 r1.1))] [Blk.row 3 (List.map E3 r1.2) []] [some 0])]) (by kernel_rfl) (cj1 (laws_markIntS_l0_ok FUEL k 0 a r1 h4))))
def laws_markByteS_l0  : Nat → Int → Int → (List Int) → Option (Int × (List Int))
  | 0, _, _, _ => none
  | fuel + 1, v1, v2, v3 =>
   if (decide (v2 < (v3.length : Int))) = true then
    if (decide (0 ≤ v2)) = true then
     (v3[v2.toNat]?).bind fun x1 =>
     laws_markByteS_l0 fuel (i64 (v1 + 1)) (i64 (v2 + 1)) (v3.set v2.toNat (u8 v1))
    else none
   else
    some (v1, v3)
theorem laws_markByteS_l0_ok  : ∀ (fuel : Nat) (v1 : Int) (v2 : Int) (v3 : List Int), Pn (LpO Tryz.prog (sub (codeOf Tryz.prog 125) [1, 0, 1, 0, 0]) (st 20 [(0, V.ow 0), (1, V.sc (.int .i64 v1)), (5, V.sc (.int .i64 v2))] [Blk.row 5 (List.map E5 v3) []] [some 0]) (fun (y : Int × (List Int)) => (X.out 0, st 20 [(1, V.sc (.int .i64 y.1))] [Blk.row 5 (List.map E5 y.2) []] [some 0]))) (laws_markByteS_l0 fuel v1 v2 v3)
  | 0, _, _, _ => Pn.none
  | fuel + 1, v1, v2, v3 => by
    unfold laws_markByteS_l0
    exact
     Pn.ite (fun h1 =>
      Pn.ite (fun h2 =>
       Pn.bind (fun x1 h3 =>
        LpO.go [.wait 3, .nm 8 (V.sc (.int .i64 (v3.length : Int))), .bit true, .el (E5 x1), .nb 0 (.row 5 (List.map E5 (v3.set v2.toNat (u8 v1))) []), .wait 7, .mask [0, 1, 5], .ren [0]] (p := [V.sc (.int .i64 ((List.map E5 v3).length : Int)) = V.sc (.int .i64 (v3.length : Int)),
         (decide (v2 < (v3.length : Int))) = true,
         (0 : Int) ≤ v2,
         (v2 : Int) < ((List.map E5 v3).length : Int),
         look [] v2.toNat = none,
         (List.map E5 v3)[v2.toNat]? = some (E5 x1),
         Blk.row 5 ((List.map E5 v3).set v2.toNat (V.sc (.int .u8 (u8 v1)))) [] = Blk.row 5 (List.map E5 (v3.set v2.toNat (u8 v1))) []]) (by kernel_rfl) (cj (len_nm _ _) (cj h1 (cj (od h2) (cj (map_ltN (od h2) h3) (cj rfl (cj (map_get h3) (cj1 (nb_set E5 _ _ (u8 v1))))))))) (laws_markByteS_l0_ok fuel (i64 (v1 + 1)) (i64 (v2 + 1)) (v3.set v2.toNat (u8 v1))))) (fun h2 =>
       Pn.none)) (fun h1 =>
      Pn.some (LpO.out [.wait 3, .nm 8 (V.sc (.int .i64 (v3.length : Int))), .bit false, .mask [1], .ren [0]] (p := [V.sc (.int .i64 ((List.map E5 v3).length : Int)) = V.sc (.int .i64 (v3.length : Int)),
       (decide (v2 < (v3.length : Int))) = false]) (by kernel_rfl) (show X.out 0 ≠ X.go from nofun) (cj (len_nm _ _) (cj1 h1))))
def laws_markByteS (a : List Int) (k : Int) : Option (Int × (List Int)) :=
 (laws_markByteS_l0 FUEL k 0 a).bind fun r1 =>
 some (r1.1, r1.2)
theorem laws_markByteS_ok (a : List Int) (k : Int) : Pn (fun y => Fn Tryz.prog 125 [(true, E118 a), (false, E3 k)] (E3 y.1) [V.sl true 5 (List.map E5 y.2)]) (laws_markByteS a k) := by
  unfold laws_markByteS
  exact
   Pn.bind (fun r1 h4 =>
    Pn.some (Fn.of [.wait 3, .mask [0, 1, 5], .ren [0], .loop (X.out 0) (st 20 [(1, V.sc (.int .i64 r1.1))] [Blk.row 5 (List.map E5 r1.2) []] [some 0])] (p := [Loop Tryz.prog (sub (codeOf Tryz.prog 125) [1, 0, 1, 0, 0]) (st 20 [(0, V.ow 0), (1, V.sc (.int .i64 k)), (5, V.sc (.int .i64 0))] [Blk.row 5 (List.map E5 a) []] [some 0]) (X.out 0) (st 20 [(1, V.sc (.int .i64 r1.1))] [Blk.row 5 (List.map E5 r1.2) []] [some 0])]) (by kernel_rfl) (cj1 (laws_markByteS_l0_ok FUEL k 0 a r1 h4))))
def laws_markSlotS_l0  : Nat → Int → Int → (List Slot) → Option (Int × (List Slot))
  | 0, _, _, _ => none
  | fuel + 1, v1, v2, v3 =>
   if (decide (v2 < (v3.length : Int))) = true then
    (laws_markText v1).bind fun r1 =>
    if (decide (0 ≤ v2)) = true then
     (v3[v2.toNat]?).bind fun x1 =>
     (laws_markText (i64 (v1 + 1))).bind fun r2 =>
     (laws_markByteS x1.Reply (i64 ((i64 (v1 + 1)) + 1))).bind fun r3 =>
     laws_markSlotS_l0 fuel r3.1 (i64 (v2 + 1)) (v3.set v2.toNat (Slot.mk r1 r2 r3.2))
    else none
   else
    some (v1, v3)
theorem laws_markSlotS_l0_ok  : ∀ (fuel : Nat) (v1 : Int) (v2 : Int) (v3 : List Slot), Pn (LpO Tryz.prog (sub (codeOf Tryz.prog 68) [1, 0, 1, 0, 0]) (st 36 [(0, V.ow 0), (1, V.sc (.int .i64 v1)), (5, V.sc (.int .i64 v2))] [Blk.row 132 (List.map E132 v3) []] [some 0]) (fun (y : Int × (List Slot)) => (X.out 0, st 36 [(1, V.sc (.int .i64 y.1))] [Blk.row 132 (List.map E132 y.2) []] [some 0]))) (laws_markSlotS_l0 fuel v1 v2 v3)
  | 0, _, _, _ => Pn.none
  | fuel + 1, v1, v2, v3 => by
    unfold laws_markSlotS_l0
    exact
     Pn.ite (fun h1 =>
      Pn.bind (fun r1 h2 =>
       Pn.ite (fun h3 =>
        Pn.bind (fun x1 h4 =>
         Pn.bind (fun r2 h5 =>
          Pn.bind (fun r3 h6 =>
           LpO.go [.wait 3, .nm 8 (V.sc (.int .i64 (v3.length : Int))), .bit true, .call [] (E9 r1) [], .wait 1, .foc 0 v2.toNat (E132 x1), .fo 0, .call [] (E9 r2) [], .fo 0, .fo 0, .call [true, false] (E3 r3.1) [V.sl true 5 (List.map E5 r3.2)], .wait 5, .shut 0, .nb 0 (.row 132 (List.map E132 (v3.set v2.toNat (Slot.mk r1 r2 r3.2))) []), .mask [0, 1, 5], .ren [0]] (p := [V.sc (.int .i64 ((List.map E132 v3).length : Int)) = V.sc (.int .i64 (v3.length : Int)),
            (decide (v2 < (v3.length : Int))) = true,
            Fn Tryz.prog 90 [(false, E3 v1)] (E9 r1) [],
            (true || ((E9 r1).nv && nvL [])) = true,
            (0 : Int) ≤ v2,
            (v2 : Int) < ((List.map E132 v3).length : Int),
            look [] v2.toNat = none,
            (List.map E132 v3)[v2.toNat]? = some (E132 x1),
            look [(v2.toNat, V.agg [V.sc (.string x1.Trace), V.sc (.string x1.Mti), V.ow 1])] v2.toNat = some (V.agg [V.sc (.string x1.Trace), V.sc (.string x1.Mti), V.ow 1]),
            v2.toNat < (List.map E132 v3).length,
            v2.toNat = v2.toNat,
            Fn Tryz.prog 90 [(false, E3 (i64 (v1 + 1)))] (E9 r2) [],
            (true || ((E9 r2).nv && nvL [])) = true,
            (0 : Int) ≤ v2,
            (v2 : Int) < ((List.map E132 v3).length : Int),
            look [(v2.toNat, V.agg [V.sc (.string r1), V.sc (.string x1.Mti), V.ow 1])] v2.toNat = some (V.agg [V.sc (.string r1), V.sc (.string x1.Mti), V.ow 1]),
            v2.toNat < (List.map E132 v3).length,
            v2.toNat = v2.toNat,
            (0 : Int) ≤ v2,
            (v2 : Int) < ((List.map E132 v3).length : Int),
            look [(v2.toNat, V.agg [V.sc (.string r1), V.sc (.string r2), V.ow 1])] v2.toNat = some (V.agg [V.sc (.string r1), V.sc (.string r2), V.ow 1]),
            v2.toNat < (List.map E132 v3).length,
            Fn Tryz.prog 125 [(true, E118 x1.Reply), (false, E3 (i64 ((i64 (v1 + 1)) + 1)))] (E3 r3.1) [V.sl true 5 (List.map E5 r3.2)],
            (true || ((E3 r3.1).nv && nvL [V.sl true 5 (List.map E5 r3.2)])) = true,
            Blk.row 132 ((List.map E132 v3).set v2.toNat (V.agg [V.sc (.string r1), V.sc (.string r2), V.sl true 5 (List.map E5 r3.2)])) [] = Blk.row 132 (List.map E132 (v3.set v2.toNat (Slot.mk r1 r2 r3.2))) []]) (by kernel_rfl) (cj (len_nm _ _) (cj h1 (cj (laws_markText_ok v1 r1 h2) (cj rfl (cj (od h3) (cj (map_ltN (od h3) h4) (cj rfl (cj (map_get h4) (cj (look_cons_self _ _ _) (cj (map_lt h4) (cj rfl (cj (laws_markText_ok (i64 (v1 + 1)) r2 h5) (cj rfl (cj (od h3) (cj (map_ltN (od h3) h4) (cj (look_cons_self _ _ _) (cj (map_lt h4) (cj rfl (cj (od h3) (cj (map_ltN (od h3) h4) (cj (look_cons_self _ _ _) (cj (map_lt h4) (cj (laws_markByteS_ok x1.Reply (i64 ((i64 (v1 + 1)) + 1)) r3 h6) (cj rfl (cj1 (nb_set E132 _ _ (Slot.mk r1 r2 r3.2))))))))))))))))))))))))))) (laws_markSlotS_l0_ok fuel r3.1 (i64 (v2 + 1)) (v3.set v2.toNat (Slot.mk r1 r2 r3.2))))))) (fun h3 =>
        Pn.none))) (fun h1 =>
      Pn.some (LpO.out [.wait 3, .nm 8 (V.sc (.int .i64 (v3.length : Int))), .bit false, .mask [1], .ren [0]] (p := [V.sc (.int .i64 ((List.map E132 v3).length : Int)) = V.sc (.int .i64 (v3.length : Int)),
       (decide (v2 < (v3.length : Int))) = false]) (by kernel_rfl) (show X.out 0 ≠ X.go from nofun) (cj (len_nm _ _) (cj1 h1))))
def laws_markSlotS (a : List Slot) (k : Int) : Option (Int × (List Slot)) :=
 (laws_markSlotS_l0 FUEL k 0 a).bind fun r4 =>
 some (r4.1, r4.2)
theorem laws_markSlotS_ok (a : List Slot) (k : Int) : Pn (fun y => Fn Tryz.prog 68 [(true, E46 a), (false, E3 k)] (E3 y.1) [V.sl true 132 (List.map E132 y.2)]) (laws_markSlotS a k) := by
  unfold laws_markSlotS
  exact
   Pn.bind (fun r4 h7 =>
    Pn.some (Fn.of [.wait 3, .mask [0, 1, 5], .ren [0], .loop (X.out 0) (st 36 [(1, V.sc (.int .i64 r4.1))] [Blk.row 132 (List.map E132 r4.2) []] [some 0])] (p := [Loop Tryz.prog (sub (codeOf Tryz.prog 68) [1, 0, 1, 0, 0]) (st 36 [(0, V.ow 0), (1, V.sc (.int .i64 k)), (5, V.sc (.int .i64 0))] [Blk.row 132 (List.map E132 a) []] [some 0]) (X.out 0) (st 36 [(1, V.sc (.int .i64 r4.1))] [Blk.row 132 (List.map E132 r4.2) []] [some 0])]) (by kernel_rfl) (cj1 (laws_markSlotS_l0_ok FUEL k 0 a r4 h7))))
def laws_markAcctS_l0  : Nat → Int → Int → (List Acct) → Option (Int × (List Acct))
  | 0, _, _, _ => none
  | fuel + 1, v1, v2, v3 =>
   if (decide (v2 < (v3.length : Int))) = true then
    (laws_markText v1).bind fun r1 =>
    if (decide (0 ≤ v2)) = true then
     (v3[v2.toNat]?).bind fun x1 =>
     (laws_markHoldS x1.Holds (i64 ((i64 ((i64 ((i64 ((i64 (v1 + 1)) + 1)) + 1)) + 1)) + 1))).bind fun r2 =>
     (laws_markIntS x1.Ring.Counts (i64 ((i64 (r2.1 + 1)) + 1))).bind fun r3 =>
     (laws_markIntS x1.Ring.Sums r3.1).bind fun r4 =>
     (laws_markSlotS x1.Slots r4.1).bind fun r5 =>
     laws_markAcctS_l0 fuel r5.1 (i64 (v2 + 1)) (v3.set v2.toNat (Acct.mk r1 (i64 (v1 + 1)) (i64 ((i64 (v1 + 1)) + 1)) (i64 ((i64 ((i64 (v1 + 1)) + 1)) + 1)) (i64 ((i64 ((i64 ((i64 (v1 + 1)) + 1)) + 1)) + 1)) r2.2 (Ring.mk r2.1 (i64 (r2.1 + 1)) r3.2 r4.2) r5.2))
    else none
   else
    some (v1, v3)
theorem laws_markAcctS_l0_ok  : ∀ (fuel : Nat) (v1 : Int) (v2 : Int) (v3 : List Acct), Pn (LpO Tryz.prog (sub (codeOf Tryz.prog 45) [1, 0, 1, 0, 0]) (st 95 [(0, V.ow 0), (1, V.sc (.int .i64 v1)), (5, V.sc (.int .i64 v2))] [Blk.row 48 (List.map E48 v3) []] [some 0]) (fun (y : Int × (List Acct)) => (X.out 0, st 95 [(1, V.sc (.int .i64 y.1))] [Blk.row 48 (List.map E48 y.2) []] [some 0]))) (laws_markAcctS_l0 fuel v1 v2 v3)
  | 0, _, _, _ => Pn.none
  | fuel + 1, v1, v2, v3 => by
    unfold laws_markAcctS_l0
    exact
     Pn.ite (fun h1 =>
      Pn.bind (fun r1 h2 =>
       Pn.ite (fun h3 =>
        Pn.bind (fun x1 h4 =>
         Pn.bind (fun r2 h5 =>
          Pn.bind (fun r3 h6 =>
           Pn.bind (fun r4 h7 =>
            Pn.bind (fun r5 h8 =>
             LpO.go [.wait 3, .nm 8 (V.sc (.int .i64 (v3.length : Int))), .bit true, .call [] (E9 r1) [], .wait 1, .foc 0 v2.toNat (E48 x1), .fo 0, .fo 0, .fo 0, .fo 0, .fo 0, .fo 0, .call [true, false] (E3 r2.1) [V.sl true 129 (List.map E129 r2.2)], .fo 0, .fo 0, .fo 0, .call [true, false] (E3 r3.1) [V.sl true 3 (List.map E3 r3.2)], .fo 0, .call [true, false] (E3 r4.1) [V.sl true 3 (List.map E3 r4.2)], .fo 0, .call [true, false] (E3 r5.1) [V.sl true 132 (List.map E132 r5.2)], .wait 5, .shut 0, .nb 0 (.row 48 (List.map E48 (v3.set v2.toNat (Acct.mk r1 (i64 (v1 + 1)) (i64 ((i64 (v1 + 1)) + 1)) (i64 ((i64 ((i64 (v1 + 1)) + 1)) + 1)) (i64 ((i64 ((i64 ((i64 (v1 + 1)) + 1)) + 1)) + 1)) r2.2 (Ring.mk r2.1 (i64 (r2.1 + 1)) r3.2 r4.2) r5.2))) []), .mask [0, 1, 5], .ren [0]] (p := [V.sc (.int .i64 ((List.map E48 v3).length : Int)) = V.sc (.int .i64 (v3.length : Int)),
              (decide (v2 < (v3.length : Int))) = true,
              Fn Tryz.prog 90 [(false, E3 v1)] (E9 r1) [],
              (true || ((E9 r1).nv && nvL [])) = true,
              (0 : Int) ≤ v2,
              (v2 : Int) < ((List.map E48 v3).length : Int),
              look [] v2.toNat = none,
              (List.map E48 v3)[v2.toNat]? = some (E48 x1),
              look [(v2.toNat, V.agg [V.sc (.string x1.Id), V.sc (.int .i64 x1.Limit), V.sc (.int .i64 x1.Posted), V.sc (.int .i64 x1.Most), V.sc (.int .i64 x1.MostSum), V.ow 1, V.sc (.int .i64 x1.Ring.Span), V.sc (.int .i64 x1.Ring.Head), V.ow 2, V.ow 3, V.ow 4])] v2.toNat = some (V.agg [V.sc (.string x1.Id), V.sc (.int .i64 x1.Limit), V.sc (.int .i64 x1.Posted), V.sc (.int .i64 x1.Most), V.sc (.int .i64 x1.MostSum), V.ow 1, V.sc (.int .i64 x1.Ring.Span), V.sc (.int .i64 x1.Ring.Head), V.ow 2, V.ow 3, V.ow 4]),
              v2.toNat < (List.map E48 v3).length,
              v2.toNat = v2.toNat,
              (0 : Int) ≤ v2,
              (v2 : Int) < ((List.map E48 v3).length : Int),
              look [(v2.toNat, V.agg [V.sc (.string r1), V.sc (.int .i64 x1.Limit), V.sc (.int .i64 x1.Posted), V.sc (.int .i64 x1.Most), V.sc (.int .i64 x1.MostSum), V.ow 1, V.sc (.int .i64 x1.Ring.Span), V.sc (.int .i64 x1.Ring.Head), V.ow 2, V.ow 3, V.ow 4])] v2.toNat = some (V.agg [V.sc (.string r1), V.sc (.int .i64 x1.Limit), V.sc (.int .i64 x1.Posted), V.sc (.int .i64 x1.Most), V.sc (.int .i64 x1.MostSum), V.ow 1, V.sc (.int .i64 x1.Ring.Span), V.sc (.int .i64 x1.Ring.Head), V.ow 2, V.ow 3, V.ow 4]),
              v2.toNat < (List.map E48 v3).length,
              v2.toNat = v2.toNat,
              (0 : Int) ≤ v2,
              (v2 : Int) < ((List.map E48 v3).length : Int),
              look [(v2.toNat, V.agg [V.sc (.string r1), V.sc (.int .i64 (i64 (v1 + 1))), V.sc (.int .i64 x1.Posted), V.sc (.int .i64 x1.Most), V.sc (.int .i64 x1.MostSum), V.ow 1, V.sc (.int .i64 x1.Ring.Span), V.sc (.int .i64 x1.Ring.Head), V.ow 2, V.ow 3, V.ow 4])] v2.toNat = some (V.agg [V.sc (.string r1), V.sc (.int .i64 (i64 (v1 + 1))), V.sc (.int .i64 x1.Posted), V.sc (.int .i64 x1.Most), V.sc (.int .i64 x1.MostSum), V.ow 1, V.sc (.int .i64 x1.Ring.Span), V.sc (.int .i64 x1.Ring.Head), V.ow 2, V.ow 3, V.ow 4]),
              v2.toNat < (List.map E48 v3).length,
              v2.toNat = v2.toNat,
              (0 : Int) ≤ v2,
              (v2 : Int) < ((List.map E48 v3).length : Int),
              look [(v2.toNat, V.agg [V.sc (.string r1), V.sc (.int .i64 (i64 (v1 + 1))), V.sc (.int .i64 (i64 ((i64 (v1 + 1)) + 1))), V.sc (.int .i64 x1.Most), V.sc (.int .i64 x1.MostSum), V.ow 1, V.sc (.int .i64 x1.Ring.Span), V.sc (.int .i64 x1.Ring.Head), V.ow 2, V.ow 3, V.ow 4])] v2.toNat = some (V.agg [V.sc (.string r1), V.sc (.int .i64 (i64 (v1 + 1))), V.sc (.int .i64 (i64 ((i64 (v1 + 1)) + 1))), V.sc (.int .i64 x1.Most), V.sc (.int .i64 x1.MostSum), V.ow 1, V.sc (.int .i64 x1.Ring.Span), V.sc (.int .i64 x1.Ring.Head), V.ow 2, V.ow 3, V.ow 4]),
              v2.toNat < (List.map E48 v3).length,
              v2.toNat = v2.toNat,
              (0 : Int) ≤ v2,
              (v2 : Int) < ((List.map E48 v3).length : Int),
              look [(v2.toNat, V.agg [V.sc (.string r1), V.sc (.int .i64 (i64 (v1 + 1))), V.sc (.int .i64 (i64 ((i64 (v1 + 1)) + 1))), V.sc (.int .i64 (i64 ((i64 ((i64 (v1 + 1)) + 1)) + 1))), V.sc (.int .i64 x1.MostSum), V.ow 1, V.sc (.int .i64 x1.Ring.Span), V.sc (.int .i64 x1.Ring.Head), V.ow 2, V.ow 3, V.ow 4])] v2.toNat = some (V.agg [V.sc (.string r1), V.sc (.int .i64 (i64 (v1 + 1))), V.sc (.int .i64 (i64 ((i64 (v1 + 1)) + 1))), V.sc (.int .i64 (i64 ((i64 ((i64 (v1 + 1)) + 1)) + 1))), V.sc (.int .i64 x1.MostSum), V.ow 1, V.sc (.int .i64 x1.Ring.Span), V.sc (.int .i64 x1.Ring.Head), V.ow 2, V.ow 3, V.ow 4]),
              v2.toNat < (List.map E48 v3).length,
              v2.toNat = v2.toNat,
              (0 : Int) ≤ v2,
              (v2 : Int) < ((List.map E48 v3).length : Int),
              look [(v2.toNat, V.agg [V.sc (.string r1), V.sc (.int .i64 (i64 (v1 + 1))), V.sc (.int .i64 (i64 ((i64 (v1 + 1)) + 1))), V.sc (.int .i64 (i64 ((i64 ((i64 (v1 + 1)) + 1)) + 1))), V.sc (.int .i64 (i64 ((i64 ((i64 ((i64 (v1 + 1)) + 1)) + 1)) + 1))), V.ow 1, V.sc (.int .i64 x1.Ring.Span), V.sc (.int .i64 x1.Ring.Head), V.ow 2, V.ow 3, V.ow 4])] v2.toNat = some (V.agg [V.sc (.string r1), V.sc (.int .i64 (i64 (v1 + 1))), V.sc (.int .i64 (i64 ((i64 (v1 + 1)) + 1))), V.sc (.int .i64 (i64 ((i64 ((i64 (v1 + 1)) + 1)) + 1))), V.sc (.int .i64 (i64 ((i64 ((i64 ((i64 (v1 + 1)) + 1)) + 1)) + 1))), V.ow 1, V.sc (.int .i64 x1.Ring.Span), V.sc (.int .i64 x1.Ring.Head), V.ow 2, V.ow 3, V.ow 4]),
              v2.toNat < (List.map E48 v3).length,
              Fn Tryz.prog 66 [(true, E44 x1.Holds), (false, E3 (i64 ((i64 ((i64 ((i64 ((i64 (v1 + 1)) + 1)) + 1)) + 1)) + 1)))] (E3 r2.1) [V.sl true 129 (List.map E129 r2.2)],
              (true || ((E3 r2.1).nv && nvL [V.sl true 129 (List.map E129 r2.2)])) = true,
              (0 : Int) ≤ v2,
              (v2 : Int) < ((List.map E48 v3).length : Int),
              look [(v2.toNat, V.agg [V.sc (.string r1), V.sc (.int .i64 (i64 (v1 + 1))), V.sc (.int .i64 (i64 ((i64 (v1 + 1)) + 1))), V.sc (.int .i64 (i64 ((i64 ((i64 (v1 + 1)) + 1)) + 1))), V.sc (.int .i64 (i64 ((i64 ((i64 ((i64 (v1 + 1)) + 1)) + 1)) + 1))), V.ow 1, V.sc (.int .i64 x1.Ring.Span), V.sc (.int .i64 x1.Ring.Head), V.ow 2, V.ow 3, V.ow 4])] v2.toNat = some (V.agg [V.sc (.string r1), V.sc (.int .i64 (i64 (v1 + 1))), V.sc (.int .i64 (i64 ((i64 (v1 + 1)) + 1))), V.sc (.int .i64 (i64 ((i64 ((i64 (v1 + 1)) + 1)) + 1))), V.sc (.int .i64 (i64 ((i64 ((i64 ((i64 (v1 + 1)) + 1)) + 1)) + 1))), V.ow 1, V.sc (.int .i64 x1.Ring.Span), V.sc (.int .i64 x1.Ring.Head), V.ow 2, V.ow 3, V.ow 4]),
              v2.toNat < (List.map E48 v3).length,
              v2.toNat = v2.toNat,
              (0 : Int) ≤ v2,
              (v2 : Int) < ((List.map E48 v3).length : Int),
              look [(v2.toNat, V.agg [V.sc (.string r1), V.sc (.int .i64 (i64 (v1 + 1))), V.sc (.int .i64 (i64 ((i64 (v1 + 1)) + 1))), V.sc (.int .i64 (i64 ((i64 ((i64 (v1 + 1)) + 1)) + 1))), V.sc (.int .i64 (i64 ((i64 ((i64 ((i64 (v1 + 1)) + 1)) + 1)) + 1))), V.ow 1, V.sc (.int .i64 r2.1), V.sc (.int .i64 x1.Ring.Head), V.ow 2, V.ow 3, V.ow 4])] v2.toNat = some (V.agg [V.sc (.string r1), V.sc (.int .i64 (i64 (v1 + 1))), V.sc (.int .i64 (i64 ((i64 (v1 + 1)) + 1))), V.sc (.int .i64 (i64 ((i64 ((i64 (v1 + 1)) + 1)) + 1))), V.sc (.int .i64 (i64 ((i64 ((i64 ((i64 (v1 + 1)) + 1)) + 1)) + 1))), V.ow 1, V.sc (.int .i64 r2.1), V.sc (.int .i64 x1.Ring.Head), V.ow 2, V.ow 3, V.ow 4]),
              v2.toNat < (List.map E48 v3).length,
              v2.toNat = v2.toNat,
              (0 : Int) ≤ v2,
              (v2 : Int) < ((List.map E48 v3).length : Int),
              look [(v2.toNat, V.agg [V.sc (.string r1), V.sc (.int .i64 (i64 (v1 + 1))), V.sc (.int .i64 (i64 ((i64 (v1 + 1)) + 1))), V.sc (.int .i64 (i64 ((i64 ((i64 (v1 + 1)) + 1)) + 1))), V.sc (.int .i64 (i64 ((i64 ((i64 ((i64 (v1 + 1)) + 1)) + 1)) + 1))), V.ow 1, V.sc (.int .i64 r2.1), V.sc (.int .i64 (i64 (r2.1 + 1))), V.ow 2, V.ow 3, V.ow 4])] v2.toNat = some (V.agg [V.sc (.string r1), V.sc (.int .i64 (i64 (v1 + 1))), V.sc (.int .i64 (i64 ((i64 (v1 + 1)) + 1))), V.sc (.int .i64 (i64 ((i64 ((i64 (v1 + 1)) + 1)) + 1))), V.sc (.int .i64 (i64 ((i64 ((i64 ((i64 (v1 + 1)) + 1)) + 1)) + 1))), V.ow 1, V.sc (.int .i64 r2.1), V.sc (.int .i64 (i64 (r2.1 + 1))), V.ow 2, V.ow 3, V.ow 4]),
              v2.toNat < (List.map E48 v3).length,
              Fn Tryz.prog 91 [(true, E35 x1.Ring.Counts), (false, E3 (i64 ((i64 (r2.1 + 1)) + 1)))] (E3 r3.1) [V.sl true 3 (List.map E3 r3.2)],
              (true || ((E3 r3.1).nv && nvL [V.sl true 3 (List.map E3 r3.2)])) = true,
              (0 : Int) ≤ v2,
              (v2 : Int) < ((List.map E48 v3).length : Int),
              look [(v2.toNat, V.agg [V.sc (.string r1), V.sc (.int .i64 (i64 (v1 + 1))), V.sc (.int .i64 (i64 ((i64 (v1 + 1)) + 1))), V.sc (.int .i64 (i64 ((i64 ((i64 (v1 + 1)) + 1)) + 1))), V.sc (.int .i64 (i64 ((i64 ((i64 ((i64 (v1 + 1)) + 1)) + 1)) + 1))), V.ow 1, V.sc (.int .i64 r2.1), V.sc (.int .i64 (i64 (r2.1 + 1))), V.ow 2, V.ow 3, V.ow 4])] v2.toNat = some (V.agg [V.sc (.string r1), V.sc (.int .i64 (i64 (v1 + 1))), V.sc (.int .i64 (i64 ((i64 (v1 + 1)) + 1))), V.sc (.int .i64 (i64 ((i64 ((i64 (v1 + 1)) + 1)) + 1))), V.sc (.int .i64 (i64 ((i64 ((i64 ((i64 (v1 + 1)) + 1)) + 1)) + 1))), V.ow 1, V.sc (.int .i64 r2.1), V.sc (.int .i64 (i64 (r2.1 + 1))), V.ow 2, V.ow 3, V.ow 4]),
              v2.toNat < (List.map E48 v3).length,
              Fn Tryz.prog 91 [(true, E35 x1.Ring.Sums), (false, E3 r3.1)] (E3 r4.1) [V.sl true 3 (List.map E3 r4.2)],
              (true || ((E3 r4.1).nv && nvL [V.sl true 3 (List.map E3 r4.2)])) = true,
              (0 : Int) ≤ v2,
              (v2 : Int) < ((List.map E48 v3).length : Int),
              look [(v2.toNat, V.agg [V.sc (.string r1), V.sc (.int .i64 (i64 (v1 + 1))), V.sc (.int .i64 (i64 ((i64 (v1 + 1)) + 1))), V.sc (.int .i64 (i64 ((i64 ((i64 (v1 + 1)) + 1)) + 1))), V.sc (.int .i64 (i64 ((i64 ((i64 ((i64 (v1 + 1)) + 1)) + 1)) + 1))), V.ow 1, V.sc (.int .i64 r2.1), V.sc (.int .i64 (i64 (r2.1 + 1))), V.ow 2, V.ow 3, V.ow 4])] v2.toNat = some (V.agg [V.sc (.string r1), V.sc (.int .i64 (i64 (v1 + 1))), V.sc (.int .i64 (i64 ((i64 (v1 + 1)) + 1))), V.sc (.int .i64 (i64 ((i64 ((i64 (v1 + 1)) + 1)) + 1))), V.sc (.int .i64 (i64 ((i64 ((i64 ((i64 (v1 + 1)) + 1)) + 1)) + 1))), V.ow 1, V.sc (.int .i64 r2.1), V.sc (.int .i64 (i64 (r2.1 + 1))), V.ow 2, V.ow 3, V.ow 4]),
              v2.toNat < (List.map E48 v3).length,
              Fn Tryz.prog 68 [(true, E46 x1.Slots), (false, E3 r4.1)] (E3 r5.1) [V.sl true 132 (List.map E132 r5.2)],
              (true || ((E3 r5.1).nv && nvL [V.sl true 132 (List.map E132 r5.2)])) = true,
              Blk.row 48 ((List.map E48 v3).set v2.toNat (V.agg [V.sc (.string r1), V.sc (.int .i64 (i64 (v1 + 1))), V.sc (.int .i64 (i64 ((i64 (v1 + 1)) + 1))), V.sc (.int .i64 (i64 ((i64 ((i64 (v1 + 1)) + 1)) + 1))), V.sc (.int .i64 (i64 ((i64 ((i64 ((i64 (v1 + 1)) + 1)) + 1)) + 1))), V.sl true 129 (List.map E129 r2.2), V.sc (.int .i64 r2.1), V.sc (.int .i64 (i64 (r2.1 + 1))), V.sl true 3 (List.map E3 r3.2), V.sl true 3 (List.map E3 r4.2), V.sl true 132 (List.map E132 r5.2)])) [] = Blk.row 48 (List.map E48 (v3.set v2.toNat (Acct.mk r1 (i64 (v1 + 1)) (i64 ((i64 (v1 + 1)) + 1)) (i64 ((i64 ((i64 (v1 + 1)) + 1)) + 1)) (i64 ((i64 ((i64 ((i64 (v1 + 1)) + 1)) + 1)) + 1)) r2.2 (Ring.mk r2.1 (i64 (r2.1 + 1)) r3.2 r4.2) r5.2))) []]) (by kernel_rfl) (cj (len_nm _ _) (cj h1 (cj (laws_markText_ok v1 r1 h2) (cj rfl (cj (od h3) (cj (map_ltN (od h3) h4) (cj rfl (cj (map_get h4) (cj (look_cons_self _ _ _) (cj (map_lt h4) (cj rfl (cj (od h3) (cj (map_ltN (od h3) h4) (cj (look_cons_self _ _ _) (cj (map_lt h4) (cj rfl (cj (od h3) (cj (map_ltN (od h3) h4) (cj (look_cons_self _ _ _) (cj (map_lt h4) (cj rfl (cj (od h3) (cj (map_ltN (od h3) h4) (cj (look_cons_self _ _ _) (cj (map_lt h4) (cj rfl (cj (od h3) (cj (map_ltN (od h3) h4) (cj (look_cons_self _ _ _) (cj (map_lt h4) (cj rfl (cj (od h3) (cj (map_ltN (od h3) h4) (cj (look_cons_self _ _ _) (cj (map_lt h4) (cj (laws_markHoldS_ok x1.Holds (i64 ((i64 ((i64 ((i64 ((i64 (v1 + 1)) + 1)) + 1)) + 1)) + 1)) r2 h5) (cj rfl (cj (od h3) (cj (map_ltN (od h3) h4) (cj (look_cons_self _ _ _) (cj (map_lt h4) (cj rfl (cj (od h3) (cj (map_ltN (od h3) h4) (cj (look_cons_self _ _ _) (cj (map_lt h4) (cj rfl (cj (od h3) (cj (map_ltN (od h3) h4) (cj (look_cons_self _ _ _) (cj (map_lt h4) (cj (laws_markIntS_ok x1.Ring.Counts (i64 ((i64 (r2.1 + 1)) + 1)) r3 h6) (cj rfl (cj (od h3) (cj (map_ltN (od h3) h4) (cj (look_cons_self _ _ _) (cj (map_lt h4) (cj (laws_markIntS_ok x1.Ring.Sums r3.1 r4 h7) (cj rfl (cj (od h3) (cj (map_ltN (od h3) h4) (cj (look_cons_self _ _ _) (cj (map_lt h4) (cj (laws_markSlotS_ok x1.Slots r4.1 r5 h8) (cj rfl (cj1 (nb_set E48 _ _ (Acct.mk r1 (i64 (v1 + 1)) (i64 ((i64 (v1 + 1)) + 1)) (i64 ((i64 ((i64 (v1 + 1)) + 1)) + 1)) (i64 ((i64 ((i64 ((i64 (v1 + 1)) + 1)) + 1)) + 1)) r2.2 (Ring.mk r2.1 (i64 (r2.1 + 1)) r3.2 r4.2) r5.2)))))))))))))))))))))))))))))))))))))))))))))))))))))))))))))))))))) (laws_markAcctS_l0_ok fuel r5.1 (i64 (v2 + 1)) (v3.set v2.toNat (Acct.mk r1 (i64 (v1 + 1)) (i64 ((i64 (v1 + 1)) + 1)) (i64 ((i64 ((i64 (v1 + 1)) + 1)) + 1)) (i64 ((i64 ((i64 ((i64 (v1 + 1)) + 1)) + 1)) + 1)) r2.2 (Ring.mk r2.1 (i64 (r2.1 + 1)) r3.2 r4.2) r5.2))))))))) (fun h3 =>
        Pn.none))) (fun h1 =>
      Pn.some (LpO.out [.wait 3, .nm 8 (V.sc (.int .i64 (v3.length : Int))), .bit false, .mask [1], .ren [0]] (p := [V.sc (.int .i64 ((List.map E48 v3).length : Int)) = V.sc (.int .i64 (v3.length : Int)),
       (decide (v2 < (v3.length : Int))) = false]) (by kernel_rfl) (show X.out 0 ≠ X.go from nofun) (cj (len_nm _ _) (cj1 h1))))
def laws_markAcctS (o : List Acct) (o_ : Int) : Option (Int × (List Acct)) :=
 (laws_markAcctS_l0 FUEL o_ 0 o).bind fun r6 =>
 some (r6.1, r6.2)
theorem laws_markAcctS_ok (o : List Acct) (o_ : Int) : Pn (fun y => Fn Tryz.prog 45 [(true, E26 o), (false, E3 o_)] (E3 y.1) [V.sl true 48 (List.map E48 y.2)]) (laws_markAcctS o o_) := by
  unfold laws_markAcctS
  exact
   Pn.bind (fun r6 h9 =>
    Pn.some (Fn.of [.wait 3, .mask [0, 1, 5], .ren [0], .loop (X.out 0) (st 95 [(1, V.sc (.int .i64 r6.1))] [Blk.row 48 (List.map E48 r6.2) []] [some 0])] (p := [Loop Tryz.prog (sub (codeOf Tryz.prog 45) [1, 0, 1, 0, 0]) (st 95 [(0, V.ow 0), (1, V.sc (.int .i64 o_)), (5, V.sc (.int .i64 0))] [Blk.row 48 (List.map E48 o) []] [some 0]) (X.out 0) (st 95 [(1, V.sc (.int .i64 r6.1))] [Blk.row 48 (List.map E48 r6.2) []] [some 0])]) (by kernel_rfl) (cj1 (laws_markAcctS_l0_ok FUEL o_ 0 o r6 h9))))
def laws_markBook (a : Book) (k : Int) : Option (Int × (List Acct)) :=
 (laws_markAcctS a.Accts k).bind fun r1 =>
 some (r1.1, r1.2)
theorem laws_markBook_ok (a : Book) (k : Int) : Pn (fun y => Fn Tryz.prog 14 [(true, E28 a), (false, E3 k)] (E3 y.1) [V.sl true 48 (List.map E48 y.2)]) (laws_markBook a k) := by
  unfold laws_markBook
  exact
   Pn.bind (fun r1 h1 =>
    Pn.some (Fn.of [.call [true, false] (E3 r1.1) [V.sl true 48 (List.map E48 r1.2)]] (p := [Fn Tryz.prog 45 [(true, E26 a.Accts), (false, E3 k)] (E3 r1.1) [V.sl true 48 (List.map E48 r1.2)],
     (true || ((E3 r1.1).nv && nvL [V.sl true 48 (List.map E48 r1.2)])) = true]) (by kernel_rfl) (cj (laws_markAcctS_ok a.Accts k r1 h1) (cj1 rfl))))
def laws_markStripeS_l0  : Nat → Int → Int → (List Stripe) → Option (Int × (List Stripe))
  | 0, _, _, _ => none
  | fuel + 1, v1, v2, v3 =>
   if (decide (v2 < (v3.length : Int))) = true then
    if (decide (0 ≤ v2)) = true then
     (v3[v2.toNat]?).bind fun x1 =>
     (laws_markAcctS x1.Accts (i64 (v1 + 1))).bind fun r1 =>
     laws_markStripeS_l0 fuel r1.1 (i64 (v2 + 1)) (v3.set v2.toNat (Stripe.mk v1 r1.2))
    else none
   else
    some (v1, v3)
theorem laws_markStripeS_l0_ok  : ∀ (fuel : Nat) (v1 : Int) (v2 : Int) (v3 : List Stripe), Pn (LpO Tryz.prog (sub (codeOf Tryz.prog 29) [1, 0, 1, 0, 0]) (st 27 [(0, V.ow 0), (1, V.sc (.int .i64 v1)), (5, V.sc (.int .i64 v2))] [Blk.row 102 (List.map E102 v3) []] [some 0]) (fun (y : Int × (List Stripe)) => (X.out 0, st 27 [(1, V.sc (.int .i64 y.1))] [Blk.row 102 (List.map E102 y.2) []] [some 0]))) (laws_markStripeS_l0 fuel v1 v2 v3)
  | 0, _, _, _ => Pn.none
  | fuel + 1, v1, v2, v3 => by
    unfold laws_markStripeS_l0
    exact
     Pn.ite (fun h1 =>
      Pn.ite (fun h2 =>
       Pn.bind (fun x1 h3 =>
        Pn.bind (fun r1 h4 =>
         LpO.go [.wait 3, .nm 8 (V.sc (.int .i64 (v3.length : Int))), .bit true, .wait 3, .foc 0 v2.toNat (E102 x1), .fo 0, .fo 0, .call [true, false] (E3 r1.1) [V.sl true 48 (List.map E48 r1.2)], .wait 5, .shut 0, .nb 0 (.row 102 (List.map E102 (v3.set v2.toNat (Stripe.mk v1 r1.2))) []), .mask [0, 1, 5], .ren [0]] (p := [V.sc (.int .i64 ((List.map E102 v3).length : Int)) = V.sc (.int .i64 (v3.length : Int)),
          (decide (v2 < (v3.length : Int))) = true,
          (0 : Int) ≤ v2,
          (v2 : Int) < ((List.map E102 v3).length : Int),
          look [] v2.toNat = none,
          (List.map E102 v3)[v2.toNat]? = some (E102 x1),
          look [(v2.toNat, V.agg [V.sc (.int .i64 x1.Owner), V.ow 1])] v2.toNat = some (V.agg [V.sc (.int .i64 x1.Owner), V.ow 1]),
          v2.toNat < (List.map E102 v3).length,
          v2.toNat = v2.toNat,
          (0 : Int) ≤ v2,
          (v2 : Int) < ((List.map E102 v3).length : Int),
          look [(v2.toNat, V.agg [V.sc (.int .i64 v1), V.ow 1])] v2.toNat = some (V.agg [V.sc (.int .i64 v1), V.ow 1]),
          v2.toNat < (List.map E102 v3).length,
          Fn Tryz.prog 45 [(true, E26 x1.Accts), (false, E3 (i64 (v1 + 1)))] (E3 r1.1) [V.sl true 48 (List.map E48 r1.2)],
          (true || ((E3 r1.1).nv && nvL [V.sl true 48 (List.map E48 r1.2)])) = true,
          Blk.row 102 ((List.map E102 v3).set v2.toNat (V.agg [V.sc (.int .i64 v1), V.sl true 48 (List.map E48 r1.2)])) [] = Blk.row 102 (List.map E102 (v3.set v2.toNat (Stripe.mk v1 r1.2))) []]) (by kernel_rfl) (cj (len_nm _ _) (cj h1 (cj (od h2) (cj (map_ltN (od h2) h3) (cj rfl (cj (map_get h3) (cj (look_cons_self _ _ _) (cj (map_lt h3) (cj rfl (cj (od h2) (cj (map_ltN (od h2) h3) (cj (look_cons_self _ _ _) (cj (map_lt h3) (cj (laws_markAcctS_ok x1.Accts (i64 (v1 + 1)) r1 h4) (cj rfl (cj1 (nb_set E102 _ _ (Stripe.mk v1 r1.2)))))))))))))))))) (laws_markStripeS_l0_ok fuel r1.1 (i64 (v2 + 1)) (v3.set v2.toNat (Stripe.mk v1 r1.2)))))) (fun h2 =>
       Pn.none)) (fun h1 =>
      Pn.some (LpO.out [.wait 3, .nm 8 (V.sc (.int .i64 (v3.length : Int))), .bit false, .mask [1], .ren [0]] (p := [V.sc (.int .i64 ((List.map E102 v3).length : Int)) = V.sc (.int .i64 (v3.length : Int)),
       (decide (v2 < (v3.length : Int))) = false]) (by kernel_rfl) (show X.out 0 ≠ X.go from nofun) (cj (len_nm _ _) (cj1 h1))))
def laws_markStripeS (a : List Stripe) (k : Int) : Option (Int × (List Stripe)) :=
 (laws_markStripeS_l0 FUEL k 0 a).bind fun r2 =>
 some (r2.1, r2.2)
theorem laws_markStripeS_ok (a : List Stripe) (k : Int) : Pn (fun y => Fn Tryz.prog 29 [(true, E56 a), (false, E3 k)] (E3 y.1) [V.sl true 102 (List.map E102 y.2)]) (laws_markStripeS a k) := by
  unfold laws_markStripeS
  exact
   Pn.bind (fun r2 h5 =>
    Pn.some (Fn.of [.wait 3, .mask [0, 1, 5], .ren [0], .loop (X.out 0) (st 27 [(1, V.sc (.int .i64 r2.1))] [Blk.row 102 (List.map E102 r2.2) []] [some 0])] (p := [Loop Tryz.prog (sub (codeOf Tryz.prog 29) [1, 0, 1, 0, 0]) (st 27 [(0, V.ow 0), (1, V.sc (.int .i64 k)), (5, V.sc (.int .i64 0))] [Blk.row 102 (List.map E102 a) []] [some 0]) (X.out 0) (st 27 [(1, V.sc (.int .i64 r2.1))] [Blk.row 102 (List.map E102 r2.2) []] [some 0])]) (by kernel_rfl) (cj1 (laws_markStripeS_l0_ok FUEL k 0 a r2 h5))))
def laws_markTaskS_l0  : Nat → Int → Int → (List Task) → Option (Int × (List Task))
  | 0, _, _, _ => none
  | fuel + 1, v1, v2, v3 =>
   if (decide (v2 < (v3.length : Int))) = true then
    if (decide (0 ≤ v2)) = true then
     (v3[v2.toNat]?).bind fun x1 =>
     (laws_markByteS x1.Data v1).bind fun r1 =>
     (laws_markIntS x1.Set (i64 (r1.1 + 1))).bind fun r2 =>
     (laws_markByteS x1.Reply (i64 ((i64 ((i64 ((i64 ((i64 (r2.1 + 1)) + 1)) + 1)) + 1)) + 1))).bind fun r3 =>
     laws_markTaskS_l0 fuel r3.1 (i64 (v2 + 1)) (v3.set v2.toNat (Task.mk r1.2 r1.1 r2.2 r2.1 (i64 (r2.1 + 1)) (i64 ((i64 (r2.1 + 1)) + 1)) (i64 ((i64 ((i64 (r2.1 + 1)) + 1)) + 1)) (i64 ((i64 ((i64 ((i64 (r2.1 + 1)) + 1)) + 1)) + 1)) r3.2))
    else none
   else
    some (v1, v3)
theorem laws_markTaskS_l0_ok  : ∀ (fuel : Nat) (v1 : Int) (v2 : Int) (v3 : List Task), Pn (LpO Tryz.prog (sub (codeOf Tryz.prog 133) [1, 0, 1, 0, 0]) (st 76 [(0, V.ow 0), (1, V.sc (.int .i64 v1)), (5, V.sc (.int .i64 v2))] [Blk.row 163 (List.map E163 v3) []] [some 0]) (fun (y : Int × (List Task)) => (X.out 0, st 76 [(1, V.sc (.int .i64 y.1))] [Blk.row 163 (List.map E163 y.2) []] [some 0]))) (laws_markTaskS_l0 fuel v1 v2 v3)
  | 0, _, _, _ => Pn.none
  | fuel + 1, v1, v2, v3 => by
    unfold laws_markTaskS_l0
    exact
     Pn.ite (fun h1 =>
      Pn.ite (fun h2 =>
       Pn.bind (fun x1 h3 =>
        Pn.bind (fun r1 h4 =>
         Pn.bind (fun r2 h5 =>
          Pn.bind (fun r3 h6 =>
           LpO.go [.wait 3, .nm 8 (V.sc (.int .i64 (v3.length : Int))), .bit true, .wait 2, .foc 0 v2.toNat (E163 x1), .fo 0, .call [true, false] (E3 r1.1) [V.sl true 5 (List.map E5 r1.2)], .fo 0, .fo 0, .call [true, false] (E3 r2.1) [V.sl true 3 (List.map E3 r2.2)], .fo 0, .fo 0, .fo 0, .fo 0, .fo 0, .fo 0, .call [true, false] (E3 r3.1) [V.sl true 5 (List.map E5 r3.2)], .wait 5, .shut 0, .nb 0 (.row 163 (List.map E163 (v3.set v2.toNat (Task.mk r1.2 r1.1 r2.2 r2.1 (i64 (r2.1 + 1)) (i64 ((i64 (r2.1 + 1)) + 1)) (i64 ((i64 ((i64 (r2.1 + 1)) + 1)) + 1)) (i64 ((i64 ((i64 ((i64 (r2.1 + 1)) + 1)) + 1)) + 1)) r3.2))) []), .mask [0, 1, 5], .ren [0]] (p := [V.sc (.int .i64 ((List.map E163 v3).length : Int)) = V.sc (.int .i64 (v3.length : Int)),
            (decide (v2 < (v3.length : Int))) = true,
            (0 : Int) ≤ v2,
            (v2 : Int) < ((List.map E163 v3).length : Int),
            look [] v2.toNat = none,
            (List.map E163 v3)[v2.toNat]? = some (E163 x1),
            look [(v2.toNat, V.agg [V.ow 1, V.sc (.int .i64 x1.Pc), V.ow 2, V.sc (.int .i64 x1.Held), V.sc (.int .i64 x1.Inv), V.sc (.int .i64 x1.Lin), V.sc (.int .i64 x1.Res), V.sc (.int .i64 x1.At), V.ow 3])] v2.toNat = some (V.agg [V.ow 1, V.sc (.int .i64 x1.Pc), V.ow 2, V.sc (.int .i64 x1.Held), V.sc (.int .i64 x1.Inv), V.sc (.int .i64 x1.Lin), V.sc (.int .i64 x1.Res), V.sc (.int .i64 x1.At), V.ow 3]),
            v2.toNat < (List.map E163 v3).length,
            Fn Tryz.prog 125 [(true, E118 x1.Data), (false, E3 v1)] (E3 r1.1) [V.sl true 5 (List.map E5 r1.2)],
            (true || ((E3 r1.1).nv && nvL [V.sl true 5 (List.map E5 r1.2)])) = true,
            (0 : Int) ≤ v2,
            (v2 : Int) < ((List.map E163 v3).length : Int),
            look [(v2.toNat, V.agg [V.ow 1, V.sc (.int .i64 x1.Pc), V.ow 2, V.sc (.int .i64 x1.Held), V.sc (.int .i64 x1.Inv), V.sc (.int .i64 x1.Lin), V.sc (.int .i64 x1.Res), V.sc (.int .i64 x1.At), V.ow 3])] v2.toNat = some (V.agg [V.ow 1, V.sc (.int .i64 x1.Pc), V.ow 2, V.sc (.int .i64 x1.Held), V.sc (.int .i64 x1.Inv), V.sc (.int .i64 x1.Lin), V.sc (.int .i64 x1.Res), V.sc (.int .i64 x1.At), V.ow 3]),
            v2.toNat < (List.map E163 v3).length,
            v2.toNat = v2.toNat,
            (0 : Int) ≤ v2,
            (v2 : Int) < ((List.map E163 v3).length : Int),
            look [(v2.toNat, V.agg [V.ow 1, V.sc (.int .i64 r1.1), V.ow 2, V.sc (.int .i64 x1.Held), V.sc (.int .i64 x1.Inv), V.sc (.int .i64 x1.Lin), V.sc (.int .i64 x1.Res), V.sc (.int .i64 x1.At), V.ow 3])] v2.toNat = some (V.agg [V.ow 1, V.sc (.int .i64 r1.1), V.ow 2, V.sc (.int .i64 x1.Held), V.sc (.int .i64 x1.Inv), V.sc (.int .i64 x1.Lin), V.sc (.int .i64 x1.Res), V.sc (.int .i64 x1.At), V.ow 3]),
            v2.toNat < (List.map E163 v3).length,
            Fn Tryz.prog 91 [(true, E35 x1.Set), (false, E3 (i64 (r1.1 + 1)))] (E3 r2.1) [V.sl true 3 (List.map E3 r2.2)],
            (true || ((E3 r2.1).nv && nvL [V.sl true 3 (List.map E3 r2.2)])) = true,
            (0 : Int) ≤ v2,
            (v2 : Int) < ((List.map E163 v3).length : Int),
            look [(v2.toNat, V.agg [V.ow 1, V.sc (.int .i64 r1.1), V.ow 2, V.sc (.int .i64 x1.Held), V.sc (.int .i64 x1.Inv), V.sc (.int .i64 x1.Lin), V.sc (.int .i64 x1.Res), V.sc (.int .i64 x1.At), V.ow 3])] v2.toNat = some (V.agg [V.ow 1, V.sc (.int .i64 r1.1), V.ow 2, V.sc (.int .i64 x1.Held), V.sc (.int .i64 x1.Inv), V.sc (.int .i64 x1.Lin), V.sc (.int .i64 x1.Res), V.sc (.int .i64 x1.At), V.ow 3]),
            v2.toNat < (List.map E163 v3).length,
            v2.toNat = v2.toNat,
            (0 : Int) ≤ v2,
            (v2 : Int) < ((List.map E163 v3).length : Int),
            look [(v2.toNat, V.agg [V.ow 1, V.sc (.int .i64 r1.1), V.ow 2, V.sc (.int .i64 r2.1), V.sc (.int .i64 x1.Inv), V.sc (.int .i64 x1.Lin), V.sc (.int .i64 x1.Res), V.sc (.int .i64 x1.At), V.ow 3])] v2.toNat = some (V.agg [V.ow 1, V.sc (.int .i64 r1.1), V.ow 2, V.sc (.int .i64 r2.1), V.sc (.int .i64 x1.Inv), V.sc (.int .i64 x1.Lin), V.sc (.int .i64 x1.Res), V.sc (.int .i64 x1.At), V.ow 3]),
            v2.toNat < (List.map E163 v3).length,
            v2.toNat = v2.toNat,
            (0 : Int) ≤ v2,
            (v2 : Int) < ((List.map E163 v3).length : Int),
            look [(v2.toNat, V.agg [V.ow 1, V.sc (.int .i64 r1.1), V.ow 2, V.sc (.int .i64 r2.1), V.sc (.int .i64 (i64 (r2.1 + 1))), V.sc (.int .i64 x1.Lin), V.sc (.int .i64 x1.Res), V.sc (.int .i64 x1.At), V.ow 3])] v2.toNat = some (V.agg [V.ow 1, V.sc (.int .i64 r1.1), V.ow 2, V.sc (.int .i64 r2.1), V.sc (.int .i64 (i64 (r2.1 + 1))), V.sc (.int .i64 x1.Lin), V.sc (.int .i64 x1.Res), V.sc (.int .i64 x1.At), V.ow 3]),
            v2.toNat < (List.map E163 v3).length,
            v2.toNat = v2.toNat,
            (0 : Int) ≤ v2,
            (v2 : Int) < ((List.map E163 v3).length : Int),
            look [(v2.toNat, V.agg [V.ow 1, V.sc (.int .i64 r1.1), V.ow 2, V.sc (.int .i64 r2.1), V.sc (.int .i64 (i64 (r2.1 + 1))), V.sc (.int .i64 (i64 ((i64 (r2.1 + 1)) + 1))), V.sc (.int .i64 x1.Res), V.sc (.int .i64 x1.At), V.ow 3])] v2.toNat = some (V.agg [V.ow 1, V.sc (.int .i64 r1.1), V.ow 2, V.sc (.int .i64 r2.1), V.sc (.int .i64 (i64 (r2.1 + 1))), V.sc (.int .i64 (i64 ((i64 (r2.1 + 1)) + 1))), V.sc (.int .i64 x1.Res), V.sc (.int .i64 x1.At), V.ow 3]),
            v2.toNat < (List.map E163 v3).length,
            v2.toNat = v2.toNat,
            (0 : Int) ≤ v2,
            (v2 : Int) < ((List.map E163 v3).length : Int),
            look [(v2.toNat, V.agg [V.ow 1, V.sc (.int .i64 r1.1), V.ow 2, V.sc (.int .i64 r2.1), V.sc (.int .i64 (i64 (r2.1 + 1))), V.sc (.int .i64 (i64 ((i64 (r2.1 + 1)) + 1))), V.sc (.int .i64 (i64 ((i64 ((i64 (r2.1 + 1)) + 1)) + 1))), V.sc (.int .i64 x1.At), V.ow 3])] v2.toNat = some (V.agg [V.ow 1, V.sc (.int .i64 r1.1), V.ow 2, V.sc (.int .i64 r2.1), V.sc (.int .i64 (i64 (r2.1 + 1))), V.sc (.int .i64 (i64 ((i64 (r2.1 + 1)) + 1))), V.sc (.int .i64 (i64 ((i64 ((i64 (r2.1 + 1)) + 1)) + 1))), V.sc (.int .i64 x1.At), V.ow 3]),
            v2.toNat < (List.map E163 v3).length,
            v2.toNat = v2.toNat,
            (0 : Int) ≤ v2,
            (v2 : Int) < ((List.map E163 v3).length : Int),
            look [(v2.toNat, V.agg [V.ow 1, V.sc (.int .i64 r1.1), V.ow 2, V.sc (.int .i64 r2.1), V.sc (.int .i64 (i64 (r2.1 + 1))), V.sc (.int .i64 (i64 ((i64 (r2.1 + 1)) + 1))), V.sc (.int .i64 (i64 ((i64 ((i64 (r2.1 + 1)) + 1)) + 1))), V.sc (.int .i64 (i64 ((i64 ((i64 ((i64 (r2.1 + 1)) + 1)) + 1)) + 1))), V.ow 3])] v2.toNat = some (V.agg [V.ow 1, V.sc (.int .i64 r1.1), V.ow 2, V.sc (.int .i64 r2.1), V.sc (.int .i64 (i64 (r2.1 + 1))), V.sc (.int .i64 (i64 ((i64 (r2.1 + 1)) + 1))), V.sc (.int .i64 (i64 ((i64 ((i64 (r2.1 + 1)) + 1)) + 1))), V.sc (.int .i64 (i64 ((i64 ((i64 ((i64 (r2.1 + 1)) + 1)) + 1)) + 1))), V.ow 3]),
            v2.toNat < (List.map E163 v3).length,
            Fn Tryz.prog 125 [(true, E118 x1.Reply), (false, E3 (i64 ((i64 ((i64 ((i64 ((i64 (r2.1 + 1)) + 1)) + 1)) + 1)) + 1)))] (E3 r3.1) [V.sl true 5 (List.map E5 r3.2)],
            (true || ((E3 r3.1).nv && nvL [V.sl true 5 (List.map E5 r3.2)])) = true,
            Blk.row 163 ((List.map E163 v3).set v2.toNat (V.agg [V.sl true 5 (List.map E5 r1.2), V.sc (.int .i64 r1.1), V.sl true 3 (List.map E3 r2.2), V.sc (.int .i64 r2.1), V.sc (.int .i64 (i64 (r2.1 + 1))), V.sc (.int .i64 (i64 ((i64 (r2.1 + 1)) + 1))), V.sc (.int .i64 (i64 ((i64 ((i64 (r2.1 + 1)) + 1)) + 1))), V.sc (.int .i64 (i64 ((i64 ((i64 ((i64 (r2.1 + 1)) + 1)) + 1)) + 1))), V.sl true 5 (List.map E5 r3.2)])) [] = Blk.row 163 (List.map E163 (v3.set v2.toNat (Task.mk r1.2 r1.1 r2.2 r2.1 (i64 (r2.1 + 1)) (i64 ((i64 (r2.1 + 1)) + 1)) (i64 ((i64 ((i64 (r2.1 + 1)) + 1)) + 1)) (i64 ((i64 ((i64 ((i64 (r2.1 + 1)) + 1)) + 1)) + 1)) r3.2))) []]) (by kernel_rfl) (cj (len_nm _ _) (cj h1 (cj (od h2) (cj (map_ltN (od h2) h3) (cj rfl (cj (map_get h3) (cj (look_cons_self _ _ _) (cj (map_lt h3) (cj (laws_markByteS_ok x1.Data v1 r1 h4) (cj rfl (cj (od h2) (cj (map_ltN (od h2) h3) (cj (look_cons_self _ _ _) (cj (map_lt h3) (cj rfl (cj (od h2) (cj (map_ltN (od h2) h3) (cj (look_cons_self _ _ _) (cj (map_lt h3) (cj (laws_markIntS_ok x1.Set (i64 (r1.1 + 1)) r2 h5) (cj rfl (cj (od h2) (cj (map_ltN (od h2) h3) (cj (look_cons_self _ _ _) (cj (map_lt h3) (cj rfl (cj (od h2) (cj (map_ltN (od h2) h3) (cj (look_cons_self _ _ _) (cj (map_lt h3) (cj rfl (cj (od h2) (cj (map_ltN (od h2) h3) (cj (look_cons_self _ _ _) (cj (map_lt h3) (cj rfl (cj (od h2) (cj (map_ltN (od h2) h3) (cj (look_cons_self _ _ _) (cj (map_lt h3) (cj rfl (cj (od h2) (cj (map_ltN (od h2) h3) (cj (look_cons_self _ _ _) (cj (map_lt h3) (cj rfl (cj (od h2) (cj (map_ltN (od h2) h3) (cj (look_cons_self _ _ _) (cj (map_lt h3) (cj (laws_markByteS_ok x1.Reply (i64 ((i64 ((i64 ((i64 ((i64 (r2.1 + 1)) + 1)) + 1)) + 1)) + 1)) r3 h6) (cj rfl (cj1 (nb_set E163 _ _ (Task.mk r1.2 r1.1 r2.2 r2.1 (i64 (r2.1 + 1)) (i64 ((i64 (r2.1 + 1)) + 1)) (i64 ((i64 ((i64 (r2.1 + 1)) + 1)) + 1)) (i64 ((i64 ((i64 ((i64 (r2.1 + 1)) + 1)) + 1)) + 1)) r3.2))))))))))))))))))))))))))))))))))))))))))))))))))))))) (laws_markTaskS_l0_ok fuel r3.1 (i64 (v2 + 1)) (v3.set v2.toNat (Task.mk r1.2 r1.1 r2.2 r2.1 (i64 (r2.1 + 1)) (i64 ((i64 (r2.1 + 1)) + 1)) (i64 ((i64 ((i64 (r2.1 + 1)) + 1)) + 1)) (i64 ((i64 ((i64 ((i64 (r2.1 + 1)) + 1)) + 1)) + 1)) r3.2)))))))) (fun h2 =>
       Pn.none)) (fun h1 =>
      Pn.some (LpO.out [.wait 3, .nm 8 (V.sc (.int .i64 (v3.length : Int))), .bit false, .mask [1], .ren [0]] (p := [V.sc (.int .i64 ((List.map E163 v3).length : Int)) = V.sc (.int .i64 (v3.length : Int)),
       (decide (v2 < (v3.length : Int))) = false]) (by kernel_rfl) (show X.out 0 ≠ X.go from nofun) (cj (len_nm _ _) (cj1 h1))))
def laws_markTaskS (o : List Task) (o_ : Int) : Option (Int × (List Task)) :=
 (laws_markTaskS_l0 FUEL o_ 0 o).bind fun r4 =>
 some (r4.1, r4.2)
theorem laws_markTaskS_ok (o : List Task) (o_ : Int) : Pn (fun y => Fn Tryz.prog 133 [(true, E62 o), (false, E3 o_)] (E3 y.1) [V.sl true 163 (List.map E163 y.2)]) (laws_markTaskS o o_) := by
  unfold laws_markTaskS
  exact
   Pn.bind (fun r4 h7 =>
    Pn.some (Fn.of [.wait 3, .mask [0, 1, 5], .ren [0], .loop (X.out 0) (st 76 [(1, V.sc (.int .i64 r4.1))] [Blk.row 163 (List.map E163 r4.2) []] [some 0])] (p := [Loop Tryz.prog (sub (codeOf Tryz.prog 133) [1, 0, 1, 0, 0]) (st 76 [(0, V.ow 0), (1, V.sc (.int .i64 o_)), (5, V.sc (.int .i64 0))] [Blk.row 163 (List.map E163 o) []] [some 0]) (X.out 0) (st 76 [(1, V.sc (.int .i64 r4.1))] [Blk.row 163 (List.map E163 r4.2) []] [some 0])]) (by kernel_rfl) (cj1 (laws_markTaskS_l0_ok FUEL o_ 0 o r4 h7))))
def laws_markWorld (a : World) (k : Int) : Option (Int × (List Stripe) × (List Task)) :=
 (laws_markStripeS a.Stripes k).bind fun r1 =>
 (laws_markTaskS a.Tasks r1.1).bind fun r2 =>
 some (r2.1, r1.2, r2.2)
theorem laws_markWorld_ok (a : World) (k : Int) : Pn (fun y => Fn Tryz.prog 84 [(true, E64 a), (false, E3 k)] (E3 y.1) [V.sl true 102 (List.map E102 y.2.1), V.sl true 163 (List.map E163 y.2.2)]) (laws_markWorld a k) := by
  unfold laws_markWorld
  exact
   Pn.bind (fun r1 h1 =>
    Pn.bind (fun r2 h2 =>
     Pn.some (Fn.of [.call [true, false] (E3 r1.1) [V.sl true 102 (List.map E102 r1.2)], .call [true, false] (E3 r2.1) [V.sl true 163 (List.map E163 r2.2)]] (p := [Fn Tryz.prog 29 [(true, E56 a.Stripes), (false, E3 k)] (E3 r1.1) [V.sl true 102 (List.map E102 r1.2)],
      (true || ((E3 r1.1).nv && nvL [V.sl true 102 (List.map E102 r1.2)])) = true,
      Fn Tryz.prog 133 [(true, E62 a.Tasks), (false, E3 r1.1)] (E3 r2.1) [V.sl true 163 (List.map E163 r2.2)],
      (true || ((E3 r2.1).nv && nvL [V.sl true 163 (List.map E163 r2.2)])) = true]) (by kernel_rfl) (cj (laws_markStripeS_ok a.Stripes k r1 h1) (cj rfl (cj (laws_markTaskS_ok a.Tasks r1.1 r2 h2) (cj1 rfl)))))))
def laws_markDesk (a : Desk) (k : Int) : Option (Int × (List Acct) × (List Stripe) × (List Task)) :=
 (laws_markBook a.Book k).bind fun r1 =>
 (laws_markWorld a.World r1.1).bind fun r2 =>
 some (r2.1, r1.2, r2.2.1, r2.2.2)
theorem laws_markDesk_ok (a : Desk) (k : Int) : Pn (fun y => Fn Tryz.prog 36 [(true, E66 a), (false, E3 k)] (E3 y.1) [V.sl true 48 (List.map E48 y.2.1), V.sl true 102 (List.map E102 y.2.2.1), V.sl true 163 (List.map E163 y.2.2.2)]) (laws_markDesk a k) := by
  unfold laws_markDesk
  exact
   Pn.bind (fun r1 h1 =>
    Pn.bind (fun r2 h2 =>
     Pn.some (Fn.of [.call [true, false] (E3 r1.1) [V.sl true 48 (List.map E48 r1.2)], .call [true, false] (E3 r2.1) [V.sl true 102 (List.map E102 r2.2.1), V.sl true 163 (List.map E163 r2.2.2)]] (p := [Fn Tryz.prog 14 [(true, E28 a.Book), (false, E3 k)] (E3 r1.1) [V.sl true 48 (List.map E48 r1.2)],
      (true || ((E3 r1.1).nv && nvL [V.sl true 48 (List.map E48 r1.2)])) = true,
      Fn Tryz.prog 84 [(true, E64 a.World), (false, E3 r1.1)] (E3 r2.1) [V.sl true 102 (List.map E102 r2.2.1), V.sl true 163 (List.map E163 r2.2.2)],
      (true || ((E3 r2.1).nv && nvL [V.sl true 102 (List.map E102 r2.2.1), V.sl true 163 (List.map E163 r2.2.2)])) = true]) (by kernel_rfl) (cj (laws_markBook_ok a.Book k r1 h1) (cj rfl (cj (laws_markWorld_ok a.World r1.1 r2 h2) (cj1 rfl)))))))
def laws_heldHoldS_l0 (a : List Hold) : List Hold → Int → Option (Lo Int Unit)
  | [], v1 =>
   some (.out v1)
  | x1 :: t1, v1 =>
   (laws_markText v1).bind fun r1 =>
   if (x1.Id == r1) = true then
    if (x1.Amount != (i64 (v1 + 1))) = true then
     some (.ret ())
    else
     if (x1.Due != (i64 ((i64 (v1 + 1)) + 1))) = true then
      some (.ret ())
     else
      laws_heldHoldS_l0 a t1 (i64 ((i64 ((i64 (v1 + 1)) + 1)) + 1))
   else
    some (.ret ())
theorem laws_heldHoldS_l0_ok (a : List Hold) (h2 : capOk a.length = true) : ∀ (t1 p1 : List Hold) (_ : a = p1 ++ t1) (v1 : Int), Pn (LpO Tryz.prog (sub (codeOf Tryz.prog 92) [1, 0, 1, 0, 0]) (st 41 [(0, V.sl false 129 (List.map E129 a)), (1, V.sc (.int .i64 v1)), (5, V.sc (.int .i64 (p1.length : Int)))] [] []) (fun (y : Lo Int Unit) => Lo.elim y (fun s => (X.out 0, st 41 [(1, V.sc (.int .i64 s))] [] [])) (fun s => (X.ret, st 41 [(4, V.sc (.int .i64 (-1)))] [] [])))) (laws_heldHoldS_l0 a t1 v1)
  | [], p1, h1, v1 => by
    unfold laws_heldHoldS_l0
    exact
     Pn.some (LpO.out [.wait 3, .nm 8 (V.sc (.int .i64 (a.length : Int))), .bit false, .mask [1], .ren []] (p := [V.sc (.int .i64 ((List.map E129 a).length : Int)) = V.sc (.int .i64 (a.length : Int)),
      (decide ((p1.length : Int) < (a.length : Int))) = false]) (by kernel_rfl) (show X.out 0 ≠ X.go from nofun) (cj (len_nm _ _) (cj1 (rng_end h1))))
  | x1 :: t1, p1, h1, v1 => by
    unfold laws_heldHoldS_l0
    exact
     Pn.bind (fun r1 h3 =>
      Pn.ite (fun h4 =>
       Pn.ite (fun h5 =>
        Pn.some (LpO.out [.wait 3, .nm 8 (V.sc (.int .i64 (a.length : Int))), .bit true, .draw [], .el (E129 x1), .call [] (E9 r1) [], .bit false, .el (E129 x1), .bit true, .wait 1, .mask [4], .ren []] (p := [V.sc (.int .i64 ((List.map E129 a).length : Int)) = V.sc (.int .i64 (a.length : Int)),
         (decide ((p1.length : Int) < (a.length : Int))) = true,
         (0 : Int) ≤ (p1.length : Int),
         (List.map E129 a)[(p1.length : Int).toNat]? = some (E129 x1),
         Fn Tryz.prog 90 [(false, E3 v1)] (E9 r1) [],
         (true || ((E9 r1).nv && nvL [])) = true,
         (!(x1.Id == r1)) = false,
         (0 : Int) ≤ (p1.length : Int),
         (List.map E129 a)[(p1.length : Int).toNat]? = some (E129 x1),
         (x1.Amount != (i64 (v1 + 1))) = true]) (by kernel_rfl) (show X.ret ≠ X.go from nofun) (cj (len_nm _ _) (cj (rng_lt h1) (cj (by omega) (cj (rng_get _ h1) (cj (laws_markText_ok v1 r1 h3) (cj rfl (cj (nf h4) (cj (by omega) (cj (rng_get _ h1) (cj1 h5)))))))))))) (fun h5 =>
        Pn.ite (fun h6 =>
         Pn.some (LpO.out [.wait 3, .nm 8 (V.sc (.int .i64 (a.length : Int))), .bit true, .draw [], .el (E129 x1), .call [] (E9 r1) [], .bit false, .el (E129 x1), .bit false, .el (E129 x1), .bit true, .wait 1, .mask [4], .ren []] (p := [V.sc (.int .i64 ((List.map E129 a).length : Int)) = V.sc (.int .i64 (a.length : Int)),
          (decide ((p1.length : Int) < (a.length : Int))) = true,
          (0 : Int) ≤ (p1.length : Int),
          (List.map E129 a)[(p1.length : Int).toNat]? = some (E129 x1),
          Fn Tryz.prog 90 [(false, E3 v1)] (E9 r1) [],
          (true || ((E9 r1).nv && nvL [])) = true,
          (!(x1.Id == r1)) = false,
          (0 : Int) ≤ (p1.length : Int),
          (List.map E129 a)[(p1.length : Int).toNat]? = some (E129 x1),
          (x1.Amount != (i64 (v1 + 1))) = false,
          (0 : Int) ≤ (p1.length : Int),
          (List.map E129 a)[(p1.length : Int).toNat]? = some (E129 x1),
          (x1.Due != (i64 ((i64 (v1 + 1)) + 1))) = true]) (by kernel_rfl) (show X.ret ≠ X.go from nofun) (cj (len_nm _ _) (cj (rng_lt h1) (cj (by omega) (cj (rng_get _ h1) (cj (laws_markText_ok v1 r1 h3) (cj rfl (cj (nf h4) (cj (by omega) (cj (rng_get _ h1) (cj h5 (cj (by omega) (cj (rng_get _ h1) (cj1 h6))))))))))))))) (fun h6 =>
         LpO.go [.wait 3, .nm 8 (V.sc (.int .i64 (a.length : Int))), .bit true, .draw [], .el (E129 x1), .call [] (E9 r1) [], .bit false, .el (E129 x1), .bit false, .el (E129 x1), .bit false, .wait 6, .mask [0, 1, 5], .ren [], .nm 5 (V.sc (.int .i64 ((p1 ++ [x1]).length : Int)))] (p := [V.sc (.int .i64 ((List.map E129 a).length : Int)) = V.sc (.int .i64 (a.length : Int)),
          (decide ((p1.length : Int) < (a.length : Int))) = true,
          (0 : Int) ≤ (p1.length : Int),
          (List.map E129 a)[(p1.length : Int).toNat]? = some (E129 x1),
          Fn Tryz.prog 90 [(false, E3 v1)] (E9 r1) [],
          (true || ((E9 r1).nv && nvL [])) = true,
          (!(x1.Id == r1)) = false,
          (0 : Int) ≤ (p1.length : Int),
          (List.map E129 a)[(p1.length : Int).toNat]? = some (E129 x1),
          (x1.Amount != (i64 (v1 + 1))) = false,
          (0 : Int) ≤ (p1.length : Int),
          (List.map E129 a)[(p1.length : Int).toNat]? = some (E129 x1),
          (x1.Due != (i64 ((i64 (v1 + 1)) + 1))) = false,
          V.sc (.int .i64 (i64 ((p1.length : Int) + 1))) = V.sc (.int .i64 ((p1 ++ [x1]).length : Int))]) (by kernel_rfl) (cj (len_nm _ _) (cj (rng_lt h1) (cj (by omega) (cj (rng_get _ h1) (cj (laws_markText_ok v1 r1 h3) (cj rfl (cj (nf h4) (cj (by omega) (cj (rng_get _ h1) (cj h5 (cj (by omega) (cj (rng_get _ h1) (cj h6 (cj1 (rng_next h1 h2))))))))))))))) (laws_heldHoldS_l0_ok a h2 t1 (p1 ++ [x1]) (rng_step h1) (i64 ((i64 ((i64 (v1 + 1)) + 1)) + 1)))))) (fun h4 =>
       Pn.some (LpO.out [.wait 3, .nm 8 (V.sc (.int .i64 (a.length : Int))), .bit true, .draw [], .el (E129 x1), .call [] (E9 r1) [], .bit true, .wait 1, .mask [4], .ren []] (p := [V.sc (.int .i64 ((List.map E129 a).length : Int)) = V.sc (.int .i64 (a.length : Int)),
        (decide ((p1.length : Int) < (a.length : Int))) = true,
        (0 : Int) ≤ (p1.length : Int),
        (List.map E129 a)[(p1.length : Int).toNat]? = some (E129 x1),
        Fn Tryz.prog 90 [(false, E3 v1)] (E9 r1) [],
        (true || ((E9 r1).nv && nvL [])) = true,
        (!(x1.Id == r1)) = true]) (by kernel_rfl) (show X.ret ≠ X.go from nofun) (cj (len_nm _ _) (cj (rng_lt h1) (cj (by omega) (cj (rng_get _ h1) (cj (laws_markText_ok v1 r1 h3) (cj rfl (cj1 (nt h4)))))))))))
def laws_heldHoldS (a : List Hold) (k : Int) : Option (Int) :=
 if (capOk a.length) = true then
  (laws_heldHoldS_l0 a a k).bind fun r2 =>
  Lo.elim r2 (fun s1 =>
   some s1) (fun s2 =>
   some (-1))
 else none
theorem laws_heldHoldS_ok (a : List Hold) (k : Int) : Pn (fun y => Fn Tryz.prog 92 [(false, E44 a), (false, E3 k)] (E3 y) []) (laws_heldHoldS a k) := by
  unfold laws_heldHoldS
  exact
   Pn.ite (fun h7 =>
    Pn.bind (fun r2 h8 =>
     Pn.lo (fun s1 h9 =>
      Pn.some (Fn.of [.wait 3, .mask [0, 1, 5], .ren [], .loop (X.out 0) (st 41 [(1, V.sc (.int .i64 s1))] [] [])] (p := [Loop Tryz.prog (sub (codeOf Tryz.prog 92) [1, 0, 1, 0, 0]) (st 41 [(0, V.sl false 129 (List.map E129 a)), (1, V.sc (.int .i64 k)), (5, V.sc (.int .i64 0))] [] []) (X.out 0) (st 41 [(1, V.sc (.int .i64 s1))] [] [])]) (by kernel_rfl) (cj1 ((laws_heldHoldS_l0_ok a h7 a [] rfl k r2 h8).at h9)))) (fun s2 h10 =>
      Pn.some (Fn.of [.wait 3, .mask [0, 1, 5], .ren [], .loop (X.ret) (st 41 [(4, V.sc (.int .i64 (-1)))] [] [])] (p := [Loop Tryz.prog (sub (codeOf Tryz.prog 92) [1, 0, 1, 0, 0]) (st 41 [(0, V.sl false 129 (List.map E129 a)), (1, V.sc (.int .i64 k)), (5, V.sc (.int .i64 0))] [] []) (X.ret) (st 41 [(4, V.sc (.int .i64 (-1)))] [] [])]) (by kernel_rfl) (cj1 ((laws_heldHoldS_l0_ok a h7 a [] rfl k r2 h8).at h10)))))) (fun h7 =>
    Pn.none)
def laws_heldIntS_l0 (a : List Int) : List Int → Int → Option (Lo Int Unit)
  | [], v1 =>
   some (.out v1)
  | x1 :: t1, v1 =>
   if (x1 != v1) = true then
    some (.ret ())
   else
    laws_heldIntS_l0 a t1 (i64 (v1 + 1))
theorem laws_heldIntS_l0_ok (a : List Int) (h2 : capOk a.length = true) : ∀ (t1 p1 : List Int) (_ : a = p1 ++ t1) (v1 : Int), Pn (LpO Tryz.prog (sub (codeOf Tryz.prog 93) [1, 0, 1, 0, 0]) (st 21 [(0, V.sl false 3 (List.map E3 a)), (1, V.sc (.int .i64 v1)), (5, V.sc (.int .i64 (p1.length : Int)))] [] []) (fun (y : Lo Int Unit) => Lo.elim y (fun s => (X.out 0, st 21 [(1, V.sc (.int .i64 s))] [] [])) (fun s => (X.ret, st 21 [(4, V.sc (.int .i64 (-1)))] [] [])))) (laws_heldIntS_l0 a t1 v1)
  | [], p1, h1, v1 => by
    unfold laws_heldIntS_l0
    exact
     Pn.some (LpO.out [.wait 3, .nm 8 (V.sc (.int .i64 (a.length : Int))), .bit false, .mask [1], .ren []] (p := [V.sc (.int .i64 ((List.map E3 a).length : Int)) = V.sc (.int .i64 (a.length : Int)),
      (decide ((p1.length : Int) < (a.length : Int))) = false]) (by kernel_rfl) (show X.out 0 ≠ X.go from nofun) (cj (len_nm _ _) (cj1 (rng_end h1))))
  | x1 :: t1, p1, h1, v1 => by
    unfold laws_heldIntS_l0
    exact
     Pn.ite (fun h3 =>
      Pn.some (LpO.out [.wait 3, .nm 8 (V.sc (.int .i64 (a.length : Int))), .bit true, .el (E3 x1), .bit true, .wait 1, .mask [4], .ren []] (p := [V.sc (.int .i64 ((List.map E3 a).length : Int)) = V.sc (.int .i64 (a.length : Int)),
       (decide ((p1.length : Int) < (a.length : Int))) = true,
       (0 : Int) ≤ (p1.length : Int),
       (List.map E3 a)[(p1.length : Int).toNat]? = some (E3 x1),
       (x1 != v1) = true]) (by kernel_rfl) (show X.ret ≠ X.go from nofun) (cj (len_nm _ _) (cj (rng_lt h1) (cj (by omega) (cj (rng_get _ h1) (cj1 h3))))))) (fun h3 =>
      LpO.go [.wait 3, .nm 8 (V.sc (.int .i64 (a.length : Int))), .bit true, .el (E3 x1), .bit false, .wait 6, .mask [0, 1, 5], .ren [], .nm 5 (V.sc (.int .i64 ((p1 ++ [x1]).length : Int)))] (p := [V.sc (.int .i64 ((List.map E3 a).length : Int)) = V.sc (.int .i64 (a.length : Int)),
       (decide ((p1.length : Int) < (a.length : Int))) = true,
       (0 : Int) ≤ (p1.length : Int),
       (List.map E3 a)[(p1.length : Int).toNat]? = some (E3 x1),
       (x1 != v1) = false,
       V.sc (.int .i64 (i64 ((p1.length : Int) + 1))) = V.sc (.int .i64 ((p1 ++ [x1]).length : Int))]) (by kernel_rfl) (cj (len_nm _ _) (cj (rng_lt h1) (cj (by omega) (cj (rng_get _ h1) (cj h3 (cj1 (rng_next h1 h2))))))) (laws_heldIntS_l0_ok a h2 t1 (p1 ++ [x1]) (rng_step h1) (i64 (v1 + 1))))
def laws_heldIntS (a : List Int) (k : Int) : Option (Int) :=
 if (capOk a.length) = true then
  (laws_heldIntS_l0 a a k).bind fun r1 =>
  Lo.elim r1 (fun s1 =>
   some s1) (fun s2 =>
   some (-1))
 else none
theorem laws_heldIntS_ok (a : List Int) (k : Int) : Pn (fun y => Fn Tryz.prog 93 [(false, E35 a), (false, E3 k)] (E3 y) []) (laws_heldIntS a k) := by
  unfold laws_heldIntS
  exact
   Pn.ite (fun h4 =>
    Pn.bind (fun r1 h5 =>
     Pn.lo (fun s1 h6 =>
      Pn.some (Fn.of [.wait 3, .mask [0, 1, 5], .ren [], .loop (X.out 0) (st 21 [(1, V.sc (.int .i64 s1))] [] [])] (p := [Loop Tryz.prog (sub (codeOf Tryz.prog 93) [1, 0, 1, 0, 0]) (st 21 [(0, V.sl false 3 (List.map E3 a)), (1, V.sc (.int .i64 k)), (5, V.sc (.int .i64 0))] [] []) (X.out 0) (st 21 [(1, V.sc (.int .i64 s1))] [] [])]) (by kernel_rfl) (cj1 ((laws_heldIntS_l0_ok a h4 a [] rfl k r1 h5).at h6)))) (fun s2 h7 =>
      Pn.some (Fn.of [.wait 3, .mask [0, 1, 5], .ren [], .loop (X.ret) (st 21 [(4, V.sc (.int .i64 (-1)))] [] [])] (p := [Loop Tryz.prog (sub (codeOf Tryz.prog 93) [1, 0, 1, 0, 0]) (st 21 [(0, V.sl false 3 (List.map E3 a)), (1, V.sc (.int .i64 k)), (5, V.sc (.int .i64 0))] [] []) (X.ret) (st 21 [(4, V.sc (.int .i64 (-1)))] [] [])]) (by kernel_rfl) (cj1 ((laws_heldIntS_l0_ok a h4 a [] rfl k r1 h5).at h7)))))) (fun h4 =>
    Pn.none)
def laws_heldByteS_l0 (a : List Int) : List Int → Int → Option (Lo Int Unit)
  | [], v1 =>
   some (.out v1)
  | x1 :: t1, v1 =>
   if (x1 != (u8 v1)) = true then
    some (.ret ())
   else
    laws_heldByteS_l0 a t1 (i64 (v1 + 1))
theorem laws_heldByteS_l0_ok (a : List Int) (h2 : capOk a.length = true) : ∀ (t1 p1 : List Int) (_ : a = p1 ++ t1) (v1 : Int), Pn (LpO Tryz.prog (sub (codeOf Tryz.prog 139) [1, 0, 1, 0, 0]) (st 22 [(0, V.sl false 5 (List.map E5 a)), (1, V.sc (.int .i64 v1)), (5, V.sc (.int .i64 (p1.length : Int)))] [] []) (fun (y : Lo Int Unit) => Lo.elim y (fun s => (X.out 0, st 22 [(1, V.sc (.int .i64 s))] [] [])) (fun s => (X.ret, st 22 [(4, V.sc (.int .i64 (-1)))] [] [])))) (laws_heldByteS_l0 a t1 v1)
  | [], p1, h1, v1 => by
    unfold laws_heldByteS_l0
    exact
     Pn.some (LpO.out [.wait 3, .nm 8 (V.sc (.int .i64 (a.length : Int))), .bit false, .mask [1], .ren []] (p := [V.sc (.int .i64 ((List.map E5 a).length : Int)) = V.sc (.int .i64 (a.length : Int)),
      (decide ((p1.length : Int) < (a.length : Int))) = false]) (by kernel_rfl) (show X.out 0 ≠ X.go from nofun) (cj (len_nm _ _) (cj1 (rng_end h1))))
  | x1 :: t1, p1, h1, v1 => by
    unfold laws_heldByteS_l0
    exact
     Pn.ite (fun h3 =>
      Pn.some (LpO.out [.wait 3, .nm 8 (V.sc (.int .i64 (a.length : Int))), .bit true, .el (E5 x1), .bit true, .wait 1, .mask [4], .ren []] (p := [V.sc (.int .i64 ((List.map E5 a).length : Int)) = V.sc (.int .i64 (a.length : Int)),
       (decide ((p1.length : Int) < (a.length : Int))) = true,
       (0 : Int) ≤ (p1.length : Int),
       (List.map E5 a)[(p1.length : Int).toNat]? = some (E5 x1),
       (x1 != (u8 v1)) = true]) (by kernel_rfl) (show X.ret ≠ X.go from nofun) (cj (len_nm _ _) (cj (rng_lt h1) (cj (by omega) (cj (rng_get _ h1) (cj1 h3))))))) (fun h3 =>
      LpO.go [.wait 3, .nm 8 (V.sc (.int .i64 (a.length : Int))), .bit true, .el (E5 x1), .bit false, .wait 6, .mask [0, 1, 5], .ren [], .nm 5 (V.sc (.int .i64 ((p1 ++ [x1]).length : Int)))] (p := [V.sc (.int .i64 ((List.map E5 a).length : Int)) = V.sc (.int .i64 (a.length : Int)),
       (decide ((p1.length : Int) < (a.length : Int))) = true,
       (0 : Int) ≤ (p1.length : Int),
       (List.map E5 a)[(p1.length : Int).toNat]? = some (E5 x1),
       (x1 != (u8 v1)) = false,
       V.sc (.int .i64 (i64 ((p1.length : Int) + 1))) = V.sc (.int .i64 ((p1 ++ [x1]).length : Int))]) (by kernel_rfl) (cj (len_nm _ _) (cj (rng_lt h1) (cj (by omega) (cj (rng_get _ h1) (cj h3 (cj1 (rng_next h1 h2))))))) (laws_heldByteS_l0_ok a h2 t1 (p1 ++ [x1]) (rng_step h1) (i64 (v1 + 1))))
def laws_heldByteS (a : List Int) (k : Int) : Option (Int) :=
 if (capOk a.length) = true then
  (laws_heldByteS_l0 a a k).bind fun r1 =>
  Lo.elim r1 (fun s1 =>
   some s1) (fun s2 =>
   some (-1))
 else none
theorem laws_heldByteS_ok (a : List Int) (k : Int) : Pn (fun y => Fn Tryz.prog 139 [(false, E118 a), (false, E3 k)] (E3 y) []) (laws_heldByteS a k) := by
  unfold laws_heldByteS
  exact
   Pn.ite (fun h4 =>
    Pn.bind (fun r1 h5 =>
     Pn.lo (fun s1 h6 =>
      Pn.some (Fn.of [.wait 3, .mask [0, 1, 5], .ren [], .loop (X.out 0) (st 22 [(1, V.sc (.int .i64 s1))] [] [])] (p := [Loop Tryz.prog (sub (codeOf Tryz.prog 139) [1, 0, 1, 0, 0]) (st 22 [(0, V.sl false 5 (List.map E5 a)), (1, V.sc (.int .i64 k)), (5, V.sc (.int .i64 0))] [] []) (X.out 0) (st 22 [(1, V.sc (.int .i64 s1))] [] [])]) (by kernel_rfl) (cj1 ((laws_heldByteS_l0_ok a h4 a [] rfl k r1 h5).at h6)))) (fun s2 h7 =>
      Pn.some (Fn.of [.wait 3, .mask [0, 1, 5], .ren [], .loop (X.ret) (st 22 [(4, V.sc (.int .i64 (-1)))] [] [])] (p := [Loop Tryz.prog (sub (codeOf Tryz.prog 139) [1, 0, 1, 0, 0]) (st 22 [(0, V.sl false 5 (List.map E5 a)), (1, V.sc (.int .i64 k)), (5, V.sc (.int .i64 0))] [] []) (X.ret) (st 22 [(4, V.sc (.int .i64 (-1)))] [] [])]) (by kernel_rfl) (cj1 ((laws_heldByteS_l0_ok a h4 a [] rfl k r1 h5).at h7)))))) (fun h4 =>
    Pn.none)
def laws_heldSlotS_l0 (a : List Slot) : List Slot → Int → Option (Lo Int Unit)
  | [], v1 =>
   some (.out v1)
  | x1 :: t1, v1 =>
   (laws_markText v1).bind fun r1 =>
   if (x1.Trace == r1) = true then
    (laws_markText (i64 (v1 + 1))).bind fun r2 =>
    if (x1.Mti == r2) = true then
     (laws_heldByteS x1.Reply (i64 ((i64 (v1 + 1)) + 1))).bind fun r3 =>
     if (decide (r3 < 0)) = true then
      some (.ret ())
     else
      laws_heldSlotS_l0 a t1 r3
    else
     some (.ret ())
   else
    some (.ret ())
theorem laws_heldSlotS_l0_ok (a : List Slot) (h2 : capOk a.length = true) : ∀ (t1 p1 : List Slot) (_ : a = p1 ++ t1) (v1 : Int), Pn (LpO Tryz.prog (sub (codeOf Tryz.prog 94) [1, 0, 1, 0, 0]) (st 42 [(0, V.sl false 132 (List.map E132 a)), (1, V.sc (.int .i64 v1)), (5, V.sc (.int .i64 (p1.length : Int)))] [] []) (fun (y : Lo Int Unit) => Lo.elim y (fun s => (X.out 0, st 42 [(1, V.sc (.int .i64 s))] [] [])) (fun s => (X.ret, st 42 [(4, V.sc (.int .i64 (-1)))] [] [])))) (laws_heldSlotS_l0 a t1 v1)
  | [], p1, h1, v1 => by
    unfold laws_heldSlotS_l0
    exact
     Pn.some (LpO.out [.wait 3, .nm 8 (V.sc (.int .i64 (a.length : Int))), .bit false, .mask [1], .ren []] (p := [V.sc (.int .i64 ((List.map E132 a).length : Int)) = V.sc (.int .i64 (a.length : Int)),
      (decide ((p1.length : Int) < (a.length : Int))) = false]) (by kernel_rfl) (show X.out 0 ≠ X.go from nofun) (cj (len_nm _ _) (cj1 (rng_end h1))))
  | x1 :: t1, p1, h1, v1 => by
    unfold laws_heldSlotS_l0
    exact
     Pn.bind (fun r1 h3 =>
      Pn.ite (fun h4 =>
       Pn.bind (fun r2 h5 =>
        Pn.ite (fun h6 =>
         Pn.bind (fun r3 h7 =>
          Pn.ite (fun h8 =>
           Pn.some (LpO.out [.wait 3, .nm 8 (V.sc (.int .i64 (a.length : Int))), .bit true, .draw [], .el (E132 x1), .call [] (E9 r1) [], .bit false, .draw [], .el (E132 x1), .call [] (E9 r2) [], .bit false, .el (E132 x1), .call [] (E3 r3) [], .bit true, .wait 1, .mask [4], .ren []] (p := [V.sc (.int .i64 ((List.map E132 a).length : Int)) = V.sc (.int .i64 (a.length : Int)),
            (decide ((p1.length : Int) < (a.length : Int))) = true,
            (0 : Int) ≤ (p1.length : Int),
            (List.map E132 a)[(p1.length : Int).toNat]? = some (E132 x1),
            Fn Tryz.prog 90 [(false, E3 v1)] (E9 r1) [],
            (true || ((E9 r1).nv && nvL [])) = true,
            (!(x1.Trace == r1)) = false,
            (0 : Int) ≤ (p1.length : Int),
            (List.map E132 a)[(p1.length : Int).toNat]? = some (E132 x1),
            Fn Tryz.prog 90 [(false, E3 (i64 (v1 + 1)))] (E9 r2) [],
            (true || ((E9 r2).nv && nvL [])) = true,
            (!(x1.Mti == r2)) = false,
            (0 : Int) ≤ (p1.length : Int),
            (List.map E132 a)[(p1.length : Int).toNat]? = some (E132 x1),
            Fn Tryz.prog 139 [(false, E118 x1.Reply), (false, E3 (i64 ((i64 (v1 + 1)) + 1)))] (E3 r3) [],
            (true || ((E3 r3).nv && nvL [])) = true,
            (decide (r3 < 0)) = true]) (by kernel_rfl) (show X.ret ≠ X.go from nofun) (cj (len_nm _ _) (cj (rng_lt h1) (cj (by omega) (cj (rng_get _ h1) (cj (laws_markText_ok v1 r1 h3) (cj rfl (cj (nf h4) (cj (by omega) (cj (rng_get _ h1) (cj (laws_markText_ok (i64 (v1 + 1)) r2 h5) (cj rfl (cj (nf h6) (cj (by omega) (cj (rng_get _ h1) (cj (laws_heldByteS_ok x1.Reply (i64 ((i64 (v1 + 1)) + 1)) r3 h7) (cj rfl (cj1 h8))))))))))))))))))) (fun h8 =>
           LpO.go [.wait 3, .nm 8 (V.sc (.int .i64 (a.length : Int))), .bit true, .draw [], .el (E132 x1), .call [] (E9 r1) [], .bit false, .draw [], .el (E132 x1), .call [] (E9 r2) [], .bit false, .el (E132 x1), .call [] (E3 r3) [], .bit false, .wait 3, .mask [0, 1, 5], .ren [], .nm 5 (V.sc (.int .i64 ((p1 ++ [x1]).length : Int)))] (p := [V.sc (.int .i64 ((List.map E132 a).length : Int)) = V.sc (.int .i64 (a.length : Int)),
            (decide ((p1.length : Int) < (a.length : Int))) = true,
            (0 : Int) ≤ (p1.length : Int),
            (List.map E132 a)[(p1.length : Int).toNat]? = some (E132 x1),
            Fn Tryz.prog 90 [(false, E3 v1)] (E9 r1) [],
            (true || ((E9 r1).nv && nvL [])) = true,
            (!(x1.Trace == r1)) = false,
            (0 : Int) ≤ (p1.length : Int),
            (List.map E132 a)[(p1.length : Int).toNat]? = some (E132 x1),
            Fn Tryz.prog 90 [(false, E3 (i64 (v1 + 1)))] (E9 r2) [],
            (true || ((E9 r2).nv && nvL [])) = true,
            (!(x1.Mti == r2)) = false,
            (0 : Int) ≤ (p1.length : Int),
            (List.map E132 a)[(p1.length : Int).toNat]? = some (E132 x1),
            Fn Tryz.prog 139 [(false, E118 x1.Reply), (false, E3 (i64 ((i64 (v1 + 1)) + 1)))] (E3 r3) [],
            (true || ((E3 r3).nv && nvL [])) = true,
            (decide (r3 < 0)) = false,
            V.sc (.int .i64 (i64 ((p1.length : Int) + 1))) = V.sc (.int .i64 ((p1 ++ [x1]).length : Int))]) (by kernel_rfl) (cj (len_nm _ _) (cj (rng_lt h1) (cj (by omega) (cj (rng_get _ h1) (cj (laws_markText_ok v1 r1 h3) (cj rfl (cj (nf h4) (cj (by omega) (cj (rng_get _ h1) (cj (laws_markText_ok (i64 (v1 + 1)) r2 h5) (cj rfl (cj (nf h6) (cj (by omega) (cj (rng_get _ h1) (cj (laws_heldByteS_ok x1.Reply (i64 ((i64 (v1 + 1)) + 1)) r3 h7) (cj rfl (cj h8 (cj1 (rng_next h1 h2))))))))))))))))))) (laws_heldSlotS_l0_ok a h2 t1 (p1 ++ [x1]) (rng_step h1) r3)))) (fun h6 =>
         Pn.some (LpO.out [.wait 3, .nm 8 (V.sc (.int .i64 (a.length : Int))), .bit true, .draw [], .el (E132 x1), .call [] (E9 r1) [], .bit false, .draw [], .el (E132 x1), .call [] (E9 r2) [], .bit true, .wait 1, .mask [4], .ren []] (p := [V.sc (.int .i64 ((List.map E132 a).length : Int)) = V.sc (.int .i64 (a.length : Int)),
          (decide ((p1.length : Int) < (a.length : Int))) = true,
          (0 : Int) ≤ (p1.length : Int),
          (List.map E132 a)[(p1.length : Int).toNat]? = some (E132 x1),
          Fn Tryz.prog 90 [(false, E3 v1)] (E9 r1) [],
          (true || ((E9 r1).nv && nvL [])) = true,
          (!(x1.Trace == r1)) = false,
          (0 : Int) ≤ (p1.length : Int),
          (List.map E132 a)[(p1.length : Int).toNat]? = some (E132 x1),
          Fn Tryz.prog 90 [(false, E3 (i64 (v1 + 1)))] (E9 r2) [],
          (true || ((E9 r2).nv && nvL [])) = true,
          (!(x1.Mti == r2)) = true]) (by kernel_rfl) (show X.ret ≠ X.go from nofun) (cj (len_nm _ _) (cj (rng_lt h1) (cj (by omega) (cj (rng_get _ h1) (cj (laws_markText_ok v1 r1 h3) (cj rfl (cj (nf h4) (cj (by omega) (cj (rng_get _ h1) (cj (laws_markText_ok (i64 (v1 + 1)) r2 h5) (cj rfl (cj1 (nt h6))))))))))))))))) (fun h4 =>
       Pn.some (LpO.out [.wait 3, .nm 8 (V.sc (.int .i64 (a.length : Int))), .bit true, .draw [], .el (E132 x1), .call [] (E9 r1) [], .bit true, .wait 1, .mask [4], .ren []] (p := [V.sc (.int .i64 ((List.map E132 a).length : Int)) = V.sc (.int .i64 (a.length : Int)),
        (decide ((p1.length : Int) < (a.length : Int))) = true,
        (0 : Int) ≤ (p1.length : Int),
        (List.map E132 a)[(p1.length : Int).toNat]? = some (E132 x1),
        Fn Tryz.prog 90 [(false, E3 v1)] (E9 r1) [],
        (true || ((E9 r1).nv && nvL [])) = true,
        (!(x1.Trace == r1)) = true]) (by kernel_rfl) (show X.ret ≠ X.go from nofun) (cj (len_nm _ _) (cj (rng_lt h1) (cj (by omega) (cj (rng_get _ h1) (cj (laws_markText_ok v1 r1 h3) (cj rfl (cj1 (nt h4)))))))))))
def laws_heldSlotS (a : List Slot) (k : Int) : Option (Int) :=
 if (capOk a.length) = true then
  (laws_heldSlotS_l0 a a k).bind fun r4 =>
  Lo.elim r4 (fun s1 =>
   some s1) (fun s2 =>
   some (-1))
 else none
theorem laws_heldSlotS_ok (a : List Slot) (k : Int) : Pn (fun y => Fn Tryz.prog 94 [(false, E46 a), (false, E3 k)] (E3 y) []) (laws_heldSlotS a k) := by
  unfold laws_heldSlotS
  exact
   Pn.ite (fun h9 =>
    Pn.bind (fun r4 h10 =>
     Pn.lo (fun s1 h11 =>
      Pn.some (Fn.of [.wait 3, .mask [0, 1, 5], .ren [], .loop (X.out 0) (st 42 [(1, V.sc (.int .i64 s1))] [] [])] (p := [Loop Tryz.prog (sub (codeOf Tryz.prog 94) [1, 0, 1, 0, 0]) (st 42 [(0, V.sl false 132 (List.map E132 a)), (1, V.sc (.int .i64 k)), (5, V.sc (.int .i64 0))] [] []) (X.out 0) (st 42 [(1, V.sc (.int .i64 s1))] [] [])]) (by kernel_rfl) (cj1 ((laws_heldSlotS_l0_ok a h9 a [] rfl k r4 h10).at h11)))) (fun s2 h12 =>
      Pn.some (Fn.of [.wait 3, .mask [0, 1, 5], .ren [], .loop (X.ret) (st 42 [(4, V.sc (.int .i64 (-1)))] [] [])] (p := [Loop Tryz.prog (sub (codeOf Tryz.prog 94) [1, 0, 1, 0, 0]) (st 42 [(0, V.sl false 132 (List.map E132 a)), (1, V.sc (.int .i64 k)), (5, V.sc (.int .i64 0))] [] []) (X.ret) (st 42 [(4, V.sc (.int .i64 (-1)))] [] [])]) (by kernel_rfl) (cj1 ((laws_heldSlotS_l0_ok a h9 a [] rfl k r4 h10).at h12)))))) (fun h9 =>
    Pn.none)
def laws_heldAcctS_l0 (o : List Acct) : List Acct → Int → Option (Lo Int Unit)
  | [], v1 =>
   some (.out v1)
  | x1 :: t1, v1 =>
   (laws_markText v1).bind fun r1 =>
   if (x1.Id == r1) = true then
    if (x1.Limit != (i64 (v1 + 1))) = true then
     some (.ret ())
    else
     if (x1.Posted != (i64 ((i64 (v1 + 1)) + 1))) = true then
      some (.ret ())
     else
      if (x1.Most != (i64 ((i64 ((i64 (v1 + 1)) + 1)) + 1))) = true then
       some (.ret ())
      else
       if (x1.MostSum != (i64 ((i64 ((i64 ((i64 (v1 + 1)) + 1)) + 1)) + 1))) = true then
        some (.ret ())
       else
        (laws_heldHoldS x1.Holds (i64 ((i64 ((i64 ((i64 ((i64 (v1 + 1)) + 1)) + 1)) + 1)) + 1))).bind fun r2 =>
        if (decide (r2 < 0)) = true then
         some (.ret ())
        else
         if (x1.Ring.Span != r2) = true then
          some (.ret ())
         else
          if (x1.Ring.Head != (i64 (r2 + 1))) = true then
           some (.ret ())
          else
           (laws_heldIntS x1.Ring.Counts (i64 ((i64 (r2 + 1)) + 1))).bind fun r3 =>
           if (decide (r3 < 0)) = true then
            some (.ret ())
           else
            (laws_heldIntS x1.Ring.Sums r3).bind fun r4 =>
            if (decide (r4 < 0)) = true then
             some (.ret ())
            else
             (laws_heldSlotS x1.Slots r4).bind fun r5 =>
             if (decide (r5 < 0)) = true then
              some (.ret ())
             else
              laws_heldAcctS_l0 o t1 r5
   else
    some (.ret ())
theorem laws_heldAcctS_l0_ok (o : List Acct) (h2 : capOk o.length = true) : ∀ (t1 p1 : List Acct) (_ : o = p1 ++ t1) (v1 : Int), Pn (LpO Tryz.prog (sub (codeOf Tryz.prog 46) [1, 0, 1, 0, 0]) (st 117 [(0, V.sl false 48 (List.map E48 o)), (1, V.sc (.int .i64 v1)), (5, V.sc (.int .i64 (p1.length : Int)))] [] []) (fun (y : Lo Int Unit) => Lo.elim y (fun s => (X.out 0, st 117 [(1, V.sc (.int .i64 s))] [] [])) (fun s => (X.ret, st 117 [(4, V.sc (.int .i64 (-1)))] [] [])))) (laws_heldAcctS_l0 o t1 v1)
  | [], p1, h1, v1 => by
    unfold laws_heldAcctS_l0
    exact
     Pn.some (LpO.out [.wait 3, .nm 8 (V.sc (.int .i64 (o.length : Int))), .bit false, .mask [1], .ren []] (p := [V.sc (.int .i64 ((List.map E48 o).length : Int)) = V.sc (.int .i64 (o.length : Int)),
      (decide ((p1.length : Int) < (o.length : Int))) = false]) (by kernel_rfl) (show X.out 0 ≠ X.go from nofun) (cj (len_nm _ _) (cj1 (rng_end h1))))
  | x1 :: t1, p1, h1, v1 => by
    unfold laws_heldAcctS_l0
    exact
     Pn.bind (fun r1 h3 =>
      Pn.ite (fun h4 =>
       Pn.ite (fun h5 =>
        Pn.some (LpO.out [.wait 3, .nm 8 (V.sc (.int .i64 (o.length : Int))), .bit true, .draw [], .el (E48 x1), .call [] (E9 r1) [], .bit false, .el (E48 x1), .bit true, .wait 1, .mask [4], .ren []] (p := [V.sc (.int .i64 ((List.map E48 o).length : Int)) = V.sc (.int .i64 (o.length : Int)),
         (decide ((p1.length : Int) < (o.length : Int))) = true,
         (0 : Int) ≤ (p1.length : Int),
         (List.map E48 o)[(p1.length : Int).toNat]? = some (E48 x1),
         Fn Tryz.prog 90 [(false, E3 v1)] (E9 r1) [],
         (true || ((E9 r1).nv && nvL [])) = true,
         (!(x1.Id == r1)) = false,
         (0 : Int) ≤ (p1.length : Int),
         (List.map E48 o)[(p1.length : Int).toNat]? = some (E48 x1),
         (x1.Limit != (i64 (v1 + 1))) = true]) (by kernel_rfl) (show X.ret ≠ X.go from nofun) (cj (len_nm _ _) (cj (rng_lt h1) (cj (by omega) (cj (rng_get _ h1) (cj (laws_markText_ok v1 r1 h3) (cj rfl (cj (nf h4) (cj (by omega) (cj (rng_get _ h1) (cj1 h5)))))))))))) (fun h5 =>
        Pn.ite (fun h6 =>
         Pn.some (LpO.out [.wait 3, .nm 8 (V.sc (.int .i64 (o.length : Int))), .bit true, .draw [], .el (E48 x1), .call [] (E9 r1) [], .bit false, .el (E48 x1), .bit false, .el (E48 x1), .bit true, .wait 1, .mask [4], .ren []] (p := [V.sc (.int .i64 ((List.map E48 o).length : Int)) = V.sc (.int .i64 (o.length : Int)),
          (decide ((p1.length : Int) < (o.length : Int))) = true,
          (0 : Int) ≤ (p1.length : Int),
          (List.map E48 o)[(p1.length : Int).toNat]? = some (E48 x1),
          Fn Tryz.prog 90 [(false, E3 v1)] (E9 r1) [],
          (true || ((E9 r1).nv && nvL [])) = true,
          (!(x1.Id == r1)) = false,
          (0 : Int) ≤ (p1.length : Int),
          (List.map E48 o)[(p1.length : Int).toNat]? = some (E48 x1),
          (x1.Limit != (i64 (v1 + 1))) = false,
          (0 : Int) ≤ (p1.length : Int),
          (List.map E48 o)[(p1.length : Int).toNat]? = some (E48 x1),
          (x1.Posted != (i64 ((i64 (v1 + 1)) + 1))) = true]) (by kernel_rfl) (show X.ret ≠ X.go from nofun) (cj (len_nm _ _) (cj (rng_lt h1) (cj (by omega) (cj (rng_get _ h1) (cj (laws_markText_ok v1 r1 h3) (cj rfl (cj (nf h4) (cj (by omega) (cj (rng_get _ h1) (cj h5 (cj (by omega) (cj (rng_get _ h1) (cj1 h6))))))))))))))) (fun h6 =>
         Pn.ite (fun h7 =>
          Pn.some (LpO.out [.wait 3, .nm 8 (V.sc (.int .i64 (o.length : Int))), .bit true, .draw [], .el (E48 x1), .call [] (E9 r1) [], .bit false, .el (E48 x1), .bit false, .el (E48 x1), .bit false, .el (E48 x1), .bit true, .wait 1, .mask [4], .ren []] (p := [V.sc (.int .i64 ((List.map E48 o).length : Int)) = V.sc (.int .i64 (o.length : Int)),
           (decide ((p1.length : Int) < (o.length : Int))) = true,
           (0 : Int) ≤ (p1.length : Int),
           (List.map E48 o)[(p1.length : Int).toNat]? = some (E48 x1),
           Fn Tryz.prog 90 [(false, E3 v1)] (E9 r1) [],
           (true || ((E9 r1).nv && nvL [])) = true,
           (!(x1.Id == r1)) = false,
           (0 : Int) ≤ (p1.length : Int),
           (List.map E48 o)[(p1.length : Int).toNat]? = some (E48 x1),
           (x1.Limit != (i64 (v1 + 1))) = false,
           (0 : Int) ≤ (p1.length : Int),
           (List.map E48 o)[(p1.length : Int).toNat]? = some (E48 x1),
           (x1.Posted != (i64 ((i64 (v1 + 1)) + 1))) = false,
           (0 : Int) ≤ (p1.length : Int),
           (List.map E48 o)[(p1.length : Int).toNat]? = some (E48 x1),
           (x1.Most != (i64 ((i64 ((i64 (v1 + 1)) + 1)) + 1))) = true]) (by kernel_rfl) (show X.ret ≠ X.go from nofun) (cj (len_nm _ _) (cj (rng_lt h1) (cj (by omega) (cj (rng_get _ h1) (cj (laws_markText_ok v1 r1 h3) (cj rfl (cj (nf h4) (cj (by omega) (cj (rng_get _ h1) (cj h5 (cj (by omega) (cj (rng_get _ h1) (cj h6 (cj (by omega) (cj (rng_get _ h1) (cj1 h7)))))))))))))))))) (fun h7 =>
          Pn.ite (fun h8 =>
           Pn.some (LpO.out [.wait 3, .nm 8 (V.sc (.int .i64 (o.length : Int))), .bit true, .draw [], .el (E48 x1), .call [] (E9 r1) [], .bit false, .el (E48 x1), .bit false, .el (E48 x1), .bit false, .el (E48 x1), .bit false, .el (E48 x1), .bit true, .wait 1, .mask [4], .ren []] (p := [V.sc (.int .i64 ((List.map E48 o).length : Int)) = V.sc (.int .i64 (o.length : Int)),
            (decide ((p1.length : Int) < (o.length : Int))) = true,
            (0 : Int) ≤ (p1.length : Int),
            (List.map E48 o)[(p1.length : Int).toNat]? = some (E48 x1),
            Fn Tryz.prog 90 [(false, E3 v1)] (E9 r1) [],
            (true || ((E9 r1).nv && nvL [])) = true,
            (!(x1.Id == r1)) = false,
            (0 : Int) ≤ (p1.length : Int),
            (List.map E48 o)[(p1.length : Int).toNat]? = some (E48 x1),
            (x1.Limit != (i64 (v1 + 1))) = false,
            (0 : Int) ≤ (p1.length : Int),
            (List.map E48 o)[(p1.length : Int).toNat]? = some (E48 x1),
            (x1.Posted != (i64 ((i64 (v1 + 1)) + 1))) = false,
            (0 : Int) ≤ (p1.length : Int),
            (List.map E48 o)[(p1.length : Int).toNat]? = some (E48 x1),
            (x1.Most != (i64 ((i64 ((i64 (v1 + 1)) + 1)) + 1))) = false,
            (0 : Int) ≤ (p1.length : Int),
            (List.map E48 o)[(p1.length : Int).toNat]? = some (E48 x1),
            (x1.MostSum != (i64 ((i64 ((i64 ((i64 (v1 + 1)) + 1)) + 1)) + 1))) = true]) (by kernel_rfl) (show X.ret ≠ X.go from nofun) (cj (len_nm _ _) (cj (rng_lt h1) (cj (by omega) (cj (rng_get _ h1) (cj (laws_markText_ok v1 r1 h3) (cj rfl (cj (nf h4) (cj (by omega) (cj (rng_get _ h1) (cj h5 (cj (by omega) (cj (rng_get _ h1) (cj h6 (cj (by omega) (cj (rng_get _ h1) (cj h7 (cj (by omega) (cj (rng_get _ h1) (cj1 h8))))))))))))))))))))) (fun h8 =>
           Pn.bind (fun r2 h9 =>
            Pn.ite (fun h10 =>
             Pn.some (LpO.out [.wait 3, .nm 8 (V.sc (.int .i64 (o.length : Int))), .bit true, .draw [], .el (E48 x1), .call [] (E9 r1) [], .bit false, .el (E48 x1), .bit false, .el (E48 x1), .bit false, .el (E48 x1), .bit false, .el (E48 x1), .bit false, .el (E48 x1), .call [] (E3 r2) [], .bit true, .wait 1, .mask [4], .ren []] (p := [V.sc (.int .i64 ((List.map E48 o).length : Int)) = V.sc (.int .i64 (o.length : Int)),
              (decide ((p1.length : Int) < (o.length : Int))) = true,
              (0 : Int) ≤ (p1.length : Int),
              (List.map E48 o)[(p1.length : Int).toNat]? = some (E48 x1),
              Fn Tryz.prog 90 [(false, E3 v1)] (E9 r1) [],
              (true || ((E9 r1).nv && nvL [])) = true,
              (!(x1.Id == r1)) = false,
              (0 : Int) ≤ (p1.length : Int),
              (List.map E48 o)[(p1.length : Int).toNat]? = some (E48 x1),
              (x1.Limit != (i64 (v1 + 1))) = false,
              (0 : Int) ≤ (p1.length : Int),
              (List.map E48 o)[(p1.length : Int).toNat]? = some (E48 x1),
              (x1.Posted != (i64 ((i64 (v1 + 1)) + 1))) = false,
              (0 : Int) ≤ (p1.length : Int),
              (List.map E48 o)[(p1.length : Int).toNat]? = some (E48 x1),
              (x1.Most != (i64 ((i64 ((i64 (v1 + 1)) + 1)) + 1))) = false,
              (0 : Int) ≤ (p1.length : Int),
              (List.map E48 o)[(p1.length : Int).toNat]? = some (E48 x1),
              (x1.MostSum != (i64 ((i64 ((i64 ((i64 (v1 + 1)) + 1)) + 1)) + 1))) = false,
              (0 : Int) ≤ (p1.length : Int),
              (List.map E48 o)[(p1.length : Int).toNat]? = some (E48 x1),
              Fn Tryz.prog 92 [(false, E44 x1.Holds), (false, E3 (i64 ((i64 ((i64 ((i64 ((i64 (v1 + 1)) + 1)) + 1)) + 1)) + 1)))] (E3 r2) [],
              (true || ((E3 r2).nv && nvL [])) = true,
              (decide (r2 < 0)) = true]) (by kernel_rfl) (show X.ret ≠ X.go from nofun) (cj (len_nm _ _) (cj (rng_lt h1) (cj (by omega) (cj (rng_get _ h1) (cj (laws_markText_ok v1 r1 h3) (cj rfl (cj (nf h4) (cj (by omega) (cj (rng_get _ h1) (cj h5 (cj (by omega) (cj (rng_get _ h1) (cj h6 (cj (by omega) (cj (rng_get _ h1) (cj h7 (cj (by omega) (cj (rng_get _ h1) (cj h8 (cj (by omega) (cj (rng_get _ h1) (cj (laws_heldHoldS_ok x1.Holds (i64 ((i64 ((i64 ((i64 ((i64 (v1 + 1)) + 1)) + 1)) + 1)) + 1)) r2 h9) (cj rfl (cj1 h10)))))))))))))))))))))))))) (fun h10 =>
             Pn.ite (fun h11 =>
              Pn.some (LpO.out [.wait 3, .nm 8 (V.sc (.int .i64 (o.length : Int))), .bit true, .draw [], .el (E48 x1), .call [] (E9 r1) [], .bit false, .el (E48 x1), .bit false, .el (E48 x1), .bit false, .el (E48 x1), .bit false, .el (E48 x1), .bit false, .el (E48 x1), .call [] (E3 r2) [], .bit false, .el (E48 x1), .bit true, .wait 1, .mask [4], .ren []] (p := [V.sc (.int .i64 ((List.map E48 o).length : Int)) = V.sc (.int .i64 (o.length : Int)),
               (decide ((p1.length : Int) < (o.length : Int))) = true,
               (0 : Int) ≤ (p1.length : Int),
               (List.map E48 o)[(p1.length : Int).toNat]? = some (E48 x1),
               Fn Tryz.prog 90 [(false, E3 v1)] (E9 r1) [],
               (true || ((E9 r1).nv && nvL [])) = true,
               (!(x1.Id == r1)) = false,
               (0 : Int) ≤ (p1.length : Int),
               (List.map E48 o)[(p1.length : Int).toNat]? = some (E48 x1),
               (x1.Limit != (i64 (v1 + 1))) = false,
               (0 : Int) ≤ (p1.length : Int),
               (List.map E48 o)[(p1.length : Int).toNat]? = some (E48 x1),
               (x1.Posted != (i64 ((i64 (v1 + 1)) + 1))) = false,
               (0 : Int) ≤ (p1.length : Int),
               (List.map E48 o)[(p1.length : Int).toNat]? = some (E48 x1),
               (x1.Most != (i64 ((i64 ((i64 (v1 + 1)) + 1)) + 1))) = false,
               (0 : Int) ≤ (p1.length : Int),
               (List.map E48 o)[(p1.length : Int).toNat]? = some (E48 x1),
               (x1.MostSum != (i64 ((i64 ((i64 ((i64 (v1 + 1)) + 1)) + 1)) + 1))) = false,
               (0 : Int) ≤ (p1.length : Int),
               (List.map E48 o)[(p1.length : Int).toNat]? = some (E48 x1),
               Fn Tryz.prog 92 [(false, E44 x1.Holds), (false, E3 (i64 ((i64 ((i64 ((i64 ((i64 (v1 + 1)) + 1)) + 1)) + 1)) + 1)))] (E3 r2) [],
               (true || ((E3 r2).nv && nvL [])) = true,
               (decide (r2 < 0)) = false,
               (0 : Int) ≤ (p1.length : Int),
               (List.map E48 o)[(p1.length : Int).toNat]? = some (E48 x1),
               (x1.Ring.Span != r2) = true]) (by kernel_rfl) (show X.ret ≠ X.go from nofun) (cj (len_nm _ _) (cj (rng_lt h1) (cj (by omega) (cj (rng_get _ h1) (cj (laws_markText_ok v1 r1 h3) (cj rfl (cj (nf h4) (cj (by omega) (cj (rng_get _ h1) (cj h5 (cj (by omega) (cj (rng_get _ h1) (cj h6 (cj (by omega) (cj (rng_get _ h1) (cj h7 (cj (by omega) (cj (rng_get _ h1) (cj h8 (cj (by omega) (cj (rng_get _ h1) (cj (laws_heldHoldS_ok x1.Holds (i64 ((i64 ((i64 ((i64 ((i64 (v1 + 1)) + 1)) + 1)) + 1)) + 1)) r2 h9) (cj rfl (cj h10 (cj (by omega) (cj (rng_get _ h1) (cj1 h11))))))))))))))))))))))))))))) (fun h11 =>
              Pn.ite (fun h12 =>
               Pn.some (LpO.out [.wait 3, .nm 8 (V.sc (.int .i64 (o.length : Int))), .bit true, .draw [], .el (E48 x1), .call [] (E9 r1) [], .bit false, .el (E48 x1), .bit false, .el (E48 x1), .bit false, .el (E48 x1), .bit false, .el (E48 x1), .bit false, .el (E48 x1), .call [] (E3 r2) [], .bit false, .el (E48 x1), .bit false, .el (E48 x1), .bit true, .wait 1, .mask [4], .ren []] (p := [V.sc (.int .i64 ((List.map E48 o).length : Int)) = V.sc (.int .i64 (o.length : Int)),
                (decide ((p1.length : Int) < (o.length : Int))) = true,
                (0 : Int) ≤ (p1.length : Int),
                (List.map E48 o)[(p1.length : Int).toNat]? = some (E48 x1),
                Fn Tryz.prog 90 [(false, E3 v1)] (E9 r1) [],
                (true || ((E9 r1).nv && nvL [])) = true,
                (!(x1.Id == r1)) = false,
                (0 : Int) ≤ (p1.length : Int),
                (List.map E48 o)[(p1.length : Int).toNat]? = some (E48 x1),
                (x1.Limit != (i64 (v1 + 1))) = false,
                (0 : Int) ≤ (p1.length : Int),
                (List.map E48 o)[(p1.length : Int).toNat]? = some (E48 x1),
                (x1.Posted != (i64 ((i64 (v1 + 1)) + 1))) = false,
                (0 : Int) ≤ (p1.length : Int),
                (List.map E48 o)[(p1.length : Int).toNat]? = some (E48 x1),
                (x1.Most != (i64 ((i64 ((i64 (v1 + 1)) + 1)) + 1))) = false,
                (0 : Int) ≤ (p1.length : Int),
                (List.map E48 o)[(p1.length : Int).toNat]? = some (E48 x1),
                (x1.MostSum != (i64 ((i64 ((i64 ((i64 (v1 + 1)) + 1)) + 1)) + 1))) = false,
                (0 : Int) ≤ (p1.length : Int),
                (List.map E48 o)[(p1.length : Int).toNat]? = some (E48 x1),
                Fn Tryz.prog 92 [(false, E44 x1.Holds), (false, E3 (i64 ((i64 ((i64 ((i64 ((i64 (v1 + 1)) + 1)) + 1)) + 1)) + 1)))] (E3 r2) [],
                (true || ((E3 r2).nv && nvL [])) = true,
                (decide (r2 < 0)) = false,
                (0 : Int) ≤ (p1.length : Int),
                (List.map E48 o)[(p1.length : Int).toNat]? = some (E48 x1),
                (x1.Ring.Span != r2) = false,
                (0 : Int) ≤ (p1.length : Int),
                (List.map E48 o)[(p1.length : Int).toNat]? = some (E48 x1),
                (x1.Ring.Head != (i64 (r2 + 1))) = true]) (by kernel_rfl) (show X.ret ≠ X.go from nofun) (cj (len_nm _ _) (cj (rng_lt h1) (cj (by omega) (cj (rng_get _ h1) (cj (laws_markText_ok v1 r1 h3) (cj rfl (cj (nf h4) (cj (by omega) (cj (rng_get _ h1) (cj h5 (cj (by omega) (cj (rng_get _ h1) (cj h6 (cj (by omega) (cj (rng_get _ h1) (cj h7 (cj (by omega) (cj (rng_get _ h1) (cj h8 (cj (by omega) (cj (rng_get _ h1) (cj (laws_heldHoldS_ok x1.Holds (i64 ((i64 ((i64 ((i64 ((i64 (v1 + 1)) + 1)) + 1)) + 1)) + 1)) r2 h9) (cj rfl (cj h10 (cj (by omega) (cj (rng_get _ h1) (cj h11 (cj (by omega) (cj (rng_get _ h1) (cj1 h12)))))))))))))))))))))))))))))))) (fun h12 =>
               Pn.bind (fun r3 h13 =>
                Pn.ite (fun h14 =>
                 Pn.some (LpO.out [.wait 3, .nm 8 (V.sc (.int .i64 (o.length : Int))), .bit true, .draw [], .el (E48 x1), .call [] (E9 r1) [], .bit false, .el (E48 x1), .bit false, .el (E48 x1), .bit false, .el (E48 x1), .bit false, .el (E48 x1), .bit false, .el (E48 x1), .call [] (E3 r2) [], .bit false, .el (E48 x1), .bit false, .el (E48 x1), .bit false, .el (E48 x1), .call [] (E3 r3) [], .bit true, .wait 1, .mask [4], .ren []] (p := [V.sc (.int .i64 ((List.map E48 o).length : Int)) = V.sc (.int .i64 (o.length : Int)),
                  (decide ((p1.length : Int) < (o.length : Int))) = true,
                  (0 : Int) ≤ (p1.length : Int),
                  (List.map E48 o)[(p1.length : Int).toNat]? = some (E48 x1),
                  Fn Tryz.prog 90 [(false, E3 v1)] (E9 r1) [],
                  (true || ((E9 r1).nv && nvL [])) = true,
                  (!(x1.Id == r1)) = false,
                  (0 : Int) ≤ (p1.length : Int),
                  (List.map E48 o)[(p1.length : Int).toNat]? = some (E48 x1),
                  (x1.Limit != (i64 (v1 + 1))) = false,
                  (0 : Int) ≤ (p1.length : Int),
                  (List.map E48 o)[(p1.length : Int).toNat]? = some (E48 x1),
                  (x1.Posted != (i64 ((i64 (v1 + 1)) + 1))) = false,
                  (0 : Int) ≤ (p1.length : Int),
                  (List.map E48 o)[(p1.length : Int).toNat]? = some (E48 x1),
                  (x1.Most != (i64 ((i64 ((i64 (v1 + 1)) + 1)) + 1))) = false,
                  (0 : Int) ≤ (p1.length : Int),
                  (List.map E48 o)[(p1.length : Int).toNat]? = some (E48 x1),
                  (x1.MostSum != (i64 ((i64 ((i64 ((i64 (v1 + 1)) + 1)) + 1)) + 1))) = false,
                  (0 : Int) ≤ (p1.length : Int),
                  (List.map E48 o)[(p1.length : Int).toNat]? = some (E48 x1),
                  Fn Tryz.prog 92 [(false, E44 x1.Holds), (false, E3 (i64 ((i64 ((i64 ((i64 ((i64 (v1 + 1)) + 1)) + 1)) + 1)) + 1)))] (E3 r2) [],
                  (true || ((E3 r2).nv && nvL [])) = true,
                  (decide (r2 < 0)) = false,
                  (0 : Int) ≤ (p1.length : Int),
                  (List.map E48 o)[(p1.length : Int).toNat]? = some (E48 x1),
                  (x1.Ring.Span != r2) = false,
                  (0 : Int) ≤ (p1.length : Int),
                  (List.map E48 o)[(p1.length : Int).toNat]? = some (E48 x1),
                  (x1.Ring.Head != (i64 (r2 + 1))) = false,
                  (0 : Int) ≤ (p1.length : Int),
                  (List.map E48 o)[(p1.length : Int).toNat]? = some (E48 x1),
                  Fn Tryz.prog 93 [(false, E35 x1.Ring.Counts), (false, E3 (i64 ((i64 (r2 + 1)) + 1)))] (E3 r3) [],
                  (true || ((E3 r3).nv && nvL [])) = true,
                  (decide (r3 < 0)) = true]) (by kernel_rfl) (show X.ret ≠ X.go from nofun) (cj (len_nm _ _) (cj (rng_lt h1) (cj (by omega) (cj (rng_get _ h1) (cj (laws_markText_ok v1 r1 h3) (cj rfl (cj (nf h4) (cj (by omega) (cj (rng_get _ h1) (cj h5 (cj (by omega) (cj (rng_get _ h1) (cj h6 (cj (by omega) (cj (rng_get _ h1) (cj h7 (cj (by omega) (cj (rng_get _ h1) (cj h8 (cj (by omega) (cj (rng_get _ h1) (cj (laws_heldHoldS_ok x1.Holds (i64 ((i64 ((i64 ((i64 ((i64 (v1 + 1)) + 1)) + 1)) + 1)) + 1)) r2 h9) (cj rfl (cj h10 (cj (by omega) (cj (rng_get _ h1) (cj h11 (cj (by omega) (cj (rng_get _ h1) (cj h12 (cj (by omega) (cj (rng_get _ h1) (cj (laws_heldIntS_ok x1.Ring.Counts (i64 ((i64 (r2 + 1)) + 1)) r3 h13) (cj rfl (cj1 h14))))))))))))))))))))))))))))))))))))) (fun h14 =>
                 Pn.bind (fun r4 h15 =>
                  Pn.ite (fun h16 =>
                   Pn.some (LpO.out [.wait 3, .nm 8 (V.sc (.int .i64 (o.length : Int))), .bit true, .draw [], .el (E48 x1), .call [] (E9 r1) [], .bit false, .el (E48 x1), .bit false, .el (E48 x1), .bit false, .el (E48 x1), .bit false, .el (E48 x1), .bit false, .el (E48 x1), .call [] (E3 r2) [], .bit false, .el (E48 x1), .bit false, .el (E48 x1), .bit false, .el (E48 x1), .call [] (E3 r3) [], .bit false, .el (E48 x1), .call [] (E3 r4) [], .bit true, .wait 1, .mask [4], .ren []] (p := [V.sc (.int .i64 ((List.map E48 o).length : Int)) = V.sc (.int .i64 (o.length : Int)),
                    (decide ((p1.length : Int) < (o.length : Int))) = true,
                    (0 : Int) ≤ (p1.length : Int),
                    (List.map E48 o)[(p1.length : Int).toNat]? = some (E48 x1),
                    Fn Tryz.prog 90 [(false, E3 v1)] (E9 r1) [],
                    (true || ((E9 r1).nv && nvL [])) = true,
                    (!(x1.Id == r1)) = false,
                    (0 : Int) ≤ (p1.length : Int),
                    (List.map E48 o)[(p1.length : Int).toNat]? = some (E48 x1),
                    (x1.Limit != (i64 (v1 + 1))) = false,
                    (0 : Int) ≤ (p1.length : Int),
                    (List.map E48 o)[(p1.length : Int).toNat]? = some (E48 x1),
                    (x1.Posted != (i64 ((i64 (v1 + 1)) + 1))) = false,
                    (0 : Int) ≤ (p1.length : Int),
                    (List.map E48 o)[(p1.length : Int).toNat]? = some (E48 x1),
                    (x1.Most != (i64 ((i64 ((i64 (v1 + 1)) + 1)) + 1))) = false,
                    (0 : Int) ≤ (p1.length : Int),
                    (List.map E48 o)[(p1.length : Int).toNat]? = some (E48 x1),
                    (x1.MostSum != (i64 ((i64 ((i64 ((i64 (v1 + 1)) + 1)) + 1)) + 1))) = false,
                    (0 : Int) ≤ (p1.length : Int),
                    (List.map E48 o)[(p1.length : Int).toNat]? = some (E48 x1),
                    Fn Tryz.prog 92 [(false, E44 x1.Holds), (false, E3 (i64 ((i64 ((i64 ((i64 ((i64 (v1 + 1)) + 1)) + 1)) + 1)) + 1)))] (E3 r2) [],
                    (true || ((E3 r2).nv && nvL [])) = true,
                    (decide (r2 < 0)) = false,
                    (0 : Int) ≤ (p1.length : Int),
                    (List.map E48 o)[(p1.length : Int).toNat]? = some (E48 x1),
                    (x1.Ring.Span != r2) = false,
                    (0 : Int) ≤ (p1.length : Int),
                    (List.map E48 o)[(p1.length : Int).toNat]? = some (E48 x1),
                    (x1.Ring.Head != (i64 (r2 + 1))) = false,
                    (0 : Int) ≤ (p1.length : Int),
                    (List.map E48 o)[(p1.length : Int).toNat]? = some (E48 x1),
                    Fn Tryz.prog 93 [(false, E35 x1.Ring.Counts), (false, E3 (i64 ((i64 (r2 + 1)) + 1)))] (E3 r3) [],
                    (true || ((E3 r3).nv && nvL [])) = true,
                    (decide (r3 < 0)) = false,
                    (0 : Int) ≤ (p1.length : Int),
                    (List.map E48 o)[(p1.length : Int).toNat]? = some (E48 x1),
                    Fn Tryz.prog 93 [(false, E35 x1.Ring.Sums), (false, E3 r3)] (E3 r4) [],
                    (true || ((E3 r4).nv && nvL [])) = true,
                    (decide (r4 < 0)) = true]) (by kernel_rfl) (show X.ret ≠ X.go from nofun) (cj (len_nm _ _) (cj (rng_lt h1) (cj (by omega) (cj (rng_get _ h1) (cj (laws_markText_ok v1 r1 h3) (cj rfl (cj (nf h4) (cj (by omega) (cj (rng_get _ h1) (cj h5 (cj (by omega) (cj (rng_get _ h1) (cj h6 (cj (by omega) (cj (rng_get _ h1) (cj h7 (cj (by omega) (cj (rng_get _ h1) (cj h8 (cj (by omega) (cj (rng_get _ h1) (cj (laws_heldHoldS_ok x1.Holds (i64 ((i64 ((i64 ((i64 ((i64 (v1 + 1)) + 1)) + 1)) + 1)) + 1)) r2 h9) (cj rfl (cj h10 (cj (by omega) (cj (rng_get _ h1) (cj h11 (cj (by omega) (cj (rng_get _ h1) (cj h12 (cj (by omega) (cj (rng_get _ h1) (cj (laws_heldIntS_ok x1.Ring.Counts (i64 ((i64 (r2 + 1)) + 1)) r3 h13) (cj rfl (cj h14 (cj (by omega) (cj (rng_get _ h1) (cj (laws_heldIntS_ok x1.Ring.Sums r3 r4 h15) (cj rfl (cj1 h16)))))))))))))))))))))))))))))))))))))))))) (fun h16 =>
                   Pn.bind (fun r5 h17 =>
                    Pn.ite (fun h18 =>
                     Pn.some (LpO.out [.wait 3, .nm 8 (V.sc (.int .i64 (o.length : Int))), .bit true, .draw [], .el (E48 x1), .call [] (E9 r1) [], .bit false, .el (E48 x1), .bit false, .el (E48 x1), .bit false, .el (E48 x1), .bit false, .el (E48 x1), .bit false, .el (E48 x1), .call [] (E3 r2) [], .bit false, .el (E48 x1), .bit false, .el (E48 x1), .bit false, .el (E48 x1), .call [] (E3 r3) [], .bit false, .el (E48 x1), .call [] (E3 r4) [], .bit false, .el (E48 x1), .call [] (E3 r5) [], .bit true, .wait 1, .mask [4], .ren []] (p := [V.sc (.int .i64 ((List.map E48 o).length : Int)) = V.sc (.int .i64 (o.length : Int)),
                      (decide ((p1.length : Int) < (o.length : Int))) = true,
                      (0 : Int) ≤ (p1.length : Int),
                      (List.map E48 o)[(p1.length : Int).toNat]? = some (E48 x1),
                      Fn Tryz.prog 90 [(false, E3 v1)] (E9 r1) [],
                      (true || ((E9 r1).nv && nvL [])) = true,
                      (!(x1.Id == r1)) = false,
                      (0 : Int) ≤ (p1.length : Int),
                      (List.map E48 o)[(p1.length : Int).toNat]? = some (E48 x1),
                      (x1.Limit != (i64 (v1 + 1))) = false,
                      (0 : Int) ≤ (p1.length : Int),
                      (List.map E48 o)[(p1.length : Int).toNat]? = some (E48 x1),
                      (x1.Posted != (i64 ((i64 (v1 + 1)) + 1))) = false,
                      (0 : Int) ≤ (p1.length : Int),
                      (List.map E48 o)[(p1.length : Int).toNat]? = some (E48 x1),
                      (x1.Most != (i64 ((i64 ((i64 (v1 + 1)) + 1)) + 1))) = false,
                      (0 : Int) ≤ (p1.length : Int),
                      (List.map E48 o)[(p1.length : Int).toNat]? = some (E48 x1),
                      (x1.MostSum != (i64 ((i64 ((i64 ((i64 (v1 + 1)) + 1)) + 1)) + 1))) = false,
                      (0 : Int) ≤ (p1.length : Int),
                      (List.map E48 o)[(p1.length : Int).toNat]? = some (E48 x1),
                      Fn Tryz.prog 92 [(false, E44 x1.Holds), (false, E3 (i64 ((i64 ((i64 ((i64 ((i64 (v1 + 1)) + 1)) + 1)) + 1)) + 1)))] (E3 r2) [],
                      (true || ((E3 r2).nv && nvL [])) = true,
                      (decide (r2 < 0)) = false,
                      (0 : Int) ≤ (p1.length : Int),
                      (List.map E48 o)[(p1.length : Int).toNat]? = some (E48 x1),
                      (x1.Ring.Span != r2) = false,
                      (0 : Int) ≤ (p1.length : Int),
                      (List.map E48 o)[(p1.length : Int).toNat]? = some (E48 x1),
                      (x1.Ring.Head != (i64 (r2 + 1))) = false,
                      (0 : Int) ≤ (p1.length : Int),
                      (List.map E48 o)[(p1.length : Int).toNat]? = some (E48 x1),
                      Fn Tryz.prog 93 [(false, E35 x1.Ring.Counts), (false, E3 (i64 ((i64 (r2 + 1)) + 1)))] (E3 r3) [],
                      (true || ((E3 r3).nv && nvL [])) = true,
                      (decide (r3 < 0)) = false,
                      (0 : Int) ≤ (p1.length : Int),
                      (List.map E48 o)[(p1.length : Int).toNat]? = some (E48 x1),
                      Fn Tryz.prog 93 [(false, E35 x1.Ring.Sums), (false, E3 r3)] (E3 r4) [],
                      (true || ((E3 r4).nv && nvL [])) = true,
                      (decide (r4 < 0)) = false,
                      (0 : Int) ≤ (p1.length : Int),
                      (List.map E48 o)[(p1.length : Int).toNat]? = some (E48 x1),
                      Fn Tryz.prog 94 [(false, E46 x1.Slots), (false, E3 r4)] (E3 r5) [],
                      (true || ((E3 r5).nv && nvL [])) = true,
                      (decide (r5 < 0)) = true]) (by kernel_rfl) (show X.ret ≠ X.go from nofun) (cj (len_nm _ _) (cj (rng_lt h1) (cj (by omega) (cj (rng_get _ h1) (cj (laws_markText_ok v1 r1 h3) (cj rfl (cj (nf h4) (cj (by omega) (cj (rng_get _ h1) (cj h5 (cj (by omega) (cj (rng_get _ h1) (cj h6 (cj (by omega) (cj (rng_get _ h1) (cj h7 (cj (by omega) (cj (rng_get _ h1) (cj h8 (cj (by omega) (cj (rng_get _ h1) (cj (laws_heldHoldS_ok x1.Holds (i64 ((i64 ((i64 ((i64 ((i64 (v1 + 1)) + 1)) + 1)) + 1)) + 1)) r2 h9) (cj rfl (cj h10 (cj (by omega) (cj (rng_get _ h1) (cj h11 (cj (by omega) (cj (rng_get _ h1) (cj h12 (cj (by omega) (cj (rng_get _ h1) (cj (laws_heldIntS_ok x1.Ring.Counts (i64 ((i64 (r2 + 1)) + 1)) r3 h13) (cj rfl (cj h14 (cj (by omega) (cj (rng_get _ h1) (cj (laws_heldIntS_ok x1.Ring.Sums r3 r4 h15) (cj rfl (cj h16 (cj (by omega) (cj (rng_get _ h1) (cj (laws_heldSlotS_ok x1.Slots r4 r5 h17) (cj rfl (cj1 h18))))))))))))))))))))))))))))))))))))))))))))))) (fun h18 =>
                     LpO.go [.wait 3, .nm 8 (V.sc (.int .i64 (o.length : Int))), .bit true, .draw [], .el (E48 x1), .call [] (E9 r1) [], .bit false, .el (E48 x1), .bit false, .el (E48 x1), .bit false, .el (E48 x1), .bit false, .el (E48 x1), .bit false, .el (E48 x1), .call [] (E3 r2) [], .bit false, .el (E48 x1), .bit false, .el (E48 x1), .bit false, .el (E48 x1), .call [] (E3 r3) [], .bit false, .el (E48 x1), .call [] (E3 r4) [], .bit false, .el (E48 x1), .call [] (E3 r5) [], .bit false, .wait 3, .mask [0, 1, 5], .ren [], .nm 5 (V.sc (.int .i64 ((p1 ++ [x1]).length : Int)))] (p := [V.sc (.int .i64 ((List.map E48 o).length : Int)) = V.sc (.int .i64 (o.length : Int)),
                      (decide ((p1.length : Int) < (o.length : Int))) = true,
                      (0 : Int) ≤ (p1.length : Int),
                      (List.map E48 o)[(p1.length : Int).toNat]? = some (E48 x1),
                      Fn Tryz.prog 90 [(false, E3 v1)] (E9 r1) [],
                      (true || ((E9 r1).nv && nvL [])) = true,
                      (!(x1.Id == r1)) = false,
                      (0 : Int) ≤ (p1.length : Int),
                      (List.map E48 o)[(p1.length : Int).toNat]? = some (E48 x1),
                      (x1.Limit != (i64 (v1 + 1))) = false,
                      (0 : Int) ≤ (p1.length : Int),
                      (List.map E48 o)[(p1.length : Int).toNat]? = some (E48 x1),
                      (x1.Posted != (i64 ((i64 (v1 + 1)) + 1))) = false,
                      (0 : Int) ≤ (p1.length : Int),
                      (List.map E48 o)[(p1.length : Int).toNat]? = some (E48 x1),
                      (x1.Most != (i64 ((i64 ((i64 (v1 + 1)) + 1)) + 1))) = false,
                      (0 : Int) ≤ (p1.length : Int),
                      (List.map E48 o)[(p1.length : Int).toNat]? = some (E48 x1),
                      (x1.MostSum != (i64 ((i64 ((i64 ((i64 (v1 + 1)) + 1)) + 1)) + 1))) = false,
                      (0 : Int) ≤ (p1.length : Int),
                      (List.map E48 o)[(p1.length : Int).toNat]? = some (E48 x1),
                      Fn Tryz.prog 92 [(false, E44 x1.Holds), (false, E3 (i64 ((i64 ((i64 ((i64 ((i64 (v1 + 1)) + 1)) + 1)) + 1)) + 1)))] (E3 r2) [],
                      (true || ((E3 r2).nv && nvL [])) = true,
                      (decide (r2 < 0)) = false,
                      (0 : Int) ≤ (p1.length : Int),
                      (List.map E48 o)[(p1.length : Int).toNat]? = some (E48 x1),
                      (x1.Ring.Span != r2) = false,
                      (0 : Int) ≤ (p1.length : Int),
                      (List.map E48 o)[(p1.length : Int).toNat]? = some (E48 x1),
                      (x1.Ring.Head != (i64 (r2 + 1))) = false,
                      (0 : Int) ≤ (p1.length : Int),
                      (List.map E48 o)[(p1.length : Int).toNat]? = some (E48 x1),
                      Fn Tryz.prog 93 [(false, E35 x1.Ring.Counts), (false, E3 (i64 ((i64 (r2 + 1)) + 1)))] (E3 r3) [],
                      (true || ((E3 r3).nv && nvL [])) = true,
                      (decide (r3 < 0)) = false,
                      (0 : Int) ≤ (p1.length : Int),
                      (List.map E48 o)[(p1.length : Int).toNat]? = some (E48 x1),
                      Fn Tryz.prog 93 [(false, E35 x1.Ring.Sums), (false, E3 r3)] (E3 r4) [],
                      (true || ((E3 r4).nv && nvL [])) = true,
                      (decide (r4 < 0)) = false,
                      (0 : Int) ≤ (p1.length : Int),
                      (List.map E48 o)[(p1.length : Int).toNat]? = some (E48 x1),
                      Fn Tryz.prog 94 [(false, E46 x1.Slots), (false, E3 r4)] (E3 r5) [],
                      (true || ((E3 r5).nv && nvL [])) = true,
                      (decide (r5 < 0)) = false,
                      V.sc (.int .i64 (i64 ((p1.length : Int) + 1))) = V.sc (.int .i64 ((p1 ++ [x1]).length : Int))]) (by kernel_rfl) (cj (len_nm _ _) (cj (rng_lt h1) (cj (by omega) (cj (rng_get _ h1) (cj (laws_markText_ok v1 r1 h3) (cj rfl (cj (nf h4) (cj (by omega) (cj (rng_get _ h1) (cj h5 (cj (by omega) (cj (rng_get _ h1) (cj h6 (cj (by omega) (cj (rng_get _ h1) (cj h7 (cj (by omega) (cj (rng_get _ h1) (cj h8 (cj (by omega) (cj (rng_get _ h1) (cj (laws_heldHoldS_ok x1.Holds (i64 ((i64 ((i64 ((i64 ((i64 (v1 + 1)) + 1)) + 1)) + 1)) + 1)) r2 h9) (cj rfl (cj h10 (cj (by omega) (cj (rng_get _ h1) (cj h11 (cj (by omega) (cj (rng_get _ h1) (cj h12 (cj (by omega) (cj (rng_get _ h1) (cj (laws_heldIntS_ok x1.Ring.Counts (i64 ((i64 (r2 + 1)) + 1)) r3 h13) (cj rfl (cj h14 (cj (by omega) (cj (rng_get _ h1) (cj (laws_heldIntS_ok x1.Ring.Sums r3 r4 h15) (cj rfl (cj h16 (cj (by omega) (cj (rng_get _ h1) (cj (laws_heldSlotS_ok x1.Slots r4 r5 h17) (cj rfl (cj h18 (cj1 (rng_next h1 h2))))))))))))))))))))))))))))))))))))))))))))))) (laws_heldAcctS_l0_ok o h2 t1 (p1 ++ [x1]) (rng_step h1) r5)))))))))))))))) (fun h4 =>
       Pn.some (LpO.out [.wait 3, .nm 8 (V.sc (.int .i64 (o.length : Int))), .bit true, .draw [], .el (E48 x1), .call [] (E9 r1) [], .bit true, .wait 1, .mask [4], .ren []] (p := [V.sc (.int .i64 ((List.map E48 o).length : Int)) = V.sc (.int .i64 (o.length : Int)),
        (decide ((p1.length : Int) < (o.length : Int))) = true,
        (0 : Int) ≤ (p1.length : Int),
        (List.map E48 o)[(p1.length : Int).toNat]? = some (E48 x1),
        Fn Tryz.prog 90 [(false, E3 v1)] (E9 r1) [],
        (true || ((E9 r1).nv && nvL [])) = true,
        (!(x1.Id == r1)) = true]) (by kernel_rfl) (show X.ret ≠ X.go from nofun) (cj (len_nm _ _) (cj (rng_lt h1) (cj (by omega) (cj (rng_get _ h1) (cj (laws_markText_ok v1 r1 h3) (cj rfl (cj1 (nt h4)))))))))))
def laws_heldAcctS (o : List Acct) (o_ : Int) : Option (Int) :=
 if (capOk o.length) = true then
  (laws_heldAcctS_l0 o o o_).bind fun r6 =>
  Lo.elim r6 (fun s1 =>
   some s1) (fun s2 =>
   some (-1))
 else none
theorem laws_heldAcctS_ok (o : List Acct) (o_ : Int) : Pn (fun y => Fn Tryz.prog 46 [(false, E26 o), (false, E3 o_)] (E3 y) []) (laws_heldAcctS o o_) := by
  unfold laws_heldAcctS
  exact
   Pn.ite (fun h19 =>
    Pn.bind (fun r6 h20 =>
     Pn.lo (fun s1 h21 =>
      Pn.some (Fn.of [.wait 3, .mask [0, 1, 5], .ren [], .loop (X.out 0) (st 117 [(1, V.sc (.int .i64 s1))] [] [])] (p := [Loop Tryz.prog (sub (codeOf Tryz.prog 46) [1, 0, 1, 0, 0]) (st 117 [(0, V.sl false 48 (List.map E48 o)), (1, V.sc (.int .i64 o_)), (5, V.sc (.int .i64 0))] [] []) (X.out 0) (st 117 [(1, V.sc (.int .i64 s1))] [] [])]) (by kernel_rfl) (cj1 ((laws_heldAcctS_l0_ok o h19 o [] rfl o_ r6 h20).at h21)))) (fun s2 h22 =>
      Pn.some (Fn.of [.wait 3, .mask [0, 1, 5], .ren [], .loop (X.ret) (st 117 [(4, V.sc (.int .i64 (-1)))] [] [])] (p := [Loop Tryz.prog (sub (codeOf Tryz.prog 46) [1, 0, 1, 0, 0]) (st 117 [(0, V.sl false 48 (List.map E48 o)), (1, V.sc (.int .i64 o_)), (5, V.sc (.int .i64 0))] [] []) (X.ret) (st 117 [(4, V.sc (.int .i64 (-1)))] [] [])]) (by kernel_rfl) (cj1 ((laws_heldAcctS_l0_ok o h19 o [] rfl o_ r6 h20).at h22)))))) (fun h19 =>
    Pn.none)
def laws_heldBook (a : Book) (k : Int) : Option (Int) :=
 (laws_heldAcctS a.Accts k).bind fun r1 =>
 if (decide (r1 < 0)) = true then
  some (-1)
 else
  some r1
theorem laws_heldBook_ok (a : Book) (k : Int) : Pn (fun y => Fn Tryz.prog 15 [(false, E28 a), (false, E3 k)] (E3 y) []) (laws_heldBook a k) := by
  unfold laws_heldBook
  exact
   Pn.bind (fun r1 h1 =>
    Pn.ite (fun h2 =>
     Pn.some (Fn.of [.call [] (E3 r1) [], .bit true] (p := [Fn Tryz.prog 46 [(false, E26 a.Accts), (false, E3 k)] (E3 r1) [],
      (true || ((E3 r1).nv && nvL [])) = true,
      (decide (r1 < 0)) = true]) (by kernel_rfl) (cj (laws_heldAcctS_ok a.Accts k r1 h1) (cj rfl (cj1 h2))))) (fun h2 =>
     Pn.some (Fn.of [.call [] (E3 r1) [], .bit false] (p := [Fn Tryz.prog 46 [(false, E26 a.Accts), (false, E3 k)] (E3 r1) [],
      (true || ((E3 r1).nv && nvL [])) = true,
      (decide (r1 < 0)) = false]) (by kernel_rfl) (cj (laws_heldAcctS_ok a.Accts k r1 h1) (cj rfl (cj1 h2))))))
def laws_heldStripeS_l0 (a : List Stripe) : List Stripe → Int → Option (Lo Int Unit)
  | [], v1 =>
   some (.out v1)
  | x1 :: t1, v1 =>
   if (x1.Owner != v1) = true then
    some (.ret ())
   else
    (laws_heldAcctS x1.Accts (i64 (v1 + 1))).bind fun r1 =>
    if (decide (r1 < 0)) = true then
     some (.ret ())
    else
     laws_heldStripeS_l0 a t1 r1
theorem laws_heldStripeS_l0_ok (a : List Stripe) (h2 : capOk a.length = true) : ∀ (t1 p1 : List Stripe) (_ : a = p1 ++ t1) (v1 : Int), Pn (LpO Tryz.prog (sub (codeOf Tryz.prog 30) [1, 0, 1, 0, 0]) (st 31 [(0, V.sl false 102 (List.map E102 a)), (1, V.sc (.int .i64 v1)), (5, V.sc (.int .i64 (p1.length : Int)))] [] []) (fun (y : Lo Int Unit) => Lo.elim y (fun s => (X.out 0, st 31 [(1, V.sc (.int .i64 s))] [] [])) (fun s => (X.ret, st 31 [(4, V.sc (.int .i64 (-1)))] [] [])))) (laws_heldStripeS_l0 a t1 v1)
  | [], p1, h1, v1 => by
    unfold laws_heldStripeS_l0
    exact
     Pn.some (LpO.out [.wait 3, .nm 8 (V.sc (.int .i64 (a.length : Int))), .bit false, .mask [1], .ren []] (p := [V.sc (.int .i64 ((List.map E102 a).length : Int)) = V.sc (.int .i64 (a.length : Int)),
      (decide ((p1.length : Int) < (a.length : Int))) = false]) (by kernel_rfl) (show X.out 0 ≠ X.go from nofun) (cj (len_nm _ _) (cj1 (rng_end h1))))
  | x1 :: t1, p1, h1, v1 => by
    unfold laws_heldStripeS_l0
    exact
     Pn.ite (fun h3 =>
      Pn.some (LpO.out [.wait 3, .nm 8 (V.sc (.int .i64 (a.length : Int))), .bit true, .el (E102 x1), .bit true, .wait 1, .mask [4], .ren []] (p := [V.sc (.int .i64 ((List.map E102 a).length : Int)) = V.sc (.int .i64 (a.length : Int)),
       (decide ((p1.length : Int) < (a.length : Int))) = true,
       (0 : Int) ≤ (p1.length : Int),
       (List.map E102 a)[(p1.length : Int).toNat]? = some (E102 x1),
       (x1.Owner != v1) = true]) (by kernel_rfl) (show X.ret ≠ X.go from nofun) (cj (len_nm _ _) (cj (rng_lt h1) (cj (by omega) (cj (rng_get _ h1) (cj1 h3))))))) (fun h3 =>
      Pn.bind (fun r1 h4 =>
       Pn.ite (fun h5 =>
        Pn.some (LpO.out [.wait 3, .nm 8 (V.sc (.int .i64 (a.length : Int))), .bit true, .el (E102 x1), .bit false, .el (E102 x1), .call [] (E3 r1) [], .bit true, .wait 1, .mask [4], .ren []] (p := [V.sc (.int .i64 ((List.map E102 a).length : Int)) = V.sc (.int .i64 (a.length : Int)),
         (decide ((p1.length : Int) < (a.length : Int))) = true,
         (0 : Int) ≤ (p1.length : Int),
         (List.map E102 a)[(p1.length : Int).toNat]? = some (E102 x1),
         (x1.Owner != v1) = false,
         (0 : Int) ≤ (p1.length : Int),
         (List.map E102 a)[(p1.length : Int).toNat]? = some (E102 x1),
         Fn Tryz.prog 46 [(false, E26 x1.Accts), (false, E3 (i64 (v1 + 1)))] (E3 r1) [],
         (true || ((E3 r1).nv && nvL [])) = true,
         (decide (r1 < 0)) = true]) (by kernel_rfl) (show X.ret ≠ X.go from nofun) (cj (len_nm _ _) (cj (rng_lt h1) (cj (by omega) (cj (rng_get _ h1) (cj h3 (cj (by omega) (cj (rng_get _ h1) (cj (laws_heldAcctS_ok x1.Accts (i64 (v1 + 1)) r1 h4) (cj rfl (cj1 h5)))))))))))) (fun h5 =>
        LpO.go [.wait 3, .nm 8 (V.sc (.int .i64 (a.length : Int))), .bit true, .el (E102 x1), .bit false, .el (E102 x1), .call [] (E3 r1) [], .bit false, .wait 3, .mask [0, 1, 5], .ren [], .nm 5 (V.sc (.int .i64 ((p1 ++ [x1]).length : Int)))] (p := [V.sc (.int .i64 ((List.map E102 a).length : Int)) = V.sc (.int .i64 (a.length : Int)),
         (decide ((p1.length : Int) < (a.length : Int))) = true,
         (0 : Int) ≤ (p1.length : Int),
         (List.map E102 a)[(p1.length : Int).toNat]? = some (E102 x1),
         (x1.Owner != v1) = false,
         (0 : Int) ≤ (p1.length : Int),
         (List.map E102 a)[(p1.length : Int).toNat]? = some (E102 x1),
         Fn Tryz.prog 46 [(false, E26 x1.Accts), (false, E3 (i64 (v1 + 1)))] (E3 r1) [],
         (true || ((E3 r1).nv && nvL [])) = true,
         (decide (r1 < 0)) = false,
         V.sc (.int .i64 (i64 ((p1.length : Int) + 1))) = V.sc (.int .i64 ((p1 ++ [x1]).length : Int))]) (by kernel_rfl) (cj (len_nm _ _) (cj (rng_lt h1) (cj (by omega) (cj (rng_get _ h1) (cj h3 (cj (by omega) (cj (rng_get _ h1) (cj (laws_heldAcctS_ok x1.Accts (i64 (v1 + 1)) r1 h4) (cj rfl (cj h5 (cj1 (rng_next h1 h2)))))))))))) (laws_heldStripeS_l0_ok a h2 t1 (p1 ++ [x1]) (rng_step h1) r1))))
def laws_heldStripeS (a : List Stripe) (k : Int) : Option (Int) :=
 if (capOk a.length) = true then
  (laws_heldStripeS_l0 a a k).bind fun r2 =>
  Lo.elim r2 (fun s1 =>
   some s1) (fun s2 =>
   some (-1))
 else none
theorem laws_heldStripeS_ok (a : List Stripe) (k : Int) : Pn (fun y => Fn Tryz.prog 30 [(false, E56 a), (false, E3 k)] (E3 y) []) (laws_heldStripeS a k) := by
  unfold laws_heldStripeS
  exact
   Pn.ite (fun h6 =>
    Pn.bind (fun r2 h7 =>
     Pn.lo (fun s1 h8 =>
      Pn.some (Fn.of [.wait 3, .mask [0, 1, 5], .ren [], .loop (X.out 0) (st 31 [(1, V.sc (.int .i64 s1))] [] [])] (p := [Loop Tryz.prog (sub (codeOf Tryz.prog 30) [1, 0, 1, 0, 0]) (st 31 [(0, V.sl false 102 (List.map E102 a)), (1, V.sc (.int .i64 k)), (5, V.sc (.int .i64 0))] [] []) (X.out 0) (st 31 [(1, V.sc (.int .i64 s1))] [] [])]) (by kernel_rfl) (cj1 ((laws_heldStripeS_l0_ok a h6 a [] rfl k r2 h7).at h8)))) (fun s2 h9 =>
      Pn.some (Fn.of [.wait 3, .mask [0, 1, 5], .ren [], .loop (X.ret) (st 31 [(4, V.sc (.int .i64 (-1)))] [] [])] (p := [Loop Tryz.prog (sub (codeOf Tryz.prog 30) [1, 0, 1, 0, 0]) (st 31 [(0, V.sl false 102 (List.map E102 a)), (1, V.sc (.int .i64 k)), (5, V.sc (.int .i64 0))] [] []) (X.ret) (st 31 [(4, V.sc (.int .i64 (-1)))] [] [])]) (by kernel_rfl) (cj1 ((laws_heldStripeS_l0_ok a h6 a [] rfl k r2 h7).at h9)))))) (fun h6 =>
    Pn.none)
end Go.Proofs.YtephmimhaokhlaaGreatM
