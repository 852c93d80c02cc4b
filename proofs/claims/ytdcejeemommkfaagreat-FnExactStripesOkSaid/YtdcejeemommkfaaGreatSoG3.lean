/- Printed by gen.py: functions on plain data, and that the program computes them. No condition. -/
import Derived.Test.YtdcejeemommkfaaGreatSoG2
namespace Go.Proofs.YtdcejeemommkfaaGreatM
set_option linter.unusedVariables false
set_option linter.unusedSimpArgs false
open Go.RowKit
set_option maxRecDepth 100000

def slices_IndexFunc_impl_Slot_impl_slotAt_1_l0 (s_ : List Slot) (f0_0 : ByteArray) (f1_0 : ByteArray) : List Slot → List Slot → Option (Lo Unit Int)
  | [], p1 =>
   some (.out ())
  | x1 :: t1, p1 =>
   (impl_slotAt_1 x1 f0_0 f1_0).bind fun r1 =>
   if r1 = true then
   some (.ret (p1.length : Int))
   else
   slices_IndexFunc_impl_Slot_impl_slotAt_1_l0 s_ f0_0 f1_0 t1 (p1 ++ [x1])
theorem slices_IndexFunc_impl_Slot_impl_slotAt_1_l0_ok (s_ : List Slot) (f0_0 : ByteArray) (f1_0 : ByteArray) (h2 : capOk s_.length = true) : ∀ (t1 p1 : List Slot) (_ : s_ = p1 ++ t1) , Pn (LpO Tryz.prog (sub (codeOf Tryz.prog 93) [1, 0, 1, 0, 0]) (st 19 [(0, V.sl false 89 (List.map E89 s_)), (1, V.fn 94 [V.cp [V.sc (.string f0_0)], V.cp [V.sc (.string f1_0)]]), (7, V.sc (.int .i64 (s_.length : Int))), (8, V.sc (.int .i64 (p1.length : Int)))] [] []) (fun (y : Lo Unit Int) => Lo.elim y (fun s => (X.out 0, st 19 [] [] [])) (fun s => (X.ret, st 19 [(4, V.sc (.int .i64 s))] [] [])))) (slices_IndexFunc_impl_Slot_impl_slotAt_1_l0 s_ f0_0 f1_0 t1 p1)
  | [], p1, h1 => by
    unfold slices_IndexFunc_impl_Slot_impl_slotAt_1_l0
    exact
     Pn.some (LpO.out [.bit false, .mask [], .ren []] (p := [(decide ((p1.length : Int) < (s_.length : Int))) = false]) (by kernel_rfl) (show X.out 0 ≠ X.go from nofun) (cj1 (rng_end h1)))
  | x1 :: t1, p1, h1 => by
    unfold slices_IndexFunc_impl_Slot_impl_slotAt_1_l0
    exact
     Pn.bind (fun r1 h3 =>
     Pn.ite (fun h4 =>
     Pn.some (LpO.out [.bit true, .el (E89 x1), .call [] (E4 r1) [], .bit true, .wait 2, .mask [4], .ren []] (p := [(decide ((p1.length : Int) < (s_.length : Int))) = true,
      (0 : Int) ≤ (p1.length : Int),
      (List.map E89 s_)[(p1.length : Int).toNat]? = some (E89 x1),
      Fn Tryz.prog 94 [(false, E89 x1), (false, V.cp [V.sc (.string f0_0)]), (false, V.cp [V.sc (.string f1_0)])] (E4 r1) [],
      (true || ((E4 r1).nv && nvL [])) = true,
      r1 = true]) (by kernel_rfl) (show X.ret ≠ X.go from nofun) (cj (rng_lt h1) (cj (by omega) (cj (rng_get _ h1) (cj (impl_slotAt_1_ok x1 f0_0 f1_0 r1 h3) (cj rfl (cj1 h4)))))))) (fun h4 =>
     LpO.go [.bit true, .el (E89 x1), .call [] (E4 r1) [], .bit false, .wait 2, .mask [0, 1, 7, 8], .ren [], .nm 8 (V.sc (.int .i64 ((p1 ++ [x1]).length : Int)))] (p := [(decide ((p1.length : Int) < (s_.length : Int))) = true,
      (0 : Int) ≤ (p1.length : Int),
      (List.map E89 s_)[(p1.length : Int).toNat]? = some (E89 x1),
      Fn Tryz.prog 94 [(false, E89 x1), (false, V.cp [V.sc (.string f0_0)]), (false, V.cp [V.sc (.string f1_0)])] (E4 r1) [],
      (true || ((E4 r1).nv && nvL [])) = true,
      r1 = false,
      V.sc (.int .i64 (i64 ((p1.length : Int) + 1))) = V.sc (.int .i64 ((p1 ++ [x1]).length : Int))]) (by kernel_rfl) (cj (rng_lt h1) (cj (by omega) (cj (rng_get _ h1) (cj (impl_slotAt_1_ok x1 f0_0 f1_0 r1 h3) (cj rfl (cj h4 (cj1 (rng_next h1 h2)))))))) (slices_IndexFunc_impl_Slot_impl_slotAt_1_l0_ok s_ f0_0 f1_0 h2 t1 (p1 ++ [x1]) (rng_step h1))))
def slices_IndexFunc_impl_Slot_impl_slotAt_1 (s_ : List Slot) (f0_0 : ByteArray) (f1_0 : ByteArray) : Option (Int) :=
 if (capOk s_.length) = true then
 (slices_IndexFunc_impl_Slot_impl_slotAt_1_l0 s_ f0_0 f1_0 s_ []).bind fun r2 =>
 Lo.elim r2 (fun s1 =>
 some (-1)) (fun s2 =>
 some s2)
 else none
theorem slices_IndexFunc_impl_Slot_impl_slotAt_1_ok (s_ : List Slot) (f0_0 : ByteArray) (f1_0 : ByteArray) : Pn (fun y => Fn Tryz.prog 93 [(false, E41 s_), (false, V.fn 94 [V.cp [V.sc (.string f0_0)], V.cp [V.sc (.string f1_0)]])] (E3 y) []) (slices_IndexFunc_impl_Slot_impl_slotAt_1 s_ f0_0 f1_0) := by
  unfold slices_IndexFunc_impl_Slot_impl_slotAt_1
  exact
   Pn.ite (fun h5 =>
   Pn.bind (fun r2 h6 =>
   Pn.lo (fun s1 h7 =>
   Pn.some (Fn.of [.wait 3, .nm 7 (V.sc (.int .i64 (s_.length : Int))), .wait 2, .mask [0, 1, 7, 8], .ren [], .loop (X.out 0) (st 19 [] [] [])] (p := [V.sc (.int .i64 ((List.map E89 s_).length : Int)) = V.sc (.int .i64 (s_.length : Int)),
    Loop Tryz.prog (sub (codeOf Tryz.prog 93) [1, 0, 1, 0, 0]) (st 19 [(0, V.sl false 89 (List.map E89 s_)), (1, V.fn 94 [V.cp [V.sc (.string f0_0)], V.cp [V.sc (.string f1_0)]]), (7, V.sc (.int .i64 (s_.length : Int))), (8, V.sc (.int .i64 0))] [] []) (X.out 0) (st 19 [] [] [])]) (by kernel_rfl) (cj (len_nm _ _) (cj1 ((slices_IndexFunc_impl_Slot_impl_slotAt_1_l0_ok s_ f0_0 f1_0 h5 s_ [] rfl r2 h6).at h7))))) (fun s2 h8 =>
   Pn.some (Fn.of [.wait 3, .nm 7 (V.sc (.int .i64 (s_.length : Int))), .wait 2, .mask [0, 1, 7, 8], .ren [], .loop (X.ret) (st 19 [(4, V.sc (.int .i64 s2))] [] [])] (p := [V.sc (.int .i64 ((List.map E89 s_).length : Int)) = V.sc (.int .i64 (s_.length : Int)),
    Loop Tryz.prog (sub (codeOf Tryz.prog 93) [1, 0, 1, 0, 0]) (st 19 [(0, V.sl false 89 (List.map E89 s_)), (1, V.fn 94 [V.cp [V.sc (.string f0_0)], V.cp [V.sc (.string f1_0)]]), (7, V.sc (.int .i64 (s_.length : Int))), (8, V.sc (.int .i64 0))] [] []) (X.ret) (st 19 [(4, V.sc (.int .i64 s2))] [] [])]) (by kernel_rfl) (cj (len_nm _ _) (cj1 ((slices_IndexFunc_impl_Slot_impl_slotAt_1_l0_ok s_ f0_0 f1_0 h5 s_ [] rfl r2 h6).at h8))))))) (fun h5 =>
   Pn.none)
def impl_slotAt (l : List Slot) (trace : ByteArray) (mti : ByteArray) : Option (Int) :=
 (slices_IndexFunc_impl_Slot_impl_slotAt_1 l trace mti).bind fun r1 =>
 some r1
theorem impl_slotAt_ok (l : List Slot) (trace : ByteArray) (mti : ByteArray) : Pn (fun y => Fn Tryz.prog 70 [(false, E41 l), (false, E9 trace), (false, E9 mti)] (E3 y) []) (impl_slotAt l trace mti) := by
  unfold impl_slotAt
  exact
   Pn.bind (fun r1 h1 =>
   Pn.some (Fn.of [.call [] (E3 r1) []] (p := [Fn Tryz.prog 93 [(false, E41 l), (false, V.fn 94 [V.cp [V.sc (.string trace)], V.cp [V.sc (.string mti)]])] (E3 r1) [],
    (false || ((E3 r1).nv && nvL [])) = true]) (by kernel_rfl) (cj (slices_IndexFunc_impl_Slot_impl_slotAt_1_ok l trace mti r1 h1) (cj1 (by simp [V.nv, nvL, nvL_all, nv_E3])))))
def impl_SlotsOk_l0 (l : List Slot) : List Slot → List Slot → Option (Lo Unit Unit)
  | [], p1 =>
   some (.out ())
  | x1 :: t1, p1 =>
   (impl_SlotOk x1).bind fun r1 =>
   if r1 = true then
   (impl_slotAt l x1.Trace x1.Mti).bind fun r2 =>
   if (r2 != (p1.length : Int)) = true then
   some (.ret ())
   else
   impl_SlotsOk_l0 l t1 (p1 ++ [x1])
   else
   some (.ret ())
theorem impl_SlotsOk_l0_ok (l : List Slot) (h2 : capOk l.length = true) : ∀ (t1 p1 : List Slot) (_ : l = p1 ++ t1) , Pn (LpO Tryz.prog (sub (codeOf Tryz.prog 46) [1, 0, 1, 0, 0]) (st 29 [(0, V.sl false 89 (List.map E89 l)), (5, V.sl false 89 (List.map E89 l)), (6, V.sc (.int .i64 (l.length : Int))), (7, V.sc (.int .i64 (p1.length : Int)))] [] []) (fun (y : Lo Unit Unit) => Lo.elim y (fun s => (X.out 0, st 29 [(0, V.sl false 89 (List.map E89 l))] [] [])) (fun s => (X.ret, st 29 [(2, V.sc (.bool false))] [] [])))) (impl_SlotsOk_l0 l t1 p1)
  | [], p1, h1 => by
    unfold impl_SlotsOk_l0
    exact
     Pn.some (LpO.out [.bit false, .mask [0], .ren []] (p := [(decide ((p1.length : Int) < (l.length : Int))) = false]) (by kernel_rfl) (show X.out 0 ≠ X.go from nofun) (cj1 (rng_end h1)))
  | x1 :: t1, p1, h1 => by
    unfold impl_SlotsOk_l0
    exact
     Pn.bind (fun r1 h3 =>
     Pn.ite (fun h4 =>
     Pn.bind (fun r2 h5 =>
     Pn.ite (fun h6 =>
     Pn.some (LpO.out [.bit true, .el (E89 x1), .call [] (E4 r1) [], .bit false, .bit false, .bit false, .bit false, .bit false, .bit false, .call [] (E3 r2) [], .bit false, .bit false, .bit false, .bit true, .wait 1, .mask [2], .ren []] (p := [(decide ((p1.length : Int) < (l.length : Int))) = true,
      (0 : Int) ≤ (p1.length : Int),
      (List.map E89 l)[(p1.length : Int).toNat]? = some (E89 x1),
      Fn Tryz.prog 69 [(false, E89 x1)] (E4 r1) [],
      (true || ((E4 r1).nv && nvL [])) = true,
      (!r1) = false,
      (!r1) = false,
      (!r1) = false,
      (!r1) = false,
      (!r1) = false,
      (!r1) = false,
      Fn Tryz.prog 70 [(false, E41 l), (false, E9 x1.Trace), (false, E9 x1.Mti)] (E3 r2) [],
      (true || ((E3 r2).nv && nvL [])) = true,
      (!r1) = false,
      (!r1) = false,
      (!r1) = false,
      (r2 != (p1.length : Int)) = true]) (by kernel_rfl) (show X.ret ≠ X.go from nofun) (cj (rng_lt h1) (cj (by omega) (cj (rng_get _ h1) (cj (impl_SlotOk_ok x1 r1 h3) (cj rfl (cj (nf h4) (cj (nf h4) (cj (nf h4) (cj (nf h4) (cj (nf h4) (cj (nf h4) (cj (impl_slotAt_ok l x1.Trace x1.Mti r2 h5) (cj rfl (cj (nf h4) (cj (nf h4) (cj (nf h4) (cj1 h6))))))))))))))))))) (fun h6 =>
     LpO.go [.bit true, .el (E89 x1), .call [] (E4 r1) [], .bit false, .bit false, .bit false, .bit false, .bit false, .bit false, .call [] (E3 r2) [], .bit false, .bit false, .bit false, .bit false, .wait 2, .mask [0, 5, 6, 7], .ren [], .nm 7 (V.sc (.int .i64 ((p1 ++ [x1]).length : Int)))] (p := [(decide ((p1.length : Int) < (l.length : Int))) = true,
      (0 : Int) ≤ (p1.length : Int),
      (List.map E89 l)[(p1.length : Int).toNat]? = some (E89 x1),
      Fn Tryz.prog 69 [(false, E89 x1)] (E4 r1) [],
      (true || ((E4 r1).nv && nvL [])) = true,
      (!r1) = false,
      (!r1) = false,
      (!r1) = false,
      (!r1) = false,
      (!r1) = false,
      (!r1) = false,
      Fn Tryz.prog 70 [(false, E41 l), (false, E9 x1.Trace), (false, E9 x1.Mti)] (E3 r2) [],
      (true || ((E3 r2).nv && nvL [])) = true,
      (!r1) = false,
      (!r1) = false,
      (!r1) = false,
      (r2 != (p1.length : Int)) = false,
      V.sc (.int .i64 (i64 ((p1.length : Int) + 1))) = V.sc (.int .i64 ((p1 ++ [x1]).length : Int))]) (by kernel_rfl) (cj (rng_lt h1) (cj (by omega) (cj (rng_get _ h1) (cj (impl_SlotOk_ok x1 r1 h3) (cj rfl (cj (nf h4) (cj (nf h4) (cj (nf h4) (cj (nf h4) (cj (nf h4) (cj (nf h4) (cj (impl_slotAt_ok l x1.Trace x1.Mti r2 h5) (cj rfl (cj (nf h4) (cj (nf h4) (cj (nf h4) (cj h6 (cj1 (rng_next h1 h2))))))))))))))))))) (impl_SlotsOk_l0_ok l h2 t1 (p1 ++ [x1]) (rng_step h1))))) (fun h4 =>
     Pn.some (LpO.out [.bit true, .el (E89 x1), .call [] (E4 r1) [], .bit true, .bit true, .bit true, .bit true, .bit true, .bit true, .bit true, .bit true, .bit true, .bit true, .wait 1, .mask [2], .ren []] (p := [(decide ((p1.length : Int) < (l.length : Int))) = true,
      (0 : Int) ≤ (p1.length : Int),
      (List.map E89 l)[(p1.length : Int).toNat]? = some (E89 x1),
      Fn Tryz.prog 69 [(false, E89 x1)] (E4 r1) [],
      (true || ((E4 r1).nv && nvL [])) = true,
      (!r1) = true,
      (!r1) = true,
      (!r1) = true,
      (!r1) = true,
      (!r1) = true,
      (!r1) = true,
      (!r1) = true,
      (!r1) = true,
      (!r1) = true,
      true = true]) (by kernel_rfl) (show X.ret ≠ X.go from nofun) (cj (rng_lt h1) (cj (by omega) (cj (rng_get _ h1) (cj (impl_SlotOk_ok x1 r1 h3) (cj rfl (cj (nt h4) (cj (nt h4) (cj (nt h4) (cj (nt h4) (cj (nt h4) (cj (nt h4) (cj (nt h4) (cj (nt h4) (cj (nt h4) (cj1 rfl))))))))))))))))))
def impl_SlotsOk (l : List Slot) : Option (Bool) :=
 if (capOk l.length) = true then
 (impl_SlotsOk_l0 l l []).bind fun r3 =>
 Lo.elim r3 (fun s1 =>
 some (decide ((l.length : Int) ≤ 6))) (fun s2 =>
 some false)
 else none
theorem impl_SlotsOk_ok (l : List Slot) : Pn (fun y => Fn Tryz.prog 46 [(false, E41 l)] (E4 y) []) (impl_SlotsOk l) := by
  unfold impl_SlotsOk
  exact
   Pn.ite (fun h7 =>
   Pn.bind (fun r3 h8 =>
   Pn.lo (fun s1 h9 =>
   Pn.some (Fn.of [.wait 3, .nm 6 (V.sc (.int .i64 (l.length : Int))), .wait 2, .mask [0, 5, 6, 7], .ren [], .loop (X.out 0) (st 29 [(0, V.sl false 89 (List.map E89 l))] [] []), .wait 2, .nm 27 (V.sc (.int .i64 (l.length : Int)))] (p := [V.sc (.int .i64 ((List.map E89 l).length : Int)) = V.sc (.int .i64 (l.length : Int)),
    Loop Tryz.prog (sub (codeOf Tryz.prog 46) [1, 0, 1, 0, 0]) (st 29 [(0, V.sl false 89 (List.map E89 l)), (5, V.sl false 89 (List.map E89 l)), (6, V.sc (.int .i64 (l.length : Int))), (7, V.sc (.int .i64 0))] [] []) (X.out 0) (st 29 [(0, V.sl false 89 (List.map E89 l))] [] []),
    V.sc (.int .i64 ((List.map E89 l).length : Int)) = V.sc (.int .i64 (l.length : Int))]) (by kernel_rfl) (cj (len_nm _ _) (cj ((impl_SlotsOk_l0_ok l h7 l [] rfl r3 h8).at h9) (cj1 (len_nm _ _)))))) (fun s2 h10 =>
   Pn.some (Fn.of [.wait 3, .nm 6 (V.sc (.int .i64 (l.length : Int))), .wait 2, .mask [0, 5, 6, 7], .ren [], .loop (X.ret) (st 29 [(2, V.sc (.bool false))] [] [])] (p := [V.sc (.int .i64 ((List.map E89 l).length : Int)) = V.sc (.int .i64 (l.length : Int)),
    Loop Tryz.prog (sub (codeOf Tryz.prog 46) [1, 0, 1, 0, 0]) (st 29 [(0, V.sl false 89 (List.map E89 l)), (5, V.sl false 89 (List.map E89 l)), (6, V.sc (.int .i64 (l.length : Int))), (7, V.sc (.int .i64 0))] [] []) (X.ret) (st 29 [(2, V.sc (.bool false))] [] [])]) (by kernel_rfl) (cj (len_nm _ _) (cj1 ((impl_SlotsOk_l0_ok l h7 l [] rfl r3 h8).at h10))))))) (fun h7 =>
   Pn.none)
def impl_AddSat (a : Int) (b : Int) : Option (Int) :=
 if (decide ((i64 (4611686018427387904 - (imax 0 (imin b 4611686018427387904)))) < (imax 0 (imin a 4611686018427387904)))) = true then
 some 4611686018427387904
 else
 some (i64 ((imax 0 (imin a 4611686018427387904)) + (imax 0 (imin b 4611686018427387904))))
theorem impl_AddSat_ok (a : Int) (b : Int) : Pn (fun y => Fn Tryz.prog 47 [(false, E3 a), (false, E3 b)] (E3 y) []) (impl_AddSat a b) := by
  unfold impl_AddSat
  exact
   Pn.ite (fun h1 =>
   Pn.some (Fn.of [.bit true] (p := [(decide ((i64 (4611686018427387904 - (imax 0 (imin b 4611686018427387904)))) < (imax 0 (imin a 4611686018427387904)))) = true]) (by kernel_rfl) (cj1 h1))) (fun h1 =>
   Pn.some (Fn.of [.bit false] (p := [(decide ((i64 (4611686018427387904 - (imax 0 (imin b 4611686018427387904)))) < (imax 0 (imin a 4611686018427387904)))) = false]) (by kernel_rfl) (cj1 h1)))
def impl_Stored_l0 (l : List Hold) : List Hold → Int → Option (Int)
  | [], v1 =>
   some v1
  | x1 :: t1, v1 =>
   (impl_AddSat v1 x1.Amount).bind fun r1 =>
   impl_Stored_l0 l t1 r1
theorem impl_Stored_l0_ok (l : List Hold) (h2 : capOk l.length = true) : ∀ (t1 p1 : List Hold) (_ : l = p1 ++ t1) (v1 : Int), Pn (LpO Tryz.prog (sub (codeOf Tryz.prog 48) [1, 1, 0, 1, 0, 0]) (st 18 [(3, V.sc (.int .i64 v1)), (6, V.sl false 85 (List.map E85 l)), (7, V.sc (.int .i64 (l.length : Int))), (8, V.sc (.int .i64 (p1.length : Int)))] [] []) (fun (y : Int) => (X.out 0, st 18 [(3, V.sc (.int .i64 y))] [] []))) (impl_Stored_l0 l t1 v1)
  | [], p1, h1, v1 => by
    unfold impl_Stored_l0
    exact
     Pn.some (LpO.out [.bit false, .mask [3], .ren []] (p := [(decide ((p1.length : Int) < (l.length : Int))) = false]) (by kernel_rfl) (show X.out 0 ≠ X.go from nofun) (cj1 (rng_end h1)))
  | x1 :: t1, p1, h1, v1 => by
    unfold impl_Stored_l0
    exact
     Pn.bind (fun r1 h3 =>
     LpO.go [.bit true, .el (E85 x1), .call [] (E3 r1) [], .wait 4, .mask [3, 6, 7, 8], .ren [], .nm 8 (V.sc (.int .i64 ((p1 ++ [x1]).length : Int)))] (p := [(decide ((p1.length : Int) < (l.length : Int))) = true,
      (0 : Int) ≤ (p1.length : Int),
      (List.map E85 l)[(p1.length : Int).toNat]? = some (E85 x1),
      Fn Tryz.prog 47 [(false, E3 v1), (false, E3 x1.Amount)] (E3 r1) [],
      (true || ((E3 r1).nv && nvL [])) = true,
      V.sc (.int .i64 (i64 ((p1.length : Int) + 1))) = V.sc (.int .i64 ((p1 ++ [x1]).length : Int))]) (by kernel_rfl) (cj (rng_lt h1) (cj (by omega) (cj (rng_get _ h1) (cj (impl_AddSat_ok v1 x1.Amount r1 h3) (cj rfl (cj1 (rng_next h1 h2))))))) (impl_Stored_l0_ok l h2 t1 (p1 ++ [x1]) (rng_step h1) r1))
def impl_Stored (l : List Hold) : Option (Int) :=
 if (capOk l.length) = true then
 (impl_Stored_l0 l l 0).bind fun r2 =>
 some r2
 else none
theorem impl_Stored_ok (l : List Hold) : Pn (fun y => Fn Tryz.prog 48 [(false, E37 l)] (E3 y) []) (impl_Stored l) := by
  unfold impl_Stored
  exact
   Pn.ite (fun h4 =>
   Pn.bind (fun r2 h5 =>
   Pn.some (Fn.of [.wait 4, .nm 7 (V.sc (.int .i64 (l.length : Int))), .wait 2, .mask [3, 6, 7, 8], .ren [], .loop (X.out 0) (st 18 [(3, V.sc (.int .i64 r2))] [] [])] (p := [V.sc (.int .i64 ((List.map E85 l).length : Int)) = V.sc (.int .i64 (l.length : Int)),
    Loop Tryz.prog (sub (codeOf Tryz.prog 48) [1, 1, 0, 1, 0, 0]) (st 18 [(3, V.sc (.int .i64 0)), (6, V.sl false 85 (List.map E85 l)), (7, V.sc (.int .i64 (l.length : Int))), (8, V.sc (.int .i64 0))] [] []) (X.out 0) (st 18 [(3, V.sc (.int .i64 r2))] [] [])]) (by kernel_rfl) (cj (len_nm _ _) (cj1 (impl_Stored_l0_ok l h4 l [] rfl 0 r2 h5)))))) (fun h4 =>
   Pn.none)
def impl_AcctOk (a : Acct) : Option (Bool) :=
 (impl_AcctIdOk a.Id).bind fun r1 =>
 if r1 = true then
 (impl_within a.Limit 0 9007199254740992).bind fun r2 =>
 if r2 = true then
 (impl_within a.Most 0 1000).bind fun r3 =>
 if r3 = true then
 (impl_within a.MostSum 0 9007199254740992).bind fun r4 =>
 if r4 = true then
 (impl_isMoney a.Posted).bind fun r5 =>
 if r5 = true then
 (impl_HoldsOk a.Holds).bind fun r6 =>
 if r6 = true then
 (impl_RingOk a.Ring).bind fun r7 =>
 if r7 = true then
 (impl_SlotsOk a.Slots).bind fun r8 =>
 if r8 = true then
 (impl_Stored a.Holds).bind fun r9 =>
 (impl_AddSat a.Posted r9).bind fun r10 =>
 some (decide (r10 ≤ a.Limit))
 else
 some false
 else
 some false
 else
 some false
 else
 some false
 else
 some false
 else
 some false
 else
 some false
 else
 some false
theorem impl_AcctOk_ok (a : Acct) : Pn (fun y => Fn Tryz.prog 26 [(false, E43 a)] (E4 y) []) (impl_AcctOk a) := by
  unfold impl_AcctOk
  exact
   Pn.bind (fun r1 h1 =>
   Pn.ite (fun h2 =>
   Pn.bind (fun r2 h3 =>
   Pn.ite (fun h4 =>
   Pn.bind (fun r3 h5 =>
   Pn.ite (fun h6 =>
   Pn.bind (fun r4 h7 =>
   Pn.ite (fun h8 =>
   Pn.bind (fun r5 h9 =>
   Pn.ite (fun h10 =>
   Pn.bind (fun r6 h11 =>
   Pn.ite (fun h12 =>
   Pn.bind (fun r7 h13 =>
   Pn.ite (fun h14 =>
   Pn.bind (fun r8 h15 =>
   Pn.ite (fun h16 =>
   Pn.bind (fun r9 h17 =>
   Pn.bind (fun r10 h18 =>
   Pn.some (Fn.of [.draw [], .call [] (E4 r1) [], .bit true, .bit true, .bit true, .call [] (E4 r2) [], .bit true, .bit true, .bit true, .bit true, .call [] (E4 r3) [], .bit true, .bit true, .bit true, .bit true, .call [] (E4 r4) [], .bit true, .bit true, .bit true, .bit true, .call [] (E4 r5) [], .bit true, .bit true, .bit true, .bit true, .call [] (E4 r6) [], .bit true, .bit true, .bit true, .bit true, .call [] (E4 r7) [], .bit true, .bit true, .bit true, .bit true, .call [] (E4 r8) [], .bit true, .bit true, .bit true, .bit true, .bit true, .bit true, .bit true, .bit true, .call [] (E3 r9) [], .bit true, .call [] (E3 r10) [], .bit true, .bit true] (p := [Fn Tryz.prog 42 [(false, E9 a.Id)] (E4 r1) [],
    (true || ((E4 r1).nv && nvL [])) = true,
    r1 = true,
    r1 = true,
    r1 = true,
    Fn Tryz.prog 15 [(false, E3 a.Limit), (false, E3 0), (false, E3 9007199254740992)] (E4 r2) [],
    (true || ((E4 r2).nv && nvL [])) = true,
    r1 = true,
    r2 = true,
    r2 = true,
    r2 = true,
    Fn Tryz.prog 15 [(false, E3 a.Most), (false, E3 0), (false, E3 1000)] (E4 r3) [],
    (true || ((E4 r3).nv && nvL [])) = true,
    r2 = true,
    r3 = true,
    r3 = true,
    r3 = true,
    Fn Tryz.prog 15 [(false, E3 a.MostSum), (false, E3 0), (false, E3 9007199254740992)] (E4 r4) [],
    (true || ((E4 r4).nv && nvL [])) = true,
    r3 = true,
    r4 = true,
    r4 = true,
    r4 = true,
    Fn Tryz.prog 43 [(false, E3 a.Posted)] (E4 r5) [],
    (true || ((E4 r5).nv && nvL [])) = true,
    r4 = true,
    r5 = true,
    r5 = true,
    r5 = true,
    Fn Tryz.prog 44 [(false, E37 a.Holds)] (E4 r6) [],
    (true || ((E4 r6).nv && nvL [])) = true,
    r5 = true,
    r6 = true,
    r6 = true,
    r6 = true,
    Fn Tryz.prog 45 [(false, E40 a.Ring)] (E4 r7) [],
    (true || ((E4 r7).nv && nvL [])) = true,
    r6 = true,
    r7 = true,
    r7 = true,
    r7 = true,
    Fn Tryz.prog 46 [(false, E41 a.Slots)] (E4 r8) [],
    (true || ((E4 r8).nv && nvL [])) = true,
    r7 = true,
    r8 = true,
    r8 = true,
    r8 = true,
    r8 = true,
    r8 = true,
    r8 = true,
    r8 = true,
    Fn Tryz.prog 48 [(false, E37 a.Holds)] (E3 r9) [],
    (true || ((E3 r9).nv && nvL [])) = true,
    r8 = true,
    Fn Tryz.prog 47 [(false, E3 a.Posted), (false, E3 r9)] (E3 r10) [],
    (true || ((E3 r10).nv && nvL [])) = true,
    r8 = true,
    r8 = true]) (by kernel_rfl) (cj (impl_AcctIdOk_ok a.Id r1 h1) (cj rfl (cj h2 (cj h2 (cj h2 (cj (impl_within_ok a.Limit 0 9007199254740992 r2 h3) (cj rfl (cj h2 (cj h4 (cj h4 (cj h4 (cj (impl_within_ok a.Most 0 1000 r3 h5) (cj rfl (cj h4 (cj h6 (cj h6 (cj h6 (cj (impl_within_ok a.MostSum 0 9007199254740992 r4 h7) (cj rfl (cj h6 (cj h8 (cj h8 (cj h8 (cj (impl_isMoney_ok a.Posted r5 h9) (cj rfl (cj h8 (cj h10 (cj h10 (cj h10 (cj (impl_HoldsOk_ok a.Holds r6 h11) (cj rfl (cj h10 (cj h12 (cj h12 (cj h12 (cj (impl_RingOk_ok a.Ring r7 h13) (cj rfl (cj h12 (cj h14 (cj h14 (cj h14 (cj (impl_SlotsOk_ok a.Slots r8 h15) (cj rfl (cj h14 (cj h16 (cj h16 (cj h16 (cj h16 (cj h16 (cj h16 (cj h16 (cj (impl_Stored_ok a.Holds r9 h17) (cj rfl (cj h16 (cj (impl_AddSat_ok a.Posted r9 r10 h18) (cj rfl (cj h16 (cj1 h16)))))))))))))))))))))))))))))))))))))))))))))))))))))))))))))) (fun h16 =>
   Pn.some (Fn.of [.draw [], .call [] (E4 r1) [], .bit true, .bit true, .bit true, .call [] (E4 r2) [], .bit true, .bit true, .bit true, .bit true, .call [] (E4 r3) [], .bit true, .bit true, .bit true, .bit true, .call [] (E4 r4) [], .bit true, .bit true, .bit true, .bit true, .call [] (E4 r5) [], .bit true, .bit true, .bit true, .bit true, .call [] (E4 r6) [], .bit true, .bit true, .bit true, .bit true, .call [] (E4 r7) [], .bit true, .bit true, .bit true, .bit true, .call [] (E4 r8) [], .bit true, .bit false, .bit false, .bit false, .bit false, .bit false, .bit false, .bit false, .bit false, .bit false, .bit false] (p := [Fn Tryz.prog 42 [(false, E9 a.Id)] (E4 r1) [],
    (true || ((E4 r1).nv && nvL [])) = true,
    r1 = true,
    r1 = true,
    r1 = true,
    Fn Tryz.prog 15 [(false, E3 a.Limit), (false, E3 0), (false, E3 9007199254740992)] (E4 r2) [],
    (true || ((E4 r2).nv && nvL [])) = true,
    r1 = true,
    r2 = true,
    r2 = true,
    r2 = true,
    Fn Tryz.prog 15 [(false, E3 a.Most), (false, E3 0), (false, E3 1000)] (E4 r3) [],
    (true || ((E4 r3).nv && nvL [])) = true,
    r2 = true,
    r3 = true,
    r3 = true,
    r3 = true,
    Fn Tryz.prog 15 [(false, E3 a.MostSum), (false, E3 0), (false, E3 9007199254740992)] (E4 r4) [],
    (true || ((E4 r4).nv && nvL [])) = true,
    r3 = true,
    r4 = true,
    r4 = true,
    r4 = true,
    Fn Tryz.prog 43 [(false, E3 a.Posted)] (E4 r5) [],
    (true || ((E4 r5).nv && nvL [])) = true,
    r4 = true,
    r5 = true,
    r5 = true,
    r5 = true,
    Fn Tryz.prog 44 [(false, E37 a.Holds)] (E4 r6) [],
    (true || ((E4 r6).nv && nvL [])) = true,
    r5 = true,
    r6 = true,
    r6 = true,
    r6 = true,
    Fn Tryz.prog 45 [(false, E40 a.Ring)] (E4 r7) [],
    (true || ((E4 r7).nv && nvL [])) = true,
    r6 = true,
    r7 = true,
    r7 = true,
    r7 = true,
    Fn Tryz.prog 46 [(false, E41 a.Slots)] (E4 r8) [],
    (true || ((E4 r8).nv && nvL [])) = true,
    r7 = true,
    r8 = false,
    r8 = false,
    r8 = false,
    r8 = false,
    r8 = false,
    r8 = false,
    r8 = false,
    r8 = false,
    r8 = false,
    r8 = false]) (by kernel_rfl) (cj (impl_AcctIdOk_ok a.Id r1 h1) (cj rfl (cj h2 (cj h2 (cj h2 (cj (impl_within_ok a.Limit 0 9007199254740992 r2 h3) (cj rfl (cj h2 (cj h4 (cj h4 (cj h4 (cj (impl_within_ok a.Most 0 1000 r3 h5) (cj rfl (cj h4 (cj h6 (cj h6 (cj h6 (cj (impl_within_ok a.MostSum 0 9007199254740992 r4 h7) (cj rfl (cj h6 (cj h8 (cj h8 (cj h8 (cj (impl_isMoney_ok a.Posted r5 h9) (cj rfl (cj h8 (cj h10 (cj h10 (cj h10 (cj (impl_HoldsOk_ok a.Holds r6 h11) (cj rfl (cj h10 (cj h12 (cj h12 (cj h12 (cj (impl_RingOk_ok a.Ring r7 h13) (cj rfl (cj h12 (cj h14 (cj h14 (cj h14 (cj (impl_SlotsOk_ok a.Slots r8 h15) (cj rfl (cj h14 (cj h16 (cj h16 (cj h16 (cj h16 (cj h16 (cj h16 (cj h16 (cj h16 (cj h16 (cj1 h16)))))))))))))))))))))))))))))))))))))))))))))))))))))))))) (fun h14 =>
   Pn.some (Fn.of [.draw [], .call [] (E4 r1) [], .bit true, .bit true, .bit true, .call [] (E4 r2) [], .bit true, .bit true, .bit true, .bit true, .call [] (E4 r3) [], .bit true, .bit true, .bit true, .bit true, .call [] (E4 r4) [], .bit true, .bit true, .bit true, .bit true, .call [] (E4 r5) [], .bit true, .bit true, .bit true, .bit true, .call [] (E4 r6) [], .bit true, .bit true, .bit true, .bit true, .call [] (E4 r7) [], .bit true, .bit false, .bit false, .bit false, .bit false, .bit false, .bit false, .bit false, .bit false, .bit false, .bit false, .bit false, .bit false, .bit false, .bit false] (p := [Fn Tryz.prog 42 [(false, E9 a.Id)] (E4 r1) [],
    (true || ((E4 r1).nv && nvL [])) = true,
    r1 = true,
    r1 = true,
    r1 = true,
    Fn Tryz.prog 15 [(false, E3 a.Limit), (false, E3 0), (false, E3 9007199254740992)] (E4 r2) [],
    (true || ((E4 r2).nv && nvL [])) = true,
    r1 = true,
    r2 = true,
    r2 = true,
    r2 = true,
    Fn Tryz.prog 15 [(false, E3 a.Most), (false, E3 0), (false, E3 1000)] (E4 r3) [],
    (true || ((E4 r3).nv && nvL [])) = true,
    r2 = true,
    r3 = true,
    r3 = true,
    r3 = true,
    Fn Tryz.prog 15 [(false, E3 a.MostSum), (false, E3 0), (false, E3 9007199254740992)] (E4 r4) [],
    (true || ((E4 r4).nv && nvL [])) = true,
    r3 = true,
    r4 = true,
    r4 = true,
    r4 = true,
    Fn Tryz.prog 43 [(false, E3 a.Posted)] (E4 r5) [],
    (true || ((E4 r5).nv && nvL [])) = true,
    r4 = true,
    r5 = true,
    r5 = true,
    r5 = true,
    Fn Tryz.prog 44 [(false, E37 a.Holds)] (E4 r6) [],
    (true || ((E4 r6).nv && nvL [])) = true,
    r5 = true,
    r6 = true,
    r6 = true,
    r6 = true,
    Fn Tryz.prog 45 [(false, E40 a.Ring)] (E4 r7) [],
    (true || ((E4 r7).nv && nvL [])) = true,
    r6 = true,
    r7 = false,
    r7 = false,
    r7 = false,
    r7 = false,
    false = false,
    false = false,
    false = false,
    false = false,
    false = false,
    false = false,
    false = false,
    false = false,
    false = false,
    false = false]) (by kernel_rfl) (cj (impl_AcctIdOk_ok a.Id r1 h1) (cj rfl (cj h2 (cj h2 (cj h2 (cj (impl_within_ok a.Limit 0 9007199254740992 r2 h3) (cj rfl (cj h2 (cj h4 (cj h4 (cj h4 (cj (impl_within_ok a.Most 0 1000 r3 h5) (cj rfl (cj h4 (cj h6 (cj h6 (cj h6 (cj (impl_within_ok a.MostSum 0 9007199254740992 r4 h7) (cj rfl (cj h6 (cj h8 (cj h8 (cj h8 (cj (impl_isMoney_ok a.Posted r5 h9) (cj rfl (cj h8 (cj h10 (cj h10 (cj h10 (cj (impl_HoldsOk_ok a.Holds r6 h11) (cj rfl (cj h10 (cj h12 (cj h12 (cj h12 (cj (impl_RingOk_ok a.Ring r7 h13) (cj rfl (cj h12 (cj h14 (cj h14 (cj h14 (cj h14 (cj rfl (cj rfl (cj rfl (cj rfl (cj rfl (cj rfl (cj rfl (cj rfl (cj rfl (cj1 rfl)))))))))))))))))))))))))))))))))))))))))))))))))))))))) (fun h12 =>
   Pn.some (Fn.of [.draw [], .call [] (E4 r1) [], .bit true, .bit true, .bit true, .call [] (E4 r2) [], .bit true, .bit true, .bit true, .bit true, .call [] (E4 r3) [], .bit true, .bit true, .bit true, .bit true, .call [] (E4 r4) [], .bit true, .bit true, .bit true, .bit true, .call [] (E4 r5) [], .bit true, .bit true, .bit true, .bit true, .call [] (E4 r6) [], .bit true, .bit false, .bit false, .bit false, .bit false, .bit false, .bit false, .bit false, .bit false, .bit false, .bit false, .bit false, .bit false, .bit false, .bit false, .bit false, .bit false, .bit false, .bit false] (p := [Fn Tryz.prog 42 [(false, E9 a.Id)] (E4 r1) [],
    (true || ((E4 r1).nv && nvL [])) = true,
    r1 = true,
    r1 = true,
    r1 = true,
    Fn Tryz.prog 15 [(false, E3 a.Limit), (false, E3 0), (false, E3 9007199254740992)] (E4 r2) [],
    (true || ((E4 r2).nv && nvL [])) = true,
    r1 = true,
    r2 = true,
    r2 = true,
    r2 = true,
    Fn Tryz.prog 15 [(false, E3 a.Most), (false, E3 0), (false, E3 1000)] (E4 r3) [],
    (true || ((E4 r3).nv && nvL [])) = true,
    r2 = true,
    r3 = true,
    r3 = true,
    r3 = true,
    Fn Tryz.prog 15 [(false, E3 a.MostSum), (false, E3 0), (false, E3 9007199254740992)] (E4 r4) [],
    (true || ((E4 r4).nv && nvL [])) = true,
    r3 = true,
    r4 = true,
    r4 = true,
    r4 = true,
    Fn Tryz.prog 43 [(false, E3 a.Posted)] (E4 r5) [],
    (true || ((E4 r5).nv && nvL [])) = true,
    r4 = true,
    r5 = true,
    r5 = true,
    r5 = true,
    Fn Tryz.prog 44 [(false, E37 a.Holds)] (E4 r6) [],
    (true || ((E4 r6).nv && nvL [])) = true,
    r5 = true,
    r6 = false,
    r6 = false,
    r6 = false,
    r6 = false,
    false = false,
    false = false,
    false = false,
    false = false,
    false = false,
    false = false,
    false = false,
    false = false,
    false = false,
    false = false,
    false = false,
    false = false,
    false = false,
    false = false]) (by kernel_rfl) (cj (impl_AcctIdOk_ok a.Id r1 h1) (cj rfl (cj h2 (cj h2 (cj h2 (cj (impl_within_ok a.Limit 0 9007199254740992 r2 h3) (cj rfl (cj h2 (cj h4 (cj h4 (cj h4 (cj (impl_within_ok a.Most 0 1000 r3 h5) (cj rfl (cj h4 (cj h6 (cj h6 (cj h6 (cj (impl_within_ok a.MostSum 0 9007199254740992 r4 h7) (cj rfl (cj h6 (cj h8 (cj h8 (cj h8 (cj (impl_isMoney_ok a.Posted r5 h9) (cj rfl (cj h8 (cj h10 (cj h10 (cj h10 (cj (impl_HoldsOk_ok a.Holds r6 h11) (cj rfl (cj h10 (cj h12 (cj h12 (cj h12 (cj h12 (cj rfl (cj rfl (cj rfl (cj rfl (cj rfl (cj rfl (cj rfl (cj rfl (cj rfl (cj rfl (cj rfl (cj rfl (cj rfl (cj1 rfl)))))))))))))))))))))))))))))))))))))))))))))))))))))) (fun h10 =>
   Pn.some (Fn.of [.draw [], .call [] (E4 r1) [], .bit true, .bit true, .bit true, .call [] (E4 r2) [], .bit true, .bit true, .bit true, .bit true, .call [] (E4 r3) [], .bit true, .bit true, .bit true, .bit true, .call [] (E4 r4) [], .bit true, .bit true, .bit true, .bit true, .call [] (E4 r5) [], .bit true, .bit false, .bit false, .bit false, .bit false, .bit false, .bit false, .bit false, .bit false, .bit false, .bit false, .bit false, .bit false, .bit false, .bit false, .bit false, .bit false, .bit false, .bit false, .bit false, .bit false, .bit false, .bit false] (p := [Fn Tryz.prog 42 [(false, E9 a.Id)] (E4 r1) [],
    (true || ((E4 r1).nv && nvL [])) = true,
    r1 = true,
    r1 = true,
    r1 = true,
    Fn Tryz.prog 15 [(false, E3 a.Limit), (false, E3 0), (false, E3 9007199254740992)] (E4 r2) [],
    (true || ((E4 r2).nv && nvL [])) = true,
    r1 = true,
    r2 = true,
    r2 = true,
    r2 = true,
    Fn Tryz.prog 15 [(false, E3 a.Most), (false, E3 0), (false, E3 1000)] (E4 r3) [],
    (true || ((E4 r3).nv && nvL [])) = true,
    r2 = true,
    r3 = true,
    r3 = true,
    r3 = true,
    Fn Tryz.prog 15 [(false, E3 a.MostSum), (false, E3 0), (false, E3 9007199254740992)] (E4 r4) [],
    (true || ((E4 r4).nv && nvL [])) = true,
    r3 = true,
    r4 = true,
    r4 = true,
    r4 = true,
    Fn Tryz.prog 43 [(false, E3 a.Posted)] (E4 r5) [],
    (true || ((E4 r5).nv && nvL [])) = true,
    r4 = true,
    r5 = false,
    r5 = false,
    r5 = false,
    r5 = false,
    false = false,
    false = false,
    false = false,
    false = false,
    false = false,
    false = false,
    false = false,
    false = false,
    false = false,
    false = false,
    false = false,
    false = false,
    false = false,
    false = false,
    false = false,
    false = false,
    false = false,
    false = false]) (by kernel_rfl) (cj (impl_AcctIdOk_ok a.Id r1 h1) (cj rfl (cj h2 (cj h2 (cj h2 (cj (impl_within_ok a.Limit 0 9007199254740992 r2 h3) (cj rfl (cj h2 (cj h4 (cj h4 (cj h4 (cj (impl_within_ok a.Most 0 1000 r3 h5) (cj rfl (cj h4 (cj h6 (cj h6 (cj h6 (cj (impl_within_ok a.MostSum 0 9007199254740992 r4 h7) (cj rfl (cj h6 (cj h8 (cj h8 (cj h8 (cj (impl_isMoney_ok a.Posted r5 h9) (cj rfl (cj h8 (cj h10 (cj h10 (cj h10 (cj h10 (cj rfl (cj rfl (cj rfl (cj rfl (cj rfl (cj rfl (cj rfl (cj rfl (cj rfl (cj rfl (cj rfl (cj rfl (cj rfl (cj rfl (cj rfl (cj rfl (cj rfl (cj1 rfl)))))))))))))))))))))))))))))))))))))))))))))))))))) (fun h8 =>
   Pn.some (Fn.of [.draw [], .call [] (E4 r1) [], .bit true, .bit true, .bit true, .call [] (E4 r2) [], .bit true, .bit true, .bit true, .bit true, .call [] (E4 r3) [], .bit true, .bit true, .bit true, .bit true, .call [] (E4 r4) [], .bit true, .bit false, .bit false, .bit false, .bit false, .bit false, .bit false, .bit false, .bit false, .bit false, .bit false, .bit false, .bit false, .bit false, .bit false, .bit false, .bit false, .bit false, .bit false, .bit false, .bit false, .bit false, .bit false, .bit false, .bit false, .bit false, .bit false] (p := [Fn Tryz.prog 42 [(false, E9 a.Id)] (E4 r1) [],
    (true || ((E4 r1).nv && nvL [])) = true,
    r1 = true,
    r1 = true,
    r1 = true,
    Fn Tryz.prog 15 [(false, E3 a.Limit), (false, E3 0), (false, E3 9007199254740992)] (E4 r2) [],
    (true || ((E4 r2).nv && nvL [])) = true,
    r1 = true,
    r2 = true,
    r2 = true,
    r2 = true,
    Fn Tryz.prog 15 [(false, E3 a.Most), (false, E3 0), (false, E3 1000)] (E4 r3) [],
    (true || ((E4 r3).nv && nvL [])) = true,
    r2 = true,
    r3 = true,
    r3 = true,
    r3 = true,
    Fn Tryz.prog 15 [(false, E3 a.MostSum), (false, E3 0), (false, E3 9007199254740992)] (E4 r4) [],
    (true || ((E4 r4).nv && nvL [])) = true,
    r3 = true,
    r4 = false,
    r4 = false,
    r4 = false,
    r4 = false,
    false = false,
    false = false,
    false = false,
    false = false,
    false = false,
    false = false,
    false = false,
    false = false,
    false = false,
    false = false,
    false = false,
    false = false,
    false = false,
    false = false,
    false = false,
    false = false,
    false = false,
    false = false,
    false = false,
    false = false,
    false = false,
    false = false]) (by kernel_rfl) (cj (impl_AcctIdOk_ok a.Id r1 h1) (cj rfl (cj h2 (cj h2 (cj h2 (cj (impl_within_ok a.Limit 0 9007199254740992 r2 h3) (cj rfl (cj h2 (cj h4 (cj h4 (cj h4 (cj (impl_within_ok a.Most 0 1000 r3 h5) (cj rfl (cj h4 (cj h6 (cj h6 (cj h6 (cj (impl_within_ok a.MostSum 0 9007199254740992 r4 h7) (cj rfl (cj h6 (cj h8 (cj h8 (cj h8 (cj h8 (cj rfl (cj rfl (cj rfl (cj rfl (cj rfl (cj rfl (cj rfl (cj rfl (cj rfl (cj rfl (cj rfl (cj rfl (cj rfl (cj rfl (cj rfl (cj rfl (cj rfl (cj rfl (cj rfl (cj rfl (cj rfl (cj1 rfl)))))))))))))))))))))))))))))))))))))))))))))))))) (fun h6 =>
   Pn.some (Fn.of [.draw [], .call [] (E4 r1) [], .bit true, .bit true, .bit true, .call [] (E4 r2) [], .bit true, .bit true, .bit true, .bit true, .call [] (E4 r3) [], .bit true, .bit false, .bit false, .bit false, .bit false, .bit false, .bit false, .bit false, .bit false, .bit false, .bit false, .bit false, .bit false, .bit false, .bit false, .bit false, .bit false, .bit false, .bit false, .bit false, .bit false, .bit false, .bit false, .bit false, .bit false, .bit false, .bit false, .bit false, .bit false, .bit false, .bit false] (p := [Fn Tryz.prog 42 [(false, E9 a.Id)] (E4 r1) [],
    (true || ((E4 r1).nv && nvL [])) = true,
    r1 = true,
    r1 = true,
    r1 = true,
    Fn Tryz.prog 15 [(false, E3 a.Limit), (false, E3 0), (false, E3 9007199254740992)] (E4 r2) [],
    (true || ((E4 r2).nv && nvL [])) = true,
    r1 = true,
    r2 = true,
    r2 = true,
    r2 = true,
    Fn Tryz.prog 15 [(false, E3 a.Most), (false, E3 0), (false, E3 1000)] (E4 r3) [],
    (true || ((E4 r3).nv && nvL [])) = true,
    r2 = true,
    r3 = false,
    r3 = false,
    r3 = false,
    r3 = false,
    false = false,
    false = false,
    false = false,
    false = false,
    false = false,
    false = false,
    false = false,
    false = false,
    false = false,
    false = false,
    false = false,
    false = false,
    false = false,
    false = false,
    false = false,
    false = false,
    false = false,
    false = false,
    false = false,
    false = false,
    false = false,
    false = false,
    false = false,
    false = false,
    false = false,
    false = false]) (by kernel_rfl) (cj (impl_AcctIdOk_ok a.Id r1 h1) (cj rfl (cj h2 (cj h2 (cj h2 (cj (impl_within_ok a.Limit 0 9007199254740992 r2 h3) (cj rfl (cj h2 (cj h4 (cj h4 (cj h4 (cj (impl_within_ok a.Most 0 1000 r3 h5) (cj rfl (cj h4 (cj h6 (cj h6 (cj h6 (cj h6 (cj rfl (cj rfl (cj rfl (cj rfl (cj rfl (cj rfl (cj rfl (cj rfl (cj rfl (cj rfl (cj rfl (cj rfl (cj rfl (cj rfl (cj rfl (cj rfl (cj rfl (cj rfl (cj rfl (cj rfl (cj rfl (cj rfl (cj rfl (cj rfl (cj rfl (cj1 rfl)))))))))))))))))))))))))))))))))))))))))))))))) (fun h4 =>
   Pn.some (Fn.of [.draw [], .call [] (E4 r1) [], .bit true, .bit true, .bit true, .call [] (E4 r2) [], .bit true, .bit false, .bit false, .bit false, .bit false, .bit false, .bit false, .bit false, .bit false, .bit false, .bit false, .bit false, .bit false, .bit false, .bit false, .bit false, .bit false, .bit false, .bit false, .bit false, .bit false, .bit false, .bit false, .bit false, .bit false, .bit false, .bit false, .bit false, .bit false, .bit false, .bit false, .bit false, .bit false, .bit false, .bit false] (p := [Fn Tryz.prog 42 [(false, E9 a.Id)] (E4 r1) [],
    (true || ((E4 r1).nv && nvL [])) = true,
    r1 = true,
    r1 = true,
    r1 = true,
    Fn Tryz.prog 15 [(false, E3 a.Limit), (false, E3 0), (false, E3 9007199254740992)] (E4 r2) [],
    (true || ((E4 r2).nv && nvL [])) = true,
    r1 = true,
    r2 = false,
    r2 = false,
    r2 = false,
    r2 = false,
    false = false,
    false = false,
    false = false,
    false = false,
    false = false,
    false = false,
    false = false,
    false = false,
    false = false,
    false = false,
    false = false,
    false = false,
    false = false,
    false = false,
    false = false,
    false = false,
    false = false,
    false = false,
    false = false,
    false = false,
    false = false,
    false = false,
    false = false,
    false = false,
    false = false,
    false = false,
    false = false,
    false = false,
    false = false,
    false = false]) (by kernel_rfl) (cj (impl_AcctIdOk_ok a.Id r1 h1) (cj rfl (cj h2 (cj h2 (cj h2 (cj (impl_within_ok a.Limit 0 9007199254740992 r2 h3) (cj rfl (cj h2 (cj h4 (cj h4 (cj h4 (cj h4 (cj rfl (cj rfl (cj rfl (cj rfl (cj rfl (cj rfl (cj rfl (cj rfl (cj rfl (cj rfl (cj rfl (cj rfl (cj rfl (cj rfl (cj rfl (cj rfl (cj rfl (cj rfl (cj rfl (cj rfl (cj rfl (cj rfl (cj rfl (cj rfl (cj rfl (cj rfl (cj rfl (cj rfl (cj rfl (cj1 rfl)))))))))))))))))))))))))))))))))))))))))))))) (fun h2 =>
   Pn.some (Fn.of [.draw [], .call [] (E4 r1) [], .bit false, .bit false, .bit false, .bit false, .bit false, .bit false, .bit false, .bit false, .bit false, .bit false, .bit false, .bit false, .bit false, .bit false, .bit false, .bit false, .bit false, .bit false, .bit false, .bit false, .bit false, .bit false, .bit false, .bit false, .bit false, .bit false, .bit false, .bit false, .bit false, .bit false, .bit false, .bit false, .bit false, .bit false, .bit false, .bit false, .bit false, .bit false] (p := [Fn Tryz.prog 42 [(false, E9 a.Id)] (E4 r1) [],
    (true || ((E4 r1).nv && nvL [])) = true,
    r1 = false,
    r1 = false,
    r1 = false,
    r1 = false,
    false = false,
    false = false,
    false = false,
    false = false,
    false = false,
    false = false,
    false = false,
    false = false,
    false = false,
    false = false,
    false = false,
    false = false,
    false = false,
    false = false,
    false = false,
    false = false,
    false = false,
    false = false,
    false = false,
    false = false,
    false = false,
    false = false,
    false = false,
    false = false,
    false = false,
    false = false,
    false = false,
    false = false,
    false = false,
    false = false,
    false = false,
    false = false,
    false = false,
    false = false]) (by kernel_rfl) (cj (impl_AcctIdOk_ok a.Id r1 h1) (cj rfl (cj h2 (cj h2 (cj h2 (cj h2 (cj rfl (cj rfl (cj rfl (cj rfl (cj rfl (cj rfl (cj rfl (cj rfl (cj rfl (cj rfl (cj rfl (cj rfl (cj rfl (cj rfl (cj rfl (cj rfl (cj rfl (cj rfl (cj rfl (cj rfl (cj rfl (cj rfl (cj rfl (cj rfl (cj rfl (cj rfl (cj rfl (cj rfl (cj rfl (cj rfl (cj rfl (cj rfl (cj rfl (cj1 rfl)))))))))))))))))))))))))))))))))))))))))))
def impl_BookOk_l0 (b : Book) : List Acct → List Acct → Option (Lo Unit Unit)
  | [], p1 =>
   some (.out ())
  | x1 :: t1, p1 =>
   (impl_AcctOk x1).bind fun r1 =>
   if r1 = true then
   if (decide (0 < (p1.length : Int))) = true then
   if (decide (0 ≤ (i64 ((p1.length : Int) - 1)))) = true then
   (b.Accts[(i64 ((p1.length : Int) - 1)).toNat]?).bind fun x2 =>
   if (Op.bytesLess x1.Id.toList x2.Id.toList || (x1.Id == x2.Id)) = true then
   some (.ret ())
   else
   impl_BookOk_l0 b t1 (p1 ++ [x1])
   else none
   else
   impl_BookOk_l0 b t1 (p1 ++ [x1])
   else
   some (.ret ())
theorem impl_BookOk_l0_ok (b : Book) (h2 : capOk b.Accts.length = true) : ∀ (t1 p1 : List Acct) (_ : b.Accts = p1 ++ t1) , Pn (LpO Tryz.prog (sub (codeOf Tryz.prog 17) [1, 0, 1, 0, 0]) (st 37 [(1, V.ptr 0 0), (6, V.sl false 43 (List.map E43 b.Accts)), (7, V.sc (.int .i64 (b.Accts.length : Int))), (8, V.sc (.int .i64 (p1.length : Int)))] [Blk.box 47 [V.sl false 43 (List.map E43 b.Accts)]] []) (fun (y : Lo Unit Unit) => Lo.elim y (fun s => (X.out 0, st 37 [(1, V.ptr 0 0)] [Blk.box 47 [V.sl false 43 (List.map E43 b.Accts)]] [])) (fun s => (X.ret, st 37 [(2, V.sc (.bool false))] [] [])))) (impl_BookOk_l0 b t1 p1)
  | [], p1, h1 => by
    unfold impl_BookOk_l0
    exact
     Pn.some (LpO.out [.bit false, .mask [1], .ren [0]] (p := [(decide ((p1.length : Int) < (b.Accts.length : Int))) = false]) (by kernel_rfl) (show X.out 0 ≠ X.go from nofun) (cj1 (rng_end h1)))
  | x1 :: t1, p1, h1 => by
    unfold impl_BookOk_l0
    exact
     Pn.bind (fun r1 h3 =>
     Pn.ite (fun h4 =>
     Pn.ite (fun h5 =>
     Pn.ite (fun h6 =>
     Pn.bind (fun x2 h7 =>
     Pn.ite (fun h8 =>
     Pn.some (LpO.out [.bit true, .el (E43 x1), .draw [], .call [] (E4 r1) [], .bit false, .bit false, .bit false, .bit true, .bit true, .bit true, .bit true, .bit true, .bit true, .bit true, .el (E43 x2), .bit true, .bit true, .bit true, .bit false, .bit true, .bit false, .bit true, .wait 1, .mask [2], .ren []] (p := [(decide ((p1.length : Int) < (b.Accts.length : Int))) = true,
      (0 : Int) ≤ (p1.length : Int),
      (List.map E43 b.Accts)[(p1.length : Int).toNat]? = some (E43 x1),
      Fn Tryz.prog 26 [(false, E43 x1)] (E4 r1) [],
      (true || ((E4 r1).nv && nvL [])) = true,
      (!r1) = false,
      (!r1) = false,
      (!r1) = false,
      (decide (0 < (p1.length : Int))) = true,
      (decide (0 < (p1.length : Int))) = true,
      (decide (0 < (p1.length : Int))) = true,
      (decide (0 < (p1.length : Int))) = true,
      (decide (0 < (p1.length : Int))) = true,
      (decide (0 < (p1.length : Int))) = true,
      (decide (0 < (p1.length : Int))) = true,
      (0 : Int) ≤ (i64 ((p1.length : Int) - 1)),
      (List.map E43 b.Accts)[(i64 ((p1.length : Int) - 1)).toNat]? = some (E43 x2),
      (decide (0 < (p1.length : Int))) = true,
      (decide (0 < (p1.length : Int))) = true,
      (decide (0 < (p1.length : Int))) = true,
      (!r1) = false,
      (decide (0 < (p1.length : Int))) = true,
      (!r1) = false,
      (Op.bytesLess x1.Id.toList x2.Id.toList || (x1.Id == x2.Id)) = true]) (by kernel_rfl) (show X.ret ≠ X.go from nofun) (cj (rng_lt h1) (cj (by omega) (cj (rng_get _ h1) (cj (impl_AcctOk_ok x1 r1 h3) (cj rfl (cj (nf h4) (cj (nf h4) (cj (nf h4) (cj h5 (cj h5 (cj h5 (cj h5 (cj h5 (cj h5 (cj h5 (cj (od h6) (cj (map_get h7) (cj h5 (cj h5 (cj h5 (cj (nf h4) (cj h5 (cj (nf h4) (cj1 h8)))))))))))))))))))))))))) (fun h8 =>
     LpO.go [.bit true, .el (E43 x1), .draw [], .call [] (E4 r1) [], .bit false, .bit false, .bit false, .bit true, .bit true, .bit true, .bit true, .bit true, .bit true, .bit true, .el (E43 x2), .bit true, .bit true, .bit true, .bit false, .bit true, .bit false, .bit false, .wait 2, .mask [1, 6, 7, 8], .ren [0], .nm 8 (V.sc (.int .i64 ((p1 ++ [x1]).length : Int)))] (p := [(decide ((p1.length : Int) < (b.Accts.length : Int))) = true,
      (0 : Int) ≤ (p1.length : Int),
      (List.map E43 b.Accts)[(p1.length : Int).toNat]? = some (E43 x1),
      Fn Tryz.prog 26 [(false, E43 x1)] (E4 r1) [],
      (true || ((E4 r1).nv && nvL [])) = true,
      (!r1) = false,
      (!r1) = false,
      (!r1) = false,
      (decide (0 < (p1.length : Int))) = true,
      (decide (0 < (p1.length : Int))) = true,
      (decide (0 < (p1.length : Int))) = true,
      (decide (0 < (p1.length : Int))) = true,
      (decide (0 < (p1.length : Int))) = true,
      (decide (0 < (p1.length : Int))) = true,
      (decide (0 < (p1.length : Int))) = true,
      (0 : Int) ≤ (i64 ((p1.length : Int) - 1)),
      (List.map E43 b.Accts)[(i64 ((p1.length : Int) - 1)).toNat]? = some (E43 x2),
      (decide (0 < (p1.length : Int))) = true,
      (decide (0 < (p1.length : Int))) = true,
      (decide (0 < (p1.length : Int))) = true,
      (!r1) = false,
      (decide (0 < (p1.length : Int))) = true,
      (!r1) = false,
      (Op.bytesLess x1.Id.toList x2.Id.toList || (x1.Id == x2.Id)) = false,
      V.sc (.int .i64 (i64 ((p1.length : Int) + 1))) = V.sc (.int .i64 ((p1 ++ [x1]).length : Int))]) (by kernel_rfl) (cj (rng_lt h1) (cj (by omega) (cj (rng_get _ h1) (cj (impl_AcctOk_ok x1 r1 h3) (cj rfl (cj (nf h4) (cj (nf h4) (cj (nf h4) (cj h5 (cj h5 (cj h5 (cj h5 (cj h5 (cj h5 (cj h5 (cj (od h6) (cj (map_get h7) (cj h5 (cj h5 (cj h5 (cj (nf h4) (cj h5 (cj (nf h4) (cj h8 (cj1 (rng_next h1 h2)))))))))))))))))))))))))) (impl_BookOk_l0_ok b h2 t1 (p1 ++ [x1]) (rng_step h1))))) (fun h6 =>
     Pn.none)) (fun h5 =>
     LpO.go [.bit true, .el (E43 x1), .draw [], .call [] (E4 r1) [], .bit false, .bit false, .bit false, .bit false, .bit false, .bit false, .bit false, .bit false, .bit false, .bit false, .bit false, .bit false, .bit false, .bit false, .bit false, .bit false, .bit false, .wait 2, .mask [1, 6, 7, 8], .ren [0], .nm 8 (V.sc (.int .i64 ((p1 ++ [x1]).length : Int)))] (p := [(decide ((p1.length : Int) < (b.Accts.length : Int))) = true,
      (0 : Int) ≤ (p1.length : Int),
      (List.map E43 b.Accts)[(p1.length : Int).toNat]? = some (E43 x1),
      Fn Tryz.prog 26 [(false, E43 x1)] (E4 r1) [],
      (true || ((E4 r1).nv && nvL [])) = true,
      (!r1) = false,
      (!r1) = false,
      (!r1) = false,
      (decide (0 < (p1.length : Int))) = false,
      (decide (0 < (p1.length : Int))) = false,
      (decide (0 < (p1.length : Int))) = false,
      (decide (0 < (p1.length : Int))) = false,
      (decide (0 < (p1.length : Int))) = false,
      (decide (0 < (p1.length : Int))) = false,
      (decide (0 < (p1.length : Int))) = false,
      (decide (0 < (p1.length : Int))) = false,
      (decide (0 < (p1.length : Int))) = false,
      (decide (0 < (p1.length : Int))) = false,
      (!r1) = false,
      (decide (0 < (p1.length : Int))) = false,
      (!r1) = false,
      false = false,
      V.sc (.int .i64 (i64 ((p1.length : Int) + 1))) = V.sc (.int .i64 ((p1 ++ [x1]).length : Int))]) (by kernel_rfl) (cj (rng_lt h1) (cj (by omega) (cj (rng_get _ h1) (cj (impl_AcctOk_ok x1 r1 h3) (cj rfl (cj (nf h4) (cj (nf h4) (cj (nf h4) (cj h5 (cj h5 (cj h5 (cj h5 (cj h5 (cj h5 (cj h5 (cj h5 (cj h5 (cj h5 (cj (nf h4) (cj h5 (cj (nf h4) (cj rfl (cj1 (rng_next h1 h2)))))))))))))))))))))))) (impl_BookOk_l0_ok b h2 t1 (p1 ++ [x1]) (rng_step h1)))) (fun h4 =>
     Pn.some (LpO.out [.bit true, .el (E43 x1), .draw [], .call [] (E4 r1) [], .bit true, .bit true, .bit true, .bit true, .bit true, .bit true, .wait 1, .mask [2], .ren []] (p := [(decide ((p1.length : Int) < (b.Accts.length : Int))) = true,
      (0 : Int) ≤ (p1.length : Int),
      (List.map E43 b.Accts)[(p1.length : Int).toNat]? = some (E43 x1),
      Fn Tryz.prog 26 [(false, E43 x1)] (E4 r1) [],
      (true || ((E4 r1).nv && nvL [])) = true,
      (!r1) = true,
      (!r1) = true,
      (!r1) = true,
      (!r1) = true,
      (!r1) = true,
      true = true]) (by kernel_rfl) (show X.ret ≠ X.go from nofun) (cj (rng_lt h1) (cj (by omega) (cj (rng_get _ h1) (cj (impl_AcctOk_ok x1 r1 h3) (cj rfl (cj (nt h4) (cj (nt h4) (cj (nt h4) (cj (nt h4) (cj (nt h4) (cj1 rfl))))))))))))))
def impl_BookOk (b : Book) : Option (Bool) :=
 if (capOk b.Accts.length) = true then
 (impl_BookOk_l0 b b.Accts []).bind fun r2 =>
 Lo.elim r2 (fun s1 =>
 some (decide ((b.Accts.length : Int) ≤ 6))) (fun s2 =>
 some false)
 else none
theorem impl_BookOk_ok (b : Book) : Pn (fun y => Fn Tryz.prog 17 [(false, E47 b)] (E4 y) []) (impl_BookOk b) := by
  unfold impl_BookOk
  exact
   Pn.ite (fun h9 =>
   Pn.bind (fun r2 h10 =>
   Pn.lo (fun s1 h11 =>
   Pn.some (Fn.of [.wait 5, .nm 7 (V.sc (.int .i64 (b.Accts.length : Int))), .wait 2, .mask [1, 6, 7, 8], .ren [0], .loop (X.out 0) (st 37 [(1, V.ptr 0 0)] [Blk.box 47 [V.sl false 43 (List.map E43 b.Accts)]] []), .wait 3, .nm 35 (V.sc (.int .i64 (b.Accts.length : Int)))] (p := [V.sc (.int .i64 ((List.map E43 b.Accts).length : Int)) = V.sc (.int .i64 (b.Accts.length : Int)),
    Loop Tryz.prog (sub (codeOf Tryz.prog 17) [1, 0, 1, 0, 0]) (st 37 [(1, V.ptr 0 0), (6, V.sl false 43 (List.map E43 b.Accts)), (7, V.sc (.int .i64 (b.Accts.length : Int))), (8, V.sc (.int .i64 0))] [Blk.box 47 [V.sl false 43 (List.map E43 b.Accts)]] []) (X.out 0) (st 37 [(1, V.ptr 0 0)] [Blk.box 47 [V.sl false 43 (List.map E43 b.Accts)]] []),
    V.sc (.int .i64 ((List.map E43 b.Accts).length : Int)) = V.sc (.int .i64 (b.Accts.length : Int))]) (by kernel_rfl) (cj (len_nm _ _) (cj ((impl_BookOk_l0_ok b h9 b.Accts [] rfl r2 h10).at h11) (cj1 (len_nm _ _)))))) (fun s2 h12 =>
   Pn.some (Fn.of [.wait 5, .nm 7 (V.sc (.int .i64 (b.Accts.length : Int))), .wait 2, .mask [1, 6, 7, 8], .ren [0], .loop (X.ret) (st 37 [(2, V.sc (.bool false))] [] [])] (p := [V.sc (.int .i64 ((List.map E43 b.Accts).length : Int)) = V.sc (.int .i64 (b.Accts.length : Int)),
    Loop Tryz.prog (sub (codeOf Tryz.prog 17) [1, 0, 1, 0, 0]) (st 37 [(1, V.ptr 0 0), (6, V.sl false 43 (List.map E43 b.Accts)), (7, V.sc (.int .i64 (b.Accts.length : Int))), (8, V.sc (.int .i64 0))] [Blk.box 47 [V.sl false 43 (List.map E43 b.Accts)]] []) (X.ret) (st 37 [(2, V.sc (.bool false))] [] [])]) (by kernel_rfl) (cj (len_nm _ _) (cj1 ((impl_BookOk_l0_ok b h9 b.Accts [] rfl r2 h10).at h12))))))) (fun h9 =>
   Pn.none)
def impl_StripesOk_l1 (l : List Stripe) (p1 : List Stripe) (x1 : Stripe) : List Acct → List Acct → Option (Lo Unit Unit)
  | [], p2 =>
   some (.out ())
  | x2 :: t2, p2 =>
   (impl_StripeNo x2.Id (l.length : Int)).bind fun r2 =>
   if (r2 != (p1.length : Int)) = true then
   some (.ret ())
   else
   if (decide (0 < (p2.length : Int))) = true then
   if (decide (0 ≤ (i64 ((p2.length : Int) - 1)))) = true then
   (x1.Accts[(i64 ((p2.length : Int) - 1)).toNat]?).bind fun x3 =>
   if (Op.bytesLess x2.Id.toList x3.Id.toList || (x2.Id == x3.Id)) = true then
   some (.ret ())
   else
   impl_StripesOk_l1 l p1 x1 t2 (p2 ++ [x2])
   else none
   else
   impl_StripesOk_l1 l p1 x1 t2 (p2 ++ [x2])
theorem impl_StripesOk_l1_ok (l : List Stripe) (p1 : List Stripe) (x1 : Stripe) (h6 : capOk x1.Accts.length = true) : ∀ (t2 p2 : List Acct) (_ : x1.Accts = p2 ++ t2) , Pn (LpO Tryz.prog (sub (codeOf Tryz.prog 7) [1, 0, 1, 0, 0, 1, 1, 0, 0, 1, 1, 1, 0, 0]) (st 59 [(0, V.sl false 36 (List.map E36 l)), (3, V.sc (.int .i64 (p1.length : Int))), (4, V.ptr 0 0), (7, V.sl false 36 (List.map E36 l)), (8, V.sc (.int .i64 (l.length : Int))), (9, V.sc (.int .i64 (p1.length : Int))), (19, V.sl false 43 (List.map E43 x1.Accts)), (20, V.sc (.int .i64 (x1.Accts.length : Int))), (21, V.sc (.int .i64 (p2.length : Int)))] [Blk.box 36 [V.sc (.int .i64 x1.Owner), V.sl false 43 (List.map E43 x1.Accts)]] []) (fun (y : Lo Unit Unit) => Lo.elim y (fun s => (X.out 2, st 59 [(0, V.sl false 36 (List.map E36 l)), (7, V.sl false 36 (List.map E36 l)), (8, V.sc (.int .i64 (l.length : Int))), (9, V.sc (.int .i64 (p1.length : Int)))] [] [])) (fun s => (X.ret, st 59 [(2, V.sc (.bool false))] [] [])))) (impl_StripesOk_l1 l p1 x1 t2 p2)
  | [], p2, h5 => by
    unfold impl_StripesOk_l1
    exact
     Pn.some (LpO.out [.bit false, .mask [0, 7, 8, 9], .ren []] (p := [(decide ((p2.length : Int) < (x1.Accts.length : Int))) = false]) (by kernel_rfl) (show X.out 2 ≠ X.go from nofun) (cj1 (rng_end h5)))
  | x2 :: t2, p2, h5 => by
    unfold impl_StripesOk_l1
    exact
     Pn.bind (fun r2 h7 =>
     Pn.ite (fun h8 =>
     Pn.some (LpO.out [.bit true, .el (E43 x2), .draw [], .wait 3, .nm 29 (V.sc (.int .i64 (l.length : Int))), .call [] (E3 r2) [], .bit true, .bit true, .bit true, .bit true, .bit true, .bit true, .wait 1, .mask [2], .ren []] (p := [(decide ((p2.length : Int) < (x1.Accts.length : Int))) = true,
      (0 : Int) ≤ (p2.length : Int),
      (List.map E43 x1.Accts)[(p2.length : Int).toNat]? = some (E43 x2),
      V.sc (.int .i64 ((List.map E36 l).length : Int)) = V.sc (.int .i64 (l.length : Int)),
      Fn Tryz.prog 16 [(false, E9 x2.Id), (false, E3 (l.length : Int))] (E3 r2) [],
      (true || ((E3 r2).nv && nvL [])) = true,
      (r2 != (p1.length : Int)) = true,
      (r2 != (p1.length : Int)) = true,
      (r2 != (p1.length : Int)) = true,
      (r2 != (p1.length : Int)) = true,
      (r2 != (p1.length : Int)) = true,
      true = true]) (by kernel_rfl) (show X.ret ≠ X.go from nofun) (cj (rng_lt h5) (cj (by omega) (cj (rng_get _ h5) (cj (len_nm _ _) (cj (impl_StripeNo_ok x2.Id (l.length : Int) r2 h7) (cj rfl (cj h8 (cj h8 (cj h8 (cj h8 (cj h8 (cj1 rfl)))))))))))))) (fun h8 =>
     Pn.ite (fun h9 =>
     Pn.ite (fun h10 =>
     Pn.bind (fun x3 h11 =>
     Pn.ite (fun h12 =>
     Pn.some (LpO.out [.bit true, .el (E43 x2), .draw [], .wait 3, .nm 29 (V.sc (.int .i64 (l.length : Int))), .call [] (E3 r2) [], .bit false, .bit false, .bit false, .bit true, .bit true, .bit true, .bit true, .bit true, .bit true, .bit true, .el (E43 x3), .bit true, .bit true, .bit true, .bit false, .bit true, .bit false, .bit true, .wait 1, .mask [2], .ren []] (p := [(decide ((p2.length : Int) < (x1.Accts.length : Int))) = true,
      (0 : Int) ≤ (p2.length : Int),
      (List.map E43 x1.Accts)[(p2.length : Int).toNat]? = some (E43 x2),
      V.sc (.int .i64 ((List.map E36 l).length : Int)) = V.sc (.int .i64 (l.length : Int)),
      Fn Tryz.prog 16 [(false, E9 x2.Id), (false, E3 (l.length : Int))] (E3 r2) [],
      (true || ((E3 r2).nv && nvL [])) = true,
      (r2 != (p1.length : Int)) = false,
      (r2 != (p1.length : Int)) = false,
      (r2 != (p1.length : Int)) = false,
      (decide (0 < (p2.length : Int))) = true,
      (decide (0 < (p2.length : Int))) = true,
      (decide (0 < (p2.length : Int))) = true,
      (decide (0 < (p2.length : Int))) = true,
      (decide (0 < (p2.length : Int))) = true,
      (decide (0 < (p2.length : Int))) = true,
      (decide (0 < (p2.length : Int))) = true,
      (0 : Int) ≤ (i64 ((p2.length : Int) - 1)),
      (List.map E43 x1.Accts)[(i64 ((p2.length : Int) - 1)).toNat]? = some (E43 x3),
      (decide (0 < (p2.length : Int))) = true,
      (decide (0 < (p2.length : Int))) = true,
      (decide (0 < (p2.length : Int))) = true,
      (r2 != (p1.length : Int)) = false,
      (decide (0 < (p2.length : Int))) = true,
      (r2 != (p1.length : Int)) = false,
      (Op.bytesLess x2.Id.toList x3.Id.toList || (x2.Id == x3.Id)) = true]) (by kernel_rfl) (show X.ret ≠ X.go from nofun) (cj (rng_lt h5) (cj (by omega) (cj (rng_get _ h5) (cj (len_nm _ _) (cj (impl_StripeNo_ok x2.Id (l.length : Int) r2 h7) (cj rfl (cj h8 (cj h8 (cj h8 (cj h9 (cj h9 (cj h9 (cj h9 (cj h9 (cj h9 (cj h9 (cj (od h10) (cj (map_get h11) (cj h9 (cj h9 (cj h9 (cj h8 (cj h9 (cj h8 (cj1 h12))))))))))))))))))))))))))) (fun h12 =>
     LpO.go [.bit true, .el (E43 x2), .draw [], .wait 3, .nm 29 (V.sc (.int .i64 (l.length : Int))), .call [] (E3 r2) [], .bit false, .bit false, .bit false, .bit true, .bit true, .bit true, .bit true, .bit true, .bit true, .bit true, .el (E43 x3), .bit true, .bit true, .bit true, .bit false, .bit true, .bit false, .bit false, .wait 2, .mask [0, 3, 4, 7, 8, 9, 19, 20, 21], .ren [0], .nm 21 (V.sc (.int .i64 ((p2 ++ [x2]).length : Int)))] (p := [(decide ((p2.length : Int) < (x1.Accts.length : Int))) = true,
      (0 : Int) ≤ (p2.length : Int),
      (List.map E43 x1.Accts)[(p2.length : Int).toNat]? = some (E43 x2),
      V.sc (.int .i64 ((List.map E36 l).length : Int)) = V.sc (.int .i64 (l.length : Int)),
      Fn Tryz.prog 16 [(false, E9 x2.Id), (false, E3 (l.length : Int))] (E3 r2) [],
      (true || ((E3 r2).nv && nvL [])) = true,
      (r2 != (p1.length : Int)) = false,
      (r2 != (p1.length : Int)) = false,
      (r2 != (p1.length : Int)) = false,
      (decide (0 < (p2.length : Int))) = true,
      (decide (0 < (p2.length : Int))) = true,
      (decide (0 < (p2.length : Int))) = true,
      (decide (0 < (p2.length : Int))) = true,
      (decide (0 < (p2.length : Int))) = true,
      (decide (0 < (p2.length : Int))) = true,
      (decide (0 < (p2.length : Int))) = true,
      (0 : Int) ≤ (i64 ((p2.length : Int) - 1)),
      (List.map E43 x1.Accts)[(i64 ((p2.length : Int) - 1)).toNat]? = some (E43 x3),
      (decide (0 < (p2.length : Int))) = true,
      (decide (0 < (p2.length : Int))) = true,
      (decide (0 < (p2.length : Int))) = true,
      (r2 != (p1.length : Int)) = false,
      (decide (0 < (p2.length : Int))) = true,
      (r2 != (p1.length : Int)) = false,
      (Op.bytesLess x2.Id.toList x3.Id.toList || (x2.Id == x3.Id)) = false,
      V.sc (.int .i64 (i64 ((p2.length : Int) + 1))) = V.sc (.int .i64 ((p2 ++ [x2]).length : Int))]) (by kernel_rfl) (cj (rng_lt h5) (cj (by omega) (cj (rng_get _ h5) (cj (len_nm _ _) (cj (impl_StripeNo_ok x2.Id (l.length : Int) r2 h7) (cj rfl (cj h8 (cj h8 (cj h8 (cj h9 (cj h9 (cj h9 (cj h9 (cj h9 (cj h9 (cj h9 (cj (od h10) (cj (map_get h11) (cj h9 (cj h9 (cj h9 (cj h8 (cj h9 (cj h8 (cj h12 (cj1 (rng_next h5 h6))))))))))))))))))))))))))) (impl_StripesOk_l1_ok l p1 x1 h6 t2 (p2 ++ [x2]) (rng_step h5))))) (fun h10 =>
     Pn.none)) (fun h9 =>
     LpO.go [.bit true, .el (E43 x2), .draw [], .wait 3, .nm 29 (V.sc (.int .i64 (l.length : Int))), .call [] (E3 r2) [], .bit false, .bit false, .bit false, .bit false, .bit false, .bit false, .bit false, .bit false, .bit false, .bit false, .bit false, .bit false, .bit false, .bit false, .bit false, .bit false, .bit false, .wait 2, .mask [0, 3, 4, 7, 8, 9, 19, 20, 21], .ren [0], .nm 21 (V.sc (.int .i64 ((p2 ++ [x2]).length : Int)))] (p := [(decide ((p2.length : Int) < (x1.Accts.length : Int))) = true,
      (0 : Int) ≤ (p2.length : Int),
      (List.map E43 x1.Accts)[(p2.length : Int).toNat]? = some (E43 x2),
      V.sc (.int .i64 ((List.map E36 l).length : Int)) = V.sc (.int .i64 (l.length : Int)),
      Fn Tryz.prog 16 [(false, E9 x2.Id), (false, E3 (l.length : Int))] (E3 r2) [],
      (true || ((E3 r2).nv && nvL [])) = true,
      (r2 != (p1.length : Int)) = false,
      (r2 != (p1.length : Int)) = false,
      (r2 != (p1.length : Int)) = false,
      (decide (0 < (p2.length : Int))) = false,
      (decide (0 < (p2.length : Int))) = false,
      (decide (0 < (p2.length : Int))) = false,
      (decide (0 < (p2.length : Int))) = false,
      (decide (0 < (p2.length : Int))) = false,
      (decide (0 < (p2.length : Int))) = false,
      (decide (0 < (p2.length : Int))) = false,
      (decide (0 < (p2.length : Int))) = false,
      (decide (0 < (p2.length : Int))) = false,
      (decide (0 < (p2.length : Int))) = false,
      (r2 != (p1.length : Int)) = false,
      (decide (0 < (p2.length : Int))) = false,
      (r2 != (p1.length : Int)) = false,
      false = false,
      V.sc (.int .i64 (i64 ((p2.length : Int) + 1))) = V.sc (.int .i64 ((p2 ++ [x2]).length : Int))]) (by kernel_rfl) (cj (rng_lt h5) (cj (by omega) (cj (rng_get _ h5) (cj (len_nm _ _) (cj (impl_StripeNo_ok x2.Id (l.length : Int) r2 h7) (cj rfl (cj h8 (cj h8 (cj h8 (cj h9 (cj h9 (cj h9 (cj h9 (cj h9 (cj h9 (cj h9 (cj h9 (cj h9 (cj h9 (cj h8 (cj h9 (cj h8 (cj rfl (cj1 (rng_next h5 h6))))))))))))))))))))))))) (impl_StripesOk_l1_ok l p1 x1 h6 t2 (p2 ++ [x2]) (rng_step h5)))))
def impl_StripesOk_l0 (l : List Stripe) : List Stripe → List Stripe → Option (Lo Unit Unit)
  | [], p1 =>
   some (.out ())
  | x1 :: t1, p1 =>
   (impl_within x1.Owner (-1) 11).bind fun r1 =>
   if r1 = true then
   if (capOk x1.Accts.length) = true then
   (impl_StripesOk_l1 l p1 x1 x1.Accts []).bind fun r3 =>
   Lo.elim r3 (fun s1 =>
   impl_StripesOk_l0 l t1 (p1 ++ [x1])) (fun s2 =>
   some (.ret ()))
   else none
   else
   some (.ret ())
theorem impl_StripesOk_l0_ok (l : List Stripe) (h2 : capOk l.length = true) : ∀ (t1 p1 : List Stripe) (_ : l = p1 ++ t1) , Pn (LpO Tryz.prog (sub (codeOf Tryz.prog 7) [1, 0, 1, 0, 0]) (st 59 [(0, V.sl false 36 (List.map E36 l)), (7, V.sl false 36 (List.map E36 l)), (8, V.sc (.int .i64 (l.length : Int))), (9, V.sc (.int .i64 (p1.length : Int)))] [] []) (fun (y : Lo Unit Unit) => Lo.elim y (fun s => (X.out 0, st 59 [(0, V.sl false 36 (List.map E36 l))] [] [])) (fun s => (X.ret, st 59 [(2, V.sc (.bool false))] [] [])))) (impl_StripesOk_l0 l t1 p1)
  | [], p1, h1 => by
    unfold impl_StripesOk_l0
    exact
     Pn.some (LpO.out [.bit false, .mask [0], .ren []] (p := [(decide ((p1.length : Int) < (l.length : Int))) = false]) (by kernel_rfl) (show X.out 0 ≠ X.go from nofun) (cj1 (rng_end h1)))
  | x1 :: t1, p1, h1 => by
    unfold impl_StripesOk_l0
    exact
     Pn.bind (fun r1 h3 =>
     Pn.ite (fun h4 =>
     Pn.ite (fun h13 =>
     Pn.bind (fun r3 h14 =>
     Pn.lo (fun s1 h15 =>
     LpO.go [.bit true, .el (E36 x1), .call [] (E4 r1) [], .bit false, .wait 2, .nm 20 (V.sc (.int .i64 (x1.Accts.length : Int))), .wait 2, .mask [0, 3, 4, 7, 8, 9, 19, 20, 21], .ren [0], .loop (X.out 2) (st 59 [(0, V.sl false 36 (List.map E36 l)), (7, V.sl false 36 (List.map E36 l)), (8, V.sc (.int .i64 (l.length : Int))), (9, V.sc (.int .i64 (p1.length : Int)))] [] []), .wait 3, .mask [0, 7, 8, 9], .ren [], .nm 9 (V.sc (.int .i64 ((p1 ++ [x1]).length : Int)))] (p := [(decide ((p1.length : Int) < (l.length : Int))) = true,
      (0 : Int) ≤ (p1.length : Int),
      (List.map E36 l)[(p1.length : Int).toNat]? = some (E36 x1),
      Fn Tryz.prog 15 [(false, E3 x1.Owner), (false, E3 (-1)), (false, E3 11)] (E4 r1) [],
      (true || ((E4 r1).nv && nvL [])) = true,
      (!r1) = false,
      V.sc (.int .i64 ((List.map E43 x1.Accts).length : Int)) = V.sc (.int .i64 (x1.Accts.length : Int)),
      Loop Tryz.prog (sub (codeOf Tryz.prog 7) [1, 0, 1, 0, 0, 1, 1, 0, 0, 1, 1, 1, 0, 0]) (st 59 [(0, V.sl false 36 (List.map E36 l)), (3, V.sc (.int .i64 (p1.length : Int))), (4, V.ptr 0 0), (7, V.sl false 36 (List.map E36 l)), (8, V.sc (.int .i64 (l.length : Int))), (9, V.sc (.int .i64 (p1.length : Int))), (19, V.sl false 43 (List.map E43 x1.Accts)), (20, V.sc (.int .i64 (x1.Accts.length : Int))), (21, V.sc (.int .i64 0))] [Blk.box 36 [V.sc (.int .i64 x1.Owner), V.sl false 43 (List.map E43 x1.Accts)]] []) (X.out 2) (st 59 [(0, V.sl false 36 (List.map E36 l)), (7, V.sl false 36 (List.map E36 l)), (8, V.sc (.int .i64 (l.length : Int))), (9, V.sc (.int .i64 (p1.length : Int)))] [] []),
      V.sc (.int .i64 (i64 ((p1.length : Int) + 1))) = V.sc (.int .i64 ((p1 ++ [x1]).length : Int))]) (by kernel_rfl) (cj (rng_lt h1) (cj (by omega) (cj (rng_get _ h1) (cj (impl_within_ok x1.Owner (-1) 11 r1 h3) (cj rfl (cj (nf h4) (cj (len_nm _ _) (cj ((impl_StripesOk_l1_ok l p1 x1 h13 x1.Accts [] rfl r3 h14).at h15) (cj1 (rng_next h1 h2)))))))))) (impl_StripesOk_l0_ok l h2 t1 (p1 ++ [x1]) (rng_step h1))) (fun s2 h16 =>
     Pn.some (LpO.out [.bit true, .el (E36 x1), .call [] (E4 r1) [], .bit false, .wait 2, .nm 20 (V.sc (.int .i64 (x1.Accts.length : Int))), .wait 2, .mask [0, 3, 4, 7, 8, 9, 19, 20, 21], .ren [0], .loop (X.ret) (st 59 [(2, V.sc (.bool false))] [] []), .wait 1, .mask [2], .ren []] (p := [(decide ((p1.length : Int) < (l.length : Int))) = true,
      (0 : Int) ≤ (p1.length : Int),
      (List.map E36 l)[(p1.length : Int).toNat]? = some (E36 x1),
      Fn Tryz.prog 15 [(false, E3 x1.Owner), (false, E3 (-1)), (false, E3 11)] (E4 r1) [],
      (true || ((E4 r1).nv && nvL [])) = true,
      (!r1) = false,
      V.sc (.int .i64 ((List.map E43 x1.Accts).length : Int)) = V.sc (.int .i64 (x1.Accts.length : Int)),
      Loop Tryz.prog (sub (codeOf Tryz.prog 7) [1, 0, 1, 0, 0, 1, 1, 0, 0, 1, 1, 1, 0, 0]) (st 59 [(0, V.sl false 36 (List.map E36 l)), (3, V.sc (.int .i64 (p1.length : Int))), (4, V.ptr 0 0), (7, V.sl false 36 (List.map E36 l)), (8, V.sc (.int .i64 (l.length : Int))), (9, V.sc (.int .i64 (p1.length : Int))), (19, V.sl false 43 (List.map E43 x1.Accts)), (20, V.sc (.int .i64 (x1.Accts.length : Int))), (21, V.sc (.int .i64 0))] [Blk.box 36 [V.sc (.int .i64 x1.Owner), V.sl false 43 (List.map E43 x1.Accts)]] []) (X.ret) (st 59 [(2, V.sc (.bool false))] [] [])]) (by kernel_rfl) (show X.ret ≠ X.go from nofun) (cj (rng_lt h1) (cj (by omega) (cj (rng_get _ h1) (cj (impl_within_ok x1.Owner (-1) 11 r1 h3) (cj rfl (cj (nf h4) (cj (len_nm _ _) (cj1 ((impl_StripesOk_l1_ok l p1 x1 h13 x1.Accts [] rfl r3 h14).at h16))))))))))))) (fun h13 =>
     Pn.none)) (fun h4 =>
     Pn.some (LpO.out [.bit true, .el (E36 x1), .call [] (E4 r1) [], .bit true, .wait 1, .mask [2], .ren []] (p := [(decide ((p1.length : Int) < (l.length : Int))) = true,
      (0 : Int) ≤ (p1.length : Int),
      (List.map E36 l)[(p1.length : Int).toNat]? = some (E36 x1),
      Fn Tryz.prog 15 [(false, E3 x1.Owner), (false, E3 (-1)), (false, E3 11)] (E4 r1) [],
      (true || ((E4 r1).nv && nvL [])) = true,
      (!r1) = true]) (by kernel_rfl) (show X.ret ≠ X.go from nofun) (cj (rng_lt h1) (cj (by omega) (cj (rng_get _ h1) (cj (impl_within_ok x1.Owner (-1) 11 r1 h3) (cj rfl (cj1 (nt h4))))))))))
def impl_StripesOk (l : List Stripe) : Option (Bool) :=
 if (capOk l.length) = true then
 (impl_StripesOk_l0 l l []).bind fun r4 =>
 Lo.elim r4 (fun s3 =>
 (impl_within (l.length : Int) 1 5).bind fun r5 =>
 if r5 = true then
 (impl_Gather l).bind fun r6 =>
 (impl_BookOk r6).bind fun r7 =>
 some r7
 else
 some false) (fun s4 =>
 some false)
 else none
theorem impl_StripesOk_ok (l : List Stripe) : Pn (fun y => Fn Tryz.prog 7 [(false, E25 l)] (E4 y) []) (impl_StripesOk l) := by
  unfold impl_StripesOk
  exact
   Pn.ite (fun h17 =>
   Pn.bind (fun r4 h18 =>
   Pn.lo (fun s3 h19 =>
   Pn.bind (fun r5 h21 =>
   Pn.ite (fun h22 =>
   Pn.bind (fun r6 h23 =>
   Pn.bind (fun r7 h24 =>
   Pn.some (Fn.of [.wait 3, .nm 8 (V.sc (.int .i64 (l.length : Int))), .wait 2, .mask [0, 7, 8, 9], .ren [], .loop (X.out 0) (st 59 [(0, V.sl false 36 (List.map E36 l))] [] []), .wait 2, .nm 52 (V.sc (.int .i64 (l.length : Int))), .call [] (E4 r5) [], .bit true, .bit true, .call [] (E47 r6) [], .bit true, .call [] (E4 r7) [], .bit true] (p := [V.sc (.int .i64 ((List.map E36 l).length : Int)) = V.sc (.int .i64 (l.length : Int)),
    Loop Tryz.prog (sub (codeOf Tryz.prog 7) [1, 0, 1, 0, 0]) (st 59 [(0, V.sl false 36 (List.map E36 l)), (7, V.sl false 36 (List.map E36 l)), (8, V.sc (.int .i64 (l.length : Int))), (9, V.sc (.int .i64 0))] [] []) (X.out 0) (st 59 [(0, V.sl false 36 (List.map E36 l))] [] []),
    V.sc (.int .i64 ((List.map E36 l).length : Int)) = V.sc (.int .i64 (l.length : Int)),
    Fn Tryz.prog 15 [(false, E3 (l.length : Int)), (false, E3 1), (false, E3 5)] (E4 r5) [],
    (true || ((E4 r5).nv && nvL [])) = true,
    r5 = true,
    r5 = true,
    Fn Tryz.prog 18 [(false, E25 l)] (E47 r6) [],
    (true || ((E47 r6).nv && nvL [])) = true,
    r5 = true,
    Fn Tryz.prog 17 [(false, E47 r6)] (E4 r7) [],
    (false || ((E4 r7).nv && nvL [])) = true,
    r5 = true]) (by kernel_rfl) (cj (len_nm _ _) (cj ((impl_StripesOk_l0_ok l h17 l [] rfl r4 h18).at h19) (cj (len_nm _ _) (cj (impl_within_ok (l.length : Int) 1 5 r5 h21) (cj rfl (cj h22 (cj h22 (cj (impl_Gather_ok l r6 h23) (cj rfl (cj h22 (cj (impl_BookOk_ok r6 r7 h24) (cj (by simp [V.nv, nvL, nvL_all, nv_E4]) (cj1 h22))))))))))))))))) (fun h22 =>
   Pn.some (Fn.of [.wait 3, .nm 8 (V.sc (.int .i64 (l.length : Int))), .wait 2, .mask [0, 7, 8, 9], .ren [], .loop (X.out 0) (st 59 [(0, V.sl false 36 (List.map E36 l))] [] []), .wait 2, .nm 52 (V.sc (.int .i64 (l.length : Int))), .call [] (E4 r5) [], .bit false, .bit false, .bit false, .bit false] (p := [V.sc (.int .i64 ((List.map E36 l).length : Int)) = V.sc (.int .i64 (l.length : Int)),
    Loop Tryz.prog (sub (codeOf Tryz.prog 7) [1, 0, 1, 0, 0]) (st 59 [(0, V.sl false 36 (List.map E36 l)), (7, V.sl false 36 (List.map E36 l)), (8, V.sc (.int .i64 (l.length : Int))), (9, V.sc (.int .i64 0))] [] []) (X.out 0) (st 59 [(0, V.sl false 36 (List.map E36 l))] [] []),
    V.sc (.int .i64 ((List.map E36 l).length : Int)) = V.sc (.int .i64 (l.length : Int)),
    Fn Tryz.prog 15 [(false, E3 (l.length : Int)), (false, E3 1), (false, E3 5)] (E4 r5) [],
    (true || ((E4 r5).nv && nvL [])) = true,
    r5 = false,
    r5 = false,
    r5 = false,
    r5 = false]) (by kernel_rfl) (cj (len_nm _ _) (cj ((impl_StripesOk_l0_ok l h17 l [] rfl r4 h18).at h19) (cj (len_nm _ _) (cj (impl_within_ok (l.length : Int) 1 5 r5 h21) (cj rfl (cj h22 (cj h22 (cj h22 (cj1 h22))))))))))))) (fun s4 h20 =>
   Pn.some (Fn.of [.wait 3, .nm 8 (V.sc (.int .i64 (l.length : Int))), .wait 2, .mask [0, 7, 8, 9], .ren [], .loop (X.ret) (st 59 [(2, V.sc (.bool false))] [] [])] (p := [V.sc (.int .i64 ((List.map E36 l).length : Int)) = V.sc (.int .i64 (l.length : Int)),
    Loop Tryz.prog (sub (codeOf Tryz.prog 7) [1, 0, 1, 0, 0]) (st 59 [(0, V.sl false 36 (List.map E36 l)), (7, V.sl false 36 (List.map E36 l)), (8, V.sc (.int .i64 (l.length : Int))), (9, V.sc (.int .i64 0))] [] []) (X.ret) (st 59 [(2, V.sc (.bool false))] [] [])]) (by kernel_rfl) (cj (len_nm _ _) (cj1 ((impl_StripesOk_l0_ok l h17 l [] rfl r4 h18).at h20))))))) (fun h17 =>
   Pn.none)
def laws_eqHold (a : Hold) (b : Hold) : Option (Bool) :=
 if (a.Id == b.Id) = true then
 if (a.Amount != b.Amount) = true then
 some false
 else
 if (a.Due != b.Due) = true then
 some false
 else
 some true
 else
 some false
theorem laws_eqHold_ok (a : Hold) (b : Hold) : Pn (fun y => Fn Tryz.prog 98 [(false, E85 a), (false, E85 b)] (E4 y) []) (laws_eqHold a b) := by
  unfold laws_eqHold
  exact
   Pn.ite (fun h1 =>
   Pn.ite (fun h2 =>
   Pn.some (Fn.of [.bit false, .bit true] (p := [(!(a.Id == b.Id)) = false,
    (a.Amount != b.Amount) = true]) (by kernel_rfl) (cj (nf h1) (cj1 h2)))) (fun h2 =>
   Pn.ite (fun h3 =>
   Pn.some (Fn.of [.bit false, .bit false, .bit true] (p := [(!(a.Id == b.Id)) = false,
    (a.Amount != b.Amount) = false,
    (a.Due != b.Due) = true]) (by kernel_rfl) (cj (nf h1) (cj h2 (cj1 h3))))) (fun h3 =>
   Pn.some (Fn.of [.bit false, .bit false, .bit false] (p := [(!(a.Id == b.Id)) = false,
    (a.Amount != b.Amount) = false,
    (a.Due != b.Due) = false]) (by kernel_rfl) (cj (nf h1) (cj h2 (cj1 h3))))))) (fun h1 =>
   Pn.some (Fn.of [.bit true] (p := [(!(a.Id == b.Id)) = true]) (by kernel_rfl) (cj1 (nt h1))))
def laws_eqHoldS_l0 (a : List Hold) (b : List Hold) : List Hold → List Hold → Option (Lo Unit Unit)
  | [], p1 =>
   some (.out ())
  | x1 :: t1, p1 =>
   (b[(p1.length : Int).toNat]?).bind fun x2 =>
   (laws_eqHold x1 x2).bind fun r1 =>
   if r1 = true then
   laws_eqHoldS_l0 a b t1 (p1 ++ [x1])
   else
   some (.ret ())
theorem laws_eqHoldS_l0_ok (a : List Hold) (b : List Hold) (h3 : capOk a.length = true) : ∀ (t1 p1 : List Hold) (_ : a = p1 ++ t1) , Pn (LpO Tryz.prog (sub (codeOf Tryz.prog 76) [1, 1, 0, 1, 0, 0]) (st 27 [(0, V.sl false 85 (List.map E85 a)), (1, V.sl false 85 (List.map E85 b)), (5, V.sc (.int .i64 (p1.length : Int)))] [] []) (fun (y : Lo Unit Unit) => Lo.elim y (fun s => (X.out 0, st 27 [] [] [])) (fun s => (X.ret, st 27 [(4, V.sc (.bool false))] [] [])))) (laws_eqHoldS_l0 a b t1 p1)
  | [], p1, h2 => by
    unfold laws_eqHoldS_l0
    exact
     Pn.some (LpO.out [.wait 3, .nm 13 (V.sc (.int .i64 (a.length : Int))), .bit false, .mask [], .ren []] (p := [V.sc (.int .i64 ((List.map E85 a).length : Int)) = V.sc (.int .i64 (a.length : Int)),
      (decide ((p1.length : Int) < (a.length : Int))) = false]) (by kernel_rfl) (show X.out 0 ≠ X.go from nofun) (cj (len_nm _ _) (cj1 (rng_end h2))))
  | x1 :: t1, p1, h2 => by
    unfold laws_eqHoldS_l0
    exact
     Pn.bind (fun x2 h4 =>
     Pn.bind (fun r1 h5 =>
     Pn.ite (fun h6 =>
     LpO.go [.wait 3, .nm 13 (V.sc (.int .i64 (a.length : Int))), .bit true, .draw [], .el (E85 x1), .el (E85 x2), .call [] (E4 r1) [], .bit false, .wait 3, .mask [0, 1, 5], .ren [], .nm 5 (V.sc (.int .i64 ((p1 ++ [x1]).length : Int)))] (p := [V.sc (.int .i64 ((List.map E85 a).length : Int)) = V.sc (.int .i64 (a.length : Int)),
      (decide ((p1.length : Int) < (a.length : Int))) = true,
      (0 : Int) ≤ (p1.length : Int),
      (List.map E85 a)[(p1.length : Int).toNat]? = some (E85 x1),
      (0 : Int) ≤ (p1.length : Int),
      (List.map E85 b)[(p1.length : Int).toNat]? = some (E85 x2),
      Fn Tryz.prog 98 [(false, E85 x1), (false, E85 x2)] (E4 r1) [],
      (true || ((E4 r1).nv && nvL [])) = true,
      (!r1) = false,
      V.sc (.int .i64 (i64 ((p1.length : Int) + 1))) = V.sc (.int .i64 ((p1 ++ [x1]).length : Int))]) (by kernel_rfl) (cj (len_nm _ _) (cj (rng_lt h2) (cj (by omega) (cj (rng_get _ h2) (cj (by omega) (cj (map_get h4) (cj (laws_eqHold_ok x1 x2 r1 h5) (cj rfl (cj (nf h6) (cj1 (rng_next h2 h3))))))))))) (laws_eqHoldS_l0_ok a b h3 t1 (p1 ++ [x1]) (rng_step h2))) (fun h6 =>
     Pn.some (LpO.out [.wait 3, .nm 13 (V.sc (.int .i64 (a.length : Int))), .bit true, .draw [], .el (E85 x1), .el (E85 x2), .call [] (E4 r1) [], .bit true, .wait 1, .mask [4], .ren []] (p := [V.sc (.int .i64 ((List.map E85 a).length : Int)) = V.sc (.int .i64 (a.length : Int)),
      (decide ((p1.length : Int) < (a.length : Int))) = true,
      (0 : Int) ≤ (p1.length : Int),
      (List.map E85 a)[(p1.length : Int).toNat]? = some (E85 x1),
      (0 : Int) ≤ (p1.length : Int),
      (List.map E85 b)[(p1.length : Int).toNat]? = some (E85 x2),
      Fn Tryz.prog 98 [(false, E85 x1), (false, E85 x2)] (E4 r1) [],
      (true || ((E4 r1).nv && nvL [])) = true,
      (!r1) = true]) (by kernel_rfl) (show X.ret ≠ X.go from nofun) (cj (len_nm _ _) (cj (rng_lt h2) (cj (by omega) (cj (rng_get _ h2) (cj (by omega) (cj (map_get h4) (cj (laws_eqHold_ok x1 x2 r1 h5) (cj rfl (cj1 (nt h6))))))))))))))
def laws_eqHoldS (a : List Hold) (b : List Hold) : Option (Bool) :=
 if ((a.length : Int) != (b.length : Int)) = true then
 some false
 else
 if (capOk a.length) = true then
 (laws_eqHoldS_l0 a b a []).bind fun r2 =>
 Lo.elim r2 (fun s1 =>
 some true) (fun s2 =>
 some false)
 else none
theorem laws_eqHoldS_ok (a : List Hold) (b : List Hold) : Pn (fun y => Fn Tryz.prog 76 [(false, E37 a), (false, E37 b)] (E4 y) []) (laws_eqHoldS a b) := by
  unfold laws_eqHoldS
  exact
   Pn.ite (fun h1 =>
   Pn.some (Fn.of [.wait 3, .nm 7 (V.sc (.int .i64 (a.length : Int))), .wait 2, .nm 9 (V.sc (.int .i64 (b.length : Int))), .bit true] (p := [V.sc (.int .i64 ((List.map E85 a).length : Int)) = V.sc (.int .i64 (a.length : Int)),
    V.sc (.int .i64 ((List.map E85 b).length : Int)) = V.sc (.int .i64 (b.length : Int)),
    ((a.length : Int) != (b.length : Int)) = true]) (by kernel_rfl) (cj (len_nm _ _) (cj (len_nm _ _) (cj1 h1))))) (fun h1 =>
   Pn.ite (fun h7 =>
   Pn.bind (fun r2 h8 =>
   Pn.lo (fun s1 h9 =>
   Pn.some (Fn.of [.wait 3, .nm 7 (V.sc (.int .i64 (a.length : Int))), .wait 2, .nm 9 (V.sc (.int .i64 (b.length : Int))), .bit false, .wait 1, .mask [0, 1, 5], .ren [], .loop (X.out 0) (st 27 [] [] [])] (p := [V.sc (.int .i64 ((List.map E85 a).length : Int)) = V.sc (.int .i64 (a.length : Int)),
    V.sc (.int .i64 ((List.map E85 b).length : Int)) = V.sc (.int .i64 (b.length : Int)),
    ((a.length : Int) != (b.length : Int)) = false,
    Loop Tryz.prog (sub (codeOf Tryz.prog 76) [1, 1, 0, 1, 0, 0]) (st 27 [(0, V.sl false 85 (List.map E85 a)), (1, V.sl false 85 (List.map E85 b)), (5, V.sc (.int .i64 0))] [] []) (X.out 0) (st 27 [] [] [])]) (by kernel_rfl) (cj (len_nm _ _) (cj (len_nm _ _) (cj h1 (cj1 ((laws_eqHoldS_l0_ok a b h7 a [] rfl r2 h8).at h9))))))) (fun s2 h10 =>
   Pn.some (Fn.of [.wait 3, .nm 7 (V.sc (.int .i64 (a.length : Int))), .wait 2, .nm 9 (V.sc (.int .i64 (b.length : Int))), .bit false, .wait 1, .mask [0, 1, 5], .ren [], .loop (X.ret) (st 27 [(4, V.sc (.bool false))] [] [])] (p := [V.sc (.int .i64 ((List.map E85 a).length : Int)) = V.sc (.int .i64 (a.length : Int)),
    V.sc (.int .i64 ((List.map E85 b).length : Int)) = V.sc (.int .i64 (b.length : Int)),
    ((a.length : Int) != (b.length : Int)) = false,
    Loop Tryz.prog (sub (codeOf Tryz.prog 76) [1, 1, 0, 1, 0, 0]) (st 27 [(0, V.sl false 85 (List.map E85 a)), (1, V.sl false 85 (List.map E85 b)), (5, V.sc (.int .i64 0))] [] []) (X.ret) (st 27 [(4, V.sc (.bool false))] [] [])]) (by kernel_rfl) (cj (len_nm _ _) (cj (len_nm _ _) (cj h1 (cj1 ((laws_eqHoldS_l0_ok a b h7 a [] rfl r2 h8).at h10))))))))) (fun h7 =>
   Pn.none))
def laws_eqIntS_l0 (a : List Int) (b : List Int) : List Int → List Int → Option (Lo Unit Unit)
  | [], p1 =>
   some (.out ())
  | x1 :: t1, p1 =>
   (b[(p1.length : Int).toNat]?).bind fun x2 =>
   if (x1 != x2) = true then
   some (.ret ())
   else
   laws_eqIntS_l0 a b t1 (p1 ++ [x1])
theorem laws_eqIntS_l0_ok (a : List Int) (b : List Int) (h3 : capOk a.length = true) : ∀ (t1 p1 : List Int) (_ : a = p1 ++ t1) , Pn (LpO Tryz.prog (sub (codeOf Tryz.prog 99) [1, 1, 0, 1, 0, 0]) (st 26 [(0, V.sl false 3 (List.map E3 a)), (1, V.sl false 3 (List.map E3 b)), (5, V.sc (.int .i64 (p1.length : Int)))] [] []) (fun (y : Lo Unit Unit) => Lo.elim y (fun s => (X.out 0, st 26 [] [] [])) (fun s => (X.ret, st 26 [(4, V.sc (.bool false))] [] [])))) (laws_eqIntS_l0 a b t1 p1)
  | [], p1, h2 => by
    unfold laws_eqIntS_l0
    exact
     Pn.some (LpO.out [.wait 3, .nm 13 (V.sc (.int .i64 (a.length : Int))), .bit false, .mask [], .ren []] (p := [V.sc (.int .i64 ((List.map E3 a).length : Int)) = V.sc (.int .i64 (a.length : Int)),
      (decide ((p1.length : Int) < (a.length : Int))) = false]) (by kernel_rfl) (show X.out 0 ≠ X.go from nofun) (cj (len_nm _ _) (cj1 (rng_end h2))))
  | x1 :: t1, p1, h2 => by
    unfold laws_eqIntS_l0
    exact
     Pn.bind (fun x2 h4 =>
     Pn.ite (fun h5 =>
     Pn.some (LpO.out [.wait 3, .nm 13 (V.sc (.int .i64 (a.length : Int))), .bit true, .draw [], .el (E3 x1), .el (E3 x2), .bit true, .wait 1, .mask [4], .ren []] (p := [V.sc (.int .i64 ((List.map E3 a).length : Int)) = V.sc (.int .i64 (a.length : Int)),
      (decide ((p1.length : Int) < (a.length : Int))) = true,
      (0 : Int) ≤ (p1.length : Int),
      (List.map E3 a)[(p1.length : Int).toNat]? = some (E3 x1),
      (0 : Int) ≤ (p1.length : Int),
      (List.map E3 b)[(p1.length : Int).toNat]? = some (E3 x2),
      (x1 != x2) = true]) (by kernel_rfl) (show X.ret ≠ X.go from nofun) (cj (len_nm _ _) (cj (rng_lt h2) (cj (by omega) (cj (rng_get _ h2) (cj (by omega) (cj (map_get h4) (cj1 h5))))))))) (fun h5 =>
     LpO.go [.wait 3, .nm 13 (V.sc (.int .i64 (a.length : Int))), .bit true, .draw [], .el (E3 x1), .el (E3 x2), .bit false, .wait 3, .mask [0, 1, 5], .ren [], .nm 5 (V.sc (.int .i64 ((p1 ++ [x1]).length : Int)))] (p := [V.sc (.int .i64 ((List.map E3 a).length : Int)) = V.sc (.int .i64 (a.length : Int)),
      (decide ((p1.length : Int) < (a.length : Int))) = true,
      (0 : Int) ≤ (p1.length : Int),
      (List.map E3 a)[(p1.length : Int).toNat]? = some (E3 x1),
      (0 : Int) ≤ (p1.length : Int),
      (List.map E3 b)[(p1.length : Int).toNat]? = some (E3 x2),
      (x1 != x2) = false,
      V.sc (.int .i64 (i64 ((p1.length : Int) + 1))) = V.sc (.int .i64 ((p1 ++ [x1]).length : Int))]) (by kernel_rfl) (cj (len_nm _ _) (cj (rng_lt h2) (cj (by omega) (cj (rng_get _ h2) (cj (by omega) (cj (map_get h4) (cj h5 (cj1 (rng_next h2 h3))))))))) (laws_eqIntS_l0_ok a b h3 t1 (p1 ++ [x1]) (rng_step h2))))
def laws_eqIntS (a : List Int) (b : List Int) : Option (Bool) :=
 if ((a.length : Int) != (b.length : Int)) = true then
 some false
 else
 if (capOk a.length) = true then
 (laws_eqIntS_l0 a b a []).bind fun r1 =>
 Lo.elim r1 (fun s1 =>
 some true) (fun s2 =>
 some false)
 else none
theorem laws_eqIntS_ok (a : List Int) (b : List Int) : Pn (fun y => Fn Tryz.prog 99 [(false, E38 a), (false, E38 b)] (E4 y) []) (laws_eqIntS a b) := by
  unfold laws_eqIntS
  exact
   Pn.ite (fun h1 =>
   Pn.some (Fn.of [.wait 3, .nm 7 (V.sc (.int .i64 (a.length : Int))), .wait 2, .nm 9 (V.sc (.int .i64 (b.length : Int))), .bit true] (p := [V.sc (.int .i64 ((List.map E3 a).length : Int)) = V.sc (.int .i64 (a.length : Int)),
    V.sc (.int .i64 ((List.map E3 b).length : Int)) = V.sc (.int .i64 (b.length : Int)),
    ((a.length : Int) != (b.length : Int)) = true]) (by kernel_rfl) (cj (len_nm _ _) (cj (len_nm _ _) (cj1 h1))))) (fun h1 =>
   Pn.ite (fun h6 =>
   Pn.bind (fun r1 h7 =>
   Pn.lo (fun s1 h8 =>
   Pn.some (Fn.of [.wait 3, .nm 7 (V.sc (.int .i64 (a.length : Int))), .wait 2, .nm 9 (V.sc (.int .i64 (b.length : Int))), .bit false, .wait 1, .mask [0, 1, 5], .ren [], .loop (X.out 0) (st 26 [] [] [])] (p := [V.sc (.int .i64 ((List.map E3 a).length : Int)) = V.sc (.int .i64 (a.length : Int)),
    V.sc (.int .i64 ((List.map E3 b).length : Int)) = V.sc (.int .i64 (b.length : Int)),
    ((a.length : Int) != (b.length : Int)) = false,
    Loop Tryz.prog (sub (codeOf Tryz.prog 99) [1, 1, 0, 1, 0, 0]) (st 26 [(0, V.sl false 3 (List.map E3 a)), (1, V.sl false 3 (List.map E3 b)), (5, V.sc (.int .i64 0))] [] []) (X.out 0) (st 26 [] [] [])]) (by kernel_rfl) (cj (len_nm _ _) (cj (len_nm _ _) (cj h1 (cj1 ((laws_eqIntS_l0_ok a b h6 a [] rfl r1 h7).at h8))))))) (fun s2 h9 =>
   Pn.some (Fn.of [.wait 3, .nm 7 (V.sc (.int .i64 (a.length : Int))), .wait 2, .nm 9 (V.sc (.int .i64 (b.length : Int))), .bit false, .wait 1, .mask [0, 1, 5], .ren [], .loop (X.ret) (st 26 [(4, V.sc (.bool false))] [] [])] (p := [V.sc (.int .i64 ((List.map E3 a).length : Int)) = V.sc (.int .i64 (a.length : Int)),
    V.sc (.int .i64 ((List.map E3 b).length : Int)) = V.sc (.int .i64 (b.length : Int)),
    ((a.length : Int) != (b.length : Int)) = false,
    Loop Tryz.prog (sub (codeOf Tryz.prog 99) [1, 1, 0, 1, 0, 0]) (st 26 [(0, V.sl false 3 (List.map E3 a)), (1, V.sl false 3 (List.map E3 b)), (5, V.sc (.int .i64 0))] [] []) (X.ret) (st 26 [(4, V.sc (.bool false))] [] [])]) (by kernel_rfl) (cj (len_nm _ _) (cj (len_nm _ _) (cj h1 (cj1 ((laws_eqIntS_l0_ok a b h6 a [] rfl r1 h7).at h9))))))))) (fun h6 =>
   Pn.none))
def laws_eqRing (a : Ring) (b : Ring) : Option (Bool) :=
 if (a.Span != b.Span) = true then
 some false
 else
 if (a.Head != b.Head) = true then
 some false
 else
 (laws_eqIntS a.Counts b.Counts).bind fun r1 =>
 if r1 = true then
 (laws_eqIntS a.Sums b.Sums).bind fun r2 =>
 if r2 = true then
 some true
 else
 some false
 else
 some false
theorem laws_eqRing_ok (a : Ring) (b : Ring) : Pn (fun y => Fn Tryz.prog 77 [(false, E40 a), (false, E40 b)] (E4 y) []) (laws_eqRing a b) := by
  unfold laws_eqRing
  exact
   Pn.ite (fun h1 =>
   Pn.some (Fn.of [.bit true] (p := [(a.Span != b.Span) = true]) (by kernel_rfl) (cj1 h1))) (fun h1 =>
   Pn.ite (fun h2 =>
   Pn.some (Fn.of [.bit false, .bit true] (p := [(a.Span != b.Span) = false,
    (a.Head != b.Head) = true]) (by kernel_rfl) (cj h1 (cj1 h2)))) (fun h2 =>
   Pn.bind (fun r1 h3 =>
   Pn.ite (fun h4 =>
   Pn.bind (fun r2 h5 =>
   Pn.ite (fun h6 =>
   Pn.some (Fn.of [.bit false, .bit false, .call [] (E4 r1) [], .bit false, .call [] (E4 r2) [], .bit false] (p := [(a.Span != b.Span) = false,
    (a.Head != b.Head) = false,
    Fn Tryz.prog 99 [(false, E38 a.Counts), (false, E38 b.Counts)] (E4 r1) [],
    (true || ((E4 r1).nv && nvL [])) = true,
    (!r1) = false,
    Fn Tryz.prog 99 [(false, E38 a.Sums), (false, E38 b.Sums)] (E4 r2) [],
    (true || ((E4 r2).nv && nvL [])) = true,
    (!r2) = false]) (by kernel_rfl) (cj h1 (cj h2 (cj (laws_eqIntS_ok a.Counts b.Counts r1 h3) (cj rfl (cj (nf h4) (cj (laws_eqIntS_ok a.Sums b.Sums r2 h5) (cj rfl (cj1 (nf h6))))))))))) (fun h6 =>
   Pn.some (Fn.of [.bit false, .bit false, .call [] (E4 r1) [], .bit false, .call [] (E4 r2) [], .bit true] (p := [(a.Span != b.Span) = false,
    (a.Head != b.Head) = false,
    Fn Tryz.prog 99 [(false, E38 a.Counts), (false, E38 b.Counts)] (E4 r1) [],
    (true || ((E4 r1).nv && nvL [])) = true,
    (!r1) = false,
    Fn Tryz.prog 99 [(false, E38 a.Sums), (false, E38 b.Sums)] (E4 r2) [],
    (true || ((E4 r2).nv && nvL [])) = true,
    (!r2) = true]) (by kernel_rfl) (cj h1 (cj h2 (cj (laws_eqIntS_ok a.Counts b.Counts r1 h3) (cj rfl (cj (nf h4) (cj (laws_eqIntS_ok a.Sums b.Sums r2 h5) (cj rfl (cj1 (nt h6))))))))))))) (fun h4 =>
   Pn.some (Fn.of [.bit false, .bit false, .call [] (E4 r1) [], .bit true] (p := [(a.Span != b.Span) = false,
    (a.Head != b.Head) = false,
    Fn Tryz.prog 99 [(false, E38 a.Counts), (false, E38 b.Counts)] (E4 r1) [],
    (true || ((E4 r1).nv && nvL [])) = true,
    (!r1) = true]) (by kernel_rfl) (cj h1 (cj h2 (cj (laws_eqIntS_ok a.Counts b.Counts r1 h3) (cj rfl (cj1 (nt h4)))))))))))
def laws_eqByteS_l0 (a : List Int) (b : List Int) : List Int → List Int → Option (Lo Unit Unit)
  | [], p1 =>
   some (.out ())
  | x1 :: t1, p1 =>
   (b[(p1.length : Int).toNat]?).bind fun x2 =>
   if (x1 != x2) = true then
   some (.ret ())
   else
   laws_eqByteS_l0 a b t1 (p1 ++ [x1])
theorem laws_eqByteS_l0_ok (a : List Int) (b : List Int) (h3 : capOk a.length = true) : ∀ (t1 p1 : List Int) (_ : a = p1 ++ t1) , Pn (LpO Tryz.prog (sub (codeOf Tryz.prog 104) [1, 1, 0, 1, 0, 0]) (st 26 [(0, V.sl false 5 (List.map E5 a)), (1, V.sl false 5 (List.map E5 b)), (5, V.sc (.int .i64 (p1.length : Int)))] [] []) (fun (y : Lo Unit Unit) => Lo.elim y (fun s => (X.out 0, st 26 [] [] [])) (fun s => (X.ret, st 26 [(4, V.sc (.bool false))] [] [])))) (laws_eqByteS_l0 a b t1 p1)
  | [], p1, h2 => by
    unfold laws_eqByteS_l0
    exact
     Pn.some (LpO.out [.wait 3, .nm 13 (V.sc (.int .i64 (a.length : Int))), .bit false, .mask [], .ren []] (p := [V.sc (.int .i64 ((List.map E5 a).length : Int)) = V.sc (.int .i64 (a.length : Int)),
      (decide ((p1.length : Int) < (a.length : Int))) = false]) (by kernel_rfl) (show X.out 0 ≠ X.go from nofun) (cj (len_nm _ _) (cj1 (rng_end h2))))
  | x1 :: t1, p1, h2 => by
    unfold laws_eqByteS_l0
    exact
     Pn.bind (fun x2 h4 =>
     Pn.ite (fun h5 =>
     Pn.some (LpO.out [.wait 3, .nm 13 (V.sc (.int .i64 (a.length : Int))), .bit true, .draw [], .el (E5 x1), .el (E5 x2), .bit true, .wait 1, .mask [4], .ren []] (p := [V.sc (.int .i64 ((List.map E5 a).length : Int)) = V.sc (.int .i64 (a.length : Int)),
      (decide ((p1.length : Int) < (a.length : Int))) = true,
      (0 : Int) ≤ (p1.length : Int),
      (List.map E5 a)[(p1.length : Int).toNat]? = some (E5 x1),
      (0 : Int) ≤ (p1.length : Int),
      (List.map E5 b)[(p1.length : Int).toNat]? = some (E5 x2),
      (x1 != x2) = true]) (by kernel_rfl) (show X.ret ≠ X.go from nofun) (cj (len_nm _ _) (cj (rng_lt h2) (cj (by omega) (cj (rng_get _ h2) (cj (by omega) (cj (map_get h4) (cj1 h5))))))))) (fun h5 =>
     LpO.go [.wait 3, .nm 13 (V.sc (.int .i64 (a.length : Int))), .bit true, .draw [], .el (E5 x1), .el (E5 x2), .bit false, .wait 3, .mask [0, 1, 5], .ren [], .nm 5 (V.sc (.int .i64 ((p1 ++ [x1]).length : Int)))] (p := [V.sc (.int .i64 ((List.map E5 a).length : Int)) = V.sc (.int .i64 (a.length : Int)),
      (decide ((p1.length : Int) < (a.length : Int))) = true,
      (0 : Int) ≤ (p1.length : Int),
      (List.map E5 a)[(p1.length : Int).toNat]? = some (E5 x1),
      (0 : Int) ≤ (p1.length : Int),
      (List.map E5 b)[(p1.length : Int).toNat]? = some (E5 x2),
      (x1 != x2) = false,
      V.sc (.int .i64 (i64 ((p1.length : Int) + 1))) = V.sc (.int .i64 ((p1 ++ [x1]).length : Int))]) (by kernel_rfl) (cj (len_nm _ _) (cj (rng_lt h2) (cj (by omega) (cj (rng_get _ h2) (cj (by omega) (cj (map_get h4) (cj h5 (cj1 (rng_next h2 h3))))))))) (laws_eqByteS_l0_ok a b h3 t1 (p1 ++ [x1]) (rng_step h2))))
def laws_eqByteS (a : List Int) (b : List Int) : Option (Bool) :=
 if ((a.length : Int) != (b.length : Int)) = true then
 some false
 else
 if (capOk a.length) = true then
 (laws_eqByteS_l0 a b a []).bind fun r1 =>
 Lo.elim r1 (fun s1 =>
 some true) (fun s2 =>
 some false)
 else none
theorem laws_eqByteS_ok (a : List Int) (b : List Int) : Pn (fun y => Fn Tryz.prog 104 [(false, E87 a), (false, E87 b)] (E4 y) []) (laws_eqByteS a b) := by
  unfold laws_eqByteS
  exact
   Pn.ite (fun h1 =>
   Pn.some (Fn.of [.wait 3, .nm 7 (V.sc (.int .i64 (a.length : Int))), .wait 2, .nm 9 (V.sc (.int .i64 (b.length : Int))), .bit true] (p := [V.sc (.int .i64 ((List.map E5 a).length : Int)) = V.sc (.int .i64 (a.length : Int)),
    V.sc (.int .i64 ((List.map E5 b).length : Int)) = V.sc (.int .i64 (b.length : Int)),
    ((a.length : Int) != (b.length : Int)) = true]) (by kernel_rfl) (cj (len_nm _ _) (cj (len_nm _ _) (cj1 h1))))) (fun h1 =>
   Pn.ite (fun h6 =>
   Pn.bind (fun r1 h7 =>
   Pn.lo (fun s1 h8 =>
   Pn.some (Fn.of [.wait 3, .nm 7 (V.sc (.int .i64 (a.length : Int))), .wait 2, .nm 9 (V.sc (.int .i64 (b.length : Int))), .bit false, .wait 1, .mask [0, 1, 5], .ren [], .loop (X.out 0) (st 26 [] [] [])] (p := [V.sc (.int .i64 ((List.map E5 a).length : Int)) = V.sc (.int .i64 (a.length : Int)),
    V.sc (.int .i64 ((List.map E5 b).length : Int)) = V.sc (.int .i64 (b.length : Int)),
    ((a.length : Int) != (b.length : Int)) = false,
    Loop Tryz.prog (sub (codeOf Tryz.prog 104) [1, 1, 0, 1, 0, 0]) (st 26 [(0, V.sl false 5 (List.map E5 a)), (1, V.sl false 5 (List.map E5 b)), (5, V.sc (.int .i64 0))] [] []) (X.out 0) (st 26 [] [] [])]) (by kernel_rfl) (cj (len_nm _ _) (cj (len_nm _ _) (cj h1 (cj1 ((laws_eqByteS_l0_ok a b h6 a [] rfl r1 h7).at h8))))))) (fun s2 h9 =>
   Pn.some (Fn.of [.wait 3, .nm 7 (V.sc (.int .i64 (a.length : Int))), .wait 2, .nm 9 (V.sc (.int .i64 (b.length : Int))), .bit false, .wait 1, .mask [0, 1, 5], .ren [], .loop (X.ret) (st 26 [(4, V.sc (.bool false))] [] [])] (p := [V.sc (.int .i64 ((List.map E5 a).length : Int)) = V.sc (.int .i64 (a.length : Int)),
    V.sc (.int .i64 ((List.map E5 b).length : Int)) = V.sc (.int .i64 (b.length : Int)),
    ((a.length : Int) != (b.length : Int)) = false,
    Loop Tryz.prog (sub (codeOf Tryz.prog 104) [1, 1, 0, 1, 0, 0]) (st 26 [(0, V.sl false 5 (List.map E5 a)), (1, V.sl false 5 (List.map E5 b)), (5, V.sc (.int .i64 0))] [] []) (X.ret) (st 26 [(4, V.sc (.bool false))] [] [])]) (by kernel_rfl) (cj (len_nm _ _) (cj (len_nm _ _) (cj h1 (cj1 ((laws_eqByteS_l0_ok a b h6 a [] rfl r1 h7).at h9))))))))) (fun h6 =>
   Pn.none))
def laws_eqSlot (a : Slot) (b : Slot) : Option (Bool) :=
 if (a.Trace == b.Trace) = true then
 if (a.Mti == b.Mti) = true then
 (laws_eqByteS a.Reply b.Reply).bind fun r1 =>
 if r1 = true then
 some true
 else
 some false
 else
 some false
 else
 some false
theorem laws_eqSlot_ok (a : Slot) (b : Slot) : Pn (fun y => Fn Tryz.prog 100 [(false, E89 a), (false, E89 b)] (E4 y) []) (laws_eqSlot a b) := by
  unfold laws_eqSlot
  exact
   Pn.ite (fun h1 =>
   Pn.ite (fun h2 =>
   Pn.bind (fun r1 h3 =>
   Pn.ite (fun h4 =>
   Pn.some (Fn.of [.bit false, .bit false, .call [] (E4 r1) [], .bit false] (p := [(!(a.Trace == b.Trace)) = false,
    (!(a.Mti == b.Mti)) = false,
    Fn Tryz.prog 104 [(false, E87 a.Reply), (false, E87 b.Reply)] (E4 r1) [],
    (true || ((E4 r1).nv && nvL [])) = true,
    (!r1) = false]) (by kernel_rfl) (cj (nf h1) (cj (nf h2) (cj (laws_eqByteS_ok a.Reply b.Reply r1 h3) (cj rfl (cj1 (nf h4)))))))) (fun h4 =>
   Pn.some (Fn.of [.bit false, .bit false, .call [] (E4 r1) [], .bit true] (p := [(!(a.Trace == b.Trace)) = false,
    (!(a.Mti == b.Mti)) = false,
    Fn Tryz.prog 104 [(false, E87 a.Reply), (false, E87 b.Reply)] (E4 r1) [],
    (true || ((E4 r1).nv && nvL [])) = true,
    (!r1) = true]) (by kernel_rfl) (cj (nf h1) (cj (nf h2) (cj (laws_eqByteS_ok a.Reply b.Reply r1 h3) (cj rfl (cj1 (nt h4)))))))))) (fun h2 =>
   Pn.some (Fn.of [.bit false, .bit true] (p := [(!(a.Trace == b.Trace)) = false,
    (!(a.Mti == b.Mti)) = true]) (by kernel_rfl) (cj (nf h1) (cj1 (nt h2)))))) (fun h1 =>
   Pn.some (Fn.of [.bit true] (p := [(!(a.Trace == b.Trace)) = true]) (by kernel_rfl) (cj1 (nt h1))))
def laws_eqSlotS_l0 (a : List Slot) (b : List Slot) : List Slot → List Slot → Option (Lo Unit Unit)
  | [], p1 =>
   some (.out ())
  | x1 :: t1, p1 =>
   (b[(p1.length : Int).toNat]?).bind fun x2 =>
   (laws_eqSlot x1 x2).bind fun r1 =>
   if r1 = true then
   laws_eqSlotS_l0 a b t1 (p1 ++ [x1])
   else
   some (.ret ())
theorem laws_eqSlotS_l0_ok (a : List Slot) (b : List Slot) (h3 : capOk a.length = true) : ∀ (t1 p1 : List Slot) (_ : a = p1 ++ t1) , Pn (LpO Tryz.prog (sub (codeOf Tryz.prog 78) [1, 1, 0, 1, 0, 0]) (st 27 [(0, V.sl false 89 (List.map E89 a)), (1, V.sl false 89 (List.map E89 b)), (5, V.sc (.int .i64 (p1.length : Int)))] [] []) (fun (y : Lo Unit Unit) => Lo.elim y (fun s => (X.out 0, st 27 [] [] [])) (fun s => (X.ret, st 27 [(4, V.sc (.bool false))] [] [])))) (laws_eqSlotS_l0 a b t1 p1)
  | [], p1, h2 => by
    unfold laws_eqSlotS_l0
    exact
     Pn.some (LpO.out [.wait 3, .nm 13 (V.sc (.int .i64 (a.length : Int))), .bit false, .mask [], .ren []] (p := [V.sc (.int .i64 ((List.map E89 a).length : Int)) = V.sc (.int .i64 (a.length : Int)),
      (decide ((p1.length : Int) < (a.length : Int))) = false]) (by kernel_rfl) (show X.out 0 ≠ X.go from nofun) (cj (len_nm _ _) (cj1 (rng_end h2))))
  | x1 :: t1, p1, h2 => by
    unfold laws_eqSlotS_l0
    exact
     Pn.bind (fun x2 h4 =>
     Pn.bind (fun r1 h5 =>
     Pn.ite (fun h6 =>
     LpO.go [.wait 3, .nm 13 (V.sc (.int .i64 (a.length : Int))), .bit true, .draw [], .el (E89 x1), .el (E89 x2), .call [] (E4 r1) [], .bit false, .wait 3, .mask [0, 1, 5], .ren [], .nm 5 (V.sc (.int .i64 ((p1 ++ [x1]).length : Int)))] (p := [V.sc (.int .i64 ((List.map E89 a).length : Int)) = V.sc (.int .i64 (a.length : Int)),
      (decide ((p1.length : Int) < (a.length : Int))) = true,
      (0 : Int) ≤ (p1.length : Int),
      (List.map E89 a)[(p1.length : Int).toNat]? = some (E89 x1),
      (0 : Int) ≤ (p1.length : Int),
      (List.map E89 b)[(p1.length : Int).toNat]? = some (E89 x2),
      Fn Tryz.prog 100 [(false, E89 x1), (false, E89 x2)] (E4 r1) [],
      (true || ((E4 r1).nv && nvL [])) = true,
      (!r1) = false,
      V.sc (.int .i64 (i64 ((p1.length : Int) + 1))) = V.sc (.int .i64 ((p1 ++ [x1]).length : Int))]) (by kernel_rfl) (cj (len_nm _ _) (cj (rng_lt h2) (cj (by omega) (cj (rng_get _ h2) (cj (by omega) (cj (map_get h4) (cj (laws_eqSlot_ok x1 x2 r1 h5) (cj rfl (cj (nf h6) (cj1 (rng_next h2 h3))))))))))) (laws_eqSlotS_l0_ok a b h3 t1 (p1 ++ [x1]) (rng_step h2))) (fun h6 =>
     Pn.some (LpO.out [.wait 3, .nm 13 (V.sc (.int .i64 (a.length : Int))), .bit true, .draw [], .el (E89 x1), .el (E89 x2), .call [] (E4 r1) [], .bit true, .wait 1, .mask [4], .ren []] (p := [V.sc (.int .i64 ((List.map E89 a).length : Int)) = V.sc (.int .i64 (a.length : Int)),
      (decide ((p1.length : Int) < (a.length : Int))) = true,
      (0 : Int) ≤ (p1.length : Int),
      (List.map E89 a)[(p1.length : Int).toNat]? = some (E89 x1),
      (0 : Int) ≤ (p1.length : Int),
      (List.map E89 b)[(p1.length : Int).toNat]? = some (E89 x2),
      Fn Tryz.prog 100 [(false, E89 x1), (false, E89 x2)] (E4 r1) [],
      (true || ((E4 r1).nv && nvL [])) = true,
      (!r1) = true]) (by kernel_rfl) (show X.ret ≠ X.go from nofun) (cj (len_nm _ _) (cj (rng_lt h2) (cj (by omega) (cj (rng_get _ h2) (cj (by omega) (cj (map_get h4) (cj (laws_eqSlot_ok x1 x2 r1 h5) (cj rfl (cj1 (nt h6))))))))))))))
def laws_eqSlotS (a : List Slot) (b : List Slot) : Option (Bool) :=
 if ((a.length : Int) != (b.length : Int)) = true then
 some false
 else
 if (capOk a.length) = true then
 (laws_eqSlotS_l0 a b a []).bind fun r2 =>
 Lo.elim r2 (fun s1 =>
 some true) (fun s2 =>
 some false)
 else none
theorem laws_eqSlotS_ok (a : List Slot) (b : List Slot) : Pn (fun y => Fn Tryz.prog 78 [(false, E41 a), (false, E41 b)] (E4 y) []) (laws_eqSlotS a b) := by
  unfold laws_eqSlotS
  exact
   Pn.ite (fun h1 =>
   Pn.some (Fn.of [.wait 3, .nm 7 (V.sc (.int .i64 (a.length : Int))), .wait 2, .nm 9 (V.sc (.int .i64 (b.length : Int))), .bit true] (p := [V.sc (.int .i64 ((List.map E89 a).length : Int)) = V.sc (.int .i64 (a.length : Int)),
    V.sc (.int .i64 ((List.map E89 b).length : Int)) = V.sc (.int .i64 (b.length : Int)),
    ((a.length : Int) != (b.length : Int)) = true]) (by kernel_rfl) (cj (len_nm _ _) (cj (len_nm _ _) (cj1 h1))))) (fun h1 =>
   Pn.ite (fun h7 =>
   Pn.bind (fun r2 h8 =>
   Pn.lo (fun s1 h9 =>
   Pn.some (Fn.of [.wait 3, .nm 7 (V.sc (.int .i64 (a.length : Int))), .wait 2, .nm 9 (V.sc (.int .i64 (b.length : Int))), .bit false, .wait 1, .mask [0, 1, 5], .ren [], .loop (X.out 0) (st 27 [] [] [])] (p := [V.sc (.int .i64 ((List.map E89 a).length : Int)) = V.sc (.int .i64 (a.length : Int)),
    V.sc (.int .i64 ((List.map E89 b).length : Int)) = V.sc (.int .i64 (b.length : Int)),
    ((a.length : Int) != (b.length : Int)) = false,
    Loop Tryz.prog (sub (codeOf Tryz.prog 78) [1, 1, 0, 1, 0, 0]) (st 27 [(0, V.sl false 89 (List.map E89 a)), (1, V.sl false 89 (List.map E89 b)), (5, V.sc (.int .i64 0))] [] []) (X.out 0) (st 27 [] [] [])]) (by kernel_rfl) (cj (len_nm _ _) (cj (len_nm _ _) (cj h1 (cj1 ((laws_eqSlotS_l0_ok a b h7 a [] rfl r2 h8).at h9))))))) (fun s2 h10 =>
   Pn.some (Fn.of [.wait 3, .nm 7 (V.sc (.int .i64 (a.length : Int))), .wait 2, .nm 9 (V.sc (.int .i64 (b.length : Int))), .bit false, .wait 1, .mask [0, 1, 5], .ren [], .loop (X.ret) (st 27 [(4, V.sc (.bool false))] [] [])] (p := [V.sc (.int .i64 ((List.map E89 a).length : Int)) = V.sc (.int .i64 (a.length : Int)),
    V.sc (.int .i64 ((List.map E89 b).length : Int)) = V.sc (.int .i64 (b.length : Int)),
    ((a.length : Int) != (b.length : Int)) = false,
    Loop Tryz.prog (sub (codeOf Tryz.prog 78) [1, 1, 0, 1, 0, 0]) (st 27 [(0, V.sl false 89 (List.map E89 a)), (1, V.sl false 89 (List.map E89 b)), (5, V.sc (.int .i64 0))] [] []) (X.ret) (st 27 [(4, V.sc (.bool false))] [] [])]) (by kernel_rfl) (cj (len_nm _ _) (cj (len_nm _ _) (cj h1 (cj1 ((laws_eqSlotS_l0_ok a b h7 a [] rfl r2 h8).at h10))))))))) (fun h7 =>
   Pn.none))
def laws_eqAcct (a : Acct) (b : Acct) : Option (Bool) :=
 if (a.Id == b.Id) = true then
 if (a.Limit != b.Limit) = true then
 some false
 else
 if (a.Posted != b.Posted) = true then
 some false
 else
 if (a.Most != b.Most) = true then
 some false
 else
 if (a.MostSum != b.MostSum) = true then
 some false
 else
 (laws_eqHoldS a.Holds b.Holds).bind fun r1 =>
 if r1 = true then
 (laws_eqRing a.Ring b.Ring).bind fun r2 =>
 if r2 = true then
 (laws_eqSlotS a.Slots b.Slots).bind fun r3 =>
 if r3 = true then
 some true
 else
 some false
 else
 some false
 else
 some false
 else
 some false
theorem laws_eqAcct_ok (a : Acct) (b : Acct) : Pn (fun y => Fn Tryz.prog 52 [(false, E43 a), (false, E43 b)] (E4 y) []) (laws_eqAcct a b) := by
  unfold laws_eqAcct
  exact
   Pn.ite (fun h1 =>
   Pn.ite (fun h2 =>
   Pn.some (Fn.of [.bit false, .bit true] (p := [(!(a.Id == b.Id)) = false,
    (a.Limit != b.Limit) = true]) (by kernel_rfl) (cj (nf h1) (cj1 h2)))) (fun h2 =>
   Pn.ite (fun h3 =>
   Pn.some (Fn.of [.bit false, .bit false, .bit true] (p := [(!(a.Id == b.Id)) = false,
    (a.Limit != b.Limit) = false,
    (a.Posted != b.Posted) = true]) (by kernel_rfl) (cj (nf h1) (cj h2 (cj1 h3))))) (fun h3 =>
   Pn.ite (fun h4 =>
   Pn.some (Fn.of [.bit false, .bit false, .bit false, .bit true] (p := [(!(a.Id == b.Id)) = false,
    (a.Limit != b.Limit) = false,
    (a.Posted != b.Posted) = false,
    (a.Most != b.Most) = true]) (by kernel_rfl) (cj (nf h1) (cj h2 (cj h3 (cj1 h4)))))) (fun h4 =>
   Pn.ite (fun h5 =>
   Pn.some (Fn.of [.bit false, .bit false, .bit false, .bit false, .bit true] (p := [(!(a.Id == b.Id)) = false,
    (a.Limit != b.Limit) = false,
    (a.Posted != b.Posted) = false,
    (a.Most != b.Most) = false,
    (a.MostSum != b.MostSum) = true]) (by kernel_rfl) (cj (nf h1) (cj h2 (cj h3 (cj h4 (cj1 h5))))))) (fun h5 =>
   Pn.bind (fun r1 h6 =>
   Pn.ite (fun h7 =>
   Pn.bind (fun r2 h8 =>
   Pn.ite (fun h9 =>
   Pn.bind (fun r3 h10 =>
   Pn.ite (fun h11 =>
   Pn.some (Fn.of [.bit false, .bit false, .bit false, .bit false, .bit false, .call [] (E4 r1) [], .bit false, .call [] (E4 r2) [], .bit false, .call [] (E4 r3) [], .bit false] (p := [(!(a.Id == b.Id)) = false,
    (a.Limit != b.Limit) = false,
    (a.Posted != b.Posted) = false,
    (a.Most != b.Most) = false,
    (a.MostSum != b.MostSum) = false,
    Fn Tryz.prog 76 [(false, E37 a.Holds), (false, E37 b.Holds)] (E4 r1) [],
    (true || ((E4 r1).nv && nvL [])) = true,
    (!r1) = false,
    Fn Tryz.prog 77 [(false, E40 a.Ring), (false, E40 b.Ring)] (E4 r2) [],
    (true || ((E4 r2).nv && nvL [])) = true,
    (!r2) = false,
    Fn Tryz.prog 78 [(false, E41 a.Slots), (false, E41 b.Slots)] (E4 r3) [],
    (true || ((E4 r3).nv && nvL [])) = true,
    (!r3) = false]) (by kernel_rfl) (cj (nf h1) (cj h2 (cj h3 (cj h4 (cj h5 (cj (laws_eqHoldS_ok a.Holds b.Holds r1 h6) (cj rfl (cj (nf h7) (cj (laws_eqRing_ok a.Ring b.Ring r2 h8) (cj rfl (cj (nf h9) (cj (laws_eqSlotS_ok a.Slots b.Slots r3 h10) (cj rfl (cj1 (nf h11))))))))))))))))) (fun h11 =>
   Pn.some (Fn.of [.bit false, .bit false, .bit false, .bit false, .bit false, .call [] (E4 r1) [], .bit false, .call [] (E4 r2) [], .bit false, .call [] (E4 r3) [], .bit true] (p := [(!(a.Id == b.Id)) = false,
    (a.Limit != b.Limit) = false,
    (a.Posted != b.Posted) = false,
    (a.Most != b.Most) = false,
    (a.MostSum != b.MostSum) = false,
    Fn Tryz.prog 76 [(false, E37 a.Holds), (false, E37 b.Holds)] (E4 r1) [],
    (true || ((E4 r1).nv && nvL [])) = true,
    (!r1) = false,
    Fn Tryz.prog 77 [(false, E40 a.Ring), (false, E40 b.Ring)] (E4 r2) [],
    (true || ((E4 r2).nv && nvL [])) = true,
    (!r2) = false,
    Fn Tryz.prog 78 [(false, E41 a.Slots), (false, E41 b.Slots)] (E4 r3) [],
    (true || ((E4 r3).nv && nvL [])) = true,
    (!r3) = true]) (by kernel_rfl) (cj (nf h1) (cj h2 (cj h3 (cj h4 (cj h5 (cj (laws_eqHoldS_ok a.Holds b.Holds r1 h6) (cj rfl (cj (nf h7) (cj (laws_eqRing_ok a.Ring b.Ring r2 h8) (cj rfl (cj (nf h9) (cj (laws_eqSlotS_ok a.Slots b.Slots r3 h10) (cj rfl (cj1 (nt h11))))))))))))))))))) (fun h9 =>
   Pn.some (Fn.of [.bit false, .bit false, .bit false, .bit false, .bit false, .call [] (E4 r1) [], .bit false, .call [] (E4 r2) [], .bit true] (p := [(!(a.Id == b.Id)) = false,
    (a.Limit != b.Limit) = false,
    (a.Posted != b.Posted) = false,
    (a.Most != b.Most) = false,
    (a.MostSum != b.MostSum) = false,
    Fn Tryz.prog 76 [(false, E37 a.Holds), (false, E37 b.Holds)] (E4 r1) [],
    (true || ((E4 r1).nv && nvL [])) = true,
    (!r1) = false,
    Fn Tryz.prog 77 [(false, E40 a.Ring), (false, E40 b.Ring)] (E4 r2) [],
    (true || ((E4 r2).nv && nvL [])) = true,
    (!r2) = true]) (by kernel_rfl) (cj (nf h1) (cj h2 (cj h3 (cj h4 (cj h5 (cj (laws_eqHoldS_ok a.Holds b.Holds r1 h6) (cj rfl (cj (nf h7) (cj (laws_eqRing_ok a.Ring b.Ring r2 h8) (cj rfl (cj1 (nt h9)))))))))))))))) (fun h7 =>
   Pn.some (Fn.of [.bit false, .bit false, .bit false, .bit false, .bit false, .call [] (E4 r1) [], .bit true] (p := [(!(a.Id == b.Id)) = false,
    (a.Limit != b.Limit) = false,
    (a.Posted != b.Posted) = false,
    (a.Most != b.Most) = false,
    (a.MostSum != b.MostSum) = false,
    Fn Tryz.prog 76 [(false, E37 a.Holds), (false, E37 b.Holds)] (E4 r1) [],
    (true || ((E4 r1).nv && nvL [])) = true,
    (!r1) = true]) (by kernel_rfl) (cj (nf h1) (cj h2 (cj h3 (cj h4 (cj h5 (cj (laws_eqHoldS_ok a.Holds b.Holds r1 h6) (cj rfl (cj1 (nt h7))))))))))))))))) (fun h1 =>
   Pn.some (Fn.of [.bit true] (p := [(!(a.Id == b.Id)) = true]) (by kernel_rfl) (cj1 (nt h1))))
def laws_eqAcctS_l0 (a : List Acct) (b : List Acct) : List Acct → List Acct → Option (Lo Unit Unit)
  | [], p1 =>
   some (.out ())
  | x1 :: t1, p1 =>
   (b[(p1.length : Int).toNat]?).bind fun x2 =>
   (laws_eqAcct x1 x2).bind fun r1 =>
   if r1 = true then
   laws_eqAcctS_l0 a b t1 (p1 ++ [x1])
   else
   some (.ret ())
theorem laws_eqAcctS_l0_ok (a : List Acct) (b : List Acct) (h3 : capOk a.length = true) : ∀ (t1 p1 : List Acct) (_ : a = p1 ++ t1) , Pn (LpO Tryz.prog (sub (codeOf Tryz.prog 30) [1, 1, 0, 1, 0, 0]) (st 27 [(0, V.sl false 43 (List.map E43 a)), (1, V.sl false 43 (List.map E43 b)), (5, V.sc (.int .i64 (p1.length : Int)))] [] []) (fun (y : Lo Unit Unit) => Lo.elim y (fun s => (X.out 0, st 27 [] [] [])) (fun s => (X.ret, st 27 [(4, V.sc (.bool false))] [] [])))) (laws_eqAcctS_l0 a b t1 p1)
  | [], p1, h2 => by
    unfold laws_eqAcctS_l0
    exact
     Pn.some (LpO.out [.wait 3, .nm 13 (V.sc (.int .i64 (a.length : Int))), .bit false, .mask [], .ren []] (p := [V.sc (.int .i64 ((List.map E43 a).length : Int)) = V.sc (.int .i64 (a.length : Int)),
      (decide ((p1.length : Int) < (a.length : Int))) = false]) (by kernel_rfl) (show X.out 0 ≠ X.go from nofun) (cj (len_nm _ _) (cj1 (rng_end h2))))
  | x1 :: t1, p1, h2 => by
    unfold laws_eqAcctS_l0
    exact
     Pn.bind (fun x2 h4 =>
     Pn.bind (fun r1 h5 =>
     Pn.ite (fun h6 =>
     LpO.go [.wait 3, .nm 13 (V.sc (.int .i64 (a.length : Int))), .bit true, .draw [], .el (E43 x1), .el (E43 x2), .call [] (E4 r1) [], .bit false, .wait 3, .mask [0, 1, 5], .ren [], .nm 5 (V.sc (.int .i64 ((p1 ++ [x1]).length : Int)))] (p := [V.sc (.int .i64 ((List.map E43 a).length : Int)) = V.sc (.int .i64 (a.length : Int)),
      (decide ((p1.length : Int) < (a.length : Int))) = true,
      (0 : Int) ≤ (p1.length : Int),
      (List.map E43 a)[(p1.length : Int).toNat]? = some (E43 x1),
      (0 : Int) ≤ (p1.length : Int),
      (List.map E43 b)[(p1.length : Int).toNat]? = some (E43 x2),
      Fn Tryz.prog 52 [(false, E43 x1), (false, E43 x2)] (E4 r1) [],
      (true || ((E4 r1).nv && nvL [])) = true,
      (!r1) = false,
      V.sc (.int .i64 (i64 ((p1.length : Int) + 1))) = V.sc (.int .i64 ((p1 ++ [x1]).length : Int))]) (by kernel_rfl) (cj (len_nm _ _) (cj (rng_lt h2) (cj (by omega) (cj (rng_get _ h2) (cj (by omega) (cj (map_get h4) (cj (laws_eqAcct_ok x1 x2 r1 h5) (cj rfl (cj (nf h6) (cj1 (rng_next h2 h3))))))))))) (laws_eqAcctS_l0_ok a b h3 t1 (p1 ++ [x1]) (rng_step h2))) (fun h6 =>
     Pn.some (LpO.out [.wait 3, .nm 13 (V.sc (.int .i64 (a.length : Int))), .bit true, .draw [], .el (E43 x1), .el (E43 x2), .call [] (E4 r1) [], .bit true, .wait 1, .mask [4], .ren []] (p := [V.sc (.int .i64 ((List.map E43 a).length : Int)) = V.sc (.int .i64 (a.length : Int)),
      (decide ((p1.length : Int) < (a.length : Int))) = true,
      (0 : Int) ≤ (p1.length : Int),
      (List.map E43 a)[(p1.length : Int).toNat]? = some (E43 x1),
      (0 : Int) ≤ (p1.length : Int),
      (List.map E43 b)[(p1.length : Int).toNat]? = some (E43 x2),
      Fn Tryz.prog 52 [(false, E43 x1), (false, E43 x2)] (E4 r1) [],
      (true || ((E4 r1).nv && nvL [])) = true,
      (!r1) = true]) (by kernel_rfl) (show X.ret ≠ X.go from nofun) (cj (len_nm _ _) (cj (rng_lt h2) (cj (by omega) (cj (rng_get _ h2) (cj (by omega) (cj (map_get h4) (cj (laws_eqAcct_ok x1 x2 r1 h5) (cj rfl (cj1 (nt h6))))))))))))))
def laws_eqAcctS (a : List Acct) (b : List Acct) : Option (Bool) :=
 if ((a.length : Int) != (b.length : Int)) = true then
 some false
 else
 if (capOk a.length) = true then
 (laws_eqAcctS_l0 a b a []).bind fun r2 =>
 Lo.elim r2 (fun s1 =>
 some true) (fun s2 =>
 some false)
 else none
theorem laws_eqAcctS_ok (a : List Acct) (b : List Acct) : Pn (fun y => Fn Tryz.prog 30 [(false, E34 a), (false, E34 b)] (E4 y) []) (laws_eqAcctS a b) := by
  unfold laws_eqAcctS
  exact
   Pn.ite (fun h1 =>
   Pn.some (Fn.of [.wait 3, .nm 7 (V.sc (.int .i64 (a.length : Int))), .wait 2, .nm 9 (V.sc (.int .i64 (b.length : Int))), .bit true] (p := [V.sc (.int .i64 ((List.map E43 a).length : Int)) = V.sc (.int .i64 (a.length : Int)),
    V.sc (.int .i64 ((List.map E43 b).length : Int)) = V.sc (.int .i64 (b.length : Int)),
    ((a.length : Int) != (b.length : Int)) = true]) (by kernel_rfl) (cj (len_nm _ _) (cj (len_nm _ _) (cj1 h1))))) (fun h1 =>
   Pn.ite (fun h7 =>
   Pn.bind (fun r2 h8 =>
   Pn.lo (fun s1 h9 =>
   Pn.some (Fn.of [.wait 3, .nm 7 (V.sc (.int .i64 (a.length : Int))), .wait 2, .nm 9 (V.sc (.int .i64 (b.length : Int))), .bit false, .wait 1, .mask [0, 1, 5], .ren [], .loop (X.out 0) (st 27 [] [] [])] (p := [V.sc (.int .i64 ((List.map E43 a).length : Int)) = V.sc (.int .i64 (a.length : Int)),
    V.sc (.int .i64 ((List.map E43 b).length : Int)) = V.sc (.int .i64 (b.length : Int)),
    ((a.length : Int) != (b.length : Int)) = false,
    Loop Tryz.prog (sub (codeOf Tryz.prog 30) [1, 1, 0, 1, 0, 0]) (st 27 [(0, V.sl false 43 (List.map E43 a)), (1, V.sl false 43 (List.map E43 b)), (5, V.sc (.int .i64 0))] [] []) (X.out 0) (st 27 [] [] [])]) (by kernel_rfl) (cj (len_nm _ _) (cj (len_nm _ _) (cj h1 (cj1 ((laws_eqAcctS_l0_ok a b h7 a [] rfl r2 h8).at h9))))))) (fun s2 h10 =>
   Pn.some (Fn.of [.wait 3, .nm 7 (V.sc (.int .i64 (a.length : Int))), .wait 2, .nm 9 (V.sc (.int .i64 (b.length : Int))), .bit false, .wait 1, .mask [0, 1, 5], .ren [], .loop (X.ret) (st 27 [(4, V.sc (.bool false))] [] [])] (p := [V.sc (.int .i64 ((List.map E43 a).length : Int)) = V.sc (.int .i64 (a.length : Int)),
    V.sc (.int .i64 ((List.map E43 b).length : Int)) = V.sc (.int .i64 (b.length : Int)),
    ((a.length : Int) != (b.length : Int)) = false,
    Loop Tryz.prog (sub (codeOf Tryz.prog 30) [1, 1, 0, 1, 0, 0]) (st 27 [(0, V.sl false 43 (List.map E43 a)), (1, V.sl false 43 (List.map E43 b)), (5, V.sc (.int .i64 0))] [] []) (X.ret) (st 27 [(4, V.sc (.bool false))] [] [])]) (by kernel_rfl) (cj (len_nm _ _) (cj (len_nm _ _) (cj h1 (cj1 ((laws_eqAcctS_l0_ok a b h7 a [] rfl r2 h8).at h10))))))))) (fun h7 =>
   Pn.none))
def laws_eqStripe (a : Stripe) (b : Stripe) : Option (Bool) :=
 if (a.Owner != b.Owner) = true then
 some false
 else
 (laws_eqAcctS a.Accts b.Accts).bind fun r1 =>
 if r1 = true then
 some true
 else
 some false
theorem laws_eqStripe_ok (a : Stripe) (b : Stripe) : Pn (fun y => Fn Tryz.prog 19 [(false, E36 a), (false, E36 b)] (E4 y) []) (laws_eqStripe a b) := by
  unfold laws_eqStripe
  exact
   Pn.ite (fun h1 =>
   Pn.some (Fn.of [.bit true] (p := [(a.Owner != b.Owner) = true]) (by kernel_rfl) (cj1 h1))) (fun h1 =>
   Pn.bind (fun r1 h2 =>
   Pn.ite (fun h3 =>
   Pn.some (Fn.of [.bit false, .call [] (E4 r1) [], .bit false] (p := [(a.Owner != b.Owner) = false,
    Fn Tryz.prog 30 [(false, E34 a.Accts), (false, E34 b.Accts)] (E4 r1) [],
    (true || ((E4 r1).nv && nvL [])) = true,
    (!r1) = false]) (by kernel_rfl) (cj h1 (cj (laws_eqAcctS_ok a.Accts b.Accts r1 h2) (cj rfl (cj1 (nf h3))))))) (fun h3 =>
   Pn.some (Fn.of [.bit false, .call [] (E4 r1) [], .bit true] (p := [(a.Owner != b.Owner) = false,
    Fn Tryz.prog 30 [(false, E34 a.Accts), (false, E34 b.Accts)] (E4 r1) [],
    (true || ((E4 r1).nv && nvL [])) = true,
    (!r1) = true]) (by kernel_rfl) (cj h1 (cj (laws_eqAcctS_ok a.Accts b.Accts r1 h2) (cj rfl (cj1 (nt h3)))))))))
def laws_eqStripeS_l0 (a : List Stripe) (b : List Stripe) : List Stripe → List Stripe → Option (Lo Unit Unit)
  | [], p1 =>
   some (.out ())
  | x1 :: t1, p1 =>
   (b[(p1.length : Int).toNat]?).bind fun x2 =>
   (laws_eqStripe x1 x2).bind fun r1 =>
   if r1 = true then
   laws_eqStripeS_l0 a b t1 (p1 ++ [x1])
   else
   some (.ret ())
theorem laws_eqStripeS_l0_ok (a : List Stripe) (b : List Stripe) (h3 : capOk a.length = true) : ∀ (t1 p1 : List Stripe) (_ : a = p1 ++ t1) , Pn (LpO Tryz.prog (sub (codeOf Tryz.prog 8) [1, 1, 0, 1, 0, 0]) (st 27 [(0, V.sl false 36 (List.map E36 a)), (1, V.sl false 36 (List.map E36 b)), (5, V.sc (.int .i64 (p1.length : Int)))] [] []) (fun (y : Lo Unit Unit) => Lo.elim y (fun s => (X.out 0, st 27 [] [] [])) (fun s => (X.ret, st 27 [(4, V.sc (.bool false))] [] [])))) (laws_eqStripeS_l0 a b t1 p1)
  | [], p1, h2 => by
    unfold laws_eqStripeS_l0
    exact
     Pn.some (LpO.out [.wait 3, .nm 13 (V.sc (.int .i64 (a.length : Int))), .bit false, .mask [], .ren []] (p := [V.sc (.int .i64 ((List.map E36 a).length : Int)) = V.sc (.int .i64 (a.length : Int)),
      (decide ((p1.length : Int) < (a.length : Int))) = false]) (by kernel_rfl) (show X.out 0 ≠ X.go from nofun) (cj (len_nm _ _) (cj1 (rng_end h2))))
  | x1 :: t1, p1, h2 => by
    unfold laws_eqStripeS_l0
    exact
     Pn.bind (fun x2 h4 =>
     Pn.bind (fun r1 h5 =>
     Pn.ite (fun h6 =>
     LpO.go [.wait 3, .nm 13 (V.sc (.int .i64 (a.length : Int))), .bit true, .draw [], .el (E36 x1), .el (E36 x2), .call [] (E4 r1) [], .bit false, .wait 3, .mask [0, 1, 5], .ren [], .nm 5 (V.sc (.int .i64 ((p1 ++ [x1]).length : Int)))] (p := [V.sc (.int .i64 ((List.map E36 a).length : Int)) = V.sc (.int .i64 (a.length : Int)),
      (decide ((p1.length : Int) < (a.length : Int))) = true,
      (0 : Int) ≤ (p1.length : Int),
      (List.map E36 a)[(p1.length : Int).toNat]? = some (E36 x1),
      (0 : Int) ≤ (p1.length : Int),
      (List.map E36 b)[(p1.length : Int).toNat]? = some (E36 x2),
      Fn Tryz.prog 19 [(false, E36 x1), (false, E36 x2)] (E4 r1) [],
      (true || ((E4 r1).nv && nvL [])) = true,
      (!r1) = false,
      V.sc (.int .i64 (i64 ((p1.length : Int) + 1))) = V.sc (.int .i64 ((p1 ++ [x1]).length : Int))]) (by kernel_rfl) (cj (len_nm _ _) (cj (rng_lt h2) (cj (by omega) (cj (rng_get _ h2) (cj (by omega) (cj (map_get h4) (cj (laws_eqStripe_ok x1 x2 r1 h5) (cj rfl (cj (nf h6) (cj1 (rng_next h2 h3))))))))))) (laws_eqStripeS_l0_ok a b h3 t1 (p1 ++ [x1]) (rng_step h2))) (fun h6 =>
     Pn.some (LpO.out [.wait 3, .nm 13 (V.sc (.int .i64 (a.length : Int))), .bit true, .draw [], .el (E36 x1), .el (E36 x2), .call [] (E4 r1) [], .bit true, .wait 1, .mask [4], .ren []] (p := [V.sc (.int .i64 ((List.map E36 a).length : Int)) = V.sc (.int .i64 (a.length : Int)),
      (decide ((p1.length : Int) < (a.length : Int))) = true,
      (0 : Int) ≤ (p1.length : Int),
      (List.map E36 a)[(p1.length : Int).toNat]? = some (E36 x1),
      (0 : Int) ≤ (p1.length : Int),
      (List.map E36 b)[(p1.length : Int).toNat]? = some (E36 x2),
      Fn Tryz.prog 19 [(false, E36 x1), (false, E36 x2)] (E4 r1) [],
      (true || ((E4 r1).nv && nvL [])) = true,
      (!r1) = true]) (by kernel_rfl) (show X.ret ≠ X.go from nofun) (cj (len_nm _ _) (cj (rng_lt h2) (cj (by omega) (cj (rng_get _ h2) (cj (by omega) (cj (map_get h4) (cj (laws_eqStripe_ok x1 x2 r1 h5) (cj rfl (cj1 (nt h6))))))))))))))
def laws_eqStripeS (a : List Stripe) (b : List Stripe) : Option (Bool) :=
 if ((a.length : Int) != (b.length : Int)) = true then
 some false
 else
 if (capOk a.length) = true then
 (laws_eqStripeS_l0 a b a []).bind fun r2 =>
 Lo.elim r2 (fun s1 =>
 some true) (fun s2 =>
 some false)
 else none
theorem laws_eqStripeS_ok (a : List Stripe) (b : List Stripe) : Pn (fun y => Fn Tryz.prog 8 [(false, E25 a), (false, E25 b)] (E4 y) []) (laws_eqStripeS a b) := by
  unfold laws_eqStripeS
  exact
   Pn.ite (fun h1 =>
   Pn.some (Fn.of [.wait 3, .nm 7 (V.sc (.int .i64 (a.length : Int))), .wait 2, .nm 9 (V.sc (.int .i64 (b.length : Int))), .bit true] (p := [V.sc (.int .i64 ((List.map E36 a).length : Int)) = V.sc (.int .i64 (a.length : Int)),
    V.sc (.int .i64 ((List.map E36 b).length : Int)) = V.sc (.int .i64 (b.length : Int)),
    ((a.length : Int) != (b.length : Int)) = true]) (by kernel_rfl) (cj (len_nm _ _) (cj (len_nm _ _) (cj1 h1))))) (fun h1 =>
   Pn.ite (fun h7 =>
   Pn.bind (fun r2 h8 =>
   Pn.lo (fun s1 h9 =>
   Pn.some (Fn.of [.wait 3, .nm 7 (V.sc (.int .i64 (a.length : Int))), .wait 2, .nm 9 (V.sc (.int .i64 (b.length : Int))), .bit false, .wait 1, .mask [0, 1, 5], .ren [], .loop (X.out 0) (st 27 [] [] [])] (p := [V.sc (.int .i64 ((List.map E36 a).length : Int)) = V.sc (.int .i64 (a.length : Int)),
    V.sc (.int .i64 ((List.map E36 b).length : Int)) = V.sc (.int .i64 (b.length : Int)),
    ((a.length : Int) != (b.length : Int)) = false,
    Loop Tryz.prog (sub (codeOf Tryz.prog 8) [1, 1, 0, 1, 0, 0]) (st 27 [(0, V.sl false 36 (List.map E36 a)), (1, V.sl false 36 (List.map E36 b)), (5, V.sc (.int .i64 0))] [] []) (X.out 0) (st 27 [] [] [])]) (by kernel_rfl) (cj (len_nm _ _) (cj (len_nm _ _) (cj h1 (cj1 ((laws_eqStripeS_l0_ok a b h7 a [] rfl r2 h8).at h9))))))) (fun s2 h10 =>
   Pn.some (Fn.of [.wait 3, .nm 7 (V.sc (.int .i64 (a.length : Int))), .wait 2, .nm 9 (V.sc (.int .i64 (b.length : Int))), .bit false, .wait 1, .mask [0, 1, 5], .ren [], .loop (X.ret) (st 27 [(4, V.sc (.bool false))] [] [])] (p := [V.sc (.int .i64 ((List.map E36 a).length : Int)) = V.sc (.int .i64 (a.length : Int)),
    V.sc (.int .i64 ((List.map E36 b).length : Int)) = V.sc (.int .i64 (b.length : Int)),
    ((a.length : Int) != (b.length : Int)) = false,
    Loop Tryz.prog (sub (codeOf Tryz.prog 8) [1, 1, 0, 1, 0, 0]) (st 27 [(0, V.sl false 36 (List.map E36 a)), (1, V.sl false 36 (List.map E36 b)), (5, V.sc (.int .i64 0))] [] []) (X.ret) (st 27 [(4, V.sc (.bool false))] [] [])]) (by kernel_rfl) (cj (len_nm _ _) (cj (len_nm _ _) (cj h1 (cj1 ((laws_eqStripeS_l0_ok a b h7 a [] rfl r2 h8).at h10))))))))) (fun h7 =>
   Pn.none))
def laws_FnExactStripesOk (aL : List Stripe) : Option (Bool) :=
 (laws_szStripeS aL 1048576).bind fun r1 =>
 if (decide (r1 < 0)) = true then
 some true
 else
 (laws_toStripeS aL).bind fun r2 =>
 (spec_StripesOk r2).bind fun r3 =>
 (laws_toStripeS aL).bind fun r4 =>
 (impl_StripesOk r4).bind fun r5 =>
 if (r5 == r3) = true then
 (laws_toStripeS aL).bind fun r6 =>
 (laws_eqStripeS r4 r6).bind fun r7 =>
 if r7 = true then
 some true
 else
 some false
 else
 some false
theorem laws_FnExactStripesOk_ok (aL : List Stripe) : Pn (fun y => Fn Tryz.prog 3 [(false, E22 aL)] (E4 y) []) (laws_FnExactStripesOk aL) := by
  unfold laws_FnExactStripesOk
  exact
   Pn.bind (fun r1 h1 =>
   Pn.ite (fun h2 =>
   Pn.some (Fn.of [.call [] (E3 r1) [], .bit true] (p := [Fn Tryz.prog 4 [(false, E22 aL), (false, E3 1048576)] (E3 r1) [],
    (true || ((E3 r1).nv && nvL [])) = true,
    (decide (r1 < 0)) = true]) (by kernel_rfl) (cj (laws_szStripeS_ok aL 1048576 r1 h1) (cj rfl (cj1 h2))))) (fun h2 =>
   Pn.bind (fun r2 h3 =>
   Pn.bind (fun r3 h4 =>
   Pn.bind (fun r4 h5 =>
   Pn.bind (fun r5 h6 =>
   Pn.ite (fun h7 =>
   Pn.bind (fun r6 h8 =>
   Pn.bind (fun r7 h9 =>
   Pn.ite (fun h10 =>
   Pn.some (Fn.of [.call [] (E3 r1) [], .bit false, .call [] (E25 r2) [], .call [] (E4 r3) [], .call [] (E25 r4) [], .call [] (E4 r5) [], .bit false, .call [] (E25 r6) [], .call [] (E4 r7) [], .bit false] (p := [Fn Tryz.prog 4 [(false, E22 aL), (false, E3 1048576)] (E3 r1) [],
    (true || ((E3 r1).nv && nvL [])) = true,
    (decide (r1 < 0)) = false,
    Fn Tryz.prog 6 [(false, E22 aL)] (E25 r2) [],
    (true || ((E25 r2).nv && nvL [])) = true,
    Fn Tryz.prog 5 [(false, E25 r2)] (E4 r3) [],
    (false || ((E4 r3).nv && nvL [])) = true,
    Fn Tryz.prog 6 [(false, E22 aL)] (E25 r4) [],
    (true || ((E25 r4).nv && nvL [])) = true,
    Fn Tryz.prog 7 [(false, E25 r4)] (E4 r5) [],
    (false || ((E4 r5).nv && nvL [])) = true,
    (!(r5 == r3)) = false,
    Fn Tryz.prog 6 [(false, E22 aL)] (E25 r6) [],
    (true || ((E25 r6).nv && nvL [])) = true,
    Fn Tryz.prog 8 [(false, E25 r4), (false, E25 r6)] (E4 r7) [],
    (false || ((E4 r7).nv && nvL [])) = true,
    (!r7) = false]) (by kernel_rfl) (cj (laws_szStripeS_ok aL 1048576 r1 h1) (cj rfl (cj h2 (cj (laws_toStripeS_ok aL r2 h3) (cj rfl (cj (spec_StripesOk_ok r2 r3 h4) (cj (by simp [V.nv, nvL, nvL_all, nv_E4]) (cj (laws_toStripeS_ok aL r4 h5) (cj rfl (cj (impl_StripesOk_ok r4 r5 h6) (cj (by simp [V.nv, nvL, nvL_all, nv_E4]) (cj (nf h7) (cj (laws_toStripeS_ok aL r6 h8) (cj rfl (cj (laws_eqStripeS_ok r4 r6 r7 h9) (cj (by simp [V.nv, nvL, nvL_all, nv_E4]) (cj1 (nf h10)))))))))))))))))))) (fun h10 =>
   Pn.some (Fn.of [.call [] (E3 r1) [], .bit false, .call [] (E25 r2) [], .call [] (E4 r3) [], .call [] (E25 r4) [], .call [] (E4 r5) [], .bit false, .call [] (E25 r6) [], .call [] (E4 r7) [], .bit true] (p := [Fn Tryz.prog 4 [(false, E22 aL), (false, E3 1048576)] (E3 r1) [],
    (true || ((E3 r1).nv && nvL [])) = true,
    (decide (r1 < 0)) = false,
    Fn Tryz.prog 6 [(false, E22 aL)] (E25 r2) [],
    (true || ((E25 r2).nv && nvL [])) = true,
    Fn Tryz.prog 5 [(false, E25 r2)] (E4 r3) [],
    (false || ((E4 r3).nv && nvL [])) = true,
    Fn Tryz.prog 6 [(false, E22 aL)] (E25 r4) [],
    (true || ((E25 r4).nv && nvL [])) = true,
    Fn Tryz.prog 7 [(false, E25 r4)] (E4 r5) [],
    (false || ((E4 r5).nv && nvL [])) = true,
    (!(r5 == r3)) = false,
    Fn Tryz.prog 6 [(false, E22 aL)] (E25 r6) [],
    (true || ((E25 r6).nv && nvL [])) = true,
    Fn Tryz.prog 8 [(false, E25 r4), (false, E25 r6)] (E4 r7) [],
    (false || ((E4 r7).nv && nvL [])) = true,
    (!r7) = true]) (by kernel_rfl) (cj (laws_szStripeS_ok aL 1048576 r1 h1) (cj rfl (cj h2 (cj (laws_toStripeS_ok aL r2 h3) (cj rfl (cj (spec_StripesOk_ok r2 r3 h4) (cj (by simp [V.nv, nvL, nvL_all, nv_E4]) (cj (laws_toStripeS_ok aL r4 h5) (cj rfl (cj (impl_StripesOk_ok r4 r5 h6) (cj (by simp [V.nv, nvL, nvL_all, nv_E4]) (cj (nf h7) (cj (laws_toStripeS_ok aL r6 h8) (cj rfl (cj (laws_eqStripeS_ok r4 r6 r7 h9) (cj (by simp [V.nv, nvL, nvL_all, nv_E4]) (cj1 (nt h10))))))))))))))))))))))) (fun h7 =>
   Pn.some (Fn.of [.call [] (E3 r1) [], .bit false, .call [] (E25 r2) [], .call [] (E4 r3) [], .call [] (E25 r4) [], .call [] (E4 r5) [], .bit true] (p := [Fn Tryz.prog 4 [(false, E22 aL), (false, E3 1048576)] (E3 r1) [],
    (true || ((E3 r1).nv && nvL [])) = true,
    (decide (r1 < 0)) = false,
    Fn Tryz.prog 6 [(false, E22 aL)] (E25 r2) [],
    (true || ((E25 r2).nv && nvL [])) = true,
    Fn Tryz.prog 5 [(false, E25 r2)] (E4 r3) [],
    (false || ((E4 r3).nv && nvL [])) = true,
    Fn Tryz.prog 6 [(false, E22 aL)] (E25 r4) [],
    (true || ((E25 r4).nv && nvL [])) = true,
    Fn Tryz.prog 7 [(false, E25 r4)] (E4 r5) [],
    (false || ((E4 r5).nv && nvL [])) = true,
    (!(r5 == r3)) = true]) (by kernel_rfl) (cj (laws_szStripeS_ok aL 1048576 r1 h1) (cj rfl (cj h2 (cj (laws_toStripeS_ok aL r2 h3) (cj rfl (cj (spec_StripesOk_ok r2 r3 h4) (cj (by simp [V.nv, nvL, nvL_all, nv_E4]) (cj (laws_toStripeS_ok aL r4 h5) (cj rfl (cj (impl_StripesOk_ok r4 r5 h6) (cj (by simp [V.nv, nvL, nvL_all, nv_E4]) (cj1 (nt h7)))))))))))))))))))))
end Go.Proofs.YtdcejeemommkfaaGreatM
