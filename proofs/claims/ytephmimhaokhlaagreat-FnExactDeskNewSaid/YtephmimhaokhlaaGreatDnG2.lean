/- Printed by gen.py: functions on plain data, and that the program computes them. No condition. -/
import Derived.Test.YtephmimhaokhlaaGreatDnG1
namespace Go.Proofs.YtephmimhaokhlaaGreatM
set_option linter.unusedVariables false
set_option linter.unusedSimpArgs false
open Go.RowKit
set_option maxRecDepth 100000

def laws_heldTaskS_l0 (o : List Task) : List Task → Int → Option (Lo Int Unit)
  | [], v1 =>
   some (.out v1)
  | x1 :: t1, v1 =>
   (laws_heldByteS x1.Data v1).bind fun r1 =>
   if (decide (r1 < 0)) = true then
    some (.ret ())
   else
    if (x1.Pc != r1) = true then
     some (.ret ())
    else
     (laws_heldIntS x1.Set (i64 (r1 + 1))).bind fun r2 =>
     if (decide (r2 < 0)) = true then
      some (.ret ())
     else
      if (x1.Held != r2) = true then
       some (.ret ())
      else
       if (x1.Inv != (i64 (r2 + 1))) = true then
        some (.ret ())
       else
        if (x1.Lin != (i64 ((i64 (r2 + 1)) + 1))) = true then
         some (.ret ())
        else
         if (x1.Res != (i64 ((i64 ((i64 (r2 + 1)) + 1)) + 1))) = true then
          some (.ret ())
         else
          if (x1.At != (i64 ((i64 ((i64 ((i64 (r2 + 1)) + 1)) + 1)) + 1))) = true then
           some (.ret ())
          else
           (laws_heldByteS x1.Reply (i64 ((i64 ((i64 ((i64 ((i64 (r2 + 1)) + 1)) + 1)) + 1)) + 1))).bind fun r3 =>
           if (decide (r3 < 0)) = true then
            some (.ret ())
           else
            laws_heldTaskS_l0 o t1 r3
theorem laws_heldTaskS_l0_ok (o : List Task) (h2 : capOk o.length = true) : ∀ (t1 p1 : List Task) (_ : o = p1 ++ t1) (v1 : Int), Pn (LpO Tryz.prog (sub (codeOf Tryz.prog 134) [1, 0, 1, 0, 0]) (st 94 [(0, V.sl false 163 (List.map E163 o)), (1, V.sc (.int .i64 v1)), (5, V.sc (.int .i64 (p1.length : Int)))] [] []) (fun (y : Lo Int Unit) => Lo.elim y (fun s => (X.out 0, st 94 [(1, V.sc (.int .i64 s))] [] [])) (fun s => (X.ret, st 94 [(4, V.sc (.int .i64 (-1)))] [] [])))) (laws_heldTaskS_l0 o t1 v1)
  | [], p1, h1, v1 => by
    unfold laws_heldTaskS_l0
    exact
     Pn.some (LpO.out [.wait 3, .nm 8 (V.sc (.int .i64 (o.length : Int))), .bit false, .mask [1], .ren []] (p := [V.sc (.int .i64 ((List.map E163 o).length : Int)) = V.sc (.int .i64 (o.length : Int)),
      (decide ((p1.length : Int) < (o.length : Int))) = false]) (by kernel_rfl) (show X.out 0 ≠ X.go from nofun) (cj (len_nm _ _) (cj1 (rng_end h1))))
  | x1 :: t1, p1, h1, v1 => by
    unfold laws_heldTaskS_l0
    exact
     Pn.bind (fun r1 h3 =>
      Pn.ite (fun h4 =>
       Pn.some (LpO.out [.wait 3, .nm 8 (V.sc (.int .i64 (o.length : Int))), .bit true, .el (E163 x1), .call [] (E3 r1) [], .bit true, .wait 1, .mask [4], .ren []] (p := [V.sc (.int .i64 ((List.map E163 o).length : Int)) = V.sc (.int .i64 (o.length : Int)),
        (decide ((p1.length : Int) < (o.length : Int))) = true,
        (0 : Int) ≤ (p1.length : Int),
        (List.map E163 o)[(p1.length : Int).toNat]? = some (E163 x1),
        Fn Tryz.prog 139 [(false, E118 x1.Data), (false, E3 v1)] (E3 r1) [],
        (true || ((E3 r1).nv && nvL [])) = true,
        (decide (r1 < 0)) = true]) (by kernel_rfl) (show X.ret ≠ X.go from nofun) (cj (len_nm _ _) (cj (rng_lt h1) (cj (by omega) (cj (rng_get _ h1) (cj (laws_heldByteS_ok x1.Data v1 r1 h3) (cj rfl (cj1 h4))))))))) (fun h4 =>
       Pn.ite (fun h5 =>
        Pn.some (LpO.out [.wait 3, .nm 8 (V.sc (.int .i64 (o.length : Int))), .bit true, .el (E163 x1), .call [] (E3 r1) [], .bit false, .el (E163 x1), .bit true, .wait 1, .mask [4], .ren []] (p := [V.sc (.int .i64 ((List.map E163 o).length : Int)) = V.sc (.int .i64 (o.length : Int)),
         (decide ((p1.length : Int) < (o.length : Int))) = true,
         (0 : Int) ≤ (p1.length : Int),
         (List.map E163 o)[(p1.length : Int).toNat]? = some (E163 x1),
         Fn Tryz.prog 139 [(false, E118 x1.Data), (false, E3 v1)] (E3 r1) [],
         (true || ((E3 r1).nv && nvL [])) = true,
         (decide (r1 < 0)) = false,
         (0 : Int) ≤ (p1.length : Int),
         (List.map E163 o)[(p1.length : Int).toNat]? = some (E163 x1),
         (x1.Pc != r1) = true]) (by kernel_rfl) (show X.ret ≠ X.go from nofun) (cj (len_nm _ _) (cj (rng_lt h1) (cj (by omega) (cj (rng_get _ h1) (cj (laws_heldByteS_ok x1.Data v1 r1 h3) (cj rfl (cj h4 (cj (by omega) (cj (rng_get _ h1) (cj1 h5)))))))))))) (fun h5 =>
        Pn.bind (fun r2 h6 =>
         Pn.ite (fun h7 =>
          Pn.some (LpO.out [.wait 3, .nm 8 (V.sc (.int .i64 (o.length : Int))), .bit true, .el (E163 x1), .call [] (E3 r1) [], .bit false, .el (E163 x1), .bit false, .el (E163 x1), .call [] (E3 r2) [], .bit true, .wait 1, .mask [4], .ren []] (p := [V.sc (.int .i64 ((List.map E163 o).length : Int)) = V.sc (.int .i64 (o.length : Int)),
           (decide ((p1.length : Int) < (o.length : Int))) = true,
           (0 : Int) ≤ (p1.length : Int),
           (List.map E163 o)[(p1.length : Int).toNat]? = some (E163 x1),
           Fn Tryz.prog 139 [(false, E118 x1.Data), (false, E3 v1)] (E3 r1) [],
           (true || ((E3 r1).nv && nvL [])) = true,
           (decide (r1 < 0)) = false,
           (0 : Int) ≤ (p1.length : Int),
           (List.map E163 o)[(p1.length : Int).toNat]? = some (E163 x1),
           (x1.Pc != r1) = false,
           (0 : Int) ≤ (p1.length : Int),
           (List.map E163 o)[(p1.length : Int).toNat]? = some (E163 x1),
           Fn Tryz.prog 93 [(false, E35 x1.Set), (false, E3 (i64 (r1 + 1)))] (E3 r2) [],
           (true || ((E3 r2).nv && nvL [])) = true,
           (decide (r2 < 0)) = true]) (by kernel_rfl) (show X.ret ≠ X.go from nofun) (cj (len_nm _ _) (cj (rng_lt h1) (cj (by omega) (cj (rng_get _ h1) (cj (laws_heldByteS_ok x1.Data v1 r1 h3) (cj rfl (cj h4 (cj (by omega) (cj (rng_get _ h1) (cj h5 (cj (by omega) (cj (rng_get _ h1) (cj (laws_heldIntS_ok x1.Set (i64 (r1 + 1)) r2 h6) (cj rfl (cj1 h7))))))))))))))))) (fun h7 =>
          Pn.ite (fun h8 =>
           Pn.some (LpO.out [.wait 3, .nm 8 (V.sc (.int .i64 (o.length : Int))), .bit true, .el (E163 x1), .call [] (E3 r1) [], .bit false, .el (E163 x1), .bit false, .el (E163 x1), .call [] (E3 r2) [], .bit false, .el (E163 x1), .bit true, .wait 1, .mask [4], .ren []] (p := [V.sc (.int .i64 ((List.map E163 o).length : Int)) = V.sc (.int .i64 (o.length : Int)),
            (decide ((p1.length : Int) < (o.length : Int))) = true,
            (0 : Int) ≤ (p1.length : Int),
            (List.map E163 o)[(p1.length : Int).toNat]? = some (E163 x1),
            Fn Tryz.prog 139 [(false, E118 x1.Data), (false, E3 v1)] (E3 r1) [],
            (true || ((E3 r1).nv && nvL [])) = true,
            (decide (r1 < 0)) = false,
            (0 : Int) ≤ (p1.length : Int),
            (List.map E163 o)[(p1.length : Int).toNat]? = some (E163 x1),
            (x1.Pc != r1) = false,
            (0 : Int) ≤ (p1.length : Int),
            (List.map E163 o)[(p1.length : Int).toNat]? = some (E163 x1),
            Fn Tryz.prog 93 [(false, E35 x1.Set), (false, E3 (i64 (r1 + 1)))] (E3 r2) [],
            (true || ((E3 r2).nv && nvL [])) = true,
            (decide (r2 < 0)) = false,
            (0 : Int) ≤ (p1.length : Int),
            (List.map E163 o)[(p1.length : Int).toNat]? = some (E163 x1),
            (x1.Held != r2) = true]) (by kernel_rfl) (show X.ret ≠ X.go from nofun) (cj (len_nm _ _) (cj (rng_lt h1) (cj (by omega) (cj (rng_get _ h1) (cj (laws_heldByteS_ok x1.Data v1 r1 h3) (cj rfl (cj h4 (cj (by omega) (cj (rng_get _ h1) (cj h5 (cj (by omega) (cj (rng_get _ h1) (cj (laws_heldIntS_ok x1.Set (i64 (r1 + 1)) r2 h6) (cj rfl (cj h7 (cj (by omega) (cj (rng_get _ h1) (cj1 h8)))))))))))))))))))) (fun h8 =>
           Pn.ite (fun h9 =>
            Pn.some (LpO.out [.wait 3, .nm 8 (V.sc (.int .i64 (o.length : Int))), .bit true, .el (E163 x1), .call [] (E3 r1) [], .bit false, .el (E163 x1), .bit false, .el (E163 x1), .call [] (E3 r2) [], .bit false, .el (E163 x1), .bit false, .el (E163 x1), .bit true, .wait 1, .mask [4], .ren []] (p := [V.sc (.int .i64 ((List.map E163 o).length : Int)) = V.sc (.int .i64 (o.length : Int)),
             (decide ((p1.length : Int) < (o.length : Int))) = true,
             (0 : Int) ≤ (p1.length : Int),
             (List.map E163 o)[(p1.length : Int).toNat]? = some (E163 x1),
             Fn Tryz.prog 139 [(false, E118 x1.Data), (false, E3 v1)] (E3 r1) [],
             (true || ((E3 r1).nv && nvL [])) = true,
             (decide (r1 < 0)) = false,
             (0 : Int) ≤ (p1.length : Int),
             (List.map E163 o)[(p1.length : Int).toNat]? = some (E163 x1),
             (x1.Pc != r1) = false,
             (0 : Int) ≤ (p1.length : Int),
             (List.map E163 o)[(p1.length : Int).toNat]? = some (E163 x1),
             Fn Tryz.prog 93 [(false, E35 x1.Set), (false, E3 (i64 (r1 + 1)))] (E3 r2) [],
             (true || ((E3 r2).nv && nvL [])) = true,
             (decide (r2 < 0)) = false,
             (0 : Int) ≤ (p1.length : Int),
             (List.map E163 o)[(p1.length : Int).toNat]? = some (E163 x1),
             (x1.Held != r2) = false,
             (0 : Int) ≤ (p1.length : Int),
             (List.map E163 o)[(p1.length : Int).toNat]? = some (E163 x1),
             (x1.Inv != (i64 (r2 + 1))) = true]) (by kernel_rfl) (show X.ret ≠ X.go from nofun) (cj (len_nm _ _) (cj (rng_lt h1) (cj (by omega) (cj (rng_get _ h1) (cj (laws_heldByteS_ok x1.Data v1 r1 h3) (cj rfl (cj h4 (cj (by omega) (cj (rng_get _ h1) (cj h5 (cj (by omega) (cj (rng_get _ h1) (cj (laws_heldIntS_ok x1.Set (i64 (r1 + 1)) r2 h6) (cj rfl (cj h7 (cj (by omega) (cj (rng_get _ h1) (cj h8 (cj (by omega) (cj (rng_get _ h1) (cj1 h9))))))))))))))))))))))) (fun h9 =>
            Pn.ite (fun h10 =>
             Pn.some (LpO.out [.wait 3, .nm 8 (V.sc (.int .i64 (o.length : Int))), .bit true, .el (E163 x1), .call [] (E3 r1) [], .bit false, .el (E163 x1), .bit false, .el (E163 x1), .call [] (E3 r2) [], .bit false, .el (E163 x1), .bit false, .el (E163 x1), .bit false, .el (E163 x1), .bit true, .wait 1, .mask [4], .ren []] (p := [V.sc (.int .i64 ((List.map E163 o).length : Int)) = V.sc (.int .i64 (o.length : Int)),
              (decide ((p1.length : Int) < (o.length : Int))) = true,
              (0 : Int) ≤ (p1.length : Int),
              (List.map E163 o)[(p1.length : Int).toNat]? = some (E163 x1),
              Fn Tryz.prog 139 [(false, E118 x1.Data), (false, E3 v1)] (E3 r1) [],
              (true || ((E3 r1).nv && nvL [])) = true,
              (decide (r1 < 0)) = false,
              (0 : Int) ≤ (p1.length : Int),
              (List.map E163 o)[(p1.length : Int).toNat]? = some (E163 x1),
              (x1.Pc != r1) = false,
              (0 : Int) ≤ (p1.length : Int),
              (List.map E163 o)[(p1.length : Int).toNat]? = some (E163 x1),
              Fn Tryz.prog 93 [(false, E35 x1.Set), (false, E3 (i64 (r1 + 1)))] (E3 r2) [],
              (true || ((E3 r2).nv && nvL [])) = true,
              (decide (r2 < 0)) = false,
              (0 : Int) ≤ (p1.length : Int),
              (List.map E163 o)[(p1.length : Int).toNat]? = some (E163 x1),
              (x1.Held != r2) = false,
              (0 : Int) ≤ (p1.length : Int),
              (List.map E163 o)[(p1.length : Int).toNat]? = some (E163 x1),
              (x1.Inv != (i64 (r2 + 1))) = false,
              (0 : Int) ≤ (p1.length : Int),
              (List.map E163 o)[(p1.length : Int).toNat]? = some (E163 x1),
              (x1.Lin != (i64 ((i64 (r2 + 1)) + 1))) = true]) (by kernel_rfl) (show X.ret ≠ X.go from nofun) (cj (len_nm _ _) (cj (rng_lt h1) (cj (by omega) (cj (rng_get _ h1) (cj (laws_heldByteS_ok x1.Data v1 r1 h3) (cj rfl (cj h4 (cj (by omega) (cj (rng_get _ h1) (cj h5 (cj (by omega) (cj (rng_get _ h1) (cj (laws_heldIntS_ok x1.Set (i64 (r1 + 1)) r2 h6) (cj rfl (cj h7 (cj (by omega) (cj (rng_get _ h1) (cj h8 (cj (by omega) (cj (rng_get _ h1) (cj h9 (cj (by omega) (cj (rng_get _ h1) (cj1 h10)))))))))))))))))))))))))) (fun h10 =>
             Pn.ite (fun h11 =>
              Pn.some (LpO.out [.wait 3, .nm 8 (V.sc (.int .i64 (o.length : Int))), .bit true, .el (E163 x1), .call [] (E3 r1) [], .bit false, .el (E163 x1), .bit false, .el (E163 x1), .call [] (E3 r2) [], .bit false, .el (E163 x1), .bit false, .el (E163 x1), .bit false, .el (E163 x1), .bit false, .el (E163 x1), .bit true, .wait 1, .mask [4], .ren []] (p := [V.sc (.int .i64 ((List.map E163 o).length : Int)) = V.sc (.int .i64 (o.length : Int)),
               (decide ((p1.length : Int) < (o.length : Int))) = true,
               (0 : Int) ≤ (p1.length : Int),
               (List.map E163 o)[(p1.length : Int).toNat]? = some (E163 x1),
               Fn Tryz.prog 139 [(false, E118 x1.Data), (false, E3 v1)] (E3 r1) [],
               (true || ((E3 r1).nv && nvL [])) = true,
               (decide (r1 < 0)) = false,
               (0 : Int) ≤ (p1.length : Int),
               (List.map E163 o)[(p1.length : Int).toNat]? = some (E163 x1),
               (x1.Pc != r1) = false,
               (0 : Int) ≤ (p1.length : Int),
               (List.map E163 o)[(p1.length : Int).toNat]? = some (E163 x1),
               Fn Tryz.prog 93 [(false, E35 x1.Set), (false, E3 (i64 (r1 + 1)))] (E3 r2) [],
               (true || ((E3 r2).nv && nvL [])) = true,
               (decide (r2 < 0)) = false,
               (0 : Int) ≤ (p1.length : Int),
               (List.map E163 o)[(p1.length : Int).toNat]? = some (E163 x1),
               (x1.Held != r2) = false,
               (0 : Int) ≤ (p1.length : Int),
               (List.map E163 o)[(p1.length : Int).toNat]? = some (E163 x1),
               (x1.Inv != (i64 (r2 + 1))) = false,
               (0 : Int) ≤ (p1.length : Int),
               (List.map E163 o)[(p1.length : Int).toNat]? = some (E163 x1),
               (x1.Lin != (i64 ((i64 (r2 + 1)) + 1))) = false,
               (0 : Int) ≤ (p1.length : Int),
               (List.map E163 o)[(p1.length : Int).toNat]? = some (E163 x1),
               (x1.Res != (i64 ((i64 ((i64 (r2 + 1)) + 1)) + 1))) = true]) (by kernel_rfl) (show X.ret ≠ X.go from nofun) (cj (len_nm _ _) (cj (rng_lt h1) (cj (by omega) (cj (rng_get _ h1) (cj (laws_heldByteS_ok x1.Data v1 r1 h3) (cj rfl (cj h4 (cj (by omega) (cj (rng_get _ h1) (cj h5 (cj (by omega) (cj (rng_get _ h1) (cj (laws_heldIntS_ok x1.Set (i64 (r1 + 1)) r2 h6) (cj rfl (cj h7 (cj (by omega) (cj (rng_get _ h1) (cj h8 (cj (by omega) (cj (rng_get _ h1) (cj h9 (cj (by omega) (cj (rng_get _ h1) (cj h10 (cj (by omega) (cj (rng_get _ h1) (cj1 h11))))))))))))))))))))))))))))) (fun h11 =>
              Pn.ite (fun h12 =>
               Pn.some (LpO.out [.wait 3, .nm 8 (V.sc (.int .i64 (o.length : Int))), .bit true, .el (E163 x1), .call [] (E3 r1) [], .bit false, .el (E163 x1), .bit false, .el (E163 x1), .call [] (E3 r2) [], .bit false, .el (E163 x1), .bit false, .el (E163 x1), .bit false, .el (E163 x1), .bit false, .el (E163 x1), .bit false, .el (E163 x1), .bit true, .wait 1, .mask [4], .ren []] (p := [V.sc (.int .i64 ((List.map E163 o).length : Int)) = V.sc (.int .i64 (o.length : Int)),
                (decide ((p1.length : Int) < (o.length : Int))) = true,
                (0 : Int) ≤ (p1.length : Int),
                (List.map E163 o)[(p1.length : Int).toNat]? = some (E163 x1),
                Fn Tryz.prog 139 [(false, E118 x1.Data), (false, E3 v1)] (E3 r1) [],
                (true || ((E3 r1).nv && nvL [])) = true,
                (decide (r1 < 0)) = false,
                (0 : Int) ≤ (p1.length : Int),
                (List.map E163 o)[(p1.length : Int).toNat]? = some (E163 x1),
                (x1.Pc != r1) = false,
                (0 : Int) ≤ (p1.length : Int),
                (List.map E163 o)[(p1.length : Int).toNat]? = some (E163 x1),
                Fn Tryz.prog 93 [(false, E35 x1.Set), (false, E3 (i64 (r1 + 1)))] (E3 r2) [],
                (true || ((E3 r2).nv && nvL [])) = true,
                (decide (r2 < 0)) = false,
                (0 : Int) ≤ (p1.length : Int),
                (List.map E163 o)[(p1.length : Int).toNat]? = some (E163 x1),
                (x1.Held != r2) = false,
                (0 : Int) ≤ (p1.length : Int),
                (List.map E163 o)[(p1.length : Int).toNat]? = some (E163 x1),
                (x1.Inv != (i64 (r2 + 1))) = false,
                (0 : Int) ≤ (p1.length : Int),
                (List.map E163 o)[(p1.length : Int).toNat]? = some (E163 x1),
                (x1.Lin != (i64 ((i64 (r2 + 1)) + 1))) = false,
                (0 : Int) ≤ (p1.length : Int),
                (List.map E163 o)[(p1.length : Int).toNat]? = some (E163 x1),
                (x1.Res != (i64 ((i64 ((i64 (r2 + 1)) + 1)) + 1))) = false,
                (0 : Int) ≤ (p1.length : Int),
                (List.map E163 o)[(p1.length : Int).toNat]? = some (E163 x1),
                (x1.At != (i64 ((i64 ((i64 ((i64 (r2 + 1)) + 1)) + 1)) + 1))) = true]) (by kernel_rfl) (show X.ret ≠ X.go from nofun) (cj (len_nm _ _) (cj (rng_lt h1) (cj (by omega) (cj (rng_get _ h1) (cj (laws_heldByteS_ok x1.Data v1 r1 h3) (cj rfl (cj h4 (cj (by omega) (cj (rng_get _ h1) (cj h5 (cj (by omega) (cj (rng_get _ h1) (cj (laws_heldIntS_ok x1.Set (i64 (r1 + 1)) r2 h6) (cj rfl (cj h7 (cj (by omega) (cj (rng_get _ h1) (cj h8 (cj (by omega) (cj (rng_get _ h1) (cj h9 (cj (by omega) (cj (rng_get _ h1) (cj h10 (cj (by omega) (cj (rng_get _ h1) (cj h11 (cj (by omega) (cj (rng_get _ h1) (cj1 h12)))))))))))))))))))))))))))))))) (fun h12 =>
               Pn.bind (fun r3 h13 =>
                Pn.ite (fun h14 =>
                 Pn.some (LpO.out [.wait 3, .nm 8 (V.sc (.int .i64 (o.length : Int))), .bit true, .el (E163 x1), .call [] (E3 r1) [], .bit false, .el (E163 x1), .bit false, .el (E163 x1), .call [] (E3 r2) [], .bit false, .el (E163 x1), .bit false, .el (E163 x1), .bit false, .el (E163 x1), .bit false, .el (E163 x1), .bit false, .el (E163 x1), .bit false, .el (E163 x1), .call [] (E3 r3) [], .bit true, .wait 1, .mask [4], .ren []] (p := [V.sc (.int .i64 ((List.map E163 o).length : Int)) = V.sc (.int .i64 (o.length : Int)),
                  (decide ((p1.length : Int) < (o.length : Int))) = true,
                  (0 : Int) ≤ (p1.length : Int),
                  (List.map E163 o)[(p1.length : Int).toNat]? = some (E163 x1),
                  Fn Tryz.prog 139 [(false, E118 x1.Data), (false, E3 v1)] (E3 r1) [],
                  (true || ((E3 r1).nv && nvL [])) = true,
                  (decide (r1 < 0)) = false,
                  (0 : Int) ≤ (p1.length : Int),
                  (List.map E163 o)[(p1.length : Int).toNat]? = some (E163 x1),
                  (x1.Pc != r1) = false,
                  (0 : Int) ≤ (p1.length : Int),
                  (List.map E163 o)[(p1.length : Int).toNat]? = some (E163 x1),
                  Fn Tryz.prog 93 [(false, E35 x1.Set), (false, E3 (i64 (r1 + 1)))] (E3 r2) [],
                  (true || ((E3 r2).nv && nvL [])) = true,
                  (decide (r2 < 0)) = false,
                  (0 : Int) ≤ (p1.length : Int),
                  (List.map E163 o)[(p1.length : Int).toNat]? = some (E163 x1),
                  (x1.Held != r2) = false,
                  (0 : Int) ≤ (p1.length : Int),
                  (List.map E163 o)[(p1.length : Int).toNat]? = some (E163 x1),
                  (x1.Inv != (i64 (r2 + 1))) = false,
                  (0 : Int) ≤ (p1.length : Int),
                  (List.map E163 o)[(p1.length : Int).toNat]? = some (E163 x1),
                  (x1.Lin != (i64 ((i64 (r2 + 1)) + 1))) = false,
                  (0 : Int) ≤ (p1.length : Int),
                  (List.map E163 o)[(p1.length : Int).toNat]? = some (E163 x1),
                  (x1.Res != (i64 ((i64 ((i64 (r2 + 1)) + 1)) + 1))) = false,
                  (0 : Int) ≤ (p1.length : Int),
                  (List.map E163 o)[(p1.length : Int).toNat]? = some (E163 x1),
                  (x1.At != (i64 ((i64 ((i64 ((i64 (r2 + 1)) + 1)) + 1)) + 1))) = false,
                  (0 : Int) ≤ (p1.length : Int),
                  (List.map E163 o)[(p1.length : Int).toNat]? = some (E163 x1),
                  Fn Tryz.prog 139 [(false, E118 x1.Reply), (false, E3 (i64 ((i64 ((i64 ((i64 ((i64 (r2 + 1)) + 1)) + 1)) + 1)) + 1)))] (E3 r3) [],
                  (true || ((E3 r3).nv && nvL [])) = true,
                  (decide (r3 < 0)) = true]) (by kernel_rfl) (show X.ret ≠ X.go from nofun) (cj (len_nm _ _) (cj (rng_lt h1) (cj (by omega) (cj (rng_get _ h1) (cj (laws_heldByteS_ok x1.Data v1 r1 h3) (cj rfl (cj h4 (cj (by omega) (cj (rng_get _ h1) (cj h5 (cj (by omega) (cj (rng_get _ h1) (cj (laws_heldIntS_ok x1.Set (i64 (r1 + 1)) r2 h6) (cj rfl (cj h7 (cj (by omega) (cj (rng_get _ h1) (cj h8 (cj (by omega) (cj (rng_get _ h1) (cj h9 (cj (by omega) (cj (rng_get _ h1) (cj h10 (cj (by omega) (cj (rng_get _ h1) (cj h11 (cj (by omega) (cj (rng_get _ h1) (cj h12 (cj (by omega) (cj (rng_get _ h1) (cj (laws_heldByteS_ok x1.Reply (i64 ((i64 ((i64 ((i64 ((i64 (r2 + 1)) + 1)) + 1)) + 1)) + 1)) r3 h13) (cj rfl (cj1 h14))))))))))))))))))))))))))))))))))))) (fun h14 =>
                 LpO.go [.wait 3, .nm 8 (V.sc (.int .i64 (o.length : Int))), .bit true, .el (E163 x1), .call [] (E3 r1) [], .bit false, .el (E163 x1), .bit false, .el (E163 x1), .call [] (E3 r2) [], .bit false, .el (E163 x1), .bit false, .el (E163 x1), .bit false, .el (E163 x1), .bit false, .el (E163 x1), .bit false, .el (E163 x1), .bit false, .el (E163 x1), .call [] (E3 r3) [], .bit false, .wait 3, .mask [0, 1, 5], .ren [], .nm 5 (V.sc (.int .i64 ((p1 ++ [x1]).length : Int)))] (p := [V.sc (.int .i64 ((List.map E163 o).length : Int)) = V.sc (.int .i64 (o.length : Int)),
                  (decide ((p1.length : Int) < (o.length : Int))) = true,
                  (0 : Int) ≤ (p1.length : Int),
                  (List.map E163 o)[(p1.length : Int).toNat]? = some (E163 x1),
                  Fn Tryz.prog 139 [(false, E118 x1.Data), (false, E3 v1)] (E3 r1) [],
                  (true || ((E3 r1).nv && nvL [])) = true,
                  (decide (r1 < 0)) = false,
                  (0 : Int) ≤ (p1.length : Int),
                  (List.map E163 o)[(p1.length : Int).toNat]? = some (E163 x1),
                  (x1.Pc != r1) = false,
                  (0 : Int) ≤ (p1.length : Int),
                  (List.map E163 o)[(p1.length : Int).toNat]? = some (E163 x1),
                  Fn Tryz.prog 93 [(false, E35 x1.Set), (false, E3 (i64 (r1 + 1)))] (E3 r2) [],
                  (true || ((E3 r2).nv && nvL [])) = true,
                  (decide (r2 < 0)) = false,
                  (0 : Int) ≤ (p1.length : Int),
                  (List.map E163 o)[(p1.length : Int).toNat]? = some (E163 x1),
                  (x1.Held != r2) = false,
                  (0 : Int) ≤ (p1.length : Int),
                  (List.map E163 o)[(p1.length : Int).toNat]? = some (E163 x1),
                  (x1.Inv != (i64 (r2 + 1))) = false,
                  (0 : Int) ≤ (p1.length : Int),
                  (List.map E163 o)[(p1.length : Int).toNat]? = some (E163 x1),
                  (x1.Lin != (i64 ((i64 (r2 + 1)) + 1))) = false,
                  (0 : Int) ≤ (p1.length : Int),
                  (List.map E163 o)[(p1.length : Int).toNat]? = some (E163 x1),
                  (x1.Res != (i64 ((i64 ((i64 (r2 + 1)) + 1)) + 1))) = false,
                  (0 : Int) ≤ (p1.length : Int),
                  (List.map E163 o)[(p1.length : Int).toNat]? = some (E163 x1),
                  (x1.At != (i64 ((i64 ((i64 ((i64 (r2 + 1)) + 1)) + 1)) + 1))) = false,
                  (0 : Int) ≤ (p1.length : Int),
                  (List.map E163 o)[(p1.length : Int).toNat]? = some (E163 x1),
                  Fn Tryz.prog 139 [(false, E118 x1.Reply), (false, E3 (i64 ((i64 ((i64 ((i64 ((i64 (r2 + 1)) + 1)) + 1)) + 1)) + 1)))] (E3 r3) [],
                  (true || ((E3 r3).nv && nvL [])) = true,
                  (decide (r3 < 0)) = false,
                  V.sc (.int .i64 (i64 ((p1.length : Int) + 1))) = V.sc (.int .i64 ((p1 ++ [x1]).length : Int))]) (by kernel_rfl) (cj (len_nm _ _) (cj (rng_lt h1) (cj (by omega) (cj (rng_get _ h1) (cj (laws_heldByteS_ok x1.Data v1 r1 h3) (cj rfl (cj h4 (cj (by omega) (cj (rng_get _ h1) (cj h5 (cj (by omega) (cj (rng_get _ h1) (cj (laws_heldIntS_ok x1.Set (i64 (r1 + 1)) r2 h6) (cj rfl (cj h7 (cj (by omega) (cj (rng_get _ h1) (cj h8 (cj (by omega) (cj (rng_get _ h1) (cj h9 (cj (by omega) (cj (rng_get _ h1) (cj h10 (cj (by omega) (cj (rng_get _ h1) (cj h11 (cj (by omega) (cj (rng_get _ h1) (cj h12 (cj (by omega) (cj (rng_get _ h1) (cj (laws_heldByteS_ok x1.Reply (i64 ((i64 ((i64 ((i64 ((i64 (r2 + 1)) + 1)) + 1)) + 1)) + 1)) r3 h13) (cj rfl (cj h14 (cj1 (rng_next h1 h2))))))))))))))))))))))))))))))))))))) (laws_heldTaskS_l0_ok o h2 t1 (p1 ++ [x1]) (rng_step h1) r3)))))))))))))
def laws_heldTaskS (o : List Task) (o_ : Int) : Option (Int) :=
 if (capOk o.length) = true then
  (laws_heldTaskS_l0 o o o_).bind fun r4 =>
  Lo.elim r4 (fun s1 =>
   some s1) (fun s2 =>
   some (-1))
 else none
theorem laws_heldTaskS_ok (o : List Task) (o_ : Int) : Pn (fun y => Fn Tryz.prog 134 [(false, E62 o), (false, E3 o_)] (E3 y) []) (laws_heldTaskS o o_) := by
  unfold laws_heldTaskS
  exact
   Pn.ite (fun h15 =>
    Pn.bind (fun r4 h16 =>
     Pn.lo (fun s1 h17 =>
      Pn.some (Fn.of [.wait 3, .mask [0, 1, 5], .ren [], .loop (X.out 0) (st 94 [(1, V.sc (.int .i64 s1))] [] [])] (p := [Loop Tryz.prog (sub (codeOf Tryz.prog 134) [1, 0, 1, 0, 0]) (st 94 [(0, V.sl false 163 (List.map E163 o)), (1, V.sc (.int .i64 o_)), (5, V.sc (.int .i64 0))] [] []) (X.out 0) (st 94 [(1, V.sc (.int .i64 s1))] [] [])]) (by kernel_rfl) (cj1 ((laws_heldTaskS_l0_ok o h15 o [] rfl o_ r4 h16).at h17)))) (fun s2 h18 =>
      Pn.some (Fn.of [.wait 3, .mask [0, 1, 5], .ren [], .loop (X.ret) (st 94 [(4, V.sc (.int .i64 (-1)))] [] [])] (p := [Loop Tryz.prog (sub (codeOf Tryz.prog 134) [1, 0, 1, 0, 0]) (st 94 [(0, V.sl false 163 (List.map E163 o)), (1, V.sc (.int .i64 o_)), (5, V.sc (.int .i64 0))] [] []) (X.ret) (st 94 [(4, V.sc (.int .i64 (-1)))] [] [])]) (by kernel_rfl) (cj1 ((laws_heldTaskS_l0_ok o h15 o [] rfl o_ r4 h16).at h18)))))) (fun h15 =>
    Pn.none)
def laws_heldWorld (a : World) (k : Int) : Option (Int) :=
 (laws_heldStripeS a.Stripes k).bind fun r1 =>
 if (decide (r1 < 0)) = true then
  some (-1)
 else
  (laws_heldTaskS a.Tasks r1).bind fun r2 =>
  if (decide (r2 < 0)) = true then
   some (-1)
  else
   some r2
theorem laws_heldWorld_ok (a : World) (k : Int) : Pn (fun y => Fn Tryz.prog 85 [(false, E64 a), (false, E3 k)] (E3 y) []) (laws_heldWorld a k) := by
  unfold laws_heldWorld
  exact
   Pn.bind (fun r1 h1 =>
    Pn.ite (fun h2 =>
     Pn.some (Fn.of [.call [] (E3 r1) [], .bit true] (p := [Fn Tryz.prog 30 [(false, E56 a.Stripes), (false, E3 k)] (E3 r1) [],
      (true || ((E3 r1).nv && nvL [])) = true,
      (decide (r1 < 0)) = true]) (by kernel_rfl) (cj (laws_heldStripeS_ok a.Stripes k r1 h1) (cj rfl (cj1 h2))))) (fun h2 =>
     Pn.bind (fun r2 h3 =>
      Pn.ite (fun h4 =>
       Pn.some (Fn.of [.call [] (E3 r1) [], .bit false, .call [] (E3 r2) [], .bit true] (p := [Fn Tryz.prog 30 [(false, E56 a.Stripes), (false, E3 k)] (E3 r1) [],
        (true || ((E3 r1).nv && nvL [])) = true,
        (decide (r1 < 0)) = false,
        Fn Tryz.prog 134 [(false, E62 a.Tasks), (false, E3 r1)] (E3 r2) [],
        (true || ((E3 r2).nv && nvL [])) = true,
        (decide (r2 < 0)) = true]) (by kernel_rfl) (cj (laws_heldStripeS_ok a.Stripes k r1 h1) (cj rfl (cj h2 (cj (laws_heldTaskS_ok a.Tasks r1 r2 h3) (cj rfl (cj1 h4)))))))) (fun h4 =>
       Pn.some (Fn.of [.call [] (E3 r1) [], .bit false, .call [] (E3 r2) [], .bit false] (p := [Fn Tryz.prog 30 [(false, E56 a.Stripes), (false, E3 k)] (E3 r1) [],
        (true || ((E3 r1).nv && nvL [])) = true,
        (decide (r1 < 0)) = false,
        Fn Tryz.prog 134 [(false, E62 a.Tasks), (false, E3 r1)] (E3 r2) [],
        (true || ((E3 r2).nv && nvL [])) = true,
        (decide (r2 < 0)) = false]) (by kernel_rfl) (cj (laws_heldStripeS_ok a.Stripes k r1 h1) (cj rfl (cj h2 (cj (laws_heldTaskS_ok a.Tasks r1 r2 h3) (cj rfl (cj1 h4)))))))))))
def laws_heldDesk (a : Desk) (k : Int) : Option (Int) :=
 (laws_heldBook a.Book k).bind fun r1 =>
 if (decide (r1 < 0)) = true then
  some (-1)
 else
  (laws_heldWorld a.World r1).bind fun r2 =>
  if (decide (r2 < 0)) = true then
   some (-1)
  else
   some r2
theorem laws_heldDesk_ok (a : Desk) (k : Int) : Pn (fun y => Fn Tryz.prog 37 [(false, E66 a), (false, E3 k)] (E3 y) []) (laws_heldDesk a k) := by
  unfold laws_heldDesk
  exact
   Pn.bind (fun r1 h1 =>
    Pn.ite (fun h2 =>
     Pn.some (Fn.of [.call [] (E3 r1) [], .bit true] (p := [Fn Tryz.prog 15 [(false, E28 a.Book), (false, E3 k)] (E3 r1) [],
      (true || ((E3 r1).nv && nvL [])) = true,
      (decide (r1 < 0)) = true]) (by kernel_rfl) (cj (laws_heldBook_ok a.Book k r1 h1) (cj rfl (cj1 h2))))) (fun h2 =>
     Pn.bind (fun r2 h3 =>
      Pn.ite (fun h4 =>
       Pn.some (Fn.of [.call [] (E3 r1) [], .bit false, .call [] (E3 r2) [], .bit true] (p := [Fn Tryz.prog 15 [(false, E28 a.Book), (false, E3 k)] (E3 r1) [],
        (true || ((E3 r1).nv && nvL [])) = true,
        (decide (r1 < 0)) = false,
        Fn Tryz.prog 85 [(false, E64 a.World), (false, E3 r1)] (E3 r2) [],
        (true || ((E3 r2).nv && nvL [])) = true,
        (decide (r2 < 0)) = true]) (by kernel_rfl) (cj (laws_heldBook_ok a.Book k r1 h1) (cj rfl (cj h2 (cj (laws_heldWorld_ok a.World r1 r2 h3) (cj rfl (cj1 h4)))))))) (fun h4 =>
       Pn.some (Fn.of [.call [] (E3 r1) [], .bit false, .call [] (E3 r2) [], .bit false] (p := [Fn Tryz.prog 15 [(false, E28 a.Book), (false, E3 k)] (E3 r1) [],
        (true || ((E3 r1).nv && nvL [])) = true,
        (decide (r1 < 0)) = false,
        Fn Tryz.prog 85 [(false, E64 a.World), (false, E3 r1)] (E3 r2) [],
        (true || ((E3 r2).nv && nvL [])) = true,
        (decide (r2 < 0)) = false]) (by kernel_rfl) (cj (laws_heldBook_ok a.Book k r1 h1) (cj rfl (cj h2 (cj (laws_heldWorld_ok a.World r1 r2 h3) (cj rfl (cj1 h4)))))))))))
def laws_FnExactDeskNew (aN : Int) : Option (Bool) :=
 (spec_DeskNew aN).bind fun r1 =>
 (impl_DeskNew aN).bind fun r2 =>
 (laws_eqDesk r2.1 r1.1).bind fun r3 =>
 if r3 = true then
  if (r2.2 == r1.2) = true then
   (laws_markDesk r2.1 1).bind fun r4 =>
   (laws_heldDesk (Desk.mk (Book.mk r4.2.1) r2.1.Parts (World.mk r4.2.2.1 r2.1.World.Now r2.1.World.Step r4.2.2.2)) 1).bind fun r5 =>
   if (decide (r5 < 0)) = true then
    some false
   else
    if (r5 != r4.1) = true then
     some false
    else
     (impl_DeskNew aN).bind fun r6 =>
     (laws_eqDesk r6.1 r1.1).bind fun r7 =>
     if r7 = true then
      if (r6.2 == r1.2) = true then
       (laws_heldDesk (Desk.mk (Book.mk r4.2.1) r2.1.Parts (World.mk r4.2.2.1 r2.1.World.Now r2.1.World.Step r4.2.2.2)) 1).bind fun r8 =>
       if (decide (r8 < 0)) = true then
        some false
       else
        if (r8 != r4.1) = true then
         some false
        else
         some true
      else
       some false
     else
      some false
  else
   some false
 else
  some false
theorem laws_FnExactDeskNew_ok (aN : Int) : Pn (fun y => Fn Tryz.prog 8 [(false, E3 aN)] (E4 y) []) (laws_FnExactDeskNew aN) := by
  unfold laws_FnExactDeskNew
  exact
   Pn.bind (fun r1 h1 =>
    Pn.bind (fun r2 h2 =>
     Pn.bind (fun r3 h3 =>
      Pn.ite (fun h4 =>
       Pn.ite (fun h5 =>
        Pn.bind (fun r4 h6 =>
         Pn.bind (fun r5 h7 =>
          Pn.ite (fun h8 =>
           Pn.some (Fn.of [.call [] (V.tup [E66 r1.1, E4 r1.2]) [], .call [] (V.tup [E66 r2.1, E4 r2.2]) [], .call [] (E4 r3) [], .bit false, .bit false, .bit false, .bit false, .bit false, .call [true, false] (E3 r4.1) [V.sl true 48 (List.map E48 r4.2.1), V.sl true 102 (List.map E102 r4.2.2.1), V.sl true 163 (List.map E163 r4.2.2.2)], .call [] (E3 r5) [], .bit true] (p := [Fn Tryz.prog 33 [(false, E3 aN)] (V.tup [E66 r1.1, E4 r1.2]) [],
            (true || ((V.tup [E66 r1.1, E4 r1.2]).nv && nvL [])) = true,
            Fn Tryz.prog 34 [(false, E3 aN)] (V.tup [E66 r2.1, E4 r2.2]) [],
            (true || ((V.tup [E66 r2.1, E4 r2.2]).nv && nvL [])) = true,
            Fn Tryz.prog 35 [(false, E66 r2.1), (false, E66 r1.1)] (E4 r3) [],
            (false || ((E4 r3).nv && nvL [])) = true,
            (!r3) = false,
            (!r3) = false,
            (!r3) = false,
            (!r3) = false,
            (!(r2.2 == r1.2)) = false,
            Fn Tryz.prog 36 [(true, E66 r2.1), (false, E3 1)] (E3 r4.1) [V.sl true 48 (List.map E48 r4.2.1), V.sl true 102 (List.map E102 r4.2.2.1), V.sl true 163 (List.map E163 r4.2.2.2)],
            (true || ((E3 r4.1).nv && nvL [V.sl true 48 (List.map E48 r4.2.1), V.sl true 102 (List.map E102 r4.2.2.1), V.sl true 163 (List.map E163 r4.2.2.2)])) = true,
            Fn Tryz.prog 37 [(false, E66 (Desk.mk (Book.mk r4.2.1) r2.1.Parts (World.mk r4.2.2.1 r2.1.World.Now r2.1.World.Step r4.2.2.2))), (false, E3 1)] (E3 r5) [],
            (false || ((E3 r5).nv && nvL [])) = true,
            (decide (r5 < 0)) = true]) (by kernel_rfl) (cj (spec_DeskNew_ok aN r1 h1) (cj rfl (cj (impl_DeskNew_ok aN r2 h2) (cj rfl (cj (laws_eqDesk_ok r2.1 r1.1 r3 h3) (cj (by simp [V.nv, nvL, nvL_all, nv_E4]) (cj (nf h4) (cj (nf h4) (cj (nf h4) (cj (nf h4) (cj (nf h5) (cj (laws_markDesk_ok r2.1 1 r4 h6) (cj rfl (cj (laws_heldDesk_ok (Desk.mk (Book.mk r4.2.1) r2.1.Parts (World.mk r4.2.2.1 r2.1.World.Now r2.1.World.Step r4.2.2.2)) 1 r5 h7) (cj (by simp [V.nv, nvL, nvL_all, nv_E3]) (cj1 h8)))))))))))))))))) (fun h8 =>
           Pn.ite (fun h9 =>
            Pn.some (Fn.of [.call [] (V.tup [E66 r1.1, E4 r1.2]) [], .call [] (V.tup [E66 r2.1, E4 r2.2]) [], .call [] (E4 r3) [], .bit false, .bit false, .bit false, .bit false, .bit false, .call [true, false] (E3 r4.1) [V.sl true 48 (List.map E48 r4.2.1), V.sl true 102 (List.map E102 r4.2.2.1), V.sl true 163 (List.map E163 r4.2.2.2)], .call [] (E3 r5) [], .bit false, .bit true] (p := [Fn Tryz.prog 33 [(false, E3 aN)] (V.tup [E66 r1.1, E4 r1.2]) [],
             (true || ((V.tup [E66 r1.1, E4 r1.2]).nv && nvL [])) = true,
             Fn Tryz.prog 34 [(false, E3 aN)] (V.tup [E66 r2.1, E4 r2.2]) [],
             (true || ((V.tup [E66 r2.1, E4 r2.2]).nv && nvL [])) = true,
             Fn Tryz.prog 35 [(false, E66 r2.1), (false, E66 r1.1)] (E4 r3) [],
             (false || ((E4 r3).nv && nvL [])) = true,
             (!r3) = false,
             (!r3) = false,
             (!r3) = false,
             (!r3) = false,
             (!(r2.2 == r1.2)) = false,
             Fn Tryz.prog 36 [(true, E66 r2.1), (false, E3 1)] (E3 r4.1) [V.sl true 48 (List.map E48 r4.2.1), V.sl true 102 (List.map E102 r4.2.2.1), V.sl true 163 (List.map E163 r4.2.2.2)],
             (true || ((E3 r4.1).nv && nvL [V.sl true 48 (List.map E48 r4.2.1), V.sl true 102 (List.map E102 r4.2.2.1), V.sl true 163 (List.map E163 r4.2.2.2)])) = true,
             Fn Tryz.prog 37 [(false, E66 (Desk.mk (Book.mk r4.2.1) r2.1.Parts (World.mk r4.2.2.1 r2.1.World.Now r2.1.World.Step r4.2.2.2))), (false, E3 1)] (E3 r5) [],
             (false || ((E3 r5).nv && nvL [])) = true,
             (decide (r5 < 0)) = false,
             (r5 != r4.1) = true]) (by kernel_rfl) (cj (spec_DeskNew_ok aN r1 h1) (cj rfl (cj (impl_DeskNew_ok aN r2 h2) (cj rfl (cj (laws_eqDesk_ok r2.1 r1.1 r3 h3) (cj (by simp [V.nv, nvL, nvL_all, nv_E4]) (cj (nf h4) (cj (nf h4) (cj (nf h4) (cj (nf h4) (cj (nf h5) (cj (laws_markDesk_ok r2.1 1 r4 h6) (cj rfl (cj (laws_heldDesk_ok (Desk.mk (Book.mk r4.2.1) r2.1.Parts (World.mk r4.2.2.1 r2.1.World.Now r2.1.World.Step r4.2.2.2)) 1 r5 h7) (cj (by simp [V.nv, nvL, nvL_all, nv_E3]) (cj h8 (cj1 h9))))))))))))))))))) (fun h9 =>
            Pn.bind (fun r6 h10 =>
             Pn.bind (fun r7 h11 =>
              Pn.ite (fun h12 =>
               Pn.ite (fun h13 =>
                Pn.bind (fun r8 h14 =>
                 Pn.ite (fun h15 =>
                  Pn.some (Fn.of [.call [] (V.tup [E66 r1.1, E4 r1.2]) [], .call [] (V.tup [E66 r2.1, E4 r2.2]) [], .call [] (E4 r3) [], .bit false, .bit false, .bit false, .bit false, .bit false, .call [true, false] (E3 r4.1) [V.sl true 48 (List.map E48 r4.2.1), V.sl true 102 (List.map E102 r4.2.2.1), V.sl true 163 (List.map E163 r4.2.2.2)], .call [] (E3 r5) [], .bit false, .bit false, .call [] (V.tup [E66 r6.1, E4 r6.2]) [], .call [] (E4 r7) [], .bit false, .bit false, .bit false, .bit false, .bit false, .call [] (E3 r8) [], .bit true] (p := [Fn Tryz.prog 33 [(false, E3 aN)] (V.tup [E66 r1.1, E4 r1.2]) [],
                   (true || ((V.tup [E66 r1.1, E4 r1.2]).nv && nvL [])) = true,
                   Fn Tryz.prog 34 [(false, E3 aN)] (V.tup [E66 r2.1, E4 r2.2]) [],
                   (true || ((V.tup [E66 r2.1, E4 r2.2]).nv && nvL [])) = true,
                   Fn Tryz.prog 35 [(false, E66 r2.1), (false, E66 r1.1)] (E4 r3) [],
                   (false || ((E4 r3).nv && nvL [])) = true,
                   (!r3) = false,
                   (!r3) = false,
                   (!r3) = false,
                   (!r3) = false,
                   (!(r2.2 == r1.2)) = false,
                   Fn Tryz.prog 36 [(true, E66 r2.1), (false, E3 1)] (E3 r4.1) [V.sl true 48 (List.map E48 r4.2.1), V.sl true 102 (List.map E102 r4.2.2.1), V.sl true 163 (List.map E163 r4.2.2.2)],
                   (true || ((E3 r4.1).nv && nvL [V.sl true 48 (List.map E48 r4.2.1), V.sl true 102 (List.map E102 r4.2.2.1), V.sl true 163 (List.map E163 r4.2.2.2)])) = true,
                   Fn Tryz.prog 37 [(false, E66 (Desk.mk (Book.mk r4.2.1) r2.1.Parts (World.mk r4.2.2.1 r2.1.World.Now r2.1.World.Step r4.2.2.2))), (false, E3 1)] (E3 r5) [],
                   (false || ((E3 r5).nv && nvL [])) = true,
                   (decide (r5 < 0)) = false,
                   (r5 != r4.1) = false,
                   Fn Tryz.prog 34 [(false, E3 aN)] (V.tup [E66 r6.1, E4 r6.2]) [],
                   (true || ((V.tup [E66 r6.1, E4 r6.2]).nv && nvL [])) = true,
                   Fn Tryz.prog 35 [(false, E66 r6.1), (false, E66 r1.1)] (E4 r7) [],
                   (false || ((E4 r7).nv && nvL [])) = true,
                   (!r7) = false,
                   (!r7) = false,
                   (!r7) = false,
                   (!r7) = false,
                   (!(r6.2 == r1.2)) = false,
                   Fn Tryz.prog 37 [(false, E66 (Desk.mk (Book.mk r4.2.1) r2.1.Parts (World.mk r4.2.2.1 r2.1.World.Now r2.1.World.Step r4.2.2.2))), (false, E3 1)] (E3 r8) [],
                   (false || ((E3 r8).nv && nvL [])) = true,
                   (decide (r8 < 0)) = true]) (by kernel_rfl) (cj (spec_DeskNew_ok aN r1 h1) (cj rfl (cj (impl_DeskNew_ok aN r2 h2) (cj rfl (cj (laws_eqDesk_ok r2.1 r1.1 r3 h3) (cj (by simp [V.nv, nvL, nvL_all, nv_E4]) (cj (nf h4) (cj (nf h4) (cj (nf h4) (cj (nf h4) (cj (nf h5) (cj (laws_markDesk_ok r2.1 1 r4 h6) (cj rfl (cj (laws_heldDesk_ok (Desk.mk (Book.mk r4.2.1) r2.1.Parts (World.mk r4.2.2.1 r2.1.World.Now r2.1.World.Step r4.2.2.2)) 1 r5 h7) (cj (by simp [V.nv, nvL, nvL_all, nv_E3]) (cj h8 (cj h9 (cj (impl_DeskNew_ok aN r6 h10) (cj rfl (cj (laws_eqDesk_ok r6.1 r1.1 r7 h11) (cj (by simp [V.nv, nvL, nvL_all, nv_E4]) (cj (nf h12) (cj (nf h12) (cj (nf h12) (cj (nf h12) (cj (nf h13) (cj (laws_heldDesk_ok (Desk.mk (Book.mk r4.2.1) r2.1.Parts (World.mk r4.2.2.1 r2.1.World.Now r2.1.World.Step r4.2.2.2)) 1 r8 h14) (cj (by simp [V.nv, nvL, nvL_all, nv_E3]) (cj1 h15))))))))))))))))))))))))))))))) (fun h15 =>
                  Pn.ite (fun h16 =>
                   Pn.some (Fn.of [.call [] (V.tup [E66 r1.1, E4 r1.2]) [], .call [] (V.tup [E66 r2.1, E4 r2.2]) [], .call [] (E4 r3) [], .bit false, .bit false, .bit false, .bit false, .bit false, .call [true, false] (E3 r4.1) [V.sl true 48 (List.map E48 r4.2.1), V.sl true 102 (List.map E102 r4.2.2.1), V.sl true 163 (List.map E163 r4.2.2.2)], .call [] (E3 r5) [], .bit false, .bit false, .call [] (V.tup [E66 r6.1, E4 r6.2]) [], .call [] (E4 r7) [], .bit false, .bit false, .bit false, .bit false, .bit false, .call [] (E3 r8) [], .bit false, .bit true] (p := [Fn Tryz.prog 33 [(false, E3 aN)] (V.tup [E66 r1.1, E4 r1.2]) [],
                    (true || ((V.tup [E66 r1.1, E4 r1.2]).nv && nvL [])) = true,
                    Fn Tryz.prog 34 [(false, E3 aN)] (V.tup [E66 r2.1, E4 r2.2]) [],
                    (true || ((V.tup [E66 r2.1, E4 r2.2]).nv && nvL [])) = true,
                    Fn Tryz.prog 35 [(false, E66 r2.1), (false, E66 r1.1)] (E4 r3) [],
                    (false || ((E4 r3).nv && nvL [])) = true,
                    (!r3) = false,
                    (!r3) = false,
                    (!r3) = false,
                    (!r3) = false,
                    (!(r2.2 == r1.2)) = false,
                    Fn Tryz.prog 36 [(true, E66 r2.1), (false, E3 1)] (E3 r4.1) [V.sl true 48 (List.map E48 r4.2.1), V.sl true 102 (List.map E102 r4.2.2.1), V.sl true 163 (List.map E163 r4.2.2.2)],
                    (true || ((E3 r4.1).nv && nvL [V.sl true 48 (List.map E48 r4.2.1), V.sl true 102 (List.map E102 r4.2.2.1), V.sl true 163 (List.map E163 r4.2.2.2)])) = true,
                    Fn Tryz.prog 37 [(false, E66 (Desk.mk (Book.mk r4.2.1) r2.1.Parts (World.mk r4.2.2.1 r2.1.World.Now r2.1.World.Step r4.2.2.2))), (false, E3 1)] (E3 r5) [],
                    (false || ((E3 r5).nv && nvL [])) = true,
                    (decide (r5 < 0)) = false,
                    (r5 != r4.1) = false,
                    Fn Tryz.prog 34 [(false, E3 aN)] (V.tup [E66 r6.1, E4 r6.2]) [],
                    (true || ((V.tup [E66 r6.1, E4 r6.2]).nv && nvL [])) = true,
                    Fn Tryz.prog 35 [(false, E66 r6.1), (false, E66 r1.1)] (E4 r7) [],
                    (false || ((E4 r7).nv && nvL [])) = true,
                    (!r7) = false,
                    (!r7) = false,
                    (!r7) = false,
                    (!r7) = false,
                    (!(r6.2 == r1.2)) = false,
                    Fn Tryz.prog 37 [(false, E66 (Desk.mk (Book.mk r4.2.1) r2.1.Parts (World.mk r4.2.2.1 r2.1.World.Now r2.1.World.Step r4.2.2.2))), (false, E3 1)] (E3 r8) [],
                    (false || ((E3 r8).nv && nvL [])) = true,
                    (decide (r8 < 0)) = false,
                    (r8 != r4.1) = true]) (by kernel_rfl) (cj (spec_DeskNew_ok aN r1 h1) (cj rfl (cj (impl_DeskNew_ok aN r2 h2) (cj rfl (cj (laws_eqDesk_ok r2.1 r1.1 r3 h3) (cj (by simp [V.nv, nvL, nvL_all, nv_E4]) (cj (nf h4) (cj (nf h4) (cj (nf h4) (cj (nf h4) (cj (nf h5) (cj (laws_markDesk_ok r2.1 1 r4 h6) (cj rfl (cj (laws_heldDesk_ok (Desk.mk (Book.mk r4.2.1) r2.1.Parts (World.mk r4.2.2.1 r2.1.World.Now r2.1.World.Step r4.2.2.2)) 1 r5 h7) (cj (by simp [V.nv, nvL, nvL_all, nv_E3]) (cj h8 (cj h9 (cj (impl_DeskNew_ok aN r6 h10) (cj rfl (cj (laws_eqDesk_ok r6.1 r1.1 r7 h11) (cj (by simp [V.nv, nvL, nvL_all, nv_E4]) (cj (nf h12) (cj (nf h12) (cj (nf h12) (cj (nf h12) (cj (nf h13) (cj (laws_heldDesk_ok (Desk.mk (Book.mk r4.2.1) r2.1.Parts (World.mk r4.2.2.1 r2.1.World.Now r2.1.World.Step r4.2.2.2)) 1 r8 h14) (cj (by simp [V.nv, nvL, nvL_all, nv_E3]) (cj h15 (cj1 h16)))))))))))))))))))))))))))))))) (fun h16 =>
                   Pn.some (Fn.of [.call [] (V.tup [E66 r1.1, E4 r1.2]) [], .call [] (V.tup [E66 r2.1, E4 r2.2]) [], .call [] (E4 r3) [], .bit false, .bit false, .bit false, .bit false, .bit false, .call [true, false] (E3 r4.1) [V.sl true 48 (List.map E48 r4.2.1), V.sl true 102 (List.map E102 r4.2.2.1), V.sl true 163 (List.map E163 r4.2.2.2)], .call [] (E3 r5) [], .bit false, .bit false, .call [] (V.tup [E66 r6.1, E4 r6.2]) [], .call [] (E4 r7) [], .bit false, .bit false, .bit false, .bit false, .bit false, .call [] (E3 r8) [], .bit false, .bit false] (p := [Fn Tryz.prog 33 [(false, E3 aN)] (V.tup [E66 r1.1, E4 r1.2]) [],
                    (true || ((V.tup [E66 r1.1, E4 r1.2]).nv && nvL [])) = true,
                    Fn Tryz.prog 34 [(false, E3 aN)] (V.tup [E66 r2.1, E4 r2.2]) [],
                    (true || ((V.tup [E66 r2.1, E4 r2.2]).nv && nvL [])) = true,
                    Fn Tryz.prog 35 [(false, E66 r2.1), (false, E66 r1.1)] (E4 r3) [],
                    (false || ((E4 r3).nv && nvL [])) = true,
                    (!r3) = false,
                    (!r3) = false,
                    (!r3) = false,
                    (!r3) = false,
                    (!(r2.2 == r1.2)) = false,
                    Fn Tryz.prog 36 [(true, E66 r2.1), (false, E3 1)] (E3 r4.1) [V.sl true 48 (List.map E48 r4.2.1), V.sl true 102 (List.map E102 r4.2.2.1), V.sl true 163 (List.map E163 r4.2.2.2)],
                    (true || ((E3 r4.1).nv && nvL [V.sl true 48 (List.map E48 r4.2.1), V.sl true 102 (List.map E102 r4.2.2.1), V.sl true 163 (List.map E163 r4.2.2.2)])) = true,
                    Fn Tryz.prog 37 [(false, E66 (Desk.mk (Book.mk r4.2.1) r2.1.Parts (World.mk r4.2.2.1 r2.1.World.Now r2.1.World.Step r4.2.2.2))), (false, E3 1)] (E3 r5) [],
                    (false || ((E3 r5).nv && nvL [])) = true,
                    (decide (r5 < 0)) = false,
                    (r5 != r4.1) = false,
                    Fn Tryz.prog 34 [(false, E3 aN)] (V.tup [E66 r6.1, E4 r6.2]) [],
                    (true || ((V.tup [E66 r6.1, E4 r6.2]).nv && nvL [])) = true,
                    Fn Tryz.prog 35 [(false, E66 r6.1), (false, E66 r1.1)] (E4 r7) [],
                    (false || ((E4 r7).nv && nvL [])) = true,
                    (!r7) = false,
                    (!r7) = false,
                    (!r7) = false,
                    (!r7) = false,
                    (!(r6.2 == r1.2)) = false,
                    Fn Tryz.prog 37 [(false, E66 (Desk.mk (Book.mk r4.2.1) r2.1.Parts (World.mk r4.2.2.1 r2.1.World.Now r2.1.World.Step r4.2.2.2))), (false, E3 1)] (E3 r8) [],
                    (false || ((E3 r8).nv && nvL [])) = true,
                    (decide (r8 < 0)) = false,
                    (r8 != r4.1) = false]) (by kernel_rfl) (cj (spec_DeskNew_ok aN r1 h1) (cj rfl (cj (impl_DeskNew_ok aN r2 h2) (cj rfl (cj (laws_eqDesk_ok r2.1 r1.1 r3 h3) (cj (by simp [V.nv, nvL, nvL_all, nv_E4]) (cj (nf h4) (cj (nf h4) (cj (nf h4) (cj (nf h4) (cj (nf h5) (cj (laws_markDesk_ok r2.1 1 r4 h6) (cj rfl (cj (laws_heldDesk_ok (Desk.mk (Book.mk r4.2.1) r2.1.Parts (World.mk r4.2.2.1 r2.1.World.Now r2.1.World.Step r4.2.2.2)) 1 r5 h7) (cj (by simp [V.nv, nvL, nvL_all, nv_E3]) (cj h8 (cj h9 (cj (impl_DeskNew_ok aN r6 h10) (cj rfl (cj (laws_eqDesk_ok r6.1 r1.1 r7 h11) (cj (by simp [V.nv, nvL, nvL_all, nv_E4]) (cj (nf h12) (cj (nf h12) (cj (nf h12) (cj (nf h12) (cj (nf h13) (cj (laws_heldDesk_ok (Desk.mk (Book.mk r4.2.1) r2.1.Parts (World.mk r4.2.2.1 r2.1.World.Now r2.1.World.Step r4.2.2.2)) 1 r8 h14) (cj (by simp [V.nv, nvL, nvL_all, nv_E3]) (cj h15 (cj1 h16))))))))))))))))))))))))))))))))))) (fun h13 =>
                Pn.some (Fn.of [.call [] (V.tup [E66 r1.1, E4 r1.2]) [], .call [] (V.tup [E66 r2.1, E4 r2.2]) [], .call [] (E4 r3) [], .bit false, .bit false, .bit false, .bit false, .bit false, .call [true, false] (E3 r4.1) [V.sl true 48 (List.map E48 r4.2.1), V.sl true 102 (List.map E102 r4.2.2.1), V.sl true 163 (List.map E163 r4.2.2.2)], .call [] (E3 r5) [], .bit false, .bit false, .call [] (V.tup [E66 r6.1, E4 r6.2]) [], .call [] (E4 r7) [], .bit false, .bit false, .bit false, .bit false, .bit true] (p := [Fn Tryz.prog 33 [(false, E3 aN)] (V.tup [E66 r1.1, E4 r1.2]) [],
                 (true || ((V.tup [E66 r1.1, E4 r1.2]).nv && nvL [])) = true,
                 Fn Tryz.prog 34 [(false, E3 aN)] (V.tup [E66 r2.1, E4 r2.2]) [],
                 (true || ((V.tup [E66 r2.1, E4 r2.2]).nv && nvL [])) = true,
                 Fn Tryz.prog 35 [(false, E66 r2.1), (false, E66 r1.1)] (E4 r3) [],
                 (false || ((E4 r3).nv && nvL [])) = true,
                 (!r3) = false,
                 (!r3) = false,
                 (!r3) = false,
                 (!r3) = false,
                 (!(r2.2 == r1.2)) = false,
                 Fn Tryz.prog 36 [(true, E66 r2.1), (false, E3 1)] (E3 r4.1) [V.sl true 48 (List.map E48 r4.2.1), V.sl true 102 (List.map E102 r4.2.2.1), V.sl true 163 (List.map E163 r4.2.2.2)],
                 (true || ((E3 r4.1).nv && nvL [V.sl true 48 (List.map E48 r4.2.1), V.sl true 102 (List.map E102 r4.2.2.1), V.sl true 163 (List.map E163 r4.2.2.2)])) = true,
                 Fn Tryz.prog 37 [(false, E66 (Desk.mk (Book.mk r4.2.1) r2.1.Parts (World.mk r4.2.2.1 r2.1.World.Now r2.1.World.Step r4.2.2.2))), (false, E3 1)] (E3 r5) [],
                 (false || ((E3 r5).nv && nvL [])) = true,
                 (decide (r5 < 0)) = false,
                 (r5 != r4.1) = false,
                 Fn Tryz.prog 34 [(false, E3 aN)] (V.tup [E66 r6.1, E4 r6.2]) [],
                 (true || ((V.tup [E66 r6.1, E4 r6.2]).nv && nvL [])) = true,
                 Fn Tryz.prog 35 [(false, E66 r6.1), (false, E66 r1.1)] (E4 r7) [],
                 (false || ((E4 r7).nv && nvL [])) = true,
                 (!r7) = false,
                 (!r7) = false,
                 (!r7) = false,
                 (!r7) = false,
                 (!(r6.2 == r1.2)) = true]) (by kernel_rfl) (cj (spec_DeskNew_ok aN r1 h1) (cj rfl (cj (impl_DeskNew_ok aN r2 h2) (cj rfl (cj (laws_eqDesk_ok r2.1 r1.1 r3 h3) (cj (by simp [V.nv, nvL, nvL_all, nv_E4]) (cj (nf h4) (cj (nf h4) (cj (nf h4) (cj (nf h4) (cj (nf h5) (cj (laws_markDesk_ok r2.1 1 r4 h6) (cj rfl (cj (laws_heldDesk_ok (Desk.mk (Book.mk r4.2.1) r2.1.Parts (World.mk r4.2.2.1 r2.1.World.Now r2.1.World.Step r4.2.2.2)) 1 r5 h7) (cj (by simp [V.nv, nvL, nvL_all, nv_E3]) (cj h8 (cj h9 (cj (impl_DeskNew_ok aN r6 h10) (cj rfl (cj (laws_eqDesk_ok r6.1 r1.1 r7 h11) (cj (by simp [V.nv, nvL, nvL_all, nv_E4]) (cj (nf h12) (cj (nf h12) (cj (nf h12) (cj (nf h12) (cj1 (nt h13)))))))))))))))))))))))))))))) (fun h12 =>
               Pn.some (Fn.of [.call [] (V.tup [E66 r1.1, E4 r1.2]) [], .call [] (V.tup [E66 r2.1, E4 r2.2]) [], .call [] (E4 r3) [], .bit false, .bit false, .bit false, .bit false, .bit false, .call [true, false] (E3 r4.1) [V.sl true 48 (List.map E48 r4.2.1), V.sl true 102 (List.map E102 r4.2.2.1), V.sl true 163 (List.map E163 r4.2.2.2)], .call [] (E3 r5) [], .bit false, .bit false, .call [] (V.tup [E66 r6.1, E4 r6.2]) [], .call [] (E4 r7) [], .bit true, .bit true, .bit true, .bit true, .bit true] (p := [Fn Tryz.prog 33 [(false, E3 aN)] (V.tup [E66 r1.1, E4 r1.2]) [],
                (true || ((V.tup [E66 r1.1, E4 r1.2]).nv && nvL [])) = true,
                Fn Tryz.prog 34 [(false, E3 aN)] (V.tup [E66 r2.1, E4 r2.2]) [],
                (true || ((V.tup [E66 r2.1, E4 r2.2]).nv && nvL [])) = true,
                Fn Tryz.prog 35 [(false, E66 r2.1), (false, E66 r1.1)] (E4 r3) [],
                (false || ((E4 r3).nv && nvL [])) = true,
                (!r3) = false,
                (!r3) = false,
                (!r3) = false,
                (!r3) = false,
                (!(r2.2 == r1.2)) = false,
                Fn Tryz.prog 36 [(true, E66 r2.1), (false, E3 1)] (E3 r4.1) [V.sl true 48 (List.map E48 r4.2.1), V.sl true 102 (List.map E102 r4.2.2.1), V.sl true 163 (List.map E163 r4.2.2.2)],
                (true || ((E3 r4.1).nv && nvL [V.sl true 48 (List.map E48 r4.2.1), V.sl true 102 (List.map E102 r4.2.2.1), V.sl true 163 (List.map E163 r4.2.2.2)])) = true,
                Fn Tryz.prog 37 [(false, E66 (Desk.mk (Book.mk r4.2.1) r2.1.Parts (World.mk r4.2.2.1 r2.1.World.Now r2.1.World.Step r4.2.2.2))), (false, E3 1)] (E3 r5) [],
                (false || ((E3 r5).nv && nvL [])) = true,
                (decide (r5 < 0)) = false,
                (r5 != r4.1) = false,
                Fn Tryz.prog 34 [(false, E3 aN)] (V.tup [E66 r6.1, E4 r6.2]) [],
                (true || ((V.tup [E66 r6.1, E4 r6.2]).nv && nvL [])) = true,
                Fn Tryz.prog 35 [(false, E66 r6.1), (false, E66 r1.1)] (E4 r7) [],
                (false || ((E4 r7).nv && nvL [])) = true,
                (!r7) = true,
                (!r7) = true,
                (!r7) = true,
                (!r7) = true,
                true = true]) (by kernel_rfl) (cj (spec_DeskNew_ok aN r1 h1) (cj rfl (cj (impl_DeskNew_ok aN r2 h2) (cj rfl (cj (laws_eqDesk_ok r2.1 r1.1 r3 h3) (cj (by simp [V.nv, nvL, nvL_all, nv_E4]) (cj (nf h4) (cj (nf h4) (cj (nf h4) (cj (nf h4) (cj (nf h5) (cj (laws_markDesk_ok r2.1 1 r4 h6) (cj rfl (cj (laws_heldDesk_ok (Desk.mk (Book.mk r4.2.1) r2.1.Parts (World.mk r4.2.2.1 r2.1.World.Now r2.1.World.Step r4.2.2.2)) 1 r5 h7) (cj (by simp [V.nv, nvL, nvL_all, nv_E3]) (cj h8 (cj h9 (cj (impl_DeskNew_ok aN r6 h10) (cj rfl (cj (laws_eqDesk_ok r6.1 r1.1 r7 h11) (cj (by simp [V.nv, nvL, nvL_all, nv_E4]) (cj (nt h12) (cj (nt h12) (cj (nt h12) (cj (nt h12) (cj1 rfl))))))))))))))))))))))))))))))))))) (fun h5 =>
        Pn.some (Fn.of [.call [] (V.tup [E66 r1.1, E4 r1.2]) [], .call [] (V.tup [E66 r2.1, E4 r2.2]) [], .call [] (E4 r3) [], .bit false, .bit false, .bit false, .bit false, .bit true] (p := [Fn Tryz.prog 33 [(false, E3 aN)] (V.tup [E66 r1.1, E4 r1.2]) [],
         (true || ((V.tup [E66 r1.1, E4 r1.2]).nv && nvL [])) = true,
         Fn Tryz.prog 34 [(false, E3 aN)] (V.tup [E66 r2.1, E4 r2.2]) [],
         (true || ((V.tup [E66 r2.1, E4 r2.2]).nv && nvL [])) = true,
         Fn Tryz.prog 35 [(false, E66 r2.1), (false, E66 r1.1)] (E4 r3) [],
         (false || ((E4 r3).nv && nvL [])) = true,
         (!r3) = false,
         (!r3) = false,
         (!r3) = false,
         (!r3) = false,
         (!(r2.2 == r1.2)) = true]) (by kernel_rfl) (cj (spec_DeskNew_ok aN r1 h1) (cj rfl (cj (impl_DeskNew_ok aN r2 h2) (cj rfl (cj (laws_eqDesk_ok r2.1 r1.1 r3 h3) (cj (by simp [V.nv, nvL, nvL_all, nv_E4]) (cj (nf h4) (cj (nf h4) (cj (nf h4) (cj (nf h4) (cj1 (nt h5))))))))))))))) (fun h4 =>
       Pn.some (Fn.of [.call [] (V.tup [E66 r1.1, E4 r1.2]) [], .call [] (V.tup [E66 r2.1, E4 r2.2]) [], .call [] (E4 r3) [], .bit true, .bit true, .bit true, .bit true, .bit true] (p := [Fn Tryz.prog 33 [(false, E3 aN)] (V.tup [E66 r1.1, E4 r1.2]) [],
        (true || ((V.tup [E66 r1.1, E4 r1.2]).nv && nvL [])) = true,
        Fn Tryz.prog 34 [(false, E3 aN)] (V.tup [E66 r2.1, E4 r2.2]) [],
        (true || ((V.tup [E66 r2.1, E4 r2.2]).nv && nvL [])) = true,
        Fn Tryz.prog 35 [(false, E66 r2.1), (false, E66 r1.1)] (E4 r3) [],
        (false || ((E4 r3).nv && nvL [])) = true,
        (!r3) = true,
        (!r3) = true,
        (!r3) = true,
        (!r3) = true,
        true = true]) (by kernel_rfl) (cj (spec_DeskNew_ok aN r1 h1) (cj rfl (cj (impl_DeskNew_ok aN r2 h2) (cj rfl (cj (laws_eqDesk_ok r2.1 r1.1 r3 h3) (cj (by simp [V.nv, nvL, nvL_all, nv_E4]) (cj (nt h4) (cj (nt h4) (cj (nt h4) (cj (nt h4) (cj1 rfl))))))))))))))))
end Go.Proofs.YtephmimhaokhlaaGreatM
