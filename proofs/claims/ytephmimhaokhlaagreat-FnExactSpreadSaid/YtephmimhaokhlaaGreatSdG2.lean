/- Printed by gen.py: functions on plain data, and that the program computes them. No condition. -/
import Derived.Test.YtephmimhaokhlaaGreatSdG1
namespace Go.Proofs.YtephmimhaokhlaaGreatM
set_option linter.unusedVariables false
set_option linter.unusedSimpArgs false
open Go.RowKit
set_option maxRecDepth 100000

def laws_heldAcctS_l0 (o : List Acct) : List Acct → Int → Option (Lo Int Unit)
  | [], v1 =>
   some (.out v1)
  | x1 :: t1, v1 =>
   (laws_markText v1).bind fun r1 =>
   if (x1.Id == r1) = true then
    if (x1.Limit != (i64 (v1 + 1))) = true then
     some (.ret ())
    else
     if (x1.Posted != (i64 ((i64 (v1 + 1)) + 1))) = true then
      some (.ret ())
     else
      if (x1.Most != (i64 ((i64 ((i64 (v1 + 1)) + 1)) + 1))) = true then
       some (.ret ())
      else
       if (x1.MostSum != (i64 ((i64 ((i64 ((i64 (v1 + 1)) + 1)) + 1)) + 1))) = true then
        some (.ret ())
       else
        (laws_heldHoldS x1.Holds (i64 ((i64 ((i64 ((i64 ((i64 (v1 + 1)) + 1)) + 1)) + 1)) + 1))).bind fun r2 =>
        if (decide (r2 < 0)) = true then
         some (.ret ())
        else
         if (x1.Ring.Span != r2) = true then
          some (.ret ())
         else
          if (x1.Ring.Head != (i64 (r2 + 1))) = true then
           some (.ret ())
          else
           (laws_heldIntS x1.Ring.Counts (i64 ((i64 (r2 + 1)) + 1))).bind fun r3 =>
           if (decide (r3 < 0)) = true then
            some (.ret ())
           else
            (laws_heldIntS x1.Ring.Sums r3).bind fun r4 =>
            if (decide (r4 < 0)) = true then
             some (.ret ())
            else
             (laws_heldSlotS x1.Slots r4).bind fun r5 =>
             if (decide (r5 < 0)) = true then
              some (.ret ())
             else
              laws_heldAcctS_l0 o t1 r5
   else
    some (.ret ())
theorem laws_heldAcctS_l0_ok (o : List Acct) (h2 : capOk o.length = true) : ∀ (t1 p1 : List Acct) (_ : o = p1 ++ t1) (v1 : Int), Pn (LpO Tryz.prog (sub (codeOf Tryz.prog 46) [1, 0, 1, 0, 0]) (st 117 [(0, V.sl false 48 (List.map E48 o)), (1, V.sc (.int .i64 v1)), (5, V.sc (.int .i64 (p1.length : Int)))] [] []) (fun (y : Lo Int Unit) => Lo.elim y (fun s => (X.out 0, st 117 [(1, V.sc (.int .i64 s))] [] [])) (fun s => (X.ret, st 117 [(4, V.sc (.int .i64 (-1)))] [] [])))) (laws_heldAcctS_l0 o t1 v1)
  | [], p1, h1, v1 => by
    unfold laws_heldAcctS_l0
    exact
     Pn.some (LpO.out [.wait 3, .nm 8 (V.sc (.int .i64 (o.length : Int))), .bit false, .mask [1], .ren []] (p := [V.sc (.int .i64 ((List.map E48 o).length : Int)) = V.sc (.int .i64 (o.length : Int)),
      (decide ((p1.length : Int) < (o.length : Int))) = false]) (by kernel_rfl) (show X.out 0 ≠ X.go from nofun) (cj (len_nm _ _) (cj1 (rng_end h1))))
  | x1 :: t1, p1, h1, v1 => by
    unfold laws_heldAcctS_l0
    exact
     Pn.bind (fun r1 h3 =>
      Pn.ite (fun h4 =>
       Pn.ite (fun h5 =>
        Pn.some (LpO.out [.wait 3, .nm 8 (V.sc (.int .i64 (o.length : Int))), .bit true, .draw [], .el (E48 x1), .call [] (E9 r1) [], .bit false, .el (E48 x1), .bit true, .wait 1, .mask [4], .ren []] (p := [V.sc (.int .i64 ((List.map E48 o).length : Int)) = V.sc (.int .i64 (o.length : Int)),
         (decide ((p1.length : Int) < (o.length : Int))) = true,
         (0 : Int) ≤ (p1.length : Int),
         (List.map E48 o)[(p1.length : Int).toNat]? = some (E48 x1),
         Fn Tryz.prog 90 [(false, E3 v1)] (E9 r1) [],
         (true || ((E9 r1).nv && nvL [])) = true,
         (!(x1.Id == r1)) = false,
         (0 : Int) ≤ (p1.length : Int),
         (List.map E48 o)[(p1.length : Int).toNat]? = some (E48 x1),
         (x1.Limit != (i64 (v1 + 1))) = true]) (by kernel_rfl) (show X.ret ≠ X.go from nofun) (cj (len_nm _ _) (cj (rng_lt h1) (cj (by omega) (cj (rng_get _ h1) (cj (laws_markText_ok v1 r1 h3) (cj rfl (cj (nf h4) (cj (by omega) (cj (rng_get _ h1) (cj1 h5)))))))))))) (fun h5 =>
        Pn.ite (fun h6 =>
         Pn.some (LpO.out [.wait 3, .nm 8 (V.sc (.int .i64 (o.length : Int))), .bit true, .draw [], .el (E48 x1), .call [] (E9 r1) [], .bit false, .el (E48 x1), .bit false, .el (E48 x1), .bit true, .wait 1, .mask [4], .ren []] (p := [V.sc (.int .i64 ((List.map E48 o).length : Int)) = V.sc (.int .i64 (o.length : Int)),
          (decide ((p1.length : Int) < (o.length : Int))) = true,
          (0 : Int) ≤ (p1.length : Int),
          (List.map E48 o)[(p1.length : Int).toNat]? = some (E48 x1),
          Fn Tryz.prog 90 [(false, E3 v1)] (E9 r1) [],
          (true || ((E9 r1).nv && nvL [])) = true,
          (!(x1.Id == r1)) = false,
          (0 : Int) ≤ (p1.length : Int),
          (List.map E48 o)[(p1.length : Int).toNat]? = some (E48 x1),
          (x1.Limit != (i64 (v1 + 1))) = false,
          (0 : Int) ≤ (p1.length : Int),
          (List.map E48 o)[(p1.length : Int).toNat]? = some (E48 x1),
          (x1.Posted != (i64 ((i64 (v1 + 1)) + 1))) = true]) (by kernel_rfl) (show X.ret ≠ X.go from nofun) (cj (len_nm _ _) (cj (rng_lt h1) (cj (by omega) (cj (rng_get _ h1) (cj (laws_markText_ok v1 r1 h3) (cj rfl (cj (nf h4) (cj (by omega) (cj (rng_get _ h1) (cj h5 (cj (by omega) (cj (rng_get _ h1) (cj1 h6))))))))))))))) (fun h6 =>
         Pn.ite (fun h7 =>
          Pn.some (LpO.out [.wait 3, .nm 8 (V.sc (.int .i64 (o.length : Int))), .bit true, .draw [], .el (E48 x1), .call [] (E9 r1) [], .bit false, .el (E48 x1), .bit false, .el (E48 x1), .bit false, .el (E48 x1), .bit true, .wait 1, .mask [4], .ren []] (p := [V.sc (.int .i64 ((List.map E48 o).length : Int)) = V.sc (.int .i64 (o.length : Int)),
           (decide ((p1.length : Int) < (o.length : Int))) = true,
           (0 : Int) ≤ (p1.length : Int),
           (List.map E48 o)[(p1.length : Int).toNat]? = some (E48 x1),
           Fn Tryz.prog 90 [(false, E3 v1)] (E9 r1) [],
           (true || ((E9 r1).nv && nvL [])) = true,
           (!(x1.Id == r1)) = false,
           (0 : Int) ≤ (p1.length : Int),
           (List.map E48 o)[(p1.length : Int).toNat]? = some (E48 x1),
           (x1.Limit != (i64 (v1 + 1))) = false,
           (0 : Int) ≤ (p1.length : Int),
           (List.map E48 o)[(p1.length : Int).toNat]? = some (E48 x1),
           (x1.Posted != (i64 ((i64 (v1 + 1)) + 1))) = false,
           (0 : Int) ≤ (p1.length : Int),
           (List.map E48 o)[(p1.length : Int).toNat]? = some (E48 x1),
           (x1.Most != (i64 ((i64 ((i64 (v1 + 1)) + 1)) + 1))) = true]) (by kernel_rfl) (show X.ret ≠ X.go from nofun) (cj (len_nm _ _) (cj (rng_lt h1) (cj (by omega) (cj (rng_get _ h1) (cj (laws_markText_ok v1 r1 h3) (cj rfl (cj (nf h4) (cj (by omega) (cj (rng_get _ h1) (cj h5 (cj (by omega) (cj (rng_get _ h1) (cj h6 (cj (by omega) (cj (rng_get _ h1) (cj1 h7)))))))))))))))))) (fun h7 =>
          Pn.ite (fun h8 =>
           Pn.some (LpO.out [.wait 3, .nm 8 (V.sc (.int .i64 (o.length : Int))), .bit true, .draw [], .el (E48 x1), .call [] (E9 r1) [], .bit false, .el (E48 x1), .bit false, .el (E48 x1), .bit false, .el (E48 x1), .bit false, .el (E48 x1), .bit true, .wait 1, .mask [4], .ren []] (p := [V.sc (.int .i64 ((List.map E48 o).length : Int)) = V.sc (.int .i64 (o.length : Int)),
            (decide ((p1.length : Int) < (o.length : Int))) = true,
            (0 : Int) ≤ (p1.length : Int),
            (List.map E48 o)[(p1.length : Int).toNat]? = some (E48 x1),
            Fn Tryz.prog 90 [(false, E3 v1)] (E9 r1) [],
            (true || ((E9 r1).nv && nvL [])) = true,
            (!(x1.Id == r1)) = false,
            (0 : Int) ≤ (p1.length : Int),
            (List.map E48 o)[(p1.length : Int).toNat]? = some (E48 x1),
            (x1.Limit != (i64 (v1 + 1))) = false,
            (0 : Int) ≤ (p1.length : Int),
            (List.map E48 o)[(p1.length : Int).toNat]? = some (E48 x1),
            (x1.Posted != (i64 ((i64 (v1 + 1)) + 1))) = false,
            (0 : Int) ≤ (p1.length : Int),
            (List.map E48 o)[(p1.length : Int).toNat]? = some (E48 x1),
            (x1.Most != (i64 ((i64 ((i64 (v1 + 1)) + 1)) + 1))) = false,
            (0 : Int) ≤ (p1.length : Int),
            (List.map E48 o)[(p1.length : Int).toNat]? = some (E48 x1),
            (x1.MostSum != (i64 ((i64 ((i64 ((i64 (v1 + 1)) + 1)) + 1)) + 1))) = true]) (by kernel_rfl) (show X.ret ≠ X.go from nofun) (cj (len_nm _ _) (cj (rng_lt h1) (cj (by omega) (cj (rng_get _ h1) (cj (laws_markText_ok v1 r1 h3) (cj rfl (cj (nf h4) (cj (by omega) (cj (rng_get _ h1) (cj h5 (cj (by omega) (cj (rng_get _ h1) (cj h6 (cj (by omega) (cj (rng_get _ h1) (cj h7 (cj (by omega) (cj (rng_get _ h1) (cj1 h8))))))))))))))))))))) (fun h8 =>
           Pn.bind (fun r2 h9 =>
            Pn.ite (fun h10 =>
             Pn.some (LpO.out [.wait 3, .nm 8 (V.sc (.int .i64 (o.length : Int))), .bit true, .draw [], .el (E48 x1), .call [] (E9 r1) [], .bit false, .el (E48 x1), .bit false, .el (E48 x1), .bit false, .el (E48 x1), .bit false, .el (E48 x1), .bit false, .el (E48 x1), .call [] (E3 r2) [], .bit true, .wait 1, .mask [4], .ren []] (p := [V.sc (.int .i64 ((List.map E48 o).length : Int)) = V.sc (.int .i64 (o.length : Int)),
              (decide ((p1.length : Int) < (o.length : Int))) = true,
              (0 : Int) ≤ (p1.length : Int),
              (List.map E48 o)[(p1.length : Int).toNat]? = some (E48 x1),
              Fn Tryz.prog 90 [(false, E3 v1)] (E9 r1) [],
              (true || ((E9 r1).nv && nvL [])) = true,
              (!(x1.Id == r1)) = false,
              (0 : Int) ≤ (p1.length : Int),
              (List.map E48 o)[(p1.length : Int).toNat]? = some (E48 x1),
              (x1.Limit != (i64 (v1 + 1))) = false,
              (0 : Int) ≤ (p1.length : Int),
              (List.map E48 o)[(p1.length : Int).toNat]? = some (E48 x1),
              (x1.Posted != (i64 ((i64 (v1 + 1)) + 1))) = false,
              (0 : Int) ≤ (p1.length : Int),
              (List.map E48 o)[(p1.length : Int).toNat]? = some (E48 x1),
              (x1.Most != (i64 ((i64 ((i64 (v1 + 1)) + 1)) + 1))) = false,
              (0 : Int) ≤ (p1.length : Int),
              (List.map E48 o)[(p1.length : Int).toNat]? = some (E48 x1),
              (x1.MostSum != (i64 ((i64 ((i64 ((i64 (v1 + 1)) + 1)) + 1)) + 1))) = false,
              (0 : Int) ≤ (p1.length : Int),
              (List.map E48 o)[(p1.length : Int).toNat]? = some (E48 x1),
              Fn Tryz.prog 92 [(false, E44 x1.Holds), (false, E3 (i64 ((i64 ((i64 ((i64 ((i64 (v1 + 1)) + 1)) + 1)) + 1)) + 1)))] (E3 r2) [],
              (true || ((E3 r2).nv && nvL [])) = true,
              (decide (r2 < 0)) = true]) (by kernel_rfl) (show X.ret ≠ X.go from nofun) (cj (len_nm _ _) (cj (rng_lt h1) (cj (by omega) (cj (rng_get _ h1) (cj (laws_markText_ok v1 r1 h3) (cj rfl (cj (nf h4) (cj (by omega) (cj (rng_get _ h1) (cj h5 (cj (by omega) (cj (rng_get _ h1) (cj h6 (cj (by omega) (cj (rng_get _ h1) (cj h7 (cj (by omega) (cj (rng_get _ h1) (cj h8 (cj (by omega) (cj (rng_get _ h1) (cj (laws_heldHoldS_ok x1.Holds (i64 ((i64 ((i64 ((i64 ((i64 (v1 + 1)) + 1)) + 1)) + 1)) + 1)) r2 h9) (cj rfl (cj1 h10)))))))))))))))))))))))))) (fun h10 =>
             Pn.ite (fun h11 =>
              Pn.some (LpO.out [.wait 3, .nm 8 (V.sc (.int .i64 (o.length : Int))), .bit true, .draw [], .el (E48 x1), .call [] (E9 r1) [], .bit false, .el (E48 x1), .bit false, .el (E48 x1), .bit false, .el (E48 x1), .bit false, .el (E48 x1), .bit false, .el (E48 x1), .call [] (E3 r2) [], .bit false, .el (E48 x1), .bit true, .wait 1, .mask [4], .ren []] (p := [V.sc (.int .i64 ((List.map E48 o).length : Int)) = V.sc (.int .i64 (o.length : Int)),
               (decide ((p1.length : Int) < (o.length : Int))) = true,
               (0 : Int) ≤ (p1.length : Int),
               (List.map E48 o)[(p1.length : Int).toNat]? = some (E48 x1),
               Fn Tryz.prog 90 [(false, E3 v1)] (E9 r1) [],
               (true || ((E9 r1).nv && nvL [])) = true,
               (!(x1.Id == r1)) = false,
               (0 : Int) ≤ (p1.length : Int),
               (List.map E48 o)[(p1.length : Int).toNat]? = some (E48 x1),
               (x1.Limit != (i64 (v1 + 1))) = false,
               (0 : Int) ≤ (p1.length : Int),
               (List.map E48 o)[(p1.length : Int).toNat]? = some (E48 x1),
               (x1.Posted != (i64 ((i64 (v1 + 1)) + 1))) = false,
               (0 : Int) ≤ (p1.length : Int),
               (List.map E48 o)[(p1.length : Int).toNat]? = some (E48 x1),
               (x1.Most != (i64 ((i64 ((i64 (v1 + 1)) + 1)) + 1))) = false,
               (0 : Int) ≤ (p1.length : Int),
               (List.map E48 o)[(p1.length : Int).toNat]? = some (E48 x1),
               (x1.MostSum != (i64 ((i64 ((i64 ((i64 (v1 + 1)) + 1)) + 1)) + 1))) = false,
               (0 : Int) ≤ (p1.length : Int),
               (List.map E48 o)[(p1.length : Int).toNat]? = some (E48 x1),
               Fn Tryz.prog 92 [(false, E44 x1.Holds), (false, E3 (i64 ((i64 ((i64 ((i64 ((i64 (v1 + 1)) + 1)) + 1)) + 1)) + 1)))] (E3 r2) [],
               (true || ((E3 r2).nv && nvL [])) = true,
               (decide (r2 < 0)) = false,
               (0 : Int) ≤ (p1.length : Int),
               (List.map E48 o)[(p1.length : Int).toNat]? = some (E48 x1),
               (x1.Ring.Span != r2) = true]) (by kernel_rfl) (show X.ret ≠ X.go from nofun) (cj (len_nm _ _) (cj (rng_lt h1) (cj (by omega) (cj (rng_get _ h1) (cj (laws_markText_ok v1 r1 h3) (cj rfl (cj (nf h4) (cj (by omega) (cj (rng_get _ h1) (cj h5 (cj (by omega) (cj (rng_get _ h1) (cj h6 (cj (by omega) (cj (rng_get _ h1) (cj h7 (cj (by omega) (cj (rng_get _ h1) (cj h8 (cj (by omega) (cj (rng_get _ h1) (cj (laws_heldHoldS_ok x1.Holds (i64 ((i64 ((i64 ((i64 ((i64 (v1 + 1)) + 1)) + 1)) + 1)) + 1)) r2 h9) (cj rfl (cj h10 (cj (by omega) (cj (rng_get _ h1) (cj1 h11))))))))))))))))))))))))))))) (fun h11 =>
              Pn.ite (fun h12 =>
               Pn.some (LpO.out [.wait 3, .nm 8 (V.sc (.int .i64 (o.length : Int))), .bit true, .draw [], .el (E48 x1), .call [] (E9 r1) [], .bit false, .el (E48 x1), .bit false, .el (E48 x1), .bit false, .el (E48 x1), .bit false, .el (E48 x1), .bit false, .el (E48 x1), .call [] (E3 r2) [], .bit false, .el (E48 x1), .bit false, .el (E48 x1), .bit true, .wait 1, .mask [4], .ren []] (p := [V.sc (.int .i64 ((List.map E48 o).length : Int)) = V.sc (.int .i64 (o.length : Int)),
                (decide ((p1.length : Int) < (o.length : Int))) = true,
                (0 : Int) ≤ (p1.length : Int),
                (List.map E48 o)[(p1.length : Int).toNat]? = some (E48 x1),
                Fn Tryz.prog 90 [(false, E3 v1)] (E9 r1) [],
                (true || ((E9 r1).nv && nvL [])) = true,
                (!(x1.Id == r1)) = false,
                (0 : Int) ≤ (p1.length : Int),
                (List.map E48 o)[(p1.length : Int).toNat]? = some (E48 x1),
                (x1.Limit != (i64 (v1 + 1))) = false,
                (0 : Int) ≤ (p1.length : Int),
                (List.map E48 o)[(p1.length : Int).toNat]? = some (E48 x1),
                (x1.Posted != (i64 ((i64 (v1 + 1)) + 1))) = false,
                (0 : Int) ≤ (p1.length : Int),
                (List.map E48 o)[(p1.length : Int).toNat]? = some (E48 x1),
                (x1.Most != (i64 ((i64 ((i64 (v1 + 1)) + 1)) + 1))) = false,
                (0 : Int) ≤ (p1.length : Int),
                (List.map E48 o)[(p1.length : Int).toNat]? = some (E48 x1),
                (x1.MostSum != (i64 ((i64 ((i64 ((i64 (v1 + 1)) + 1)) + 1)) + 1))) = false,
                (0 : Int) ≤ (p1.length : Int),
                (List.map E48 o)[(p1.length : Int).toNat]? = some (E48 x1),
                Fn Tryz.prog 92 [(false, E44 x1.Holds), (false, E3 (i64 ((i64 ((i64 ((i64 ((i64 (v1 + 1)) + 1)) + 1)) + 1)) + 1)))] (E3 r2) [],
                (true || ((E3 r2).nv && nvL [])) = true,
                (decide (r2 < 0)) = false,
                (0 : Int) ≤ (p1.length : Int),
                (List.map E48 o)[(p1.length : Int).toNat]? = some (E48 x1),
                (x1.Ring.Span != r2) = false,
                (0 : Int) ≤ (p1.length : Int),
                (List.map E48 o)[(p1.length : Int).toNat]? = some (E48 x1),
                (x1.Ring.Head != (i64 (r2 + 1))) = true]) (by kernel_rfl) (show X.ret ≠ X.go from nofun) (cj (len_nm _ _) (cj (rng_lt h1) (cj (by omega) (cj (rng_get _ h1) (cj (laws_markText_ok v1 r1 h3) (cj rfl (cj (nf h4) (cj (by omega) (cj (rng_get _ h1) (cj h5 (cj (by omega) (cj (rng_get _ h1) (cj h6 (cj (by omega) (cj (rng_get _ h1) (cj h7 (cj (by omega) (cj (rng_get _ h1) (cj h8 (cj (by omega) (cj (rng_get _ h1) (cj (laws_heldHoldS_ok x1.Holds (i64 ((i64 ((i64 ((i64 ((i64 (v1 + 1)) + 1)) + 1)) + 1)) + 1)) r2 h9) (cj rfl (cj h10 (cj (by omega) (cj (rng_get _ h1) (cj h11 (cj (by omega) (cj (rng_get _ h1) (cj1 h12)))))))))))))))))))))))))))))))) (fun h12 =>
               Pn.bind (fun r3 h13 =>
                Pn.ite (fun h14 =>
                 Pn.some (LpO.out [.wait 3, .nm 8 (V.sc (.int .i64 (o.length : Int))), .bit true, .draw [], .el (E48 x1), .call [] (E9 r1) [], .bit false, .el (E48 x1), .bit false, .el (E48 x1), .bit false, .el (E48 x1), .bit false, .el (E48 x1), .bit false, .el (E48 x1), .call [] (E3 r2) [], .bit false, .el (E48 x1), .bit false, .el (E48 x1), .bit false, .el (E48 x1), .call [] (E3 r3) [], .bit true, .wait 1, .mask [4], .ren []] (p := [V.sc (.int .i64 ((List.map E48 o).length : Int)) = V.sc (.int .i64 (o.length : Int)),
                  (decide ((p1.length : Int) < (o.length : Int))) = true,
                  (0 : Int) ≤ (p1.length : Int),
                  (List.map E48 o)[(p1.length : Int).toNat]? = some (E48 x1),
                  Fn Tryz.prog 90 [(false, E3 v1)] (E9 r1) [],
                  (true || ((E9 r1).nv && nvL [])) = true,
                  (!(x1.Id == r1)) = false,
                  (0 : Int) ≤ (p1.length : Int),
                  (List.map E48 o)[(p1.length : Int).toNat]? = some (E48 x1),
                  (x1.Limit != (i64 (v1 + 1))) = false,
                  (0 : Int) ≤ (p1.length : Int),
                  (List.map E48 o)[(p1.length : Int).toNat]? = some (E48 x1),
                  (x1.Posted != (i64 ((i64 (v1 + 1)) + 1))) = false,
                  (0 : Int) ≤ (p1.length : Int),
                  (List.map E48 o)[(p1.length : Int).toNat]? = some (E48 x1),
                  (x1.Most != (i64 ((i64 ((i64 (v1 + 1)) + 1)) + 1))) = false,
                  (0 : Int) ≤ (p1.length : Int),
                  (List.map E48 o)[(p1.length : Int).toNat]? = some (E48 x1),
                  (x1.MostSum != (i64 ((i64 ((i64 ((i64 (v1 + 1)) + 1)) + 1)) + 1))) = false,
                  (0 : Int) ≤ (p1.length : Int),
                  (List.map E48 o)[(p1.length : Int).toNat]? = some (E48 x1),
                  Fn Tryz.prog 92 [(false, E44 x1.Holds), (false, E3 (i64 ((i64 ((i64 ((i64 ((i64 (v1 + 1)) + 1)) + 1)) + 1)) + 1)))] (E3 r2) [],
                  (true || ((E3 r2).nv && nvL [])) = true,
                  (decide (r2 < 0)) = false,
                  (0 : Int) ≤ (p1.length : Int),
                  (List.map E48 o)[(p1.length : Int).toNat]? = some (E48 x1),
                  (x1.Ring.Span != r2) = false,
                  (0 : Int) ≤ (p1.length : Int),
                  (List.map E48 o)[(p1.length : Int).toNat]? = some (E48 x1),
                  (x1.Ring.Head != (i64 (r2 + 1))) = false,
                  (0 : Int) ≤ (p1.length : Int),
                  (List.map E48 o)[(p1.length : Int).toNat]? = some (E48 x1),
                  Fn Tryz.prog 93 [(false, E35 x1.Ring.Counts), (false, E3 (i64 ((i64 (r2 + 1)) + 1)))] (E3 r3) [],
                  (true || ((E3 r3).nv && nvL [])) = true,
                  (decide (r3 < 0)) = true]) (by kernel_rfl) (show X.ret ≠ X.go from nofun) (cj (len_nm _ _) (cj (rng_lt h1) (cj (by omega) (cj (rng_get _ h1) (cj (laws_markText_ok v1 r1 h3) (cj rfl (cj (nf h4) (cj (by omega) (cj (rng_get _ h1) (cj h5 (cj (by omega) (cj (rng_get _ h1) (cj h6 (cj (by omega) (cj (rng_get _ h1) (cj h7 (cj (by omega) (cj (rng_get _ h1) (cj h8 (cj (by omega) (cj (rng_get _ h1) (cj (laws_heldHoldS_ok x1.Holds (i64 ((i64 ((i64 ((i64 ((i64 (v1 + 1)) + 1)) + 1)) + 1)) + 1)) r2 h9) (cj rfl (cj h10 (cj (by omega) (cj (rng_get _ h1) (cj h11 (cj (by omega) (cj (rng_get _ h1) (cj h12 (cj (by omega) (cj (rng_get _ h1) (cj (laws_heldIntS_ok x1.Ring.Counts (i64 ((i64 (r2 + 1)) + 1)) r3 h13) (cj rfl (cj1 h14))))))))))))))))))))))))))))))))))))) (fun h14 =>
                 Pn.bind (fun r4 h15 =>
                  Pn.ite (fun h16 =>
                   Pn.some (LpO.out [.wait 3, .nm 8 (V.sc (.int .i64 (o.length : Int))), .bit true, .draw [], .el (E48 x1), .call [] (E9 r1) [], .bit false, .el (E48 x1), .bit false, .el (E48 x1), .bit false, .el (E48 x1), .bit false, .el (E48 x1), .bit false, .el (E48 x1), .call [] (E3 r2) [], .bit false, .el (E48 x1), .bit false, .el (E48 x1), .bit false, .el (E48 x1), .call [] (E3 r3) [], .bit false, .el (E48 x1), .call [] (E3 r4) [], .bit true, .wait 1, .mask [4], .ren []] (p := [V.sc (.int .i64 ((List.map E48 o).length : Int)) = V.sc (.int .i64 (o.length : Int)),
                    (decide ((p1.length : Int) < (o.length : Int))) = true,
                    (0 : Int) ≤ (p1.length : Int),
                    (List.map E48 o)[(p1.length : Int).toNat]? = some (E48 x1),
                    Fn Tryz.prog 90 [(false, E3 v1)] (E9 r1) [],
                    (true || ((E9 r1).nv && nvL [])) = true,
                    (!(x1.Id == r1)) = false,
                    (0 : Int) ≤ (p1.length : Int),
                    (List.map E48 o)[(p1.length : Int).toNat]? = some (E48 x1),
                    (x1.Limit != (i64 (v1 + 1))) = false,
                    (0 : Int) ≤ (p1.length : Int),
                    (List.map E48 o)[(p1.length : Int).toNat]? = some (E48 x1),
                    (x1.Posted != (i64 ((i64 (v1 + 1)) + 1))) = false,
                    (0 : Int) ≤ (p1.length : Int),
                    (List.map E48 o)[(p1.length : Int).toNat]? = some (E48 x1),
                    (x1.Most != (i64 ((i64 ((i64 (v1 + 1)) + 1)) + 1))) = false,
                    (0 : Int) ≤ (p1.length : Int),
                    (List.map E48 o)[(p1.length : Int).toNat]? = some (E48 x1),
                    (x1.MostSum != (i64 ((i64 ((i64 ((i64 (v1 + 1)) + 1)) + 1)) + 1))) = false,
                    (0 : Int) ≤ (p1.length : Int),
                    (List.map E48 o)[(p1.length : Int).toNat]? = some (E48 x1),
                    Fn Tryz.prog 92 [(false, E44 x1.Holds), (false, E3 (i64 ((i64 ((i64 ((i64 ((i64 (v1 + 1)) + 1)) + 1)) + 1)) + 1)))] (E3 r2) [],
                    (true || ((E3 r2).nv && nvL [])) = true,
                    (decide (r2 < 0)) = false,
                    (0 : Int) ≤ (p1.length : Int),
                    (List.map E48 o)[(p1.length : Int).toNat]? = some (E48 x1),
                    (x1.Ring.Span != r2) = false,
                    (0 : Int) ≤ (p1.length : Int),
                    (List.map E48 o)[(p1.length : Int).toNat]? = some (E48 x1),
                    (x1.Ring.Head != (i64 (r2 + 1))) = false,
                    (0 : Int) ≤ (p1.length : Int),
                    (List.map E48 o)[(p1.length : Int).toNat]? = some (E48 x1),
                    Fn Tryz.prog 93 [(false, E35 x1.Ring.Counts), (false, E3 (i64 ((i64 (r2 + 1)) + 1)))] (E3 r3) [],
                    (true || ((E3 r3).nv && nvL [])) = true,
                    (decide (r3 < 0)) = false,
                    (0 : Int) ≤ (p1.length : Int),
                    (List.map E48 o)[(p1.length : Int).toNat]? = some (E48 x1),
                    Fn Tryz.prog 93 [(false, E35 x1.Ring.Sums), (false, E3 r3)] (E3 r4) [],
                    (true || ((E3 r4).nv && nvL [])) = true,
                    (decide (r4 < 0)) = true]) (by kernel_rfl) (show X.ret ≠ X.go from nofun) (cj (len_nm _ _) (cj (rng_lt h1) (cj (by omega) (cj (rng_get _ h1) (cj (laws_markText_ok v1 r1 h3) (cj rfl (cj (nf h4) (cj (by omega) (cj (rng_get _ h1) (cj h5 (cj (by omega) (cj (rng_get _ h1) (cj h6 (cj (by omega) (cj (rng_get _ h1) (cj h7 (cj (by omega) (cj (rng_get _ h1) (cj h8 (cj (by omega) (cj (rng_get _ h1) (cj (laws_heldHoldS_ok x1.Holds (i64 ((i64 ((i64 ((i64 ((i64 (v1 + 1)) + 1)) + 1)) + 1)) + 1)) r2 h9) (cj rfl (cj h10 (cj (by omega) (cj (rng_get _ h1) (cj h11 (cj (by omega) (cj (rng_get _ h1) (cj h12 (cj (by omega) (cj (rng_get _ h1) (cj (laws_heldIntS_ok x1.Ring.Counts (i64 ((i64 (r2 + 1)) + 1)) r3 h13) (cj rfl (cj h14 (cj (by omega) (cj (rng_get _ h1) (cj (laws_heldIntS_ok x1.Ring.Sums r3 r4 h15) (cj rfl (cj1 h16)))))))))))))))))))))))))))))))))))))))))) (fun h16 =>
                   Pn.bind (fun r5 h17 =>
                    Pn.ite (fun h18 =>
                     Pn.some (LpO.out [.wait 3, .nm 8 (V.sc (.int .i64 (o.length : Int))), .bit true, .draw [], .el (E48 x1), .call [] (E9 r1) [], .bit false, .el (E48 x1), .bit false, .el (E48 x1), .bit false, .el (E48 x1), .bit false, .el (E48 x1), .bit false, .el (E48 x1), .call [] (E3 r2) [], .bit false, .el (E48 x1), .bit false, .el (E48 x1), .bit false, .el (E48 x1), .call [] (E3 r3) [], .bit false, .el (E48 x1), .call [] (E3 r4) [], .bit false, .el (E48 x1), .call [] (E3 r5) [], .bit true, .wait 1, .mask [4], .ren []] (p := [V.sc (.int .i64 ((List.map E48 o).length : Int)) = V.sc (.int .i64 (o.length : Int)),
                      (decide ((p1.length : Int) < (o.length : Int))) = true,
                      (0 : Int) ≤ (p1.length : Int),
                      (List.map E48 o)[(p1.length : Int).toNat]? = some (E48 x1),
                      Fn Tryz.prog 90 [(false, E3 v1)] (E9 r1) [],
                      (true || ((E9 r1).nv && nvL [])) = true,
                      (!(x1.Id == r1)) = false,
                      (0 : Int) ≤ (p1.length : Int),
                      (List.map E48 o)[(p1.length : Int).toNat]? = some (E48 x1),
                      (x1.Limit != (i64 (v1 + 1))) = false,
                      (0 : Int) ≤ (p1.length : Int),
                      (List.map E48 o)[(p1.length : Int).toNat]? = some (E48 x1),
                      (x1.Posted != (i64 ((i64 (v1 + 1)) + 1))) = false,
                      (0 : Int) ≤ (p1.length : Int),
                      (List.map E48 o)[(p1.length : Int).toNat]? = some (E48 x1),
                      (x1.Most != (i64 ((i64 ((i64 (v1 + 1)) + 1)) + 1))) = false,
                      (0 : Int) ≤ (p1.length : Int),
                      (List.map E48 o)[(p1.length : Int).toNat]? = some (E48 x1),
                      (x1.MostSum != (i64 ((i64 ((i64 ((i64 (v1 + 1)) + 1)) + 1)) + 1))) = false,
                      (0 : Int) ≤ (p1.length : Int),
                      (List.map E48 o)[(p1.length : Int).toNat]? = some (E48 x1),
                      Fn Tryz.prog 92 [(false, E44 x1.Holds), (false, E3 (i64 ((i64 ((i64 ((i64 ((i64 (v1 + 1)) + 1)) + 1)) + 1)) + 1)))] (E3 r2) [],
                      (true || ((E3 r2).nv && nvL [])) = true,
                      (decide (r2 < 0)) = false,
                      (0 : Int) ≤ (p1.length : Int),
                      (List.map E48 o)[(p1.length : Int).toNat]? = some (E48 x1),
                      (x1.Ring.Span != r2) = false,
                      (0 : Int) ≤ (p1.length : Int),
                      (List.map E48 o)[(p1.length : Int).toNat]? = some (E48 x1),
                      (x1.Ring.Head != (i64 (r2 + 1))) = false,
                      (0 : Int) ≤ (p1.length : Int),
                      (List.map E48 o)[(p1.length : Int).toNat]? = some (E48 x1),
                      Fn Tryz.prog 93 [(false, E35 x1.Ring.Counts), (false, E3 (i64 ((i64 (r2 + 1)) + 1)))] (E3 r3) [],
                      (true || ((E3 r3).nv && nvL [])) = true,
                      (decide (r3 < 0)) = false,
                      (0 : Int) ≤ (p1.length : Int),
                      (List.map E48 o)[(p1.length : Int).toNat]? = some (E48 x1),
                      Fn Tryz.prog 93 [(false, E35 x1.Ring.Sums), (false, E3 r3)] (E3 r4) [],
                      (true || ((E3 r4).nv && nvL [])) = true,
                      (decide (r4 < 0)) = false,
                      (0 : Int) ≤ (p1.length : Int),
                      (List.map E48 o)[(p1.length : Int).toNat]? = some (E48 x1),
                      Fn Tryz.prog 94 [(false, E46 x1.Slots), (false, E3 r4)] (E3 r5) [],
                      (true || ((E3 r5).nv && nvL [])) = true,
                      (decide (r5 < 0)) = true]) (by kernel_rfl) (show X.ret ≠ X.go from nofun) (cj (len_nm _ _) (cj (rng_lt h1) (cj (by omega) (cj (rng_get _ h1) (cj (laws_markText_ok v1 r1 h3) (cj rfl (cj (nf h4) (cj (by omega) (cj (rng_get _ h1) (cj h5 (cj (by omega) (cj (rng_get _ h1) (cj h6 (cj (by omega) (cj (rng_get _ h1) (cj h7 (cj (by omega) (cj (rng_get _ h1) (cj h8 (cj (by omega) (cj (rng_get _ h1) (cj (laws_heldHoldS_ok x1.Holds (i64 ((i64 ((i64 ((i64 ((i64 (v1 + 1)) + 1)) + 1)) + 1)) + 1)) r2 h9) (cj rfl (cj h10 (cj (by omega) (cj (rng_get _ h1) (cj h11 (cj (by omega) (cj (rng_get _ h1) (cj h12 (cj (by omega) (cj (rng_get _ h1) (cj (laws_heldIntS_ok x1.Ring.Counts (i64 ((i64 (r2 + 1)) + 1)) r3 h13) (cj rfl (cj h14 (cj (by omega) (cj (rng_get _ h1) (cj (laws_heldIntS_ok x1.Ring.Sums r3 r4 h15) (cj rfl (cj h16 (cj (by omega) (cj (rng_get _ h1) (cj (laws_heldSlotS_ok x1.Slots r4 r5 h17) (cj rfl (cj1 h18))))))))))))))))))))))))))))))))))))))))))))))) (fun h18 =>
                     LpO.go [.wait 3, .nm 8 (V.sc (.int .i64 (o.length : Int))), .bit true, .draw [], .el (E48 x1), .call [] (E9 r1) [], .bit false, .el (E48 x1), .bit false, .el (E48 x1), .bit false, .el (E48 x1), .bit false, .el (E48 x1), .bit false, .el (E48 x1), .call [] (E3 r2) [], .bit false, .el (E48 x1), .bit false, .el (E48 x1), .bit false, .el (E48 x1), .call [] (E3 r3) [], .bit false, .el (E48 x1), .call [] (E3 r4) [], .bit false, .el (E48 x1), .call [] (E3 r5) [], .bit false, .wait 3, .mask [0, 1, 5], .ren [], .nm 5 (V.sc (.int .i64 ((p1 ++ [x1]).length : Int)))] (p := [V.sc (.int .i64 ((List.map E48 o).length : Int)) = V.sc (.int .i64 (o.length : Int)),
                      (decide ((p1.length : Int) < (o.length : Int))) = true,
                      (0 : Int) ≤ (p1.length : Int),
                      (List.map E48 o)[(p1.length : Int).toNat]? = some (E48 x1),
                      Fn Tryz.prog 90 [(false, E3 v1)] (E9 r1) [],
                      (true || ((E9 r1).nv && nvL [])) = true,
                      (!(x1.Id == r1)) = false,
                      (0 : Int) ≤ (p1.length : Int),
                      (List.map E48 o)[(p1.length : Int).toNat]? = some (E48 x1),
                      (x1.Limit != (i64 (v1 + 1))) = false,
                      (0 : Int) ≤ (p1.length : Int),
                      (List.map E48 o)[(p1.length : Int).toNat]? = some (E48 x1),
                      (x1.Posted != (i64 ((i64 (v1 + 1)) + 1))) = false,
                      (0 : Int) ≤ (p1.length : Int),
                      (List.map E48 o)[(p1.length : Int).toNat]? = some (E48 x1),
                      (x1.Most != (i64 ((i64 ((i64 (v1 + 1)) + 1)) + 1))) = false,
                      (0 : Int) ≤ (p1.length : Int),
                      (List.map E48 o)[(p1.length : Int).toNat]? = some (E48 x1),
                      (x1.MostSum != (i64 ((i64 ((i64 ((i64 (v1 + 1)) + 1)) + 1)) + 1))) = false,
                      (0 : Int) ≤ (p1.length : Int),
                      (List.map E48 o)[(p1.length : Int).toNat]? = some (E48 x1),
                      Fn Tryz.prog 92 [(false, E44 x1.Holds), (false, E3 (i64 ((i64 ((i64 ((i64 ((i64 (v1 + 1)) + 1)) + 1)) + 1)) + 1)))] (E3 r2) [],
                      (true || ((E3 r2).nv && nvL [])) = true,
                      (decide (r2 < 0)) = false,
                      (0 : Int) ≤ (p1.length : Int),
                      (List.map E48 o)[(p1.length : Int).toNat]? = some (E48 x1),
                      (x1.Ring.Span != r2) = false,
                      (0 : Int) ≤ (p1.length : Int),
                      (List.map E48 o)[(p1.length : Int).toNat]? = some (E48 x1),
                      (x1.Ring.Head != (i64 (r2 + 1))) = false,
                      (0 : Int) ≤ (p1.length : Int),
                      (List.map E48 o)[(p1.length : Int).toNat]? = some (E48 x1),
                      Fn Tryz.prog 93 [(false, E35 x1.Ring.Counts), (false, E3 (i64 ((i64 (r2 + 1)) + 1)))] (E3 r3) [],
                      (true || ((E3 r3).nv && nvL [])) = true,
                      (decide (r3 < 0)) = false,
                      (0 : Int) ≤ (p1.length : Int),
                      (List.map E48 o)[(p1.length : Int).toNat]? = some (E48 x1),
                      Fn Tryz.prog 93 [(false, E35 x1.Ring.Sums), (false, E3 r3)] (E3 r4) [],
                      (true || ((E3 r4).nv && nvL [])) = true,
                      (decide (r4 < 0)) = false,
                      (0 : Int) ≤ (p1.length : Int),
                      (List.map E48 o)[(p1.length : Int).toNat]? = some (E48 x1),
                      Fn Tryz.prog 94 [(false, E46 x1.Slots), (false, E3 r4)] (E3 r5) [],
                      (true || ((E3 r5).nv && nvL [])) = true,
                      (decide (r5 < 0)) = false,
                      V.sc (.int .i64 (i64 ((p1.length : Int) + 1))) = V.sc (.int .i64 ((p1 ++ [x1]).length : Int))]) (by kernel_rfl) (cj (len_nm _ _) (cj (rng_lt h1) (cj (by omega) (cj (rng_get _ h1) (cj (laws_markText_ok v1 r1 h3) (cj rfl (cj (nf h4) (cj (by omega) (cj (rng_get _ h1) (cj h5 (cj (by omega) (cj (rng_get _ h1) (cj h6 (cj (by omega) (cj (rng_get _ h1) (cj h7 (cj (by omega) (cj (rng_get _ h1) (cj h8 (cj (by omega) (cj (rng_get _ h1) (cj (laws_heldHoldS_ok x1.Holds (i64 ((i64 ((i64 ((i64 ((i64 (v1 + 1)) + 1)) + 1)) + 1)) + 1)) r2 h9) (cj rfl (cj h10 (cj (by omega) (cj (rng_get _ h1) (cj h11 (cj (by omega) (cj (rng_get _ h1) (cj h12 (cj (by omega) (cj (rng_get _ h1) (cj (laws_heldIntS_ok x1.Ring.Counts (i64 ((i64 (r2 + 1)) + 1)) r3 h13) (cj rfl (cj h14 (cj (by omega) (cj (rng_get _ h1) (cj (laws_heldIntS_ok x1.Ring.Sums r3 r4 h15) (cj rfl (cj h16 (cj (by omega) (cj (rng_get _ h1) (cj (laws_heldSlotS_ok x1.Slots r4 r5 h17) (cj rfl (cj h18 (cj1 (rng_next h1 h2))))))))))))))))))))))))))))))))))))))))))))))) (laws_heldAcctS_l0_ok o h2 t1 (p1 ++ [x1]) (rng_step h1) r5)))))))))))))))) (fun h4 =>
       Pn.some (LpO.out [.wait 3, .nm 8 (V.sc (.int .i64 (o.length : Int))), .bit true, .draw [], .el (E48 x1), .call [] (E9 r1) [], .bit true, .wait 1, .mask [4], .ren []] (p := [V.sc (.int .i64 ((List.map E48 o).length : Int)) = V.sc (.int .i64 (o.length : Int)),
        (decide ((p1.length : Int) < (o.length : Int))) = true,
        (0 : Int) ≤ (p1.length : Int),
        (List.map E48 o)[(p1.length : Int).toNat]? = some (E48 x1),
        Fn Tryz.prog 90 [(false, E3 v1)] (E9 r1) [],
        (true || ((E9 r1).nv && nvL [])) = true,
        (!(x1.Id == r1)) = true]) (by kernel_rfl) (show X.ret ≠ X.go from nofun) (cj (len_nm _ _) (cj (rng_lt h1) (cj (by omega) (cj (rng_get _ h1) (cj (laws_markText_ok v1 r1 h3) (cj rfl (cj1 (nt h4)))))))))))
def laws_heldAcctS (o : List Acct) (o_ : Int) : Option (Int) :=
 if (capOk o.length) = true then
  (laws_heldAcctS_l0 o o o_).bind fun r6 =>
  Lo.elim r6 (fun s1 =>
   some s1) (fun s2 =>
   some (-1))
 else none
theorem laws_heldAcctS_ok (o : List Acct) (o_ : Int) : Pn (fun y => Fn Tryz.prog 46 [(false, E26 o), (false, E3 o_)] (E3 y) []) (laws_heldAcctS o o_) := by
  unfold laws_heldAcctS
  exact
   Pn.ite (fun h19 =>
    Pn.bind (fun r6 h20 =>
     Pn.lo (fun s1 h21 =>
      Pn.some (Fn.of [.wait 3, .mask [0, 1, 5], .ren [], .loop (X.out 0) (st 117 [(1, V.sc (.int .i64 s1))] [] [])] (p := [Loop Tryz.prog (sub (codeOf Tryz.prog 46) [1, 0, 1, 0, 0]) (st 117 [(0, V.sl false 48 (List.map E48 o)), (1, V.sc (.int .i64 o_)), (5, V.sc (.int .i64 0))] [] []) (X.out 0) (st 117 [(1, V.sc (.int .i64 s1))] [] [])]) (by kernel_rfl) (cj1 ((laws_heldAcctS_l0_ok o h19 o [] rfl o_ r6 h20).at h21)))) (fun s2 h22 =>
      Pn.some (Fn.of [.wait 3, .mask [0, 1, 5], .ren [], .loop (X.ret) (st 117 [(4, V.sc (.int .i64 (-1)))] [] [])] (p := [Loop Tryz.prog (sub (codeOf Tryz.prog 46) [1, 0, 1, 0, 0]) (st 117 [(0, V.sl false 48 (List.map E48 o)), (1, V.sc (.int .i64 o_)), (5, V.sc (.int .i64 0))] [] []) (X.ret) (st 117 [(4, V.sc (.int .i64 (-1)))] [] [])]) (by kernel_rfl) (cj1 ((laws_heldAcctS_l0_ok o h19 o [] rfl o_ r6 h20).at h22)))))) (fun h19 =>
    Pn.none)
def laws_heldStripeS_l0 (a : List Stripe) : List Stripe → Int → Option (Lo Int Unit)
  | [], v1 =>
   some (.out v1)
  | x1 :: t1, v1 =>
   if (x1.Owner != v1) = true then
    some (.ret ())
   else
    (laws_heldAcctS x1.Accts (i64 (v1 + 1))).bind fun r1 =>
    if (decide (r1 < 0)) = true then
     some (.ret ())
    else
     laws_heldStripeS_l0 a t1 r1
theorem laws_heldStripeS_l0_ok (a : List Stripe) (h2 : capOk a.length = true) : ∀ (t1 p1 : List Stripe) (_ : a = p1 ++ t1) (v1 : Int), Pn (LpO Tryz.prog (sub (codeOf Tryz.prog 30) [1, 0, 1, 0, 0]) (st 31 [(0, V.sl false 102 (List.map E102 a)), (1, V.sc (.int .i64 v1)), (5, V.sc (.int .i64 (p1.length : Int)))] [] []) (fun (y : Lo Int Unit) => Lo.elim y (fun s => (X.out 0, st 31 [(1, V.sc (.int .i64 s))] [] [])) (fun s => (X.ret, st 31 [(4, V.sc (.int .i64 (-1)))] [] [])))) (laws_heldStripeS_l0 a t1 v1)
  | [], p1, h1, v1 => by
    unfold laws_heldStripeS_l0
    exact
     Pn.some (LpO.out [.wait 3, .nm 8 (V.sc (.int .i64 (a.length : Int))), .bit false, .mask [1], .ren []] (p := [V.sc (.int .i64 ((List.map E102 a).length : Int)) = V.sc (.int .i64 (a.length : Int)),
      (decide ((p1.length : Int) < (a.length : Int))) = false]) (by kernel_rfl) (show X.out 0 ≠ X.go from nofun) (cj (len_nm _ _) (cj1 (rng_end h1))))
  | x1 :: t1, p1, h1, v1 => by
    unfold laws_heldStripeS_l0
    exact
     Pn.ite (fun h3 =>
      Pn.some (LpO.out [.wait 3, .nm 8 (V.sc (.int .i64 (a.length : Int))), .bit true, .el (E102 x1), .bit true, .wait 1, .mask [4], .ren []] (p := [V.sc (.int .i64 ((List.map E102 a).length : Int)) = V.sc (.int .i64 (a.length : Int)),
       (decide ((p1.length : Int) < (a.length : Int))) = true,
       (0 : Int) ≤ (p1.length : Int),
       (List.map E102 a)[(p1.length : Int).toNat]? = some (E102 x1),
       (x1.Owner != v1) = true]) (by kernel_rfl) (show X.ret ≠ X.go from nofun) (cj (len_nm _ _) (cj (rng_lt h1) (cj (by omega) (cj (rng_get _ h1) (cj1 h3))))))) (fun h3 =>
      Pn.bind (fun r1 h4 =>
       Pn.ite (fun h5 =>
        Pn.some (LpO.out [.wait 3, .nm 8 (V.sc (.int .i64 (a.length : Int))), .bit true, .el (E102 x1), .bit false, .el (E102 x1), .call [] (E3 r1) [], .bit true, .wait 1, .mask [4], .ren []] (p := [V.sc (.int .i64 ((List.map E102 a).length : Int)) = V.sc (.int .i64 (a.length : Int)),
         (decide ((p1.length : Int) < (a.length : Int))) = true,
         (0 : Int) ≤ (p1.length : Int),
         (List.map E102 a)[(p1.length : Int).toNat]? = some (E102 x1),
         (x1.Owner != v1) = false,
         (0 : Int) ≤ (p1.length : Int),
         (List.map E102 a)[(p1.length : Int).toNat]? = some (E102 x1),
         Fn Tryz.prog 46 [(false, E26 x1.Accts), (false, E3 (i64 (v1 + 1)))] (E3 r1) [],
         (true || ((E3 r1).nv && nvL [])) = true,
         (decide (r1 < 0)) = true]) (by kernel_rfl) (show X.ret ≠ X.go from nofun) (cj (len_nm _ _) (cj (rng_lt h1) (cj (by omega) (cj (rng_get _ h1) (cj h3 (cj (by omega) (cj (rng_get _ h1) (cj (laws_heldAcctS_ok x1.Accts (i64 (v1 + 1)) r1 h4) (cj rfl (cj1 h5)))))))))))) (fun h5 =>
        LpO.go [.wait 3, .nm 8 (V.sc (.int .i64 (a.length : Int))), .bit true, .el (E102 x1), .bit false, .el (E102 x1), .call [] (E3 r1) [], .bit false, .wait 3, .mask [0, 1, 5], .ren [], .nm 5 (V.sc (.int .i64 ((p1 ++ [x1]).length : Int)))] (p := [V.sc (.int .i64 ((List.map E102 a).length : Int)) = V.sc (.int .i64 (a.length : Int)),
         (decide ((p1.length : Int) < (a.length : Int))) = true,
         (0 : Int) ≤ (p1.length : Int),
         (List.map E102 a)[(p1.length : Int).toNat]? = some (E102 x1),
         (x1.Owner != v1) = false,
         (0 : Int) ≤ (p1.length : Int),
         (List.map E102 a)[(p1.length : Int).toNat]? = some (E102 x1),
         Fn Tryz.prog 46 [(false, E26 x1.Accts), (false, E3 (i64 (v1 + 1)))] (E3 r1) [],
         (true || ((E3 r1).nv && nvL [])) = true,
         (decide (r1 < 0)) = false,
         V.sc (.int .i64 (i64 ((p1.length : Int) + 1))) = V.sc (.int .i64 ((p1 ++ [x1]).length : Int))]) (by kernel_rfl) (cj (len_nm _ _) (cj (rng_lt h1) (cj (by omega) (cj (rng_get _ h1) (cj h3 (cj (by omega) (cj (rng_get _ h1) (cj (laws_heldAcctS_ok x1.Accts (i64 (v1 + 1)) r1 h4) (cj rfl (cj h5 (cj1 (rng_next h1 h2)))))))))))) (laws_heldStripeS_l0_ok a h2 t1 (p1 ++ [x1]) (rng_step h1) r1))))
def laws_heldStripeS (a : List Stripe) (k : Int) : Option (Int) :=
 if (capOk a.length) = true then
  (laws_heldStripeS_l0 a a k).bind fun r2 =>
  Lo.elim r2 (fun s1 =>
   some s1) (fun s2 =>
   some (-1))
 else none
theorem laws_heldStripeS_ok (a : List Stripe) (k : Int) : Pn (fun y => Fn Tryz.prog 30 [(false, E56 a), (false, E3 k)] (E3 y) []) (laws_heldStripeS a k) := by
  unfold laws_heldStripeS
  exact
   Pn.ite (fun h6 =>
    Pn.bind (fun r2 h7 =>
     Pn.lo (fun s1 h8 =>
      Pn.some (Fn.of [.wait 3, .mask [0, 1, 5], .ren [], .loop (X.out 0) (st 31 [(1, V.sc (.int .i64 s1))] [] [])] (p := [Loop Tryz.prog (sub (codeOf Tryz.prog 30) [1, 0, 1, 0, 0]) (st 31 [(0, V.sl false 102 (List.map E102 a)), (1, V.sc (.int .i64 k)), (5, V.sc (.int .i64 0))] [] []) (X.out 0) (st 31 [(1, V.sc (.int .i64 s1))] [] [])]) (by kernel_rfl) (cj1 ((laws_heldStripeS_l0_ok a h6 a [] rfl k r2 h7).at h8)))) (fun s2 h9 =>
      Pn.some (Fn.of [.wait 3, .mask [0, 1, 5], .ren [], .loop (X.ret) (st 31 [(4, V.sc (.int .i64 (-1)))] [] [])] (p := [Loop Tryz.prog (sub (codeOf Tryz.prog 30) [1, 0, 1, 0, 0]) (st 31 [(0, V.sl false 102 (List.map E102 a)), (1, V.sc (.int .i64 k)), (5, V.sc (.int .i64 0))] [] []) (X.ret) (st 31 [(4, V.sc (.int .i64 (-1)))] [] [])]) (by kernel_rfl) (cj1 ((laws_heldStripeS_l0_ok a h6 a [] rfl k r2 h7).at h9)))))) (fun h6 =>
    Pn.none)
def laws_FnExactSpread (o : Book) (o_ : Int) : Option (Bool) :=
 (laws_szBook o 1048576).bind fun r1 =>
 if (decide (r1 < 0)) = true then
  some true
 else
  (laws_toBook o).bind fun r2 =>
  (spec_Spread r2 o_).bind fun r3 =>
  (laws_toBook o).bind fun r4 =>
  (impl_Spread r4 o_).bind fun r5 =>
  (laws_eqStripeS r5 r3).bind fun r6 =>
  if r6 = true then
   (laws_toBook o).bind fun r7 =>
   (laws_eqBook r4 r7).bind fun r8 =>
   if r8 = true then
    (laws_markBook r4 1).bind fun r9 =>
    if (decide (r9.1 < 0)) = true then
     some false
    else
     (laws_eqStripeS r5 r3).bind fun r10 =>
     if r10 = true then
      (laws_markStripeS r5 1).bind fun r11 =>
      (laws_heldStripeS r11.2 1).bind fun r12 =>
      if (decide (r12 < 0)) = true then
       some false
      else
       if (r12 != r11.1) = true then
        some false
       else
        (laws_toBook o).bind fun r13 =>
        (impl_Spread r13 o_).bind fun r14 =>
        (laws_eqStripeS r14 r3).bind fun r15 =>
        if r15 = true then
         (laws_heldStripeS r11.2 1).bind fun r16 =>
         if (decide (r16 < 0)) = true then
          some false
         else
          if (r16 != r11.1) = true then
           some false
          else
           some true
        else
         some false
     else
      some false
   else
    some false
  else
   some false
theorem laws_FnExactSpread_ok (o : Book) (o_ : Int) : Pn (fun y => Fn Tryz.prog 6 [(false, E24 o), (false, E3 o_)] (E4 y) []) (laws_FnExactSpread o o_) := by
  unfold laws_FnExactSpread
  exact
   Pn.bind (fun r1 h1 =>
    Pn.ite (fun h2 =>
     Pn.some (Fn.of [.call [] (E3 r1) [], .bit true] (p := [Fn Tryz.prog 9 [(false, E24 o), (false, E3 1048576)] (E3 r1) [],
      (true || ((E3 r1).nv && nvL [])) = true,
      (decide (r1 < 0)) = true]) (by kernel_rfl) (cj (laws_szBook_ok o 1048576 r1 h1) (cj rfl (cj1 h2))))) (fun h2 =>
     Pn.bind (fun r2 h3 =>
      Pn.bind (fun r3 h4 =>
       Pn.bind (fun r4 h5 =>
        Pn.bind (fun r5 h6 =>
         Pn.bind (fun r6 h7 =>
          Pn.ite (fun h8 =>
           Pn.bind (fun r7 h9 =>
            Pn.bind (fun r8 h10 =>
             Pn.ite (fun h11 =>
              Pn.bind (fun r9 h12 =>
               Pn.ite (fun h13 =>
                Pn.some (Fn.of [.call [] (E3 r1) [], .bit false, .call [] (E28 r2) [], .call [] (E56 r3) [], .call [] (E28 r4) [], .call [] (E56 r5) [], .call [] (E4 r6) [], .bit false, .draw [], .call [] (E28 r7) [], .call [] (E4 r8) [], .bit false, .call [true, false] (E3 r9.1) [V.sl true 48 (List.map E48 r9.2)], .bit true, .bit true, .bit true, .bit true, .bit true, .bit true] (p := [Fn Tryz.prog 9 [(false, E24 o), (false, E3 1048576)] (E3 r1) [],
                 (true || ((E3 r1).nv && nvL [])) = true,
                 (decide (r1 < 0)) = false,
                 Fn Tryz.prog 11 [(false, E24 o)] (E28 r2) [],
                 (true || ((E28 r2).nv && nvL [])) = true,
                 Fn Tryz.prog 27 [(false, E28 r2), (false, E3 o_)] (E56 r3) [],
                 (false || ((E56 r3).nv && nvL [])) = true,
                 Fn Tryz.prog 11 [(false, E24 o)] (E28 r4) [],
                 (true || ((E28 r4).nv && nvL [])) = true,
                 Fn Tryz.prog 28 [(false, E28 r4), (false, E3 o_)] (E56 r5) [],
                 (false || ((E56 r5).nv && nvL [])) = true,
                 Fn Tryz.prog 26 [(false, E56 r5), (false, E56 r3)] (E4 r6) [],
                 (false || ((E4 r6).nv && nvL [])) = true,
                 (!r6) = false,
                 Fn Tryz.prog 11 [(false, E24 o)] (E28 r7) [],
                 (true || ((E28 r7).nv && nvL [])) = true,
                 Fn Tryz.prog 13 [(false, E28 r4), (false, E28 r7)] (E4 r8) [],
                 (false || ((E4 r8).nv && nvL [])) = true,
                 (!r8) = false,
                 Fn Tryz.prog 14 [(true, E28 r4), (false, E3 1)] (E3 r9.1) [V.sl true 48 (List.map E48 r9.2)],
                 (true || ((E3 r9.1).nv && nvL [V.sl true 48 (List.map E48 r9.2)])) = true,
                 (decide (r9.1 < 0)) = true,
                 (decide (r9.1 < 0)) = true,
                 (decide (r9.1 < 0)) = true,
                 (decide (r9.1 < 0)) = true,
                 (decide (r9.1 < 0)) = true,
                 true = true]) (by kernel_rfl) (cj (laws_szBook_ok o 1048576 r1 h1) (cj rfl (cj h2 (cj (laws_toBook_ok o r2 h3) (cj rfl (cj (spec_Spread_ok r2 o_ r3 h4) (cj (by simp [V.nv, nvL, nvL_all, nv_E3, nv_E5, nv_E9, nv_E26, nv_E35, nv_E44, nv_E45, nv_E46, nv_E48, nv_E56, nv_E102, nv_E118, nv_E129, nv_E132]) (cj (laws_toBook_ok o r4 h5) (cj rfl (cj (impl_Spread_ok r4 o_ r5 h6) (cj (by simp [V.nv, nvL, nvL_all, nv_E3, nv_E5, nv_E9, nv_E26, nv_E35, nv_E44, nv_E45, nv_E46, nv_E48, nv_E56, nv_E102, nv_E118, nv_E129, nv_E132]) (cj (laws_eqStripeS_ok r5 r3 r6 h7) (cj (by simp [V.nv, nvL, nvL_all, nv_E4]) (cj (nf h8) (cj (laws_toBook_ok o r7 h9) (cj rfl (cj (laws_eqBook_ok r4 r7 r8 h10) (cj (by simp [V.nv, nvL, nvL_all, nv_E4]) (cj (nf h11) (cj (laws_markBook_ok r4 1 r9 h12) (cj rfl (cj h13 (cj h13 (cj h13 (cj h13 (cj h13 (cj1 rfl))))))))))))))))))))))))))))) (fun h13 =>
                Pn.bind (fun r10 h14 =>
                 Pn.ite (fun h15 =>
                  Pn.bind (fun r11 h16 =>
                   Pn.bind (fun r12 h17 =>
                    Pn.ite (fun h18 =>
                     Pn.some (Fn.of [.call [] (E3 r1) [], .bit false, .call [] (E28 r2) [], .call [] (E56 r3) [], .call [] (E28 r4) [], .call [] (E56 r5) [], .call [] (E4 r6) [], .bit false, .draw [], .call [] (E28 r7) [], .call [] (E4 r8) [], .bit false, .call [true, false] (E3 r9.1) [V.sl true 48 (List.map E48 r9.2)], .bit false, .bit false, .bit false, .call [] (E4 r10) [], .bit false, .bit false, .bit false, .call [true, false] (E3 r11.1) [V.sl true 102 (List.map E102 r11.2)], .call [] (E3 r12) [], .bit true] (p := [Fn Tryz.prog 9 [(false, E24 o), (false, E3 1048576)] (E3 r1) [],
                      (true || ((E3 r1).nv && nvL [])) = true,
                      (decide (r1 < 0)) = false,
                      Fn Tryz.prog 11 [(false, E24 o)] (E28 r2) [],
                      (true || ((E28 r2).nv && nvL [])) = true,
                      Fn Tryz.prog 27 [(false, E28 r2), (false, E3 o_)] (E56 r3) [],
                      (false || ((E56 r3).nv && nvL [])) = true,
                      Fn Tryz.prog 11 [(false, E24 o)] (E28 r4) [],
                      (true || ((E28 r4).nv && nvL [])) = true,
                      Fn Tryz.prog 28 [(false, E28 r4), (false, E3 o_)] (E56 r5) [],
                      (false || ((E56 r5).nv && nvL [])) = true,
                      Fn Tryz.prog 26 [(false, E56 r5), (false, E56 r3)] (E4 r6) [],
                      (false || ((E4 r6).nv && nvL [])) = true,
                      (!r6) = false,
                      Fn Tryz.prog 11 [(false, E24 o)] (E28 r7) [],
                      (true || ((E28 r7).nv && nvL [])) = true,
                      Fn Tryz.prog 13 [(false, E28 r4), (false, E28 r7)] (E4 r8) [],
                      (false || ((E4 r8).nv && nvL [])) = true,
                      (!r8) = false,
                      Fn Tryz.prog 14 [(true, E28 r4), (false, E3 1)] (E3 r9.1) [V.sl true 48 (List.map E48 r9.2)],
                      (true || ((E3 r9.1).nv && nvL [V.sl true 48 (List.map E48 r9.2)])) = true,
                      (decide (r9.1 < 0)) = false,
                      (decide (r9.1 < 0)) = false,
                      (decide (r9.1 < 0)) = false,
                      Fn Tryz.prog 26 [(false, E56 r5), (false, E56 r3)] (E4 r10) [],
                      (false || ((E4 r10).nv && nvL [])) = true,
                      (decide (r9.1 < 0)) = false,
                      (decide (r9.1 < 0)) = false,
                      (!r10) = false,
                      Fn Tryz.prog 29 [(true, E56 r5), (false, E3 1)] (E3 r11.1) [V.sl true 102 (List.map E102 r11.2)],
                      (true || ((E3 r11.1).nv && nvL [V.sl true 102 (List.map E102 r11.2)])) = true,
                      Fn Tryz.prog 30 [(false, E56 r11.2), (false, E3 1)] (E3 r12) [],
                      (false || ((E3 r12).nv && nvL [])) = true,
                      (decide (r12 < 0)) = true]) (by kernel_rfl) (cj (laws_szBook_ok o 1048576 r1 h1) (cj rfl (cj h2 (cj (laws_toBook_ok o r2 h3) (cj rfl (cj (spec_Spread_ok r2 o_ r3 h4) (cj (by simp [V.nv, nvL, nvL_all, nv_E3, nv_E5, nv_E9, nv_E26, nv_E35, nv_E44, nv_E45, nv_E46, nv_E48, nv_E56, nv_E102, nv_E118, nv_E129, nv_E132]) (cj (laws_toBook_ok o r4 h5) (cj rfl (cj (impl_Spread_ok r4 o_ r5 h6) (cj (by simp [V.nv, nvL, nvL_all, nv_E3, nv_E5, nv_E9, nv_E26, nv_E35, nv_E44, nv_E45, nv_E46, nv_E48, nv_E56, nv_E102, nv_E118, nv_E129, nv_E132]) (cj (laws_eqStripeS_ok r5 r3 r6 h7) (cj (by simp [V.nv, nvL, nvL_all, nv_E4]) (cj (nf h8) (cj (laws_toBook_ok o r7 h9) (cj rfl (cj (laws_eqBook_ok r4 r7 r8 h10) (cj (by simp [V.nv, nvL, nvL_all, nv_E4]) (cj (nf h11) (cj (laws_markBook_ok r4 1 r9 h12) (cj rfl (cj h13 (cj h13 (cj h13 (cj (laws_eqStripeS_ok r5 r3 r10 h14) (cj (by simp [V.nv, nvL, nvL_all, nv_E4]) (cj h13 (cj h13 (cj (nf h15) (cj (laws_markStripeS_ok r5 1 r11 h16) (cj rfl (cj (laws_heldStripeS_ok r11.2 1 r12 h17) (cj (by simp [V.nv, nvL, nvL_all, nv_E3]) (cj1 h18)))))))))))))))))))))))))))))))))))) (fun h18 =>
                     Pn.ite (fun h19 =>
                      Pn.some (Fn.of [.call [] (E3 r1) [], .bit false, .call [] (E28 r2) [], .call [] (E56 r3) [], .call [] (E28 r4) [], .call [] (E56 r5) [], .call [] (E4 r6) [], .bit false, .draw [], .call [] (E28 r7) [], .call [] (E4 r8) [], .bit false, .call [true, false] (E3 r9.1) [V.sl true 48 (List.map E48 r9.2)], .bit false, .bit false, .bit false, .call [] (E4 r10) [], .bit false, .bit false, .bit false, .call [true, false] (E3 r11.1) [V.sl true 102 (List.map E102 r11.2)], .call [] (E3 r12) [], .bit false, .bit true] (p := [Fn Tryz.prog 9 [(false, E24 o), (false, E3 1048576)] (E3 r1) [],
                       (true || ((E3 r1).nv && nvL [])) = true,
                       (decide (r1 < 0)) = false,
                       Fn Tryz.prog 11 [(false, E24 o)] (E28 r2) [],
                       (true || ((E28 r2).nv && nvL [])) = true,
                       Fn Tryz.prog 27 [(false, E28 r2), (false, E3 o_)] (E56 r3) [],
                       (false || ((E56 r3).nv && nvL [])) = true,
                       Fn Tryz.prog 11 [(false, E24 o)] (E28 r4) [],
                       (true || ((E28 r4).nv && nvL [])) = true,
                       Fn Tryz.prog 28 [(false, E28 r4), (false, E3 o_)] (E56 r5) [],
                       (false || ((E56 r5).nv && nvL [])) = true,
                       Fn Tryz.prog 26 [(false, E56 r5), (false, E56 r3)] (E4 r6) [],
                       (false || ((E4 r6).nv && nvL [])) = true,
                       (!r6) = false,
                       Fn Tryz.prog 11 [(false, E24 o)] (E28 r7) [],
                       (true || ((E28 r7).nv && nvL [])) = true,
                       Fn Tryz.prog 13 [(false, E28 r4), (false, E28 r7)] (E4 r8) [],
                       (false || ((E4 r8).nv && nvL [])) = true,
                       (!r8) = false,
                       Fn Tryz.prog 14 [(true, E28 r4), (false, E3 1)] (E3 r9.1) [V.sl true 48 (List.map E48 r9.2)],
                       (true || ((E3 r9.1).nv && nvL [V.sl true 48 (List.map E48 r9.2)])) = true,
                       (decide (r9.1 < 0)) = false,
                       (decide (r9.1 < 0)) = false,
                       (decide (r9.1 < 0)) = false,
                       Fn Tryz.prog 26 [(false, E56 r5), (false, E56 r3)] (E4 r10) [],
                       (false || ((E4 r10).nv && nvL [])) = true,
                       (decide (r9.1 < 0)) = false,
                       (decide (r9.1 < 0)) = false,
                       (!r10) = false,
                       Fn Tryz.prog 29 [(true, E56 r5), (false, E3 1)] (E3 r11.1) [V.sl true 102 (List.map E102 r11.2)],
                       (true || ((E3 r11.1).nv && nvL [V.sl true 102 (List.map E102 r11.2)])) = true,
                       Fn Tryz.prog 30 [(false, E56 r11.2), (false, E3 1)] (E3 r12) [],
                       (false || ((E3 r12).nv && nvL [])) = true,
                       (decide (r12 < 0)) = false,
                       (r12 != r11.1) = true]) (by kernel_rfl) (cj (laws_szBook_ok o 1048576 r1 h1) (cj rfl (cj h2 (cj (laws_toBook_ok o r2 h3) (cj rfl (cj (spec_Spread_ok r2 o_ r3 h4) (cj (by simp [V.nv, nvL, nvL_all, nv_E3, nv_E5, nv_E9, nv_E26, nv_E35, nv_E44, nv_E45, nv_E46, nv_E48, nv_E56, nv_E102, nv_E118, nv_E129, nv_E132]) (cj (laws_toBook_ok o r4 h5) (cj rfl (cj (impl_Spread_ok r4 o_ r5 h6) (cj (by simp [V.nv, nvL, nvL_all, nv_E3, nv_E5, nv_E9, nv_E26, nv_E35, nv_E44, nv_E45, nv_E46, nv_E48, nv_E56, nv_E102, nv_E118, nv_E129, nv_E132]) (cj (laws_eqStripeS_ok r5 r3 r6 h7) (cj (by simp [V.nv, nvL, nvL_all, nv_E4]) (cj (nf h8) (cj (laws_toBook_ok o r7 h9) (cj rfl (cj (laws_eqBook_ok r4 r7 r8 h10) (cj (by simp [V.nv, nvL, nvL_all, nv_E4]) (cj (nf h11) (cj (laws_markBook_ok r4 1 r9 h12) (cj rfl (cj h13 (cj h13 (cj h13 (cj (laws_eqStripeS_ok r5 r3 r10 h14) (cj (by simp [V.nv, nvL, nvL_all, nv_E4]) (cj h13 (cj h13 (cj (nf h15) (cj (laws_markStripeS_ok r5 1 r11 h16) (cj rfl (cj (laws_heldStripeS_ok r11.2 1 r12 h17) (cj (by simp [V.nv, nvL, nvL_all, nv_E3]) (cj h18 (cj1 h19))))))))))))))))))))))))))))))))))))) (fun h19 =>
                      Pn.bind (fun r13 h20 =>
                       Pn.bind (fun r14 h21 =>
                        Pn.bind (fun r15 h22 =>
                         Pn.ite (fun h23 =>
                          Pn.bind (fun r16 h24 =>
                           Pn.ite (fun h25 =>
                            Pn.some (Fn.of [.call [] (E3 r1) [], .bit false, .call [] (E28 r2) [], .call [] (E56 r3) [], .call [] (E28 r4) [], .call [] (E56 r5) [], .call [] (E4 r6) [], .bit false, .draw [], .call [] (E28 r7) [], .call [] (E4 r8) [], .bit false, .call [true, false] (E3 r9.1) [V.sl true 48 (List.map E48 r9.2)], .bit false, .bit false, .bit false, .call [] (E4 r10) [], .bit false, .bit false, .bit false, .call [true, false] (E3 r11.1) [V.sl true 102 (List.map E102 r11.2)], .call [] (E3 r12) [], .bit false, .bit false, .call [] (E28 r13) [], .call [] (E56 r14) [], .call [] (E4 r15) [], .bit false, .call [] (E3 r16) [], .bit true] (p := [Fn Tryz.prog 9 [(false, E24 o), (false, E3 1048576)] (E3 r1) [],
                             (true || ((E3 r1).nv && nvL [])) = true,
                             (decide (r1 < 0)) = false,
                             Fn Tryz.prog 11 [(false, E24 o)] (E28 r2) [],
                             (true || ((E28 r2).nv && nvL [])) = true,
                             Fn Tryz.prog 27 [(false, E28 r2), (false, E3 o_)] (E56 r3) [],
                             (false || ((E56 r3).nv && nvL [])) = true,
                             Fn Tryz.prog 11 [(false, E24 o)] (E28 r4) [],
                             (true || ((E28 r4).nv && nvL [])) = true,
                             Fn Tryz.prog 28 [(false, E28 r4), (false, E3 o_)] (E56 r5) [],
                             (false || ((E56 r5).nv && nvL [])) = true,
                             Fn Tryz.prog 26 [(false, E56 r5), (false, E56 r3)] (E4 r6) [],
                             (false || ((E4 r6).nv && nvL [])) = true,
                             (!r6) = false,
                             Fn Tryz.prog 11 [(false, E24 o)] (E28 r7) [],
                             (true || ((E28 r7).nv && nvL [])) = true,
                             Fn Tryz.prog 13 [(false, E28 r4), (false, E28 r7)] (E4 r8) [],
                             (false || ((E4 r8).nv && nvL [])) = true,
                             (!r8) = false,
                             Fn Tryz.prog 14 [(true, E28 r4), (false, E3 1)] (E3 r9.1) [V.sl true 48 (List.map E48 r9.2)],
                             (true || ((E3 r9.1).nv && nvL [V.sl true 48 (List.map E48 r9.2)])) = true,
                             (decide (r9.1 < 0)) = false,
                             (decide (r9.1 < 0)) = false,
                             (decide (r9.1 < 0)) = false,
                             Fn Tryz.prog 26 [(false, E56 r5), (false, E56 r3)] (E4 r10) [],
                             (false || ((E4 r10).nv && nvL [])) = true,
                             (decide (r9.1 < 0)) = false,
                             (decide (r9.1 < 0)) = false,
                             (!r10) = false,
                             Fn Tryz.prog 29 [(true, E56 r5), (false, E3 1)] (E3 r11.1) [V.sl true 102 (List.map E102 r11.2)],
                             (true || ((E3 r11.1).nv && nvL [V.sl true 102 (List.map E102 r11.2)])) = true,
                             Fn Tryz.prog 30 [(false, E56 r11.2), (false, E3 1)] (E3 r12) [],
                             (false || ((E3 r12).nv && nvL [])) = true,
                             (decide (r12 < 0)) = false,
                             (r12 != r11.1) = false,
                             Fn Tryz.prog 11 [(false, E24 o)] (E28 r13) [],
                             (true || ((E28 r13).nv && nvL [])) = true,
                             Fn Tryz.prog 28 [(false, E28 r13), (false, E3 o_)] (E56 r14) [],
                             (false || ((E56 r14).nv && nvL [])) = true,
                             Fn Tryz.prog 26 [(false, E56 r14), (false, E56 r3)] (E4 r15) [],
                             (false || ((E4 r15).nv && nvL [])) = true,
                             (!r15) = false,
                             Fn Tryz.prog 30 [(false, E56 r11.2), (false, E3 1)] (E3 r16) [],
                             (false || ((E3 r16).nv && nvL [])) = true,
                             (decide (r16 < 0)) = true]) (by kernel_rfl) (cj (laws_szBook_ok o 1048576 r1 h1) (cj rfl (cj h2 (cj (laws_toBook_ok o r2 h3) (cj rfl (cj (spec_Spread_ok r2 o_ r3 h4) (cj (by simp [V.nv, nvL, nvL_all, nv_E3, nv_E5, nv_E9, nv_E26, nv_E35, nv_E44, nv_E45, nv_E46, nv_E48, nv_E56, nv_E102, nv_E118, nv_E129, nv_E132]) (cj (laws_toBook_ok o r4 h5) (cj rfl (cj (impl_Spread_ok r4 o_ r5 h6) (cj (by simp [V.nv, nvL, nvL_all, nv_E3, nv_E5, nv_E9, nv_E26, nv_E35, nv_E44, nv_E45, nv_E46, nv_E48, nv_E56, nv_E102, nv_E118, nv_E129, nv_E132]) (cj (laws_eqStripeS_ok r5 r3 r6 h7) (cj (by simp [V.nv, nvL, nvL_all, nv_E4]) (cj (nf h8) (cj (laws_toBook_ok o r7 h9) (cj rfl (cj (laws_eqBook_ok r4 r7 r8 h10) (cj (by simp [V.nv, nvL, nvL_all, nv_E4]) (cj (nf h11) (cj (laws_markBook_ok r4 1 r9 h12) (cj rfl (cj h13 (cj h13 (cj h13 (cj (laws_eqStripeS_ok r5 r3 r10 h14) (cj (by simp [V.nv, nvL, nvL_all, nv_E4]) (cj h13 (cj h13 (cj (nf h15) (cj (laws_markStripeS_ok r5 1 r11 h16) (cj rfl (cj (laws_heldStripeS_ok r11.2 1 r12 h17) (cj (by simp [V.nv, nvL, nvL_all, nv_E3]) (cj h18 (cj h19 (cj (laws_toBook_ok o r13 h20) (cj rfl (cj (impl_Spread_ok r13 o_ r14 h21) (cj (by simp [V.nv, nvL, nvL_all, nv_E3, nv_E5, nv_E9, nv_E26, nv_E35, nv_E44, nv_E45, nv_E46, nv_E48, nv_E56, nv_E102, nv_E118, nv_E129, nv_E132]) (cj (laws_eqStripeS_ok r14 r3 r15 h22) (cj (by simp [V.nv, nvL, nvL_all, nv_E4]) (cj (nf h23) (cj (laws_heldStripeS_ok r11.2 1 r16 h24) (cj (by simp [V.nv, nvL, nvL_all, nv_E3]) (cj1 h25))))))))))))))))))))))))))))))))))))))))))))))) (fun h25 =>
                            Pn.ite (fun h26 =>
                             Pn.some (Fn.of [.call [] (E3 r1) [], .bit false, .call [] (E28 r2) [], .call [] (E56 r3) [], .call [] (E28 r4) [], .call [] (E56 r5) [], .call [] (E4 r6) [], .bit false, .draw [], .call [] (E28 r7) [], .call [] (E4 r8) [], .bit false, .call [true, false] (E3 r9.1) [V.sl true 48 (List.map E48 r9.2)], .bit false, .bit false, .bit false, .call [] (E4 r10) [], .bit false, .bit false, .bit false, .call [true, false] (E3 r11.1) [V.sl true 102 (List.map E102 r11.2)], .call [] (E3 r12) [], .bit false, .bit false, .call [] (E28 r13) [], .call [] (E56 r14) [], .call [] (E4 r15) [], .bit false, .call [] (E3 r16) [], .bit false, .bit true] (p := [Fn Tryz.prog 9 [(false, E24 o), (false, E3 1048576)] (E3 r1) [],
                              (true || ((E3 r1).nv && nvL [])) = true,
                              (decide (r1 < 0)) = false,
                              Fn Tryz.prog 11 [(false, E24 o)] (E28 r2) [],
                              (true || ((E28 r2).nv && nvL [])) = true,
                              Fn Tryz.prog 27 [(false, E28 r2), (false, E3 o_)] (E56 r3) [],
                              (false || ((E56 r3).nv && nvL [])) = true,
                              Fn Tryz.prog 11 [(false, E24 o)] (E28 r4) [],
                              (true || ((E28 r4).nv && nvL [])) = true,
                              Fn Tryz.prog 28 [(false, E28 r4), (false, E3 o_)] (E56 r5) [],
                              (false || ((E56 r5).nv && nvL [])) = true,
                              Fn Tryz.prog 26 [(false, E56 r5), (false, E56 r3)] (E4 r6) [],
                              (false || ((E4 r6).nv && nvL [])) = true,
                              (!r6) = false,
                              Fn Tryz.prog 11 [(false, E24 o)] (E28 r7) [],
                              (true || ((E28 r7).nv && nvL [])) = true,
                              Fn Tryz.prog 13 [(false, E28 r4), (false, E28 r7)] (E4 r8) [],
                              (false || ((E4 r8).nv && nvL [])) = true,
                              (!r8) = false,
                              Fn Tryz.prog 14 [(true, E28 r4), (false, E3 1)] (E3 r9.1) [V.sl true 48 (List.map E48 r9.2)],
                              (true || ((E3 r9.1).nv && nvL [V.sl true 48 (List.map E48 r9.2)])) = true,
                              (decide (r9.1 < 0)) = false,
                              (decide (r9.1 < 0)) = false,
                              (decide (r9.1 < 0)) = false,
                              Fn Tryz.prog 26 [(false, E56 r5), (false, E56 r3)] (E4 r10) [],
                              (false || ((E4 r10).nv && nvL [])) = true,
                              (decide (r9.1 < 0)) = false,
                              (decide (r9.1 < 0)) = false,
                              (!r10) = false,
                              Fn Tryz.prog 29 [(true, E56 r5), (false, E3 1)] (E3 r11.1) [V.sl true 102 (List.map E102 r11.2)],
                              (true || ((E3 r11.1).nv && nvL [V.sl true 102 (List.map E102 r11.2)])) = true,
                              Fn Tryz.prog 30 [(false, E56 r11.2), (false, E3 1)] (E3 r12) [],
                              (false || ((E3 r12).nv && nvL [])) = true,
                              (decide (r12 < 0)) = false,
                              (r12 != r11.1) = false,
                              Fn Tryz.prog 11 [(false, E24 o)] (E28 r13) [],
                              (true || ((E28 r13).nv && nvL [])) = true,
                              Fn Tryz.prog 28 [(false, E28 r13), (false, E3 o_)] (E56 r14) [],
                              (false || ((E56 r14).nv && nvL [])) = true,
                              Fn Tryz.prog 26 [(false, E56 r14), (false, E56 r3)] (E4 r15) [],
                              (false || ((E4 r15).nv && nvL [])) = true,
                              (!r15) = false,
                              Fn Tryz.prog 30 [(false, E56 r11.2), (false, E3 1)] (E3 r16) [],
                              (false || ((E3 r16).nv && nvL [])) = true,
                              (decide (r16 < 0)) = false,
                              (r16 != r11.1) = true]) (by kernel_rfl) (cj (laws_szBook_ok o 1048576 r1 h1) (cj rfl (cj h2 (cj (laws_toBook_ok o r2 h3) (cj rfl (cj (spec_Spread_ok r2 o_ r3 h4) (cj (by simp [V.nv, nvL, nvL_all, nv_E3, nv_E5, nv_E9, nv_E26, nv_E35, nv_E44, nv_E45, nv_E46, nv_E48, nv_E56, nv_E102, nv_E118, nv_E129, nv_E132]) (cj (laws_toBook_ok o r4 h5) (cj rfl (cj (impl_Spread_ok r4 o_ r5 h6) (cj (by simp [V.nv, nvL, nvL_all, nv_E3, nv_E5, nv_E9, nv_E26, nv_E35, nv_E44, nv_E45, nv_E46, nv_E48, nv_E56, nv_E102, nv_E118, nv_E129, nv_E132]) (cj (laws_eqStripeS_ok r5 r3 r6 h7) (cj (by simp [V.nv, nvL, nvL_all, nv_E4]) (cj (nf h8) (cj (laws_toBook_ok o r7 h9) (cj rfl (cj (laws_eqBook_ok r4 r7 r8 h10) (cj (by simp [V.nv, nvL, nvL_all, nv_E4]) (cj (nf h11) (cj (laws_markBook_ok r4 1 r9 h12) (cj rfl (cj h13 (cj h13 (cj h13 (cj (laws_eqStripeS_ok r5 r3 r10 h14) (cj (by simp [V.nv, nvL, nvL_all, nv_E4]) (cj h13 (cj h13 (cj (nf h15) (cj (laws_markStripeS_ok r5 1 r11 h16) (cj rfl (cj (laws_heldStripeS_ok r11.2 1 r12 h17) (cj (by simp [V.nv, nvL, nvL_all, nv_E3]) (cj h18 (cj h19 (cj (laws_toBook_ok o r13 h20) (cj rfl (cj (impl_Spread_ok r13 o_ r14 h21) (cj (by simp [V.nv, nvL, nvL_all, nv_E3, nv_E5, nv_E9, nv_E26, nv_E35, nv_E44, nv_E45, nv_E46, nv_E48, nv_E56, nv_E102, nv_E118, nv_E129, nv_E132]) (cj (laws_eqStripeS_ok r14 r3 r15 h22) (cj (by simp [V.nv, nvL, nvL_all, nv_E4]) (cj (nf h23) (cj (laws_heldStripeS_ok r11.2 1 r16 h24) (cj (by simp [V.nv, nvL, nvL_all, nv_E3]) (cj h25 (cj1 h26)))))))))))))))))))))))))))))))))))))))))))))))) (fun h26 =>
                             Pn.some (Fn.of [.call [] (E3 r1) [], .bit false, .call [] (E28 r2) [], .call [] (E56 r3) [], .call [] (E28 r4) [], .call [] (E56 r5) [], .call [] (E4 r6) [], .bit false, .draw [], .call [] (E28 r7) [], .call [] (E4 r8) [], .bit false, .call [true, false] (E3 r9.1) [V.sl true 48 (List.map E48 r9.2)], .bit false, .bit false, .bit false, .call [] (E4 r10) [], .bit false, .bit false, .bit false, .call [true, false] (E3 r11.1) [V.sl true 102 (List.map E102 r11.2)], .call [] (E3 r12) [], .bit false, .bit false, .call [] (E28 r13) [], .call [] (E56 r14) [], .call [] (E4 r15) [], .bit false, .call [] (E3 r16) [], .bit false, .bit false] (p := [Fn Tryz.prog 9 [(false, E24 o), (false, E3 1048576)] (E3 r1) [],
                              (true || ((E3 r1).nv && nvL [])) = true,
                              (decide (r1 < 0)) = false,
                              Fn Tryz.prog 11 [(false, E24 o)] (E28 r2) [],
                              (true || ((E28 r2).nv && nvL [])) = true,
                              Fn Tryz.prog 27 [(false, E28 r2), (false, E3 o_)] (E56 r3) [],
                              (false || ((E56 r3).nv && nvL [])) = true,
                              Fn Tryz.prog 11 [(false, E24 o)] (E28 r4) [],
                              (true || ((E28 r4).nv && nvL [])) = true,
                              Fn Tryz.prog 28 [(false, E28 r4), (false, E3 o_)] (E56 r5) [],
                              (false || ((E56 r5).nv && nvL [])) = true,
                              Fn Tryz.prog 26 [(false, E56 r5), (false, E56 r3)] (E4 r6) [],
                              (false || ((E4 r6).nv && nvL [])) = true,
                              (!r6) = false,
                              Fn Tryz.prog 11 [(false, E24 o)] (E28 r7) [],
                              (true || ((E28 r7).nv && nvL [])) = true,
                              Fn Tryz.prog 13 [(false, E28 r4), (false, E28 r7)] (E4 r8) [],
                              (false || ((E4 r8).nv && nvL [])) = true,
                              (!r8) = false,
                              Fn Tryz.prog 14 [(true, E28 r4), (false, E3 1)] (E3 r9.1) [V.sl true 48 (List.map E48 r9.2)],
                              (true || ((E3 r9.1).nv && nvL [V.sl true 48 (List.map E48 r9.2)])) = true,
                              (decide (r9.1 < 0)) = false,
                              (decide (r9.1 < 0)) = false,
                              (decide (r9.1 < 0)) = false,
                              Fn Tryz.prog 26 [(false, E56 r5), (false, E56 r3)] (E4 r10) [],
                              (false || ((E4 r10).nv && nvL [])) = true,
                              (decide (r9.1 < 0)) = false,
                              (decide (r9.1 < 0)) = false,
                              (!r10) = false,
                              Fn Tryz.prog 29 [(true, E56 r5), (false, E3 1)] (E3 r11.1) [V.sl true 102 (List.map E102 r11.2)],
                              (true || ((E3 r11.1).nv && nvL [V.sl true 102 (List.map E102 r11.2)])) = true,
                              Fn Tryz.prog 30 [(false, E56 r11.2), (false, E3 1)] (E3 r12) [],
                              (false || ((E3 r12).nv && nvL [])) = true,
                              (decide (r12 < 0)) = false,
                              (r12 != r11.1) = false,
                              Fn Tryz.prog 11 [(false, E24 o)] (E28 r13) [],
                              (true || ((E28 r13).nv && nvL [])) = true,
                              Fn Tryz.prog 28 [(false, E28 r13), (false, E3 o_)] (E56 r14) [],
                              (false || ((E56 r14).nv && nvL [])) = true,
                              Fn Tryz.prog 26 [(false, E56 r14), (false, E56 r3)] (E4 r15) [],
                              (false || ((E4 r15).nv && nvL [])) = true,
                              (!r15) = false,
                              Fn Tryz.prog 30 [(false, E56 r11.2), (false, E3 1)] (E3 r16) [],
                              (false || ((E3 r16).nv && nvL [])) = true,
                              (decide (r16 < 0)) = false,
                              (r16 != r11.1) = false]) (by kernel_rfl) (cj (laws_szBook_ok o 1048576 r1 h1) (cj rfl (cj h2 (cj (laws_toBook_ok o r2 h3) (cj rfl (cj (spec_Spread_ok r2 o_ r3 h4) (cj (by simp [V.nv, nvL, nvL_all, nv_E3, nv_E5, nv_E9, nv_E26, nv_E35, nv_E44, nv_E45, nv_E46, nv_E48, nv_E56, nv_E102, nv_E118, nv_E129, nv_E132]) (cj (laws_toBook_ok o r4 h5) (cj rfl (cj (impl_Spread_ok r4 o_ r5 h6) (cj (by simp [V.nv, nvL, nvL_all, nv_E3, nv_E5, nv_E9, nv_E26, nv_E35, nv_E44, nv_E45, nv_E46, nv_E48, nv_E56, nv_E102, nv_E118, nv_E129, nv_E132]) (cj (laws_eqStripeS_ok r5 r3 r6 h7) (cj (by simp [V.nv, nvL, nvL_all, nv_E4]) (cj (nf h8) (cj (laws_toBook_ok o r7 h9) (cj rfl (cj (laws_eqBook_ok r4 r7 r8 h10) (cj (by simp [V.nv, nvL, nvL_all, nv_E4]) (cj (nf h11) (cj (laws_markBook_ok r4 1 r9 h12) (cj rfl (cj h13 (cj h13 (cj h13 (cj (laws_eqStripeS_ok r5 r3 r10 h14) (cj (by simp [V.nv, nvL, nvL_all, nv_E4]) (cj h13 (cj h13 (cj (nf h15) (cj (laws_markStripeS_ok r5 1 r11 h16) (cj rfl (cj (laws_heldStripeS_ok r11.2 1 r12 h17) (cj (by simp [V.nv, nvL, nvL_all, nv_E3]) (cj h18 (cj h19 (cj (laws_toBook_ok o r13 h20) (cj rfl (cj (impl_Spread_ok r13 o_ r14 h21) (cj (by simp [V.nv, nvL, nvL_all, nv_E3, nv_E5, nv_E9, nv_E26, nv_E35, nv_E44, nv_E45, nv_E46, nv_E48, nv_E56, nv_E102, nv_E118, nv_E129, nv_E132]) (cj (laws_eqStripeS_ok r14 r3 r15 h22) (cj (by simp [V.nv, nvL, nvL_all, nv_E4]) (cj (nf h23) (cj (laws_heldStripeS_ok r11.2 1 r16 h24) (cj (by simp [V.nv, nvL, nvL_all, nv_E3]) (cj h25 (cj1 h26))))))))))))))))))))))))))))))))))))))))))))))))))) (fun h23 =>
                          Pn.some (Fn.of [.call [] (E3 r1) [], .bit false, .call [] (E28 r2) [], .call [] (E56 r3) [], .call [] (E28 r4) [], .call [] (E56 r5) [], .call [] (E4 r6) [], .bit false, .draw [], .call [] (E28 r7) [], .call [] (E4 r8) [], .bit false, .call [true, false] (E3 r9.1) [V.sl true 48 (List.map E48 r9.2)], .bit false, .bit false, .bit false, .call [] (E4 r10) [], .bit false, .bit false, .bit false, .call [true, false] (E3 r11.1) [V.sl true 102 (List.map E102 r11.2)], .call [] (E3 r12) [], .bit false, .bit false, .call [] (E28 r13) [], .call [] (E56 r14) [], .call [] (E4 r15) [], .bit true] (p := [Fn Tryz.prog 9 [(false, E24 o), (false, E3 1048576)] (E3 r1) [],
                           (true || ((E3 r1).nv && nvL [])) = true,
                           (decide (r1 < 0)) = false,
                           Fn Tryz.prog 11 [(false, E24 o)] (E28 r2) [],
                           (true || ((E28 r2).nv && nvL [])) = true,
                           Fn Tryz.prog 27 [(false, E28 r2), (false, E3 o_)] (E56 r3) [],
                           (false || ((E56 r3).nv && nvL [])) = true,
                           Fn Tryz.prog 11 [(false, E24 o)] (E28 r4) [],
                           (true || ((E28 r4).nv && nvL [])) = true,
                           Fn Tryz.prog 28 [(false, E28 r4), (false, E3 o_)] (E56 r5) [],
                           (false || ((E56 r5).nv && nvL [])) = true,
                           Fn Tryz.prog 26 [(false, E56 r5), (false, E56 r3)] (E4 r6) [],
                           (false || ((E4 r6).nv && nvL [])) = true,
                           (!r6) = false,
                           Fn Tryz.prog 11 [(false, E24 o)] (E28 r7) [],
                           (true || ((E28 r7).nv && nvL [])) = true,
                           Fn Tryz.prog 13 [(false, E28 r4), (false, E28 r7)] (E4 r8) [],
                           (false || ((E4 r8).nv && nvL [])) = true,
                           (!r8) = false,
                           Fn Tryz.prog 14 [(true, E28 r4), (false, E3 1)] (E3 r9.1) [V.sl true 48 (List.map E48 r9.2)],
                           (true || ((E3 r9.1).nv && nvL [V.sl true 48 (List.map E48 r9.2)])) = true,
                           (decide (r9.1 < 0)) = false,
                           (decide (r9.1 < 0)) = false,
                           (decide (r9.1 < 0)) = false,
                           Fn Tryz.prog 26 [(false, E56 r5), (false, E56 r3)] (E4 r10) [],
                           (false || ((E4 r10).nv && nvL [])) = true,
                           (decide (r9.1 < 0)) = false,
                           (decide (r9.1 < 0)) = false,
                           (!r10) = false,
                           Fn Tryz.prog 29 [(true, E56 r5), (false, E3 1)] (E3 r11.1) [V.sl true 102 (List.map E102 r11.2)],
                           (true || ((E3 r11.1).nv && nvL [V.sl true 102 (List.map E102 r11.2)])) = true,
                           Fn Tryz.prog 30 [(false, E56 r11.2), (false, E3 1)] (E3 r12) [],
                           (false || ((E3 r12).nv && nvL [])) = true,
                           (decide (r12 < 0)) = false,
                           (r12 != r11.1) = false,
                           Fn Tryz.prog 11 [(false, E24 o)] (E28 r13) [],
                           (true || ((E28 r13).nv && nvL [])) = true,
                           Fn Tryz.prog 28 [(false, E28 r13), (false, E3 o_)] (E56 r14) [],
                           (false || ((E56 r14).nv && nvL [])) = true,
                           Fn Tryz.prog 26 [(false, E56 r14), (false, E56 r3)] (E4 r15) [],
                           (false || ((E4 r15).nv && nvL [])) = true,
                           (!r15) = true]) (by kernel_rfl) (cj (laws_szBook_ok o 1048576 r1 h1) (cj rfl (cj h2 (cj (laws_toBook_ok o r2 h3) (cj rfl (cj (spec_Spread_ok r2 o_ r3 h4) (cj (by simp [V.nv, nvL, nvL_all, nv_E3, nv_E5, nv_E9, nv_E26, nv_E35, nv_E44, nv_E45, nv_E46, nv_E48, nv_E56, nv_E102, nv_E118, nv_E129, nv_E132]) (cj (laws_toBook_ok o r4 h5) (cj rfl (cj (impl_Spread_ok r4 o_ r5 h6) (cj (by simp [V.nv, nvL, nvL_all, nv_E3, nv_E5, nv_E9, nv_E26, nv_E35, nv_E44, nv_E45, nv_E46, nv_E48, nv_E56, nv_E102, nv_E118, nv_E129, nv_E132]) (cj (laws_eqStripeS_ok r5 r3 r6 h7) (cj (by simp [V.nv, nvL, nvL_all, nv_E4]) (cj (nf h8) (cj (laws_toBook_ok o r7 h9) (cj rfl (cj (laws_eqBook_ok r4 r7 r8 h10) (cj (by simp [V.nv, nvL, nvL_all, nv_E4]) (cj (nf h11) (cj (laws_markBook_ok r4 1 r9 h12) (cj rfl (cj h13 (cj h13 (cj h13 (cj (laws_eqStripeS_ok r5 r3 r10 h14) (cj (by simp [V.nv, nvL, nvL_all, nv_E4]) (cj h13 (cj h13 (cj (nf h15) (cj (laws_markStripeS_ok r5 1 r11 h16) (cj rfl (cj (laws_heldStripeS_ok r11.2 1 r12 h17) (cj (by simp [V.nv, nvL, nvL_all, nv_E3]) (cj h18 (cj h19 (cj (laws_toBook_ok o r13 h20) (cj rfl (cj (impl_Spread_ok r13 o_ r14 h21) (cj (by simp [V.nv, nvL, nvL_all, nv_E3, nv_E5, nv_E9, nv_E26, nv_E35, nv_E44, nv_E45, nv_E46, nv_E48, nv_E56, nv_E102, nv_E118, nv_E129, nv_E132]) (cj (laws_eqStripeS_ok r14 r3 r15 h22) (cj (by simp [V.nv, nvL, nvL_all, nv_E4]) (cj1 (nt h23))))))))))))))))))))))))))))))))))))))))))))))))))))) (fun h15 =>
                  Pn.some (Fn.of [.call [] (E3 r1) [], .bit false, .call [] (E28 r2) [], .call [] (E56 r3) [], .call [] (E28 r4) [], .call [] (E56 r5) [], .call [] (E4 r6) [], .bit false, .draw [], .call [] (E28 r7) [], .call [] (E4 r8) [], .bit false, .call [true, false] (E3 r9.1) [V.sl true 48 (List.map E48 r9.2)], .bit false, .bit false, .bit false, .call [] (E4 r10) [], .bit false, .bit false, .bit true] (p := [Fn Tryz.prog 9 [(false, E24 o), (false, E3 1048576)] (E3 r1) [],
                   (true || ((E3 r1).nv && nvL [])) = true,
                   (decide (r1 < 0)) = false,
                   Fn Tryz.prog 11 [(false, E24 o)] (E28 r2) [],
                   (true || ((E28 r2).nv && nvL [])) = true,
                   Fn Tryz.prog 27 [(false, E28 r2), (false, E3 o_)] (E56 r3) [],
                   (false || ((E56 r3).nv && nvL [])) = true,
                   Fn Tryz.prog 11 [(false, E24 o)] (E28 r4) [],
                   (true || ((E28 r4).nv && nvL [])) = true,
                   Fn Tryz.prog 28 [(false, E28 r4), (false, E3 o_)] (E56 r5) [],
                   (false || ((E56 r5).nv && nvL [])) = true,
                   Fn Tryz.prog 26 [(false, E56 r5), (false, E56 r3)] (E4 r6) [],
                   (false || ((E4 r6).nv && nvL [])) = true,
                   (!r6) = false,
                   Fn Tryz.prog 11 [(false, E24 o)] (E28 r7) [],
                   (true || ((E28 r7).nv && nvL [])) = true,
                   Fn Tryz.prog 13 [(false, E28 r4), (false, E28 r7)] (E4 r8) [],
                   (false || ((E4 r8).nv && nvL [])) = true,
                   (!r8) = false,
                   Fn Tryz.prog 14 [(true, E28 r4), (false, E3 1)] (E3 r9.1) [V.sl true 48 (List.map E48 r9.2)],
                   (true || ((E3 r9.1).nv && nvL [V.sl true 48 (List.map E48 r9.2)])) = true,
                   (decide (r9.1 < 0)) = false,
                   (decide (r9.1 < 0)) = false,
                   (decide (r9.1 < 0)) = false,
                   Fn Tryz.prog 26 [(false, E56 r5), (false, E56 r3)] (E4 r10) [],
                   (false || ((E4 r10).nv && nvL [])) = true,
                   (decide (r9.1 < 0)) = false,
                   (decide (r9.1 < 0)) = false,
                   (!r10) = true]) (by kernel_rfl) (cj (laws_szBook_ok o 1048576 r1 h1) (cj rfl (cj h2 (cj (laws_toBook_ok o r2 h3) (cj rfl (cj (spec_Spread_ok r2 o_ r3 h4) (cj (by simp [V.nv, nvL, nvL_all, nv_E3, nv_E5, nv_E9, nv_E26, nv_E35, nv_E44, nv_E45, nv_E46, nv_E48, nv_E56, nv_E102, nv_E118, nv_E129, nv_E132]) (cj (laws_toBook_ok o r4 h5) (cj rfl (cj (impl_Spread_ok r4 o_ r5 h6) (cj (by simp [V.nv, nvL, nvL_all, nv_E3, nv_E5, nv_E9, nv_E26, nv_E35, nv_E44, nv_E45, nv_E46, nv_E48, nv_E56, nv_E102, nv_E118, nv_E129, nv_E132]) (cj (laws_eqStripeS_ok r5 r3 r6 h7) (cj (by simp [V.nv, nvL, nvL_all, nv_E4]) (cj (nf h8) (cj (laws_toBook_ok o r7 h9) (cj rfl (cj (laws_eqBook_ok r4 r7 r8 h10) (cj (by simp [V.nv, nvL, nvL_all, nv_E4]) (cj (nf h11) (cj (laws_markBook_ok r4 1 r9 h12) (cj rfl (cj h13 (cj h13 (cj h13 (cj (laws_eqStripeS_ok r5 r3 r10 h14) (cj (by simp [V.nv, nvL, nvL_all, nv_E4]) (cj h13 (cj h13 (cj1 (nt h15)))))))))))))))))))))))))))))))))))) (fun h11 =>
              Pn.some (Fn.of [.call [] (E3 r1) [], .bit false, .call [] (E28 r2) [], .call [] (E56 r3) [], .call [] (E28 r4) [], .call [] (E56 r5) [], .call [] (E4 r6) [], .bit false, .draw [], .call [] (E28 r7) [], .call [] (E4 r8) [], .bit true] (p := [Fn Tryz.prog 9 [(false, E24 o), (false, E3 1048576)] (E3 r1) [],
               (true || ((E3 r1).nv && nvL [])) = true,
               (decide (r1 < 0)) = false,
               Fn Tryz.prog 11 [(false, E24 o)] (E28 r2) [],
               (true || ((E28 r2).nv && nvL [])) = true,
               Fn Tryz.prog 27 [(false, E28 r2), (false, E3 o_)] (E56 r3) [],
               (false || ((E56 r3).nv && nvL [])) = true,
               Fn Tryz.prog 11 [(false, E24 o)] (E28 r4) [],
               (true || ((E28 r4).nv && nvL [])) = true,
               Fn Tryz.prog 28 [(false, E28 r4), (false, E3 o_)] (E56 r5) [],
               (false || ((E56 r5).nv && nvL [])) = true,
               Fn Tryz.prog 26 [(false, E56 r5), (false, E56 r3)] (E4 r6) [],
               (false || ((E4 r6).nv && nvL [])) = true,
               (!r6) = false,
               Fn Tryz.prog 11 [(false, E24 o)] (E28 r7) [],
               (true || ((E28 r7).nv && nvL [])) = true,
               Fn Tryz.prog 13 [(false, E28 r4), (false, E28 r7)] (E4 r8) [],
               (false || ((E4 r8).nv && nvL [])) = true,
               (!r8) = true]) (by kernel_rfl) (cj (laws_szBook_ok o 1048576 r1 h1) (cj rfl (cj h2 (cj (laws_toBook_ok o r2 h3) (cj rfl (cj (spec_Spread_ok r2 o_ r3 h4) (cj (by simp [V.nv, nvL, nvL_all, nv_E3, nv_E5, nv_E9, nv_E26, nv_E35, nv_E44, nv_E45, nv_E46, nv_E48, nv_E56, nv_E102, nv_E118, nv_E129, nv_E132]) (cj (laws_toBook_ok o r4 h5) (cj rfl (cj (impl_Spread_ok r4 o_ r5 h6) (cj (by simp [V.nv, nvL, nvL_all, nv_E3, nv_E5, nv_E9, nv_E26, nv_E35, nv_E44, nv_E45, nv_E46, nv_E48, nv_E56, nv_E102, nv_E118, nv_E129, nv_E132]) (cj (laws_eqStripeS_ok r5 r3 r6 h7) (cj (by simp [V.nv, nvL, nvL_all, nv_E4]) (cj (nf h8) (cj (laws_toBook_ok o r7 h9) (cj rfl (cj (laws_eqBook_ok r4 r7 r8 h10) (cj (by simp [V.nv, nvL, nvL_all, nv_E4]) (cj1 (nt h11))))))))))))))))))))))))) (fun h8 =>
           Pn.some (Fn.of [.call [] (E3 r1) [], .bit false, .call [] (E28 r2) [], .call [] (E56 r3) [], .call [] (E28 r4) [], .call [] (E56 r5) [], .call [] (E4 r6) [], .bit true] (p := [Fn Tryz.prog 9 [(false, E24 o), (false, E3 1048576)] (E3 r1) [],
            (true || ((E3 r1).nv && nvL [])) = true,
            (decide (r1 < 0)) = false,
            Fn Tryz.prog 11 [(false, E24 o)] (E28 r2) [],
            (true || ((E28 r2).nv && nvL [])) = true,
            Fn Tryz.prog 27 [(false, E28 r2), (false, E3 o_)] (E56 r3) [],
            (false || ((E56 r3).nv && nvL [])) = true,
            Fn Tryz.prog 11 [(false, E24 o)] (E28 r4) [],
            (true || ((E28 r4).nv && nvL [])) = true,
            Fn Tryz.prog 28 [(false, E28 r4), (false, E3 o_)] (E56 r5) [],
            (false || ((E56 r5).nv && nvL [])) = true,
            Fn Tryz.prog 26 [(false, E56 r5), (false, E56 r3)] (E4 r6) [],
            (false || ((E4 r6).nv && nvL [])) = true,
            (!r6) = true]) (by kernel_rfl) (cj (laws_szBook_ok o 1048576 r1 h1) (cj rfl (cj h2 (cj (laws_toBook_ok o r2 h3) (cj rfl (cj (spec_Spread_ok r2 o_ r3 h4) (cj (by simp [V.nv, nvL, nvL_all, nv_E3, nv_E5, nv_E9, nv_E26, nv_E35, nv_E44, nv_E45, nv_E46, nv_E48, nv_E56, nv_E102, nv_E118, nv_E129, nv_E132]) (cj (laws_toBook_ok o r4 h5) (cj rfl (cj (impl_Spread_ok r4 o_ r5 h6) (cj (by simp [V.nv, nvL, nvL_all, nv_E3, nv_E5, nv_E9, nv_E26, nv_E35, nv_E44, nv_E45, nv_E46, nv_E48, nv_E56, nv_E102, nv_E118, nv_E129, nv_E132]) (cj (laws_eqStripeS_ok r5 r3 r6 h7) (cj (by simp [V.nv, nvL, nvL_all, nv_E4]) (cj1 (nt h8))))))))))))))))))))))))
def laws_heldBook (a : Book) (k : Int) : Option (Int) :=
 (laws_heldAcctS a.Accts k).bind fun r1 =>
 if (decide (r1 < 0)) = true then
  some (-1)
 else
  some r1
theorem laws_heldBook_ok (a : Book) (k : Int) : Pn (fun y => Fn Tryz.prog 15 [(false, E28 a), (false, E3 k)] (E3 y) []) (laws_heldBook a k) := by
  unfold laws_heldBook
  exact
   Pn.bind (fun r1 h1 =>
    Pn.ite (fun h2 =>
     Pn.some (Fn.of [.call [] (E3 r1) [], .bit true] (p := [Fn Tryz.prog 46 [(false, E26 a.Accts), (false, E3 k)] (E3 r1) [],
      (true || ((E3 r1).nv && nvL [])) = true,
      (decide (r1 < 0)) = true]) (by kernel_rfl) (cj (laws_heldAcctS_ok a.Accts k r1 h1) (cj rfl (cj1 h2))))) (fun h2 =>
     Pn.some (Fn.of [.call [] (E3 r1) [], .bit false] (p := [Fn Tryz.prog 46 [(false, E26 a.Accts), (false, E3 k)] (E3 r1) [],
      (true || ((E3 r1).nv && nvL [])) = true,
      (decide (r1 < 0)) = false]) (by kernel_rfl) (cj (laws_heldAcctS_ok a.Accts k r1 h1) (cj rfl (cj1 h2))))))
end Go.Proofs.YtephmimhaokhlaaGreatM
