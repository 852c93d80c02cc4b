/- Printed by gen.py: functions on plain data, and that the program computes them. No condition. -/
import Derived.Test.YtlkkfamdlicaeaaMvG1
namespace Go.Proofs.YtlkkfamdlicaeaaM
set_option linter.unusedVariables false
set_option linter.unusedSimpArgs false
open Go.RowKit
set_option maxRecDepth 100000

theorem ins_overlaps {P : Program} (w : World) (tS tR e : TypeId) (ht : P.underlying tS = some (.slice e)) (size : Nat) (hz : ∀ w, (Go.sizeOf e).run P w = .ok size w)
    (a b : Addr) (la ca lb cb : Nat) (hne : a.block ≠ b.block) (tA tB : TypeId) (kA kB : Nat)
    (hsa : w.shape? a.block = some (tA, kA)) (hsb : w.shape? b.block = some (tB, kB)) (hkA : kA ≠ 0) (hkB : kB ≠ 0)
    (hfb : w.frozen? b = false) (hfe : w.frozen? { block := b.block, off := kB } = false) :
    (Extern.SlicesOverlaps.overlaps #[tS, tS] #[tR] #[.slice (some a) la ca, .slice (some b) lb cb]).run P w = .ok (.bool false) w := by
  have hnb : (a.block != b.block) = true := by simpa using hne
  have hnb' : (a.block == b.block) = false := by simpa using hne
  change Sem.run P (α := Value) (do
    let some t := (#[tS, tS] : Array TypeId)[0]? | stuck "slices.overlaps: no parameter types"
    let .slice elem ← underlying t | stuck "slices.overlaps: slice type expected"
    let size ← sizeOf elem
    match (some a : Option Addr), (some b : Option Addr) with
    | some a, some b =>
      if la = 0 ∨ lb = 0 ∨ size = 0 then pure (Value.bool false)
      else if a.block != b.block && (← frozen a) && (← frozen b) then unsupported .addressObserved
      else do
        if a.block != b.block then do
          noView a; noView b
          if ← mayBeOne a b then return Value.bool ((← choose (.extern "sameAddr.stringBytes" 2)) == 1)
        pure (Value.bool (a.block == b.block && a.off < b.off + lb * size && b.off < a.off + la * size))
    | _, _ => pure (Value.bool false)) w = _
  by_cases h0 : la = 0 ∨ lb = 0 ∨ size = 0
  · simp [run_underlying ht, hz, h0]
  · cases kB with
    | zero => exact absurd rfl hkB
    | succ kB =>
      cases kA with
      | zero => exact absurd rfl hkA
      | succ kA => simp [run_underlying ht, hz, h0, hnb, hnb', frozen, noView, viewAt, mayBeOne, stringish, shape, Sem.run, hsa, hsb, hfb, hfe]
/-- copy, where what is written lies unfrozen. -/
theorem ins_copy {P : Program} (w : World) (dT sT ty elem sz : Nat) (g o dLen dCap : Nat) (a : Addr) (sLen sCap : Nat) (cur : Array Value) (t : TypeId) (cs : List Value)
    (hu : P.underlying dT = some (.slice elem)) (hs : (P.info? elem).map (·.size) = some sz)
    (hg : w.heap[g]? = some (.cells cur t (0, 0))) (hn : cs.length = Nat.min sLen dLen * sz)
    (hsrc : ∀ j v, cs[j]? = some v → w.cell? (a.add j) = some v) (hfit : o + cs.length ≤ cur.size) (h1 : ∀ v ∈ cs, v.oneCell' = true) :
    (Builtin.copy_ #[dT, sT] ty #[.slice (some ⟨g, o, none⟩) dLen dCap, .slice (some a) sLen sCap]).run P w =
      .ok (goInt (Nat.min sLen dLen)) (w.setRow g (cur.toList.take o ++ cs ++ cur.toList.drop (o + cs.length)).toArray) := by
  have hl := run_loadCells_list (P := P) w a cs hsrc
  have hst := run_storeCells_at P g o t cs 0 cur w hg (by simpa using hfit) h1
  cases hq : P.info? elem with
  | none => simp [hq] at hs
  | some i =>
    have hi : i.size = sz := by simpa [hq] using hs
    simp [Builtin.copy_, run_underlying hu, Builtin.lenOf, Builtin.firstCells, sizeOf, typeInfo, hq, hi, ← hn, hl, hst]

theorem heap_alloc_new (w : World) (o : Obj) : (w.alloc o).heap[w.heap.size]? = some o := by
  show (w.heap.push o)[w.heap.size]? = some o
  simp
set_option maxHeartbeats 4000000 in
theorem ins_shift (g o n c i vb voff m vc : Nat) (cur : Array Value) (xs vs : List Value) (w : World) (hi : i < n) (hm : 0 < m) (hroom : n + m ≤ c) (hc63 : c ≤ 9223372036854775807) (hvb : vb ≠ g)
    (hg : w.heap[g]? = some (.cells cur 36 (0, 0))) (hsz : cur.size = o + c * 3) (hxs : (cur.toList.drop o).take (n * 3) = xs)
    (hvl : vs.length = m * 3) (hvs : ∀ j v, vs[j]? = some v → w.cell? ⟨vb, voff + j, none⟩ = some v) (h1c : ∀ v ∈ xs, v.oneCell' = true) (h1v : ∀ v ∈ vs, v.oneCell' = true)
    (hov : ∀ lb cb, (callFunc 93 #[.slice (some ⟨vb, voff, none⟩) m vc, .slice (some ⟨g, o + (i + m) * 3, none⟩) lb cb]).run Try.prog w = .ok (.value (.bool false)) w) :
    Calls Try.prog 68 #[.slice (some ⟨g, o, none⟩) n c, .int .i64 i, .slice (some ⟨vb, voff, none⟩) m vc] w fun e w' =>
      e = .returned (.slice (some ⟨g, o, none⟩) (n + m) c) ∧ w' = w.drew.setRow g (cur.toList.take (o + i * 3) ++ vs ++ xs.drop (i * 3) ++ cur.toList.drop (o + (n + m) * 3)).toArray := by
  have mixed : Try.prog.follows .mixedOrders = true := by kernel_rfl
  have hz1 : ¬ ((m : Int) = 0) := by omega
  have hz2 : ¬ ((i : Int) = (n : Int)) := by omega
  have hsz3 : (Try.prog.info? 36).map (·.size) = some 3 := by kernel_rfl
  have hw1 : IntKind.i64.wrap ((i : Int) + (m : Int)) = (i : Int) + (m : Int) := by rw [IntKind.wrap_i64]; omega
  have hb1 : (0 : Int) ≤ (i : Int) + (m : Int) := by omega
  have hin : i ≤ n := by omega
  have htn : ((i : Int) + (m : Int)).toNat = i + m := by omega
  have hb2 : ¬ (c = i + m) := by omega
  have hb3 : (i : Int) ≤ (n : Int) + (m : Int) := by omega
  have hb4 : ¬ (c = i) := by omega
  have hcl : cur.toList.length = cur.size := Array.length_toList
  have hxl : xs.length = n * 3 := by rw [← hxs, List.length_take, List.length_drop, hcl]; omega
  have hat : ∀ k, k < n * 3 → xs[k]? = cur[o + k]? := fun k hk => by
    rw [← hxs, List.getElem?_take, if_pos hk, List.getElem?_drop, Array.getElem?_toList]
  have hdl : (xs.drop (i * 3)).length = (n - i) * 3 := by rw [List.length_drop, hxl]; omega
  have hm1 : Nat.min (n + m - i) (n + m - (i + m)) = n - i := by simp only [Nat.min_def]; split <;> omega
  have hm2 : Nat.min m (n + m - i) = m := by simp only [Nat.min_def]; split <;> omega
  have hgd : w.drew.heap[g]? = some (.cells cur 36 (0, 0)) := hg
  obtain ⟨cur1, hc1⟩ : ∃ c1 : Array Value, c1 = (cur.toList.take (o + (i + m) * 3) ++ xs.drop (i * 3) ++ cur.toList.drop (o + (i + m) * 3 + (xs.drop (i * 3)).length)).toArray := ⟨_, rfl⟩
  have hs1 : cur1.size = cur.size := by rw [hc1]; simp [hcl]; omega
  have hcp1 : ∀ ty dc sc, (Builtin.copy_ #[23, 23] ty #[.slice (some ⟨g, o + (i + m) * 3, none⟩) (n + m - (i + m)) dc, .slice (some ⟨g, o + i * 3, none⟩) (n + m - i) sc]).run Try.prog w.drew = .ok (goInt ((n - i : Nat) : Int)) (w.drew.setRow g cur1) := fun ty dc sc => by
    have := ins_copy (P := Try.prog) w.drew 23 23 ty 36 3 g (o + (i + m) * 3) (n + m - (i + m)) dc ⟨g, o + i * 3, none⟩ (n + m - i) sc cur 36 (xs.drop (i * 3)) Try.underlying23 hsz3 hgd (by rw [hm1, hdl]) (fun j v hj => by
      rw [Addr.add_lit, cell_of_row w.drew g _ cur 36 (0, 0) hgd]
      rw [List.getElem?_drop] at hj
      have hjl := (List.getElem?_eq_some_iff.1 hj).1
      rw [hat _ (by omega)] at hj
      rw [Nat.add_assoc]; exact hj) (by rw [hdl]; omega) (fun v hv => h1c v (List.mem_of_mem_drop hv))
    rw [hm1, ← hc1] at this
    exact this
  obtain ⟨W1, hW1⟩ : ∃ W1, W1 = w.drew.setRow g cur1 := ⟨_, rfl⟩
  have hg1 : W1.heap[g]? = some (.cells cur1 36 (0, 0)) := by rw [hW1]; exact setRow_heap w.drew g cur cur1 36 (0, 0) hgd
  have hcp2 : ∀ ty dc, (Builtin.copy_ #[23, 23] ty #[.slice (some ⟨g, o + i * 3, none⟩) (n + m - i) dc, .slice (some ⟨vb, voff, none⟩) m vc]).run Try.prog W1 = .ok (goInt m) (W1.setRow g (cur1.toList.take (o + i * 3) ++ vs ++ cur1.toList.drop (o + i * 3 + vs.length)).toArray) := fun ty dc => by
    have := ins_copy (P := Try.prog) W1 23 23 ty 36 3 g (o + i * 3) (n + m - i) dc ⟨vb, voff, none⟩ m vc cur1 36 vs Try.underlying23 hsz3 hg1 (by rw [hm2, hvl]) (fun j v hj => by
      rw [Addr.add_lit, hW1]
      have := hvs j v hj
      refine Eq.trans (World.cell?_of_block (w := w) (setRow_other w g vb cur1 hvb)) this) (by rw [hs1, hvl]; omega) h1v
    rw [hm2] at this
    exact this
  have hfin : (W1.setRow g (cur1.toList.take (o + i * 3) ++ vs ++ cur1.toList.drop (o + i * 3 + vs.length)).toArray) = w.drew.setRow g (cur.toList.take (o + i * 3) ++ vs ++ xs.drop (i * 3) ++ cur.toList.drop (o + (n + m) * 3)).toArray := by
    rw [hW1, setRow_setRow]
    congr 2
    rw [hc1]
    simp only [List.toList_toArray]
    have hq : (cur.toList.take (o + (i + m) * 3)).length = o + (i + m) * 3 := by rw [List.length_take, hcl]; omega
    rw [List.append_assoc (cur.toList.take (o + (i + m) * 3)), List.take_append_of_le_length (by omega), List.take_take, show min (o + i * 3) (o + (i + m) * 3) = o + i * 3 by omega, List.drop_left' (by rw [hq, hvl]; omega), hdl, show o + (i + m) * 3 + (n - i) * 3 = o + (n + m) * 3 by omega]
    simp only [List.append_assoc]
  rw [← hfin]
  clear hfin
  rw [← hW1] at hcp1
  obtain ⟨W2, hW2⟩ : ∃ W2, W2 = W1.setRow g (cur1.toList.take (o + i * 3) ++ vs ++ cur1.toList.drop (o + i * 3 + vs.length)).toArray := ⟨_, rfl⟩
  rw [← hW2] at hcp2 ⊢
  clear hW1 hW2 hg1 hc1 hs1 hm1 hm2 hdl hat hxl hgd h1c h1v hvs hxs hg
  go_enter Try.func68, Try.ntmps68
  go_wp2_with (simp only [hov])
  go_region_law_o (refine step_copy_runI rfl _ _ 23 23 rfl _ _ (by simp [Act.eval, Act.put]) (by simp [Act.eval, Act.put]) (hcp1 _ _ _) ?_)
  go_wp2_with (at_builtin; refine wpList_copy_runI _ rfl _ _ 23 23 rfl _ _ rfl rfl (hcp2 _ _) ?_)
  go_ret
  exact ⟨rfl, rfl⟩
set_option maxHeartbeats 4000000 in
theorem ins_grow (g o n c i vb voff m vc : Nat) (cur : Array Value) (xs vs : List Value) (w : World) (hi : i < n) (hm : 0 < m) (hnc : n ≤ c) (hroom : c < n + m) (hbig : (n + m) * 32 ≤ 140737488355328)
    (hg : w.heap[g]? = some (.cells cur 36 (0, 0))) (hsz : cur.size = o + c * 3) (hxs : (cur.toList.drop o).take (n * 3) = xs)
    (hvl : vs.length = m * 3) (hvs : ∀ j v, vs[j]? = some v → w.cell? ⟨vb, voff + j, none⟩ = some v) (h1c : ∀ v ∈ xs, v.oneCell' = true) (h1v : ∀ v ∈ vs, v.oneCell' = true) :
    Calls Try.prog 68 #[.slice (some ⟨g, o, none⟩) n c, .int .i64 i, .slice (some ⟨vb, voff, none⟩) m vc] w fun e w' =>
      ∃ (G : Nat) (Z : List Value), n + m ≤ G ∧ G ≤ maxLen ∧ e = .returned (.slice (some ⟨w.heap.size, 0, none⟩) (n + m) G) ∧ Z.length = (G - (n + m)) * 3 ∧
      w'.heap[w.heap.size]? = some (.cells (xs.take (i * 3) ++ vs ++ xs.drop (i * 3) ++ Z).toArray 36 (0, 0)) ∧ Below w.heap.size w w' := by
  have mixed : Try.prog.follows .mixedOrders = true := by kernel_rfl
  obtain ⟨i0, hi0, hz0, hzs, hzb⟩ : ∃ i0, Try.prog.info? 36 = some i0 ∧ i0.zero = some (.agg #[.string ⟨#[]⟩, .int .i64 0, .int .i64 0]) ∧ i0.size = 3 ∧ i0.bytes = 32 := by
    have h : (Try.prog.info? 36).map (fun i => (i.zero, i.size, i.bytes)) = some (some (.agg #[.string ⟨#[]⟩, .int .i64 0, .int .i64 0]), 3, 32) := by kernel_rfl
    cases hq : Try.prog.info? 36 with
    | none => rw [hq] at h; cases h
    | some i0 =>
      rw [hq] at h
      simp only [Option.map_some, Option.some.injEq, Prod.mk.injEq] at h
      exact ⟨i0, rfl, h.1, h.2.1, h.2.2⟩
  have hsz3 : (Try.prog.info? 36).map (·.size) = some 3 := by rw [hi0]; simp [hzs]
  have hz1 : ¬ ((m : Int) = 0) := by omega
  have hz2 : ¬ ((i : Int) = (n : Int)) := by omega
  have hz3 : (c : Int) < (n : Int) + (m : Int) := by omega
  have hcl : cur.toList.length = cur.size := Array.length_toList
  have hxl : xs.length = n * 3 := by rw [← hxs, List.length_take, List.length_drop, hcl]; omega
  have hat : ∀ k, k < n * 3 → xs[k]? = cur[o + k]? := fun k hk => by
    rw [← hxs, List.getElem?_take, if_pos hk, List.getElem?_drop, Array.getElem?_toList]
  have hcs : ∀ j v, xs[j]? = some v → w.cell? ⟨g, o + j, none⟩ = some v := fun j v hj => by
    rw [cell_of_row w g _ cur 36 (0, 0) hg, ← hat j (by have := (List.getElem?_eq_some_iff.1 hj).1; omega)]
    exact hj
  have hgw : g < w.heap.size := (Array.getElem?_eq_some_iff.1 hg).1
  have hvw : vb < w.heap.size := block_lt_of_cell (hvs 0 _ (List.getElem?_eq_getElem (by omega)))
  have hkk : (n : Int) + (m : Int) - (i : Int) = ((n + m - i : Nat) : Int) := by omega
  have hik : i + (n + m - i) = n + m := by omega
  have hdl : (xs.drop (i * 3)).length = (n - i) * 3 := by rw [List.length_drop, hxl]; omega
  have hold : (Builtin.firstCells i0.size i (.slice (some ⟨g, o, none⟩) i c)).run Try.prog w.drew = .ok (xs.take (i * 3)).toArray w.drew := by
    rw [hzs]
    exact run_firstCells_some w.drew 3 i ⟨g, o, none⟩ i c (xs.take (i * 3)) (by rw [List.length_take]; omega) (fun j v hj => by
      rw [Addr.add_lit]
      rw [List.getElem?_take] at hj
      split at hj
      · exact hcs j v hj
      · cases hj)
  obtain ⟨zv, hzv⟩ : ∃ z : Value, z = .agg #[.string ⟨#[]⟩, .int .i64 0, .int .i64 0] := ⟨_, rfl⟩
  rw [← hzv] at hz0
  have hzc : zv.cells.size = 3 := by rw [hzv]; rfl
  have hrz : ∀ ty, (Builtin.append_ #[23, 3] ty #[.slice (some ⟨g, o, none⟩) i c, .int .i64 ((n : Int) + (m : Int) - (i : Int))]).run Try.prog w =
      .ok (.slice (some ⟨w.heap.size, 0, none⟩) (n + m) (grownCap w (n + m) c 36)) (w.drew.alloc (.cells ((xs.take (i * 3)).toArray ++ Builtin.zeroCells zv.cells (n + m - i) ++ Builtin.zeroCells zv.cells (grownCap w (n + m) c 36 - (n + m))) 36)) := fun ty => by
    have h := Lib.run_append_grow_zeros w 23 3 ty 36 i0 zv .i64 .i64 Try.underlying23 Try.underlying3 hi0 hz0 (some ⟨g, o, none⟩) i c (xs.take (i * 3)) hold (n + m - i) (by omega) (by omega) (by omega) (by omega) (by rw [hzb]; omega) (by rw [hzb, hik]; exact growslice_fits hroom hbig)
    rw [hik] at h
    rw [hkk]
    exact h
  have hGn : n + m ≤ grownCap w (n + m) c 36 := grownCap_ge w _ _ _
  have hGx : grownCap w (n + m) c 36 ≤ maxLen := grownCap_le_maxLen w (n + m) c 36 (by unfold maxLen; omega)
  obtain ⟨G, hG⟩ : ∃ G, G = grownCap w (n + m) c 36 := ⟨_, rfl⟩
  rw [← hG] at hrz hGn hGx
  obtain ⟨Z, hZ, hZl⟩ : ∃ Z : List Value, Z = (Builtin.zeroCells zv.cells (G - (n + m))).toList ∧ Z.length = (G - (n + m)) * 3 := ⟨_, rfl, by simp [Builtin.zeroCells, hzc]⟩
  obtain ⟨ROW, hROW⟩ : ∃ ROW : Array Value, ROW = (xs.take (i * 3)).toArray ++ Builtin.zeroCells zv.cells (n + m - i) ++ Builtin.zeroCells zv.cells (G - (n + m)) := ⟨_, rfl⟩
  rw [← hROW] at hrz
  have hRs : ROW.size = G * 3 := by
    rw [hROW]
    simp [Builtin.zeroCells, hzc, hxl]
    omega
  have hRl : ROW.toList = (xs.take (i * 3) ++ (Builtin.zeroCells zv.cells (n + m - i)).toList) ++ Z := by rw [hROW, hZ]; simp
  have hzl2 : (Builtin.zeroCells zv.cells (n + m - i)).toList.length = (n + m - i) * 3 := by simp [Builtin.zeroCells, hzc]
  obtain ⟨W1, hW1⟩ : ∃ W1, W1 = w.drew.alloc (.cells ROW 36) := ⟨_, rfl⟩
  rw [← hW1] at hrz
  have hN1 : W1.heap[w.heap.size]? = some (.cells ROW 36 (0, 0)) := by rw [hW1]; exact heap_alloc_new w.drew _
  have hO1 : ∀ b, b < w.heap.size → W1.heap[b]? = w.heap[b]? := fun b hb => by rw [hW1]; exact Below.heap_alloc w.drew _ b hb
  have hm1 : Nat.min m (n + m - i) = m := by simp only [Nat.min_def]; split <;> omega
  have hm2 : Nat.min (n - i) (n + m - (i + m)) = n - i := by simp only [Nat.min_def]; split <;> omega
  obtain ⟨R1, hR1⟩ : ∃ R1 : Array Value, R1 = (ROW.toList.take (i * 3) ++ vs ++ ROW.toList.drop (i * 3 + vs.length)).toArray := ⟨_, rfl⟩
  have hR1s : R1.size = ROW.size := by rw [hR1]; simp; omega
  obtain ⟨R2, hR2⟩ : ∃ R2 : Array Value, R2 = (R1.toList.take ((i + m) * 3) ++ xs.drop (i * 3) ++ R1.toList.drop ((i + m) * 3 + (xs.drop (i * 3)).length)).toArray := ⟨_, rfl⟩
  have hcpA : ∀ W : World, W.heap = W1.heap → ∀ ty dc, (Builtin.copy_ #[23, 23] ty #[.slice (some ⟨w.heap.size, i * 3, none⟩) (n + m - i) dc, .slice (some ⟨vb, voff, none⟩) m vc]).run Try.prog W = .ok (goInt m) (W.setRow w.heap.size R1) := fun W hW ty dc => by
    have := ins_copy (P := Try.prog) W 23 23 ty 36 3 w.heap.size (i * 3) (n + m - i) dc ⟨vb, voff, none⟩ m vc ROW 36 vs Try.underlying23 hsz3 (by rw [hW]; exact hN1) (by rw [hm1, hvl]) (fun j v hj => by
      rw [Addr.add_lit]
      exact Eq.trans (World.cell?_of_block (w := w) ((congrArg (fun h : Array Obj => h[vb]?) hW).trans (hO1 vb hvw))) (hvs j v hj)) (by rw [hRs, hvl]; omega) h1v
    rw [hm1, ← hR1] at this
    exact this
  have hcpB : ∀ W : World, W.heap = (W1.setRow w.heap.size R1).heap → ∀ ty dc sc, (Builtin.copy_ #[23, 23] ty #[.slice (some ⟨w.heap.size, (i + m) * 3, none⟩) (n + m - (i + m)) dc, .slice (some ⟨g, o + i * 3, none⟩) (n - i) sc]).run Try.prog W = .ok (goInt ((n - i : Nat) : Int)) (W.setRow w.heap.size R2) := fun W hW ty dc sc => by
    have := ins_copy (P := Try.prog) W 23 23 ty 36 3 w.heap.size ((i + m) * 3) (n + m - (i + m)) dc ⟨g, o + i * 3, none⟩ (n - i) sc R1 36 (xs.drop (i * 3)) Try.underlying23 hsz3 (by rw [hW]; exact setRow_heap W1 w.heap.size ROW R1 36 (0, 0) hN1) (by rw [hm2, hdl]) (fun j v hj => by
      rw [Addr.add_lit]
      rw [List.getElem?_drop] at hj
      refine Eq.trans (World.cell?_of_block (w := w) ((congrArg (fun h : Array Obj => h[g]?) hW).trans ((setRow_other W1 w.heap.size g R1 (by omega)).trans (hO1 g hgw)))) ?_
      rw [Nat.add_assoc]
      exact hcs _ v hj) (by rw [hR1s, hRs, hdl]; omega) (fun v hv => h1c v (List.mem_of_mem_drop hv))
    rw [hm2, ← hR2] at this
    exact this
  have hfin : R2 = (xs.take (i * 3) ++ vs ++ xs.drop (i * 3) ++ Z).toArray := by
    have e1 : R1.toList = xs.take (i * 3) ++ vs ++ ROW.toList.drop (i * 3 + vs.length) := by
      rw [hR1]
      simp only [List.toList_toArray]
      congr 2
      rw [hRl, List.append_assoc]
      exact List.take_left' (by rw [List.length_take]; omega)
    have hl : (xs.take (i * 3) ++ vs).length = (i + m) * 3 := by rw [List.length_append, List.length_take]; omega
    rw [hR2, e1]
    congr 1
    rw [List.take_left' hl]
    congr 1
    rw [hdl]
    have e2 : (xs.take (i * 3) ++ vs ++ ROW.toList.drop (i * 3 + vs.length)).drop ((i + m) * 3 + (n - i) * 3) = ROW.toList.drop (n * 3 + m * 3) := by
      rw [List.drop_append, List.drop_eq_nil_of_le (by rw [hl]; omega), List.nil_append, List.drop_drop, hl]
      congr 1
      omega
    rw [e2, hRl]
    exact List.drop_left' (by rw [List.length_append, List.length_take, hzl2]; omega)
  have hGi : ¬ (G = i) := by omega
  have hGim : ¬ (G = i + m) := by omega
  have hci : ¬ (c = i) := by omega
  have hw1 : IntKind.i64.wrap ((i : Int) + (m : Int)) = (i : Int) + (m : Int) := by rw [IntKind.wrap_i64]; omega
  have hb1 : (0 : Int) ≤ (i : Int) + (m : Int) := by omega
  have hin : i ≤ n := by omega
  have htn : ((i : Int) + (m : Int)).toNat = i + m := by omega
  have hb3 : (i : Int) ≤ (n : Int) := by omega
  have hG63 : G ≤ 9223372036854775807 := by unfold maxLen at hGx; omega
  have hpost : ∀ W : World, W.heap = ((W1.setRow w.heap.size R1).setRow w.heap.size R2).heap → W.os = w.os → W.tape = w.tape → W.output = w.output → W.heap[w.heap.size]? = some (.cells (xs.take (i * 3) ++ vs ++ xs.drop (i * 3) ++ Z).toArray 36 (0, 0)) ∧ Below w.heap.size w W := fun W hW h1 h2 h3 => by
    refine ⟨?_, h1, h2, h3, ?_, fun k hk => ?_⟩
    · rw [hW, ← hfin]
      exact setRow_heap _ _ R1 R2 36 (0, 0) (setRow_heap W1 w.heap.size ROW R1 36 (0, 0) hN1)
    · rw [hW]
      have : w.heap.size < W1.heap.size := (Array.getElem?_eq_some_iff.1 hN1).1
      simp only [setRow_size]
      omega
    · rw [hW]
      exact (setRow_other _ w.heap.size k R2 (by omega)).trans ((setRow_other _ w.heap.size k R1 (by omega)).trans (hO1 k hk))
  clear hkk hik hold hROW hG hRl hZ hfin hR1s hRs
  subst hW1
  have hA := hcpA ((w.alloc (.cells ROW 36)).drew) rfl
  have hB := hcpB (((w.alloc (.cells ROW 36)).drew.setRow w.heap.size R1).drew) rfl
  have hP := hpost ((((w.alloc (.cells ROW 36)).drew.setRow w.heap.size R1).drew).setRow w.heap.size R2) rfl rfl rfl rfl
  clear hcpA hcpB hpost hR1 hR2 hN1 hO1
  go_enter Try.func68, Try.ntmps68
  go_wp2_with (first
    | (at_builtin; refine Lib.wpList_append_run _ rfl _ _ _ _ rfl _ _ rfl rfl _ _ (hrz _) ?_)
    | (at_builtin; refine wpList_copy_runI _ rfl _ _ 23 23 rfl _ _ rfl rfl (hA _ _) ?_))
  go_region_law_o (refine step_copy_runI rfl _ _ 23 23 rfl (.slice (some ⟨w.heap.size, (i + m) * 3, none⟩) (n + m - (i + m)) (G - (i + m))) (.slice (some ⟨g, o + i * 3, none⟩) (n - i) (c - i)) (by simp [Act.eval, Act.put]) (by simp [Act.eval, Act.put]) (hB 3 (G - (i + m)) (c - i)) ?_)
  go_wp2
  go_ret
  exact ⟨G, Z, hGn, hGx, rfl, hZl, hP⟩
/-- The cells of a hold. -/
def hc3 (h : Hold) : List Value := [.string h.Id, .int .i64 h.Amount, .int .i64 h.Due]
theorem hc3_one (l : List Hold) : ∀ v ∈ (l.map hc3).flatten, v.oneCell' = true := fun v hv => by
  obtain ⟨c, hc, hv⟩ := List.mem_flatten.1 hv
  obtain ⟨h, _, rfl⟩ := List.mem_map.1 hc
  simp only [hc3, List.mem_cons, List.not_mem_nil, or_false] at hv
  rcases hv with rfl | rfl | rfl <;> rfl
theorem hc3_len (l : List Hold) : (l.map hc3).flatten.length = l.length * 3 := by
  rw [flatten_len (sz := 3) (fun us hus => by obtain ⟨h, _, rfl⟩ := List.mem_map.1 hus; rfl), List.length_map]
theorem hold_vw {P : Program} {I : Nat → Prop} {w : World} {h : Hold} {us : List Value} (hl : us.length = 3) (hr : ∀ (j : Nat) (c : V) (u : Value), (E36 h).cells[j]? = some c → us[j]? = some u → Vw P I w c u) : us = hc3 h := by
  match us, hl with
  | [a, b, c], _ =>
    have h0 := hr 0 _ a rfl rfl
    have h1 := hr 1 _ b rfl rfl
    have h2 := hr 2 _ c rfl rfl
    cases h0 with | sc _ _ => cases h1 with | sc _ _ => cases h2 with | sc _ _ => rfl
theorem hold_leaf {h : Hold} {j : Nat} {c : V} (hc : (E36 h).cells[j]? = some c) : c.leafB = true := by
  match j, hc with
  | 0, hc => obtain rfl := Option.some.inj hc; rfl
  | 1, hc => obtain rfl := Option.some.inj hc; rfl
  | 2, hc => obtain rfl := Option.some.inj hc; rfl
  | j + 3, hc => simp [E36, V.cells] at hc
theorem fb_mem {g o n cap b : Nat} (h : b ∈ fbOf (.slice (some ⟨g, o, none⟩) n cap)) : b = g := by
  cases cap with
  | zero => simp [fbOf] at h
  | succ c => simpa [fbOf] using h
theorem map_of_get {α β : Type} {f : α → β} {l : List α} {m : List β} (hl : m.length = l.length) (h : ∀ (i : Nat) (x : α) (y : β), l[i]? = some x → m[i]? = some y → y = f x) : m = l.map f := by
  apply List.ext_getElem?
  intro i
  rw [List.getElem?_map]
  rcases Nat.lt_or_ge i l.length with hi | hi
  · rw [List.getElem?_eq_getElem hi, List.getElem?_eq_getElem (show i < m.length by omega)]
    exact congrArg some (h i _ _ (List.getElem?_eq_getElem hi) (List.getElem?_eq_getElem (by omega)))
  · rw [List.getElem?_eq_none hi, List.getElem?_eq_none (by omega)]; rfl
theorem all_nil {ffs : List (List Nat)} (h : ∀ f ∈ ffs, f = []) : ffs.flatten = [] := by
  induction ffs with
  | nil => rfl
  | cons f t ih => rw [List.flatten_cons, h f (by simp), ih (fun g hg => h g (by simp [hg]))]; rfl
theorem row_holds {I : Nat → Prop} {w : World} {R : Nat → Value} {N : Nat} {u : Value} {f : List Nat} (l : List Hold) (h : Rel Try.prog I w R N false (E23 l) u f) :
    ∃ A cap, u = .slice A l.length cap ∧ l.length ≤ cap ∧ f = fbOf u ∧ (cap = 0 ∨ ∃ g o cur, A = some ⟨g, o, none⟩ ∧ w.heap[g]? = some (.cells cur 36 (0, 0)) ∧ cap ≤ maxLen ∧ cur.size = o + cap * 3 ∧ (cur.toList.drop o).take (l.length * 3) = (l.map hc3).flatten) := by
  have h : Rel Try.prog I w R N false (V.sl true 36 (List.map E36 l)) u f := h
  obtain ⟨sz, uss, ffs, hs, hz, ho, hul, hfl, hr, hf⟩ := h.row_inv (R' := R) (N' := N)
  obtain rfl : sz = 3 := by
    have : szOf Try.prog 36 = some 3 := by kernel_rfl
    rw [this] at hs; exact (Option.some.inj hs).symm
  simp only [List.length_map] at hul hfl ho
  have hus : uss = l.map hc3 := map_of_get hul (fun i x y hx hy => by
    have hi := (List.getElem?_eq_some_iff.1 hx).1
    obtain ⟨_, c2, _, c4⟩ := hr i (E36 x) y _ (by rw [List.getElem?_map, hx]; rfl) hy (List.getElem?_eq_getElem (show i < ffs.length by omega))
    refine hold_vw (P := Try.prog) (I := I) (w := w) c2 (fun j c u hc hu => ?_)
    obtain ⟨u', _, hu', hrel, _⟩ := PwL.get c4 hc
    rw [hu] at hu'
    obtain rfl := Option.some.inj hu'
    exact (hrel.vw_leaf (hold_leaf hc)).1)
  have hff : ffs.flatten = [] := all_nil (fun f hf => by
    obtain ⟨i, hi, rfl⟩ := List.mem_iff_getElem.1 hf
    obtain ⟨_, _, _, fs, q1, q2, q3, q4⟩ := hr i (E36 (l[i]'(by omega))) _ _ (by rw [List.getElem?_map, List.getElem?_eq_getElem (show i < l.length by omega)]; rfl) (List.getElem?_eq_getElem (show i < uss.length by omega)) (List.getElem?_eq_getElem hi)
    rw [q3]
    refine all_nil (fun g hg => ?_)
    obtain ⟨j, hj, rfl⟩ := List.mem_iff_getElem.1 hg
    have hjc := List.getElem?_eq_getElem (show j < (E36 (l[i]'(by omega))).cells.length by omega)
    exact ((q4 j _ _ _ hjc (List.getElem?_eq_getElem (by omega)) (List.getElem?_eq_getElem hj)).vw_leaf (hold_leaf hjc)).2)
  rw [hff, List.append_nil] at hf
  rw [hus] at ho
  obtain ⟨_, A, cap, rfl, hc, hd⟩ := ho
  refine ⟨A, cap, rfl, hc, hf, hd.imp id ?_⟩
  rintro ⟨g, o, cur, e, ⟨fz, hg, hfz⟩, q⟩
  have hz0 : fz = (0, 0) := hfz.resolve_right (fun h => by have := h.2; unfold byT at this; cases this)
  subst hz0
  exact ⟨g, o, cur, e, hg, q⟩
theorem holds_row {I : Nat → Prop} {w : World} {R : Nat → Value} {N : Nat} {u : Value} (l : List Hold) (h : Own w 36 3 u l.length (l.map hc3).flatten) : Rel Try.prog I w R N false (E23 l) u (fbOf u) := by
  have := Rel.row_mk (P := Try.prog) (I := I) (w := w) (R := R) (N := N) (R' := R) (N' := N) (e := 36) (els := l.map E36) (uss := l.map hc3) (ffs := List.replicate l.length []) (u := u) (sz := 3) false (by kernel_rfl) (by decide) (by rw [List.length_map]; exact h) (by simp) (by simp) (fun i x us f hx hus hf => by
    have := (List.mem_replicate.1 (List.mem_of_getElem? hf)).2
    subst this
    simp only [List.getElem?_map, Option.map_eq_some_iff] at hx hus
    obtain ⟨y, hy, rfl⟩ := hx
    obtain ⟨y', hy', rfl⟩ := hus
    rw [hy] at hy'
    obtain rfl := Option.some.inj hy'
    exact ⟨rfl, rfl, fun u hu => hc3_one [y] u (by simpa using hu), PwL.cons (Rel.leaf false _ _ rfl (.sc _ rfl)) (PwL.cons (Rel.leaf false _ _ rfl (.sc _ rfl)) (PwL.cons (Rel.leaf false _ _ rfl (.sc _ rfl)) PwL.nil))⟩)
  have e2 : (List.replicate l.length ([] : List Nat)).flatten = [] := by simp
  rw [e2, List.append_nil] at this
  exact this
theorem view_holds {I : Nat → Prop} {w : World} {u : Value} (l : List Hold) (hp : 0 < l.length) (h : Vw Try.prog I w (E23 l) u) :
    ∃ vb voff cap, u = .slice (some ⟨vb, voff, none⟩) l.length cap ∧ I vb ∧ ∀ j x, (l.map hc3).flatten[j]? = some x → w.cell? ⟨vb, voff + j, none⟩ = some x := by
  have h : Vw Try.prog I w (V.sl true 36 (List.map E36 l)) u := h
  generalize hels : List.map E36 l = els at h
  cases h with
  | sl _ _ _ A cap sz uss hs hz hl hm hn hI hw hlen hc hr =>
    obtain rfl : sz = 3 := by
      have : szOf Try.prog 36 = some 3 := by kernel_rfl
      rw [this] at hs; exact (Option.some.inj hs).symm
    have hel : els.length = l.length := by rw [← hels, List.length_map]
    have hus : uss = l.map hc3 := map_of_get (by omega) (fun i x y hx hy => by
      have he : els[i]? = some (E36 x) := by rw [← hels, List.getElem?_map, hx]; rfl
      obtain ⟨_, c2, _⟩ := hc i _ y he hy
      exact hold_vw c2 (fun j c u hcc hu => hr i _ y j c u he hy hcc hu))
    cases A with
    | none => rw [hn rfl] at hel; simp at hel; omega
    | some ad =>
      have hcell : ∀ j x, (l.map hc3).flatten[j]? = some x → w.cell? (ad.add j) = some x := fun j x hj => by
        obtain ⟨us, h1, h2, h3⟩ := flatten_inv (sz := 3) (fun us hus => by obtain ⟨h, _, rfl⟩ := List.mem_map.1 hus; rfl) hj
        have := hw ad rfl (j / 3) us (j % 3) x (by rw [hus]; exact h1) h2
        rwa [show j / 3 * 3 + j % 3 = j by omega] at this
      have hsp : ad.spot = none := by
        have hl0 : 0 < (l.map hc3).flatten.length := by rw [hc3_len]; omega
        have := hcell 0 _ (List.getElem?_eq_getElem hl0)
        unfold Addr.add at this
        simp only [if_true] at this
        unfold World.cell? at this
        split at this
        · split at this
          · cases this
          · rename_i h; simpa using h
        · cases this
      obtain ⟨vb, voff, sp⟩ := ad
      simp only at hsp
      subst hsp
      refine ⟨vb, voff, cap, by rw [hel], hI _ rfl (by omega), fun j x hj => ?_⟩
      have := hcell j x hj
      rwa [addr_add] at this
theorem shape_cell {w : World} {b o : Nat} {v : Value} (h : w.cell? ⟨b, o, none⟩ = some v) : ∃ t k, w.shape? b = some (t, k) ∧ k ≠ 0 := by
  unfold World.cell? at h
  unfold World.shape?
  split at h
  · rename_i c t z hc
    simp only at hc
    rw [hc]
    refine ⟨t, c.size, rfl, fun h0 => ?_⟩
    simp [h0] at h
  · cases h
theorem ins_mid (l : List Hold) (i : Int) (v : List Hold) (h0 : decide (0 ≤ i) = true) (h1 : decide (i ≤ (l.length : Int)) = true) (h2 : ((v.length : Int) == 0) = false) (h3 : (i == (l.length : Int)) = false) (h4 : capOk (l.length + v.length) = true) :
    Fn Try.prog 68 [(true, E23 l), (false, E3 i), (false, E23 v)] (E23 (l.take i.toNat ++ (v ++ l.drop i.toNat))) [V.un] := by
  have h0 := of_decide_eq_true h0
  have h1 := of_decide_eq_true h1
  have h2 : ¬ (v.length : Int) = 0 := by simpa using h2
  have h3 : ¬ i = (l.length : Int) := by simpa using h3
  have h4 := of_decide_eq_true h4
  obtain ⟨k, rfl⟩ : ∃ k : Nat, i = (k : Int) := ⟨i.toNat, by omega⟩
  simp only [Int.toNat_natCast]
  refine ⟨by kernel_rfl, fun I w us fa hI hn hd ha hg => ?_⟩
  match us, ha with
  | [u0, u1, u2], ⟨ga, gb, e, r0, r1, r2, r3⟩ =>
    have r3 : gb = [] := r3
    subst r3
    rw [List.append_nil] at e
    subst e
    obtain ⟨A, cap, rfl, hlc, hf, hcap⟩ := row_holds l r0
    have r1 : u1 = .int .i64 k := by
      have r1 : Vw Try.prog I w (vI k) u1 := r1
      cases r1 with | sc _ _ => rfl
    subst r1
    obtain ⟨vb, voff, vc, rfl, hvI, hvc⟩ := view_holds v (by omega) r2
    rcases hcap with rfl | ⟨g, o, cur, rfl, hgh, hcm, hcs, htk⟩
    · omega
    · have hgfa : g ∈ fa := by
        rw [hf]
        cases cap with
        | zero => omega
        | succ c => simp [fbOf]
      have hne : vb ≠ g := fun e => hd g hgfa (e ▸ hvI)
      have hvl := hc3_len v
      have hll := hc3_len l
      have hlen : (l.take k ++ (v ++ l.drop k)).length = l.length + v.length := by simp; omega
      have hcells : ((l.take k ++ (v ++ l.drop k)).map hc3).flatten = (l.map hc3).flatten.take (k * 3) ++ (v.map hc3).flatten ++ (l.map hc3).flatten.drop (k * 3) := by
        have e1 : (l.map hc3).flatten = ((l.take k).map hc3).flatten ++ ((l.drop k).map hc3).flatten := by
          rw [← List.flatten_append, ← List.map_append, List.take_append_drop]
        have e2 : ((l.take k).map hc3).flatten.length = k * 3 := by rw [hc3_len, List.length_take]; omega
        rw [List.map_append, List.map_append, List.flatten_append, List.flatten_append, e1, List.take_left' e2, List.drop_left' e2, List.append_assoc]
      have hcl : cur.toList.length = cur.size := Array.length_toList
      by_cases hroom : l.length + v.length ≤ cap
      · have hov : ∀ lb cb, (callFunc 93 #[.slice (some ⟨vb, voff, none⟩) v.length vc, .slice (some ⟨g, o + (k + v.length) * 3, none⟩) lb cb]).run Try.prog w = .ok (.value (.bool false)) w := fun lb cb => by
          obtain ⟨tA, kA, s1, s2⟩ := shape_cell (hvc 0 _ (List.getElem?_eq_getElem (by omega)))
          rw [run_callFunc_extern Try.func93 (by kernel_rfl) (by kernel_rfl) (by kernel_rfl) (e := Extern.SlicesOverlaps.overlaps #[23, 23] #[4]) (by kernel_rfl),ins_overlaps w 23 4 36 Try.underlying23 3 (fun w => run_sizeOf (by kernel_rfl)) ⟨vb, voff, none⟩ ⟨g, o + (k + v.length) * 3, none⟩ v.length vc lb cb hne tA 36 kA cur.size s1 (by simp [World.shape?, hgh]) s2 (by omega) (by simp [World.frozen?, hgh]) (by simp [World.frozen?, hgh])]
          rfl
        refine (ins_shift g o l.length cap k vb voff v.length vc cur _ _ w (by omega) (by omega) hroom (by unfold maxLen at hcm; omega) hne hgh hcs htk hvl hvc (hc3_one l) (hc3_one v) hov).mono ?_
        rintro e w' ⟨rfl, rfl⟩
        have hgd : w.drew.heap[g]? = some (.cells cur 36 (0, 0)) := hgh
        have hX : (cur.toList.take (o + k * 3)).length = o + k * 3 := by rw [List.length_take]; omega
        have hO : Own (w.drew.setRow g (cur.toList.take (o + k * 3) ++ (v.map hc3).flatten ++ (l.map hc3).flatten.drop (k * 3) ++ cur.toList.drop (o + (l.length + v.length) * 3)).toArray) 36 3 (.slice (some ⟨g, o, none⟩) (l.length + v.length) cap) (l.take k ++ (v ++ l.drop k)).length ((l.take k ++ (v ++ l.drop k)).map hc3).flatten := by
          refine ⟨hc3_len _, some ⟨g, o, none⟩, cap, by rw [hlen], by omega, .inr ⟨g, o, _, rfl, Lies.of (setRow_heap w.drew g cur _ 36 (0, 0) hgd), hcm, ?_, ?_⟩⟩
          · simp only [List.size_toArray, List.length_append, hX, hvl, List.length_drop, hll, hcl]; omega
          · rw [hlen, hcells]
            simp only [List.toList_toArray]
            have hsplit : cur.toList.take (o + k * 3) = cur.toList.take o ++ (l.map hc3).flatten.take (k * 3) := by
              rw [List.take_add, ← htk, List.take_take, show min (k * 3) (l.length * 3) = k * 3 by omega]
            rw [hsplit]
            simp only [List.append_assoc]
            rw [List.drop_left' (by rw [List.length_take]; omega)]
            rw [show (l.map hc3).flatten.take (k * 3) ++ ((v.map hc3).flatten ++ ((l.map hc3).flatten.drop (k * 3) ++ cur.toList.drop (o + (l.length + v.length) * 3))) = ((l.map hc3).flatten.take (k * 3) ++ ((v.map hc3).flatten ++ (l.map hc3).flatten.drop (k * 3))) ++ cur.toList.drop (o + (l.length + v.length) * 3) by simp only [List.append_assoc]]
            exact List.take_left' (by rw [List.length_append, List.length_append, List.length_take, List.length_drop, hvl, hll]; omega)
        refine ⟨_, fbOf (.slice (some ⟨g, o, none⟩) (l.length + v.length) cap), [], rfl, holds_row _ (hlen ▸ hO), PwL.cons (f := []) (g := []) (Rel.leaf false _ _ rfl (.un _)) PwL.nil, by simpa using fb_nodup _, fun b hb => ?_, rfl, rfl, rfl, by simp, fun b hb => ?_⟩
        · simp only [List.append_nil] at hb
          obtain rfl := fb_mem hb
          exact .inl hgfa
        · exact setRow_other w.drew g b _ (fun e => hb.2 (e ▸ hgfa))
      · refine (ins_grow g o l.length cap k vb voff v.length vc cur _ _ w (by omega) (by omega) hlc (by omega) (by omega) hgh hcs htk hvl hvc (hc3_one l) (hc3_one v)).mono ?_
        rintro e w' ⟨G, Z, hG1, hG2, rfl, hZ, hh, hB⟩
        have hO : Own w' 36 3 (.slice (some ⟨w.heap.size, 0, none⟩) (l.length + v.length) G) (l.take k ++ (v ++ l.drop k)).length ((l.take k ++ (v ++ l.drop k)).map hc3).flatten := by
          refine ⟨hc3_len _, some ⟨w.heap.size, 0, none⟩, G, by rw [hlen], by omega, .inr ⟨w.heap.size, 0, _, rfl, Lies.of hh, hG2, ?_, ?_⟩⟩
          · simp only [List.size_toArray, List.length_append, List.length_take, List.length_drop, hvl, hll, hZ]; omega
          · rw [hlen, hcells]
            simp only [List.toList_toArray, List.drop_zero]
            exact List.take_left' (by simp only [List.length_append, List.length_take, List.length_drop, hvl, hll]; omega)
        refine ⟨_, fbOf (.slice (some ⟨w.heap.size, 0, none⟩) (l.length + v.length) G), [], rfl, holds_row _ (hlen ▸ hO), PwL.cons (f := []) (g := []) (Rel.leaf false _ _ rfl (.un _)) PwL.nil, by simpa using fb_nodup _, fun b hb => ?_, hB.os, hB.tape, hB.output, hB.size, fun b hb => hB.block b hb.1⟩
        simp only [List.append_nil] at hb
        obtain rfl := fb_mem hb
        exact .inr (Nat.le_refl _)
def slices_Insert_impl_Hold (o : List Hold) (o_ : Int) (a2 : List Hold) : Option ((List Hold)) :=
 if (decide (0 ≤ o_)) = true then
 if (decide (o_ ≤ (o.length : Int))) = true then
 if ((a2.length : Int) == 0) = true then
 some o
 else
 if (o_ == (o.length : Int)) = true then
 if (capOk (o.length + a2.length)) = true then
 some (o ++ a2)
 else none
 else
 if (capOk (o.length + a2.length)) = true then
 some (o.take o_.toNat ++ (a2 ++ o.drop o_.toNat))
 else none
 else none
 else none
theorem slices_Insert_impl_Hold_ok (o : List Hold) (o_ : Int) (a2 : List Hold) : Pn (fun y => Fn Try.prog 68 [(true, E23 o), (false, E3 o_), (false, E23 a2)] (E23 y) [V.un]) (slices_Insert_impl_Hold o o_ a2) := by
  unfold slices_Insert_impl_Hold
  exact
   Pn.ite (fun h1 =>
   Pn.ite (fun h2 =>
   Pn.ite (fun h3 =>
   Pn.some (Fn.of [.wait 4, .nm 12 (V.sb 0 3 o_.toNat (o.length - o_.toNat)), .wait 2, .nm 14 (vI (a2.length : Int)), .bit true] (p := [(0 : Int) ≤ o_,(o_ : Int) ≤ ((List.map E36 o).length : Int),(((List.map E36 o).length : Int) : Int) ≤ ((List.map E36 o).length : Int),V.sb 0 3 o_.toNat ((((List.map E36 o).length : Int).toNat) - (o_.toNat)) = V.sb 0 3 o_.toNat (o.length - o_.toNat),vI ((List.map E36 a2).length : Int) = vI (a2.length : Int),((a2.length : Int) == 0) = true]) (by kernel_rfl) (cj (od h1) (cj (by rw [List.length_map]; exact (od h2)) (cj (Int.le_refl _) (cj (by simp) (cj (len_nm _ _) (cj1 h3)))))))) (fun h3 =>
   Pn.ite (fun h4 =>
   Pn.ite (fun h5 =>
   Pn.some (Fn.of [.wait 4, .nm 12 (V.sb 0 3 o_.toNat (o.length - o_.toNat)), .wait 2, .nm 14 (vI (a2.length : Int)), .bit false, .wait 1, .nm 19 (vI (o.length : Int)), .bit true, .cp (List.map E36 a2), .nb 1 (.row 36 (List.map E36 (o ++ a2)) [])] (p := [(0 : Int) ≤ o_,(o_ : Int) ≤ ((List.map E36 o).length : Int),(((List.map E36 o).length : Int) : Int) ≤ ((List.map E36 o).length : Int),V.sb 0 3 o_.toNat ((((List.map E36 o).length : Int).toNat) - (o_.toNat)) = V.sb 0 3 o_.toNat (o.length - o_.toNat),vI ((List.map E36 a2).length : Int) = vI (a2.length : Int),((a2.length : Int) == 0) = false,vI ((List.map E36 o).length : Int) = vI (o.length : Int),(o_ == (o.length : Int)) = true,(List.map E36 a2).map V.vw = (List.map E36 a2),(List.map E36 o).length + (List.map E36 a2).length ≤ 9223372036854775807,((List.map E36 o).length + (List.map E36 a2).length) * 32 ≤ 140737488355328,Blk.row 36 ((List.map E36 o) ++ (List.map E36 a2)) [] = Blk.row 36 (List.map E36 (o ++ a2)) []]) (by kernel_rfl) (cj (od h1) (cj (by rw [List.length_map]; exact (od h2)) (cj (Int.le_refl _) (cj (by simp) (cj (len_nm _ _) (cj h3 (cj (len_nm _ _) (cj h4 (cj (vw_id (fun _ => rfl) _) (cj (cap1 (capN (by simp) h5)) (cj (cap2 (capN (by simp) h5) (by decide)) (cj1 (nb_app E36 o a2))))))))))))))) (fun h5 =>
   Pn.none)) (fun h4 =>
   Pn.ite (fun h6 =>
   Pn.some (ins_mid o o_ a2 h1 h2 h3 h4 h6)) (fun h6 =>
   Pn.none)))) (fun h2 =>
   Pn.none)) (fun h1 =>
   Pn.none)
def impl_HoldPut_l0 (h_ : Hold) (r2 : (List Hold)) : List Hold → List Hold → Option (Int)
  | [], p1 =>
   some (p1.length : Int)
  | x1 :: t1, p1 =>
   if (Op.bytesLess x1.Id.toList h_.Id.toList) = true then
   impl_HoldPut_l0 h_ r2 t1 (p1 ++ [x1])
   else
   some (p1.length : Int)
theorem impl_HoldPut_l0_ok (h_ : Hold) (r2 : (List Hold)) (h5 : capOk r2.length = true) : ∀ (t1 p1 : List Hold) (_ : r2 = p1 ++ t1) , Pn (LpO Try.prog (sub (codeOf Try.prog 29) [1, 1, 1, 1, 0, 0, 0]) (st 40 [(3, V.ptr 0 0), (6, V.ow 1), (7, vI (p1.length : Int))] [Blk.box 36 [V.sc (.string h_.Id), vI h_.Amount, vI h_.Due], Blk.row 36 (List.map E36 r2) []] []) (fun (y : Int) => (X.out 0, st 40 [(3, V.ptr 0 0), (6, V.ow 1), (7, vI y)] [Blk.box 36 [V.sc (.string h_.Id), vI h_.Amount, vI h_.Due], Blk.row 36 (List.map E36 r2) []] []))) (impl_HoldPut_l0 h_ r2 t1 p1)
  | [], p1, h4 => by
    unfold impl_HoldPut_l0
    exact
     Pn.some (LpO.out [.draw [], .wait 2, .nm 17 (vI (r2.length : Int)), .bit false, .bit false, .bit false, .bit false, .bit false, .bit false, .bit false, .bit false, .bit false, .bit false, .mask [3, 6, 7], .ren [0, 1]] (p := [vI ((List.map E36 r2).length : Int) = vI (r2.length : Int),(decide ((p1.length : Int) < (r2.length : Int))) = false,(decide ((p1.length : Int) < (r2.length : Int))) = false,(decide ((p1.length : Int) < (r2.length : Int))) = false,(decide ((p1.length : Int) < (r2.length : Int))) = false,(decide ((p1.length : Int) < (r2.length : Int))) = false,(decide ((p1.length : Int) < (r2.length : Int))) = false,(decide ((p1.length : Int) < (r2.length : Int))) = false,(decide ((p1.length : Int) < (r2.length : Int))) = false,(decide ((p1.length : Int) < (r2.length : Int))) = false,false = false]) (by kernel_rfl) (show X.out 0 ≠ X.go from nofun) (cj (len_nm _ _) (cj (rng_end h4) (cj (rng_end h4) (cj (rng_end h4) (cj (rng_end h4) (cj (rng_end h4) (cj (rng_end h4) (cj (rng_end h4) (cj (rng_end h4) (cj (rng_end h4) (cj1 rfl))))))))))))
  | x1 :: t1, p1, h4 => by
    unfold impl_HoldPut_l0
    exact
     Pn.ite (fun h6 =>
     LpO.go [.draw [], .wait 2, .nm 17 (vI (r2.length : Int)), .bit true, .bit true, .bit true, .bit true, .bit true, .el (E36 x1), .bit true, .bit true, .bit true, .bit true, .bit true, .wait 3, .mask [3, 6, 7], .ren [0, 1], .nm 7 (vI ((p1 ++ [x1]).length : Int))] (p := [vI ((List.map E36 r2).length : Int) = vI (r2.length : Int),(decide ((p1.length : Int) < (r2.length : Int))) = true,(decide ((p1.length : Int) < (r2.length : Int))) = true,(decide ((p1.length : Int) < (r2.length : Int))) = true,(0 : Int) ≤ (p1.length : Int),((p1.length : Int) : Int) < ((List.map E36 r2).length : Int),(decide ((p1.length : Int) < (r2.length : Int))) = true,(decide ((p1.length : Int) < (r2.length : Int))) = true,look [] ((p1.length : Int).toNat) = none,(List.map E36 r2)[(p1.length : Int).toNat]? = some (E36 x1),(decide ((p1.length : Int) < (r2.length : Int))) = true,(decide ((p1.length : Int) < (r2.length : Int))) = true,(decide ((p1.length : Int) < (r2.length : Int))) = true,(decide ((p1.length : Int) < (r2.length : Int))) = true,(Op.bytesLess x1.Id.toList h_.Id.toList) = true,vI (i64 ((p1.length : Int) + 1)) = vI ((p1 ++ [x1]).length : Int)]) (by kernel_rfl) (cj (len_nm _ _) (cj (rng_lt h4) (cj (rng_lt h4) (cj (rng_lt h4) (cj (by omega) (cj (rng_ltI _ h4) (cj (rng_lt h4) (cj (rng_lt h4) (cj rfl (cj (rng_get _ h4) (cj (rng_lt h4) (cj (rng_lt h4) (cj (rng_lt h4) (cj (rng_lt h4) (cj h6 (cj1 (rng_next h4 h5))))))))))))))))) (impl_HoldPut_l0_ok h_ r2 h5 t1 (p1 ++ [x1]) (rng_step h4))) (fun h6 =>
     Pn.some (LpO.out [.draw [], .wait 2, .nm 17 (vI (r2.length : Int)), .bit true, .bit true, .bit true, .bit true, .bit true, .el (E36 x1), .bit true, .bit true, .bit true, .bit true, .bit false, .mask [3, 6, 7], .ren [0, 1]] (p := [vI ((List.map E36 r2).length : Int) = vI (r2.length : Int),(decide ((p1.length : Int) < (r2.length : Int))) = true,(decide ((p1.length : Int) < (r2.length : Int))) = true,(decide ((p1.length : Int) < (r2.length : Int))) = true,(0 : Int) ≤ (p1.length : Int),((p1.length : Int) : Int) < ((List.map E36 r2).length : Int),(decide ((p1.length : Int) < (r2.length : Int))) = true,(decide ((p1.length : Int) < (r2.length : Int))) = true,look [] ((p1.length : Int).toNat) = none,(List.map E36 r2)[(p1.length : Int).toNat]? = some (E36 x1),(decide ((p1.length : Int) < (r2.length : Int))) = true,(decide ((p1.length : Int) < (r2.length : Int))) = true,(decide ((p1.length : Int) < (r2.length : Int))) = true,(decide ((p1.length : Int) < (r2.length : Int))) = true,(Op.bytesLess x1.Id.toList h_.Id.toList) = false]) (by kernel_rfl) (show X.out 0 ≠ X.go from nofun) (cj (len_nm _ _) (cj (rng_lt h4) (cj (rng_lt h4) (cj (rng_lt h4) (cj (by omega) (cj (rng_ltI _ h4) (cj (rng_lt h4) (cj (rng_lt h4) (cj rfl (cj (rng_get _ h4) (cj (rng_lt h4) (cj (rng_lt h4) (cj (rng_lt h4) (cj (rng_lt h4) (cj1 h6)))))))))))))))))
def impl_HoldPut (l : List Hold) (h_ : Hold) : Option ((List Hold) × Bool) :=
 (impl_HoldsOk l).bind fun r1 =>
 if r1 = true then
 (impl_HoldDrop l h_.Id).bind fun r2 =>
 if (capOk r2.length) = true then
 (impl_HoldPut_l0 h_ r2 r2 []).bind fun r3 =>
 (slices_Insert_impl_Hold r2 r3 [h_]).bind fun r4 =>
 (impl_HoldsOk r4).bind fun r5 =>
 if r5 = true then
 some (r4, true)
 else
 some ([], false)
 else none
 else
 some ([], false)
theorem impl_HoldPut_ok (l : List Hold) (h_ : Hold) : Pn (fun y => Fn Try.prog 29 [(false, E23 l), (false, E36 h_)] (V.tup [E23 y.1, E4 y.2]) []) (impl_HoldPut l h_) := by
  unfold impl_HoldPut
  exact
   Pn.bind (fun r1 h1 =>
   Pn.ite (fun h2 =>
   Pn.bind (fun r2 h3 =>
   Pn.ite (fun h7 =>
   Pn.bind (fun r3 h8 =>
   Pn.bind (fun r4 h9 =>
   Pn.bind (fun r5 h10 =>
   Pn.ite (fun h11 =>
   Pn.some (Fn.of [.call [] (E4 r1) [], .bit false, .call [] (E23 r2) [], .wait 3, .mask [3, 6, 7], .ren [0, 1], .loop (X.out 0) (st 40 [(3, V.ptr 0 0), (6, V.ow 1), (7, vI r3)] [Blk.box 36 [V.sc (.string h_.Id), vI h_.Amount, vI h_.Due], Blk.row 36 (List.map E36 r2) []] []), .call [true, false, false] (E23 r4) [V.un], .call [] (E4 r5) [], .bit false] (p := [Fn Try.prog 39 [(false, E23 l)] (E4 r1) [],(true || ((E4 r1).nv && nvL [])) = true,(!r1) = false,Fn Try.prog 30 [(false, E23 l), (false, E9 h_.Id)] (E23 r2) [],(true || ((E23 r2).nv && nvL [])) = true,Loop Try.prog (sub (codeOf Try.prog 29) [1, 1, 1, 1, 0, 0, 0]) (st 40 [(3, V.ptr 0 0), (6, V.ow 1), (7, vI 0)] [Blk.box 36 [V.sc (.string h_.Id), vI h_.Amount, vI h_.Due], Blk.row 36 (List.map E36 r2) []] []) (X.out 0) (st 40 [(3, V.ptr 0 0), (6, V.ow 1), (7, vI r3)] [Blk.box 36 [V.sc (.string h_.Id), vI h_.Amount, vI h_.Due], Blk.row 36 (List.map E36 r2) []] []),Fn Try.prog 68 [(true, E23 r2), (false, E3 r3), (false, E23 [h_])] (E23 r4) [V.un],(false || ((E23 r4).nv && nvL [V.un])) = true,Fn Try.prog 39 [(false, E23 r4)] (E4 r5) [],(false || ((E4 r5).nv && nvL [])) = true,(!r5) = false]) (by kernel_rfl) (cj (impl_HoldsOk_ok l r1 h1) (cj rfl (cj (nf h2) (cj (impl_HoldDrop_ok l h_.Id r2 h3) (cj rfl (cj (impl_HoldPut_l0_ok h_ r2 h7 r2 [] rfl r3 h8) (cj (slices_Insert_impl_Hold_ok r2 r3 [h_] r4 h9) (cj (by simp [V.nv, nvL, nvL_all, nv_E3, nv_E9, nv_E23, nv_E36]) (cj (impl_HoldsOk_ok r4 r5 h10) (cj (by simp [V.nv, nvL, nvL_all, nv_E4]) (cj1 (nf h11)))))))))))))) (fun h11 =>
   Pn.some (Fn.of [.call [] (E4 r1) [], .bit false, .call [] (E23 r2) [], .wait 3, .mask [3, 6, 7], .ren [0, 1], .loop (X.out 0) (st 40 [(3, V.ptr 0 0), (6, V.ow 1), (7, vI r3)] [Blk.box 36 [V.sc (.string h_.Id), vI h_.Amount, vI h_.Due], Blk.row 36 (List.map E36 r2) []] []), .call [true, false, false] (E23 r4) [V.un], .call [] (E4 r5) [], .bit true] (p := [Fn Try.prog 39 [(false, E23 l)] (E4 r1) [],(true || ((E4 r1).nv && nvL [])) = true,(!r1) = false,Fn Try.prog 30 [(false, E23 l), (false, E9 h_.Id)] (E23 r2) [],(true || ((E23 r2).nv && nvL [])) = true,Loop Try.prog (sub (codeOf Try.prog 29) [1, 1, 1, 1, 0, 0, 0]) (st 40 [(3, V.ptr 0 0), (6, V.ow 1), (7, vI 0)] [Blk.box 36 [V.sc (.string h_.Id), vI h_.Amount, vI h_.Due], Blk.row 36 (List.map E36 r2) []] []) (X.out 0) (st 40 [(3, V.ptr 0 0), (6, V.ow 1), (7, vI r3)] [Blk.box 36 [V.sc (.string h_.Id), vI h_.Amount, vI h_.Due], Blk.row 36 (List.map E36 r2) []] []),Fn Try.prog 68 [(true, E23 r2), (false, E3 r3), (false, E23 [h_])] (E23 r4) [V.un],(false || ((E23 r4).nv && nvL [V.un])) = true,Fn Try.prog 39 [(false, E23 r4)] (E4 r5) [],(false || ((E4 r5).nv && nvL [])) = true,(!r5) = true]) (by kernel_rfl) (cj (impl_HoldsOk_ok l r1 h1) (cj rfl (cj (nf h2) (cj (impl_HoldDrop_ok l h_.Id r2 h3) (cj rfl (cj (impl_HoldPut_l0_ok h_ r2 h7 r2 [] rfl r3 h8) (cj (slices_Insert_impl_Hold_ok r2 r3 [h_] r4 h9) (cj (by simp [V.nv, nvL, nvL_all, nv_E3, nv_E9, nv_E23, nv_E36]) (cj (impl_HoldsOk_ok r4 r5 h10) (cj (by simp [V.nv, nvL, nvL_all, nv_E4]) (cj1 (nt h11)))))))))))))))))) (fun h7 =>
   Pn.none))) (fun h2 =>
   Pn.some (Fn.of [.call [] (E4 r1) [], .bit true] (p := [Fn Try.prog 39 [(false, E23 l)] (E4 r1) [],(true || ((E4 r1).nv && nvL [])) = true,(!r1) = true]) (by kernel_rfl) (cj (impl_HoldsOk_ok l r1 h1) (cj rfl (cj1 (nt h2)))))))
def impl_Move_s1 (o : Acct) (o_ : Acct) (a2 : ByteArray) (a3 : Int) (r1 : Acct × Int) (r2 : Acct × Int) (r3 : Int) (r4 : Bool) (r5 : Int) (r6 : Int) (x1 : Hold) (r7 : (List Hold) × Bool) : St := st 100 [(0, V.agg [V.sc (.string o.Id), vI o.Limit, vI o.Posted, vI o.Most, vI o.MostSum, V.sl false 36 (List.map E36 o.Holds), vI o.Ring.Span, vI o.Ring.Head, V.sl false 3 (List.map E3 o.Ring.Counts), V.sl false 3 (List.map E3 o.Ring.Sums), V.sl false 94 (List.map E94 o.Slots)]), (1, V.agg [V.sc (.string o_.Id), vI o_.Limit, vI o_.Posted, vI o_.Most, vI o_.MostSum, V.sl false 36 (List.map E36 o_.Holds), vI o_.Ring.Span, vI o_.Ring.Head, V.sl false 3 (List.map E3 o_.Ring.Counts), V.sl false 3 (List.map E3 o_.Ring.Sums), V.sl false 94 (List.map E94 o_.Slots)]), (2, V.sc (.string a2)), (3, vI a3), (4, V.ptr 0 0), (5, V.ptr 1 0), (8, V.ptr 2 0), (9, V.ptr 3 0), (10, vI 0), (11, V.ptr 4 0), (12, vI r1.2), (13, V.ptr 9 0), (14, vI r2.2), (15, vI r3), (16, vI 0), (17, V.tup [aA r1.1 5 6 7 8, vI r1.2]), (18, V.agg [V.sc (.string o.Id), vI o.Limit, vI o.Posted, vI o.Most, vI o.MostSum, V.sl false 36 (List.map E36 o.Holds), vI o.Ring.Span, vI o.Ring.Head, V.sl false 3 (List.map E3 o.Ring.Counts), V.sl false 3 (List.map E3 o.Ring.Sums), V.sl false 94 (List.map E94 o.Slots)]), (19, vI a3), (20, V.tup [aA r1.1 5 6 7 8, vI r1.2]), (21, aA r1.1 5 6 7 8), (22, vI r1.2), (23, V.tup [aA r2.1 14 11 12 13, vI r2.2]), (24, V.agg [V.sc (.string o_.Id), vI o_.Limit, vI o_.Posted, vI o_.Most, vI o_.MostSum, V.sl false 36 (List.map E36 o_.Holds), vI o_.Ring.Span, vI o_.Ring.Head, V.sl false 3 (List.map E3 o_.Ring.Counts), V.sl false 3 (List.map E3 o_.Ring.Sums), V.sl false 94 (List.map E94 o_.Slots)]), (25, vI a3), (26, V.tup [aA r2.1 14 11 12 13, vI r2.2]), (27, aA r2.1 14 11 12 13), (28, vI r2.2), (29, V.ptr 4 5), (30, V.ow 5), (31, V.sc (.string a2)), (32, vI r3), (33, V.sc (.bool (!r4))), (34, vI r1.2), (35, V.sc (.bool (r1.2 != 0))), (36, V.sc (.bool (r1.2 != 0))), (37, vI r2.2), (38, V.sc (.bool (r2.2 != 0))), (39, V.sc (.bool (r2.2 != 0))), (40, V.sc (.bool (r2.2 != 0))), (41, V.sc (.string a2)), (42, V.sc (.bool r4)), (43, V.sc (.bool (!r4))), (44, V.sc (.bool (!r4))), (45, V.sc (.bool (o.Id == o_.Id))), (46, V.ptr 0 0), (47, V.sc (.string o.Id)), (48, V.ptr 1 0), (49, V.sc (.string o_.Id)), (50, V.sc (.bool (o.Id == o_.Id))), (51, V.sc (.bool (decide (r3 < 0)))), (52, vI r3), (53, V.sc (.bool (decide (r3 < 0)))), (54, V.sc (.bool (decide (0 ≤ r5)))), (55, V.ptr 9 5), (56, V.ow 14), (57, V.sc (.string a2)), (58, vI r5), (59, V.sc (.bool (decide (0 ≤ r5)))), (60, V.sc (.bool ((r2.1.Holds.length : Int) == 4))), (61, V.ptr 9 5), (62, V.ow 14), (63, vI (r2.1.Holds.length : Int)), (64, V.sc (.bool ((r2.1.Holds.length : Int) == 4))), (65, V.sc (.bool (decide (r6 < x1.Amount)))), (66, V.ptr 4 5), (67, V.ow 5), (68, vI r3), (69, V.ep 5 3 r3.toNat 0), (70, V.ep 5 3 r3.toNat 1), (71, vI x1.Amount), (72, aA r2.1 14 11 12 13), (73, vI a3), (74, vI r6), (75, V.sc (.bool (decide (r6 < x1.Amount)))), (76, vI 0), (77, V.sc (.bool false)), (81, V.tup [V.ow 10, V.sc (.bool r7.2)]), (82, V.ptr 9 5), (83, V.ow 14), (84, V.ptr 4 5), (85, V.ow 5), (86, vI r3), (87, V.ep 5 3 r3.toNat 0), (88, V.agg [V.sc (.string x1.Id), vI x1.Amount, vI x1.Due]), (89, V.tup [V.ow 10, V.sc (.bool r7.2)]), (90, V.ow 10), (91, V.sc (.bool r7.2)), (92, V.ptr 9 5)] [Blk.box 29 [V.sc (.string o.Id), vI o.Limit, vI o.Posted, vI o.Most, vI o.MostSum, V.sl false 36 (List.map E36 o.Holds), vI o.Ring.Span, vI o.Ring.Head, V.sl false 3 (List.map E3 o.Ring.Counts), V.sl false 3 (List.map E3 o.Ring.Sums), V.sl false 94 (List.map E94 o.Slots)], Blk.box 29 [V.sc (.string o_.Id), vI o_.Limit, vI o_.Posted, vI o_.Most, vI o_.MostSum, V.sl false 36 (List.map E36 o_.Holds), vI o_.Ring.Span, vI o_.Ring.Head, V.sl false 3 (List.map E3 o_.Ring.Counts), V.sl false 3 (List.map E3 o_.Ring.Sums), V.sl false 94 (List.map E94 o_.Slots)], Blk.box 29 [V.sc (.string ByteArray.empty), vI 0, vI 0, vI 0, vI 0, V.nl 36, vI 0, vI 0, V.nl 3, V.nl 3, V.nl 94], Blk.box 29 [V.sc (.string ByteArray.empty), vI 0, vI 0, vI 0, vI 0, V.nl 36, vI 0, vI 0, V.nl 3, V.nl 3, V.nl 94], Blk.box 29 [V.sc (.string r1.1.Id), vI r1.1.Limit, vI r1.1.Posted, vI r1.1.Most, vI r1.1.MostSum, V.ow 5, vI r1.1.Ring.Span, vI r1.1.Ring.Head, V.ow 6, V.ow 7, V.ow 8], Blk.row 36 (List.map E36 r1.1.Holds) [], Blk.row 3 (List.map E3 r1.1.Ring.Counts) [], Blk.row 3 (List.map E3 r1.1.Ring.Sums) [], Blk.row 94 (List.map E94 r1.1.Slots) [], Blk.box 29 [V.sc (.string r2.1.Id), vI r2.1.Limit, vI r2.1.Posted, vI r2.1.Most, vI r2.1.MostSum, V.ow 10, vI r2.1.Ring.Span, vI r2.1.Ring.Head, V.ow 11, V.ow 12, V.ow 13], Blk.row 36 (List.map E36 r7.1) [], Blk.row 3 (List.map E3 r2.1.Ring.Counts) [], Blk.row 3 (List.map E3 r2.1.Ring.Sums) [], Blk.row 94 (List.map E94 r2.1.Slots) [], Blk.row 36 (List.map E36 r2.1.Holds) []] []
def impl_Move_s2 (o : Acct) (o_ : Acct) (a2 : ByteArray) (a3 : Int) (r1 : Acct × Int) (r2 : Acct × Int) (r3 : Int) (r4 : Bool) (r5 : Int) (r6 : Int) (x1 : Hold) (r7 : (List Hold) × Bool) (r8 : (List Hold)) : St := st 100 [(0, V.agg [V.sc (.string o.Id), vI o.Limit, vI o.Posted, vI o.Most, vI o.MostSum, V.sl false 36 (List.map E36 o.Holds), vI o.Ring.Span, vI o.Ring.Head, V.sl false 3 (List.map E3 o.Ring.Counts), V.sl false 3 (List.map E3 o.Ring.Sums), V.sl false 94 (List.map E94 o.Slots)]), (1, V.agg [V.sc (.string o_.Id), vI o_.Limit, vI o_.Posted, vI o_.Most, vI o_.MostSum, V.sl false 36 (List.map E36 o_.Holds), vI o_.Ring.Span, vI o_.Ring.Head, V.sl false 3 (List.map E3 o_.Ring.Counts), V.sl false 3 (List.map E3 o_.Ring.Sums), V.sl false 94 (List.map E94 o_.Slots)]), (2, V.sc (.string a2)), (3, vI a3), (4, V.ptr 0 0), (5, V.ptr 1 0), (8, V.ptr 2 0), (9, V.ptr 7 0), (10, vI 0), (11, V.ptr 12 0), (12, vI r1.2), (13, V.ptr 13 0), (14, vI r2.2), (15, vI r3), (16, vI 0), (17, V.tup [aA r1.1 14 4 5 6, vI r1.2]), (18, V.agg [V.sc (.string o.Id), vI o.Limit, vI o.Posted, vI o.Most, vI o.MostSum, V.sl false 36 (List.map E36 o.Holds), vI o.Ring.Span, vI o.Ring.Head, V.sl false 3 (List.map E3 o.Ring.Counts), V.sl false 3 (List.map E3 o.Ring.Sums), V.sl false 94 (List.map E94 o.Slots)]), (19, vI a3), (20, V.tup [aA r1.1 14 4 5 6, vI r1.2]), (21, aA r1.1 14 4 5 6), (22, vI r1.2), (23, V.tup [aA r2.1 15 9 10 11, vI r2.2]), (24, V.agg [V.sc (.string o_.Id), vI o_.Limit, vI o_.Posted, vI o_.Most, vI o_.MostSum, V.sl false 36 (List.map E36 o_.Holds), vI o_.Ring.Span, vI o_.Ring.Head, V.sl false 3 (List.map E3 o_.Ring.Counts), V.sl false 3 (List.map E3 o_.Ring.Sums), V.sl false 94 (List.map E94 o_.Slots)]), (25, vI a3), (26, V.tup [aA r2.1 15 9 10 11, vI r2.2]), (27, aA r2.1 15 9 10 11), (28, vI r2.2), (29, V.ptr 12 5), (30, V.ow 14), (31, V.sc (.string a2)), (32, vI r3), (33, V.sc (.bool (!r4))), (34, vI r1.2), (35, V.sc (.bool (r1.2 != 0))), (36, V.sc (.bool (r1.2 != 0))), (37, vI r2.2), (38, V.sc (.bool (r2.2 != 0))), (39, V.sc (.bool (r2.2 != 0))), (40, V.sc (.bool (r2.2 != 0))), (41, V.sc (.string a2)), (42, V.sc (.bool r4)), (43, V.sc (.bool (!r4))), (44, V.sc (.bool (!r4))), (45, V.sc (.bool (o.Id == o_.Id))), (46, V.ptr 0 0), (47, V.sc (.string o.Id)), (48, V.ptr 1 0), (49, V.sc (.string o_.Id)), (50, V.sc (.bool (o.Id == o_.Id))), (51, V.sc (.bool (decide (r3 < 0)))), (52, vI r3), (53, V.sc (.bool (decide (r3 < 0)))), (54, V.sc (.bool (decide (0 ≤ r5)))), (55, V.ptr 13 5), (56, V.ow 15), (57, V.sc (.string a2)), (58, vI r5), (59, V.sc (.bool (decide (0 ≤ r5)))), (60, V.sc (.bool ((r2.1.Holds.length : Int) == 4))), (61, V.ptr 13 5), (62, V.ow 15), (63, vI (r2.1.Holds.length : Int)), (64, V.sc (.bool ((r2.1.Holds.length : Int) == 4))), (65, V.sc (.bool (decide (r6 < x1.Amount)))), (66, V.ptr 12 5), (67, V.ow 14), (68, vI r3), (69, V.ep 14 3 r3.toNat 0), (70, V.ep 14 3 r3.toNat 1), (71, vI x1.Amount), (72, aA r2.1 15 9 10 11), (73, vI a3), (74, vI r6), (75, V.sc (.bool (decide (r6 < x1.Amount)))), (76, vI 0), (77, V.sc (.bool false)), (81, V.tup [V.ow 8, V.sc (.bool r7.2)]), (82, V.ptr 13 5), (83, V.ow 15), (84, V.ptr 12 5), (85, V.ow 14), (86, vI r3), (87, V.ep 14 3 r3.toNat 0), (88, V.agg [V.sc (.string x1.Id), vI x1.Amount, vI x1.Due]), (89, V.tup [V.ow 8, V.sc (.bool r7.2)]), (90, V.ow 8), (91, V.sc (.bool r7.2)), (92, V.ptr 13 5), (93, V.ptr 12 5), (94, V.ow 14), (95, V.sc (.string a2)), (96, V.ow 3), (97, V.ptr 12 5), (98, aA r1.1 3 4 5 6), (99, aA r2.1 8 9 10 11)] [Blk.box 29 [V.sc (.string o.Id), vI o.Limit, vI o.Posted, vI o.Most, vI o.MostSum, V.sl false 36 (List.map E36 o.Holds), vI o.Ring.Span, vI o.Ring.Head, V.sl false 3 (List.map E3 o.Ring.Counts), V.sl false 3 (List.map E3 o.Ring.Sums), V.sl false 94 (List.map E94 o.Slots)], Blk.box 29 [V.sc (.string o_.Id), vI o_.Limit, vI o_.Posted, vI o_.Most, vI o_.MostSum, V.sl false 36 (List.map E36 o_.Holds), vI o_.Ring.Span, vI o_.Ring.Head, V.sl false 3 (List.map E3 o_.Ring.Counts), V.sl false 3 (List.map E3 o_.Ring.Sums), V.sl false 94 (List.map E94 o_.Slots)], Blk.box 29 [V.sc (.string r1.1.Id), vI r1.1.Limit, vI r1.1.Posted, vI r1.1.Most, vI r1.1.MostSum, V.ow 3, vI r1.1.Ring.Span, vI r1.1.Ring.Head, V.ow 4, V.ow 5, V.ow 6], Blk.row 36 (List.map E36 r8) [], Blk.row 3 (List.map E3 r1.1.Ring.Counts) [], Blk.row 3 (List.map E3 r1.1.Ring.Sums) [], Blk.row 94 (List.map E94 r1.1.Slots) [], Blk.box 29 [V.sc (.string r2.1.Id), vI r2.1.Limit, vI r2.1.Posted, vI r2.1.Most, vI r2.1.MostSum, V.ow 8, vI r2.1.Ring.Span, vI r2.1.Ring.Head, V.ow 9, V.ow 10, V.ow 11], Blk.row 36 (List.map E36 r7.1) [], Blk.row 3 (List.map E3 r2.1.Ring.Counts) [], Blk.row 3 (List.map E3 r2.1.Ring.Sums) [], Blk.row 94 (List.map E94 r2.1.Slots) [], Blk.box 29 [V.sc (.string r1.1.Id), vI r1.1.Limit, vI r1.1.Posted, vI r1.1.Most, vI r1.1.MostSum, V.ow 3, vI r1.1.Ring.Span, vI r1.1.Ring.Head, V.ow 4, V.ow 5, V.ow 6], Blk.box 29 [V.sc (.string r2.1.Id), vI r2.1.Limit, vI r2.1.Posted, vI r2.1.Most, vI r2.1.MostSum, V.ow 8, vI r2.1.Ring.Span, vI r2.1.Ring.Head, V.ow 9, V.ow 10, V.ow 11], Blk.row 36 (List.map E36 r1.1.Holds) [], Blk.row 36 (List.map E36 r2.1.Holds) []] []
def impl_Move (o : Acct) (o_ : Acct) (a2 : ByteArray) (a3 : Int) : Option (Acct × Acct × Int) :=
 (impl_begin o a3).bind fun r1 =>
 (impl_begin o_ a3).bind fun r2 =>
 (impl_HoldAt r1.1.Holds a2).bind fun r3 =>
 if (r1.2 != 0) = true then
 some ((Acct.mk ByteArray.empty 0 0 0 0 [] (Ring.mk 0 0 [] []) []), (Acct.mk ByteArray.empty 0 0 0 0 [] (Ring.mk 0 0 [] []) []), 1)
 else
 if (r2.2 != 0) = true then
 some ((Acct.mk ByteArray.empty 0 0 0 0 [] (Ring.mk 0 0 [] []) []), (Acct.mk ByteArray.empty 0 0 0 0 [] (Ring.mk 0 0 [] []) []), 1)
 else
 (impl_HoldIdOk a2).bind fun r4 =>
 if r4 = true then
 if (o.Id == o_.Id) = true then
 some ((Acct.mk ByteArray.empty 0 0 0 0 [] (Ring.mk 0 0 [] []) []), (Acct.mk ByteArray.empty 0 0 0 0 [] (Ring.mk 0 0 [] []) []), 4)
 else
 if (decide (r3 < 0)) = true then
 some ((Acct.mk ByteArray.empty 0 0 0 0 [] (Ring.mk 0 0 [] []) []), (Acct.mk ByteArray.empty 0 0 0 0 [] (Ring.mk 0 0 [] []) []), 5)
 else
 (impl_HoldAt r2.1.Holds a2).bind fun r5 =>
 if (decide (0 ≤ r5)) = true then
 some ((Acct.mk ByteArray.empty 0 0 0 0 [] (Ring.mk 0 0 [] []) []), (Acct.mk ByteArray.empty 0 0 0 0 [] (Ring.mk 0 0 [] []) []), 6)
 else
 if ((r2.1.Holds.length : Int) == 4) = true then
 some ((Acct.mk ByteArray.empty 0 0 0 0 [] (Ring.mk 0 0 [] []) []), (Acct.mk ByteArray.empty 0 0 0 0 [] (Ring.mk 0 0 [] []) []), 10)
 else
 if (decide (0 ≤ r3)) = true then
 (r1.1.Holds[r3.toNat]?).bind fun x1 =>
 (impl_Room r2.1 a3).bind fun r6 =>
 if (decide (r6 < x1.Amount)) = true then
 some ((Acct.mk ByteArray.empty 0 0 0 0 [] (Ring.mk 0 0 [] []) []), (Acct.mk ByteArray.empty 0 0 0 0 [] (Ring.mk 0 0 [] []) []), 7)
 else
 (impl_HoldPut r2.1.Holds x1).bind fun r7 =>
 (impl_HoldDrop r1.1.Holds a2).bind fun r8 =>
 some ((Acct.mk r1.1.Id r1.1.Limit r1.1.Posted r1.1.Most r1.1.MostSum r8 r1.1.Ring r1.1.Slots), (Acct.mk r2.1.Id r2.1.Limit r2.1.Posted r2.1.Most r2.1.MostSum r7.1 r2.1.Ring r2.1.Slots), 0)
 else none
 else
 some ((Acct.mk ByteArray.empty 0 0 0 0 [] (Ring.mk 0 0 [] []) []), (Acct.mk ByteArray.empty 0 0 0 0 [] (Ring.mk 0 0 [] []) []), 1)
theorem impl_Move_ok (o : Acct) (o_ : Acct) (a2 : ByteArray) (a3 : Int) : Pn (fun y => Fn Try.prog 8 [(false, E29 o), (false, E29 o_), (false, E9 a2), (false, E3 a3)] (V.tup [E29 y.1, E29 y.2.1, E3 y.2.2]) []) (impl_Move o o_ a2 a3) := by
  unfold impl_Move
  exact
   Pn.bind (fun r1 h1 =>
   Pn.bind (fun r2 h2 =>
   Pn.bind (fun r3 h3 =>
   Pn.ite (fun h4 =>
   Pn.some (Fn.of [.call [] (V.tup [E29 r1.1, E3 r1.2]) [], .call [] (V.tup [E29 r2.1, E3 r2.2]) [], .call [] (E3 r3) [], .bit true, .bit true, .bit true, .bit true, .bit true, .bit true, .bit true, .bit true, .bit true] (p := [Fn Try.prog 27 [(false, E29 o), (false, E3 a3)] (V.tup [E29 r1.1, E3 r1.2]) [],(true || ((V.tup [E29 r1.1, E3 r1.2]).nv && nvL [])) = true,Fn Try.prog 27 [(false, E29 o_), (false, E3 a3)] (V.tup [E29 r2.1, E3 r2.2]) [],(true || ((V.tup [E29 r2.1, E3 r2.2]).nv && nvL [])) = true,Fn Try.prog 9 [(false, E23 r1.1.Holds), (false, E9 a2)] (E3 r3) [],(false || ((E3 r3).nv && nvL [])) = true,(r1.2 != 0) = true,(r1.2 != 0) = true,(r1.2 != 0) = true,true = true,true = true,true = true,true = true,true = true,true = true]) (by kernel_rfl) (cj (impl_begin_ok o a3 r1 h1) (cj rfl (cj (impl_begin_ok o_ a3 r2 h2) (cj rfl (cj (impl_HoldAt_ok r1.1.Holds a2 r3 h3) (cj (by simp [V.nv, nvL, nvL_all, nv_E3]) (cj h4 (cj h4 (cj h4 (cj rfl (cj rfl (cj rfl (cj rfl (cj rfl (cj1 rfl))))))))))))))))) (fun h4 =>
   Pn.ite (fun h5 =>
   Pn.some (Fn.of [.call [] (V.tup [E29 r1.1, E3 r1.2]) [], .call [] (V.tup [E29 r2.1, E3 r2.2]) [], .call [] (E3 r3) [], .bit false, .bit false, .bit false, .bit true, .bit true, .bit true, .bit true, .bit true, .bit true] (p := [Fn Try.prog 27 [(false, E29 o), (false, E3 a3)] (V.tup [E29 r1.1, E3 r1.2]) [],(true || ((V.tup [E29 r1.1, E3 r1.2]).nv && nvL [])) = true,Fn Try.prog 27 [(false, E29 o_), (false, E3 a3)] (V.tup [E29 r2.1, E3 r2.2]) [],(true || ((V.tup [E29 r2.1, E3 r2.2]).nv && nvL [])) = true,Fn Try.prog 9 [(false, E23 r1.1.Holds), (false, E9 a2)] (E3 r3) [],(false || ((E3 r3).nv && nvL [])) = true,(r1.2 != 0) = false,(r1.2 != 0) = false,(r1.2 != 0) = false,(r2.2 != 0) = true,(r2.2 != 0) = true,(r2.2 != 0) = true,(r2.2 != 0) = true,true = true,true = true]) (by kernel_rfl) (cj (impl_begin_ok o a3 r1 h1) (cj rfl (cj (impl_begin_ok o_ a3 r2 h2) (cj rfl (cj (impl_HoldAt_ok r1.1.Holds a2 r3 h3) (cj (by simp [V.nv, nvL, nvL_all, nv_E3]) (cj h4 (cj h4 (cj h4 (cj h5 (cj h5 (cj h5 (cj h5 (cj rfl (cj1 rfl))))))))))))))))) (fun h5 =>
   Pn.bind (fun r4 h6 =>
   Pn.ite (fun h7 =>
   Pn.ite (fun h8 =>
   Pn.some (Fn.of [.call [] (V.tup [E29 r1.1, E3 r1.2]) [], .call [] (V.tup [E29 r2.1, E3 r2.2]) [], .call [] (E3 r3) [], .bit false, .bit false, .bit false, .bit false, .bit false, .call [] (E4 r4) [], .bit false, .bit false, .bit false, .bit true, .bit true] (p := [Fn Try.prog 27 [(false, E29 o), (false, E3 a3)] (V.tup [E29 r1.1, E3 r1.2]) [],(true || ((V.tup [E29 r1.1, E3 r1.2]).nv && nvL [])) = true,Fn Try.prog 27 [(false, E29 o_), (false, E3 a3)] (V.tup [E29 r2.1, E3 r2.2]) [],(true || ((V.tup [E29 r2.1, E3 r2.2]).nv && nvL [])) = true,Fn Try.prog 9 [(false, E23 r1.1.Holds), (false, E9 a2)] (E3 r3) [],(false || ((E3 r3).nv && nvL [])) = true,(r1.2 != 0) = false,(r1.2 != 0) = false,(r1.2 != 0) = false,(r2.2 != 0) = false,(r2.2 != 0) = false,Fn Try.prog 28 [(false, E9 a2)] (E4 r4) [],(true || ((E4 r4).nv && nvL [])) = true,(r2.2 != 0) = false,(r2.2 != 0) = false,(!r4) = false,(o.Id == o_.Id) = true,true = true]) (by kernel_rfl) (cj (impl_begin_ok o a3 r1 h1) (cj rfl (cj (impl_begin_ok o_ a3 r2 h2) (cj rfl (cj (impl_HoldAt_ok r1.1.Holds a2 r3 h3) (cj (by simp [V.nv, nvL, nvL_all, nv_E3]) (cj h4 (cj h4 (cj h4 (cj h5 (cj h5 (cj (impl_HoldIdOk_ok a2 r4 h6) (cj rfl (cj h5 (cj h5 (cj (nf h7) (cj h8 (cj1 rfl)))))))))))))))))))) (fun h8 =>
   Pn.ite (fun h9 =>
   Pn.some (Fn.of [.call [] (V.tup [E29 r1.1, E3 r1.2]) [], .call [] (V.tup [E29 r2.1, E3 r2.2]) [], .call [] (E3 r3) [], .bit false, .bit false, .bit false, .bit false, .bit false, .call [] (E4 r4) [], .bit false, .bit false, .bit false, .bit false, .bit true, .bit true] (p := [Fn Try.prog 27 [(false, E29 o), (false, E3 a3)] (V.tup [E29 r1.1, E3 r1.2]) [],(true || ((V.tup [E29 r1.1, E3 r1.2]).nv && nvL [])) = true,Fn Try.prog 27 [(false, E29 o_), (false, E3 a3)] (V.tup [E29 r2.1, E3 r2.2]) [],(true || ((V.tup [E29 r2.1, E3 r2.2]).nv && nvL [])) = true,Fn Try.prog 9 [(false, E23 r1.1.Holds), (false, E9 a2)] (E3 r3) [],(false || ((E3 r3).nv && nvL [])) = true,(r1.2 != 0) = false,(r1.2 != 0) = false,(r1.2 != 0) = false,(r2.2 != 0) = false,(r2.2 != 0) = false,Fn Try.prog 28 [(false, E9 a2)] (E4 r4) [],(true || ((E4 r4).nv && nvL [])) = true,(r2.2 != 0) = false,(r2.2 != 0) = false,(!r4) = false,(o.Id == o_.Id) = false,(decide (r3 < 0)) = true,true = true]) (by kernel_rfl) (cj (impl_begin_ok o a3 r1 h1) (cj rfl (cj (impl_begin_ok o_ a3 r2 h2) (cj rfl (cj (impl_HoldAt_ok r1.1.Holds a2 r3 h3) (cj (by simp [V.nv, nvL, nvL_all, nv_E3]) (cj h4 (cj h4 (cj h4 (cj h5 (cj h5 (cj (impl_HoldIdOk_ok a2 r4 h6) (cj rfl (cj h5 (cj h5 (cj (nf h7) (cj h8 (cj h9 (cj1 rfl))))))))))))))))))))) (fun h9 =>
   Pn.bind (fun r5 h10 =>
   Pn.ite (fun h11 =>
   Pn.some (Fn.of [.call [] (V.tup [E29 r1.1, E3 r1.2]) [], .call [] (V.tup [E29 r2.1, E3 r2.2]) [], .call [] (E3 r3) [], .bit false, .bit false, .bit false, .bit false, .bit false, .call [] (E4 r4) [], .bit false, .bit false, .bit false, .bit false, .bit false, .call [] (E3 r5) [], .bit true, .bit true] (p := [Fn Try.prog 27 [(false, E29 o), (false, E3 a3)] (V.tup [E29 r1.1, E3 r1.2]) [],(true || ((V.tup [E29 r1.1, E3 r1.2]).nv && nvL [])) = true,Fn Try.prog 27 [(false, E29 o_), (false, E3 a3)] (V.tup [E29 r2.1, E3 r2.2]) [],(true || ((V.tup [E29 r2.1, E3 r2.2]).nv && nvL [])) = true,Fn Try.prog 9 [(false, E23 r1.1.Holds), (false, E9 a2)] (E3 r3) [],(false || ((E3 r3).nv && nvL [])) = true,(r1.2 != 0) = false,(r1.2 != 0) = false,(r1.2 != 0) = false,(r2.2 != 0) = false,(r2.2 != 0) = false,Fn Try.prog 28 [(false, E9 a2)] (E4 r4) [],(true || ((E4 r4).nv && nvL [])) = true,(r2.2 != 0) = false,(r2.2 != 0) = false,(!r4) = false,(o.Id == o_.Id) = false,(decide (r3 < 0)) = false,Fn Try.prog 9 [(false, E23 r2.1.Holds), (false, E9 a2)] (E3 r5) [],(false || ((E3 r5).nv && nvL [])) = true,(decide (0 ≤ r5)) = true,true = true]) (by kernel_rfl) (cj (impl_begin_ok o a3 r1 h1) (cj rfl (cj (impl_begin_ok o_ a3 r2 h2) (cj rfl (cj (impl_HoldAt_ok r1.1.Holds a2 r3 h3) (cj (by simp [V.nv, nvL, nvL_all, nv_E3]) (cj h4 (cj h4 (cj h4 (cj h5 (cj h5 (cj (impl_HoldIdOk_ok a2 r4 h6) (cj rfl (cj h5 (cj h5 (cj (nf h7) (cj h8 (cj h9 (cj (impl_HoldAt_ok r2.1.Holds a2 r5 h10) (cj (by simp [V.nv, nvL, nvL_all, nv_E3]) (cj h11 (cj1 rfl)))))))))))))))))))))))) (fun h11 =>
   Pn.ite (fun h12 =>
   Pn.some (Fn.of [.call [] (V.tup [E29 r1.1, E3 r1.2]) [], .call [] (V.tup [E29 r2.1, E3 r2.2]) [], .call [] (E3 r3) [], .bit false, .bit false, .bit false, .bit false, .bit false, .call [] (E4 r4) [], .bit false, .bit false, .bit false, .bit false, .bit false, .call [] (E3 r5) [], .bit false, .wait 2, .nm 63 (vI (r2.1.Holds.length : Int)), .bit true, .bit true] (p := [Fn Try.prog 27 [(false, E29 o), (false, E3 a3)] (V.tup [E29 r1.1, E3 r1.2]) [],(true || ((V.tup [E29 r1.1, E3 r1.2]).nv && nvL [])) = true,Fn Try.prog 27 [(false, E29 o_), (false, E3 a3)] (V.tup [E29 r2.1, E3 r2.2]) [],(true || ((V.tup [E29 r2.1, E3 r2.2]).nv && nvL [])) = true,Fn Try.prog 9 [(false, E23 r1.1.Holds), (false, E9 a2)] (E3 r3) [],(false || ((E3 r3).nv && nvL [])) = true,(r1.2 != 0) = false,(r1.2 != 0) = false,(r1.2 != 0) = false,(r2.2 != 0) = false,(r2.2 != 0) = false,Fn Try.prog 28 [(false, E9 a2)] (E4 r4) [],(true || ((E4 r4).nv && nvL [])) = true,(r2.2 != 0) = false,(r2.2 != 0) = false,(!r4) = false,(o.Id == o_.Id) = false,(decide (r3 < 0)) = false,Fn Try.prog 9 [(false, E23 r2.1.Holds), (false, E9 a2)] (E3 r5) [],(false || ((E3 r5).nv && nvL [])) = true,(decide (0 ≤ r5)) = false,vI ((List.map E36 r2.1.Holds).length : Int) = vI (r2.1.Holds.length : Int),((r2.1.Holds.length : Int) == 4) = true,true = true]) (by kernel_rfl) (cj (impl_begin_ok o a3 r1 h1) (cj rfl (cj (impl_begin_ok o_ a3 r2 h2) (cj rfl (cj (impl_HoldAt_ok r1.1.Holds a2 r3 h3) (cj (by simp [V.nv, nvL, nvL_all, nv_E3]) (cj h4 (cj h4 (cj h4 (cj h5 (cj h5 (cj (impl_HoldIdOk_ok a2 r4 h6) (cj rfl (cj h5 (cj h5 (cj (nf h7) (cj h8 (cj h9 (cj (impl_HoldAt_ok r2.1.Holds a2 r5 h10) (cj (by simp [V.nv, nvL, nvL_all, nv_E3]) (cj h11 (cj (len_nm _ _) (cj h12 (cj1 rfl)))))))))))))))))))))))))) (fun h12 =>
   Pn.ite (fun h13 =>
   Pn.bind (fun x1 h14 =>
   Pn.bind (fun r6 h15 =>
   Pn.ite (fun h16 =>
   Pn.some (Fn.of [.call [] (V.tup [E29 r1.1, E3 r1.2]) [], .call [] (V.tup [E29 r2.1, E3 r2.2]) [], .call [] (E3 r3) [], .bit false, .bit false, .bit false, .bit false, .bit false, .call [] (E4 r4) [], .bit false, .bit false, .bit false, .bit false, .bit false, .call [] (E3 r5) [], .bit false, .wait 2, .nm 63 (vI (r2.1.Holds.length : Int)), .bit false, .draw [], .el (E36 x1), .call [] (E3 r6) [], .bit true, .bit true] (p := [Fn Try.prog 27 [(false, E29 o), (false, E3 a3)] (V.tup [E29 r1.1, E3 r1.2]) [],(true || ((V.tup [E29 r1.1, E3 r1.2]).nv && nvL [])) = true,Fn Try.prog 27 [(false, E29 o_), (false, E3 a3)] (V.tup [E29 r2.1, E3 r2.2]) [],(true || ((V.tup [E29 r2.1, E3 r2.2]).nv && nvL [])) = true,Fn Try.prog 9 [(false, E23 r1.1.Holds), (false, E9 a2)] (E3 r3) [],(false || ((E3 r3).nv && nvL [])) = true,(r1.2 != 0) = false,(r1.2 != 0) = false,(r1.2 != 0) = false,(r2.2 != 0) = false,(r2.2 != 0) = false,Fn Try.prog 28 [(false, E9 a2)] (E4 r4) [],(true || ((E4 r4).nv && nvL [])) = true,(r2.2 != 0) = false,(r2.2 != 0) = false,(!r4) = false,(o.Id == o_.Id) = false,(decide (r3 < 0)) = false,Fn Try.prog 9 [(false, E23 r2.1.Holds), (false, E9 a2)] (E3 r5) [],(false || ((E3 r5).nv && nvL [])) = true,(decide (0 ≤ r5)) = false,vI ((List.map E36 r2.1.Holds).length : Int) = vI (r2.1.Holds.length : Int),((r2.1.Holds.length : Int) == 4) = false,(0 : Int) ≤ r3,(r3 : Int) < ((List.map E36 r1.1.Holds).length : Int),look [] r3.toNat = none,(List.map E36 r1.1.Holds)[r3.toNat]? = some (E36 x1),Fn Try.prog 10 [(false, E29 r2.1), (false, E3 a3)] (E3 r6) [],(false || ((E3 r6).nv && nvL [])) = true,(decide (r6 < x1.Amount)) = true,true = true]) (by kernel_rfl) (cj (impl_begin_ok o a3 r1 h1) (cj rfl (cj (impl_begin_ok o_ a3 r2 h2) (cj rfl (cj (impl_HoldAt_ok r1.1.Holds a2 r3 h3) (cj (by simp [V.nv, nvL, nvL_all, nv_E3]) (cj h4 (cj h4 (cj h4 (cj h5 (cj h5 (cj (impl_HoldIdOk_ok a2 r4 h6) (cj rfl (cj h5 (cj h5 (cj (nf h7) (cj h8 (cj h9 (cj (impl_HoldAt_ok r2.1.Holds a2 r5 h10) (cj (by simp [V.nv, nvL, nvL_all, nv_E3]) (cj h11 (cj (len_nm _ _) (cj h12 (cj (od h13) (cj (map_ltN (od h13) h14) (cj rfl (cj (map_get h14) (cj (impl_Room_ok r2.1 a3 r6 h15) (cj (by simp [V.nv, nvL, nvL_all, nv_E3]) (cj h16 (cj1 rfl))))))))))))))))))))))))))))))))) (fun h16 =>
   Pn.bind (fun r7 h17 =>
   Pn.bind (fun r8 h18 =>
   Pn.some (Fn.of [.call [] (V.tup [E29 r1.1, E3 r1.2]) [], .call [] (V.tup [E29 r2.1, E3 r2.2]) [], .call [] (E3 r3) [], .bit false, .bit false, .bit false, .bit false, .bit false, .call [] (E4 r4) [], .bit false, .bit false, .bit false, .bit false, .bit false, .call [] (E3 r5) [], .bit false, .wait 2, .nm 63 (vI (r2.1.Holds.length : Int)), .bit false, .draw [], .el (E36 x1), .call [] (E3 r6) [], .bit false, .bit false, .draw [12], .el (E36 x1), .call [] (V.tup [E23 r7.1, E4 r7.2]) [], .loop .go ((impl_Move_s1 o o_ a2 a3 r1 r2 r3 r4 r5 r6 x1 r7)), .wait 1, .ren [0, 1, 2, 3, 8, 4, 5, 6, 7, 13, 14, 10, 11, 12, 9], .wait 2, .ren [0, 1, 2, 3, 8, 4, 5, 6, 7, 13, 14, 10, 11, 12, 9], .call [] (E23 r8) [], .draw [2, 3], .loop .go ((impl_Move_s2 o o_ a2 a3 r1 r2 r3 r4 r5 r6 x1 r7 r8)), .wait 3, .ren [0, 1, 2, 15, 6, 7, 8, 3, 10, 11, 12, 13, 4, 9, 5, 14], .wait 4, .ren [0, 1, 2, 15, 6, 7, 8, 3, 10, 11, 12, 13, 4, 9, 5, 14]] (p := [Fn Try.prog 27 [(false, E29 o), (false, E3 a3)] (V.tup [E29 r1.1, E3 r1.2]) [],(true || ((V.tup [E29 r1.1, E3 r1.2]).nv && nvL [])) = true,Fn Try.prog 27 [(false, E29 o_), (false, E3 a3)] (V.tup [E29 r2.1, E3 r2.2]) [],(true || ((V.tup [E29 r2.1, E3 r2.2]).nv && nvL [])) = true,Fn Try.prog 9 [(false, E23 r1.1.Holds), (false, E9 a2)] (E3 r3) [],(false || ((E3 r3).nv && nvL [])) = true,(r1.2 != 0) = false,(r1.2 != 0) = false,(r1.2 != 0) = false,(r2.2 != 0) = false,(r2.2 != 0) = false,Fn Try.prog 28 [(false, E9 a2)] (E4 r4) [],(true || ((E4 r4).nv && nvL [])) = true,(r2.2 != 0) = false,(r2.2 != 0) = false,(!r4) = false,(o.Id == o_.Id) = false,(decide (r3 < 0)) = false,Fn Try.prog 9 [(false, E23 r2.1.Holds), (false, E9 a2)] (E3 r5) [],(false || ((E3 r5).nv && nvL [])) = true,(decide (0 ≤ r5)) = false,vI ((List.map E36 r2.1.Holds).length : Int) = vI (r2.1.Holds.length : Int),((r2.1.Holds.length : Int) == 4) = false,(0 : Int) ≤ r3,(r3 : Int) < ((List.map E36 r1.1.Holds).length : Int),look [] r3.toNat = none,(List.map E36 r1.1.Holds)[r3.toNat]? = some (E36 x1),Fn Try.prog 10 [(false, E29 r2.1), (false, E3 a3)] (E3 r6) [],(false || ((E3 r6).nv && nvL [])) = true,(decide (r6 < x1.Amount)) = false,false = false,(0 : Int) ≤ r3,(r3 : Int) < ((List.map E36 r1.1.Holds).length : Int),look [] r3.toNat = none,(List.map E36 r1.1.Holds)[r3.toNat]? = some (E36 x1),Fn Try.prog 29 [(false, E23 r2.1.Holds), (false, E36 x1)] (V.tup [E23 r7.1, E4 r7.2]) [],(false || ((V.tup [E23 r7.1, E4 r7.2]).nv && nvL [])) = true,(impl_Move_s1 o o_ a2 a3 r1 r2 r3 r4 r5 r6 x1 r7) = (impl_Move_s1 o o_ a2 a3 r1 r2 r3 r4 r5 r6 x1 r7),(impl_Move_s1 o o_ a2 a3 r1 r2 r3 r4 r5 r6 x1 r7) = (impl_Move_s1 o o_ a2 a3 r1 r2 r3 r4 r5 r6 x1 r7),Fn Try.prog 30 [(false, E23 r1.1.Holds), (false, E9 a2)] (E23 r8) [],(false || ((E23 r8).nv && nvL [])) = true,(impl_Move_s2 o o_ a2 a3 r1 r2 r3 r4 r5 r6 x1 r7 r8) = (impl_Move_s2 o o_ a2 a3 r1 r2 r3 r4 r5 r6 x1 r7 r8),(impl_Move_s2 o o_ a2 a3 r1 r2 r3 r4 r5 r6 x1 r7 r8) = (impl_Move_s2 o o_ a2 a3 r1 r2 r3 r4 r5 r6 x1 r7 r8)]) (by kernel_rfl) (cj (impl_begin_ok o a3 r1 h1) (cj rfl (cj (impl_begin_ok o_ a3 r2 h2) (cj rfl (cj (impl_HoldAt_ok r1.1.Holds a2 r3 h3) (cj (by simp [V.nv, nvL, nvL_all, nv_E3]) (cj h4 (cj h4 (cj h4 (cj h5 (cj h5 (cj (impl_HoldIdOk_ok a2 r4 h6) (cj rfl (cj h5 (cj h5 (cj (nf h7) (cj h8 (cj h9 (cj (impl_HoldAt_ok r2.1.Holds a2 r5 h10) (cj (by simp [V.nv, nvL, nvL_all, nv_E3]) (cj h11 (cj (len_nm _ _) (cj h12 (cj (od h13) (cj (map_ltN (od h13) h14) (cj rfl (cj (map_get h14) (cj (impl_Room_ok r2.1 a3 r6 h15) (cj (by simp [V.nv, nvL, nvL_all, nv_E3]) (cj h16 (cj rfl (cj (od h13) (cj (map_ltN (od h13) h14) (cj rfl (cj (map_get h14) (cj (impl_HoldPut_ok r2.1.Holds x1 r7 h17) (cj (by simp [V.nv, nvL, nvL_all, nv_E3, nv_E4, nv_E9, nv_E23, nv_E36]) (cj rfl (cj rfl (cj (impl_HoldDrop_ok r1.1.Holds a2 r8 h18) (cj (by simp [V.nv, nvL, nvL_all, nv_E3, nv_E9, nv_E23, nv_E36]) (cj rfl (cj1 rfl)))))))))))))))))))))))))))))))))))))))))))))))))) (fun h13 =>
   Pn.none))))))) (fun h7 =>
   Pn.some (Fn.of [.call [] (V.tup [E29 r1.1, E3 r1.2]) [], .call [] (V.tup [E29 r2.1, E3 r2.2]) [], .call [] (E3 r3) [], .bit false, .bit false, .bit false, .bit false, .bit false, .call [] (E4 r4) [], .bit false, .bit false, .bit true, .bit true] (p := [Fn Try.prog 27 [(false, E29 o), (false, E3 a3)] (V.tup [E29 r1.1, E3 r1.2]) [],(true || ((V.tup [E29 r1.1, E3 r1.2]).nv && nvL [])) = true,Fn Try.prog 27 [(false, E29 o_), (false, E3 a3)] (V.tup [E29 r2.1, E3 r2.2]) [],(true || ((V.tup [E29 r2.1, E3 r2.2]).nv && nvL [])) = true,Fn Try.prog 9 [(false, E23 r1.1.Holds), (false, E9 a2)] (E3 r3) [],(false || ((E3 r3).nv && nvL [])) = true,(r1.2 != 0) = false,(r1.2 != 0) = false,(r1.2 != 0) = false,(r2.2 != 0) = false,(r2.2 != 0) = false,Fn Try.prog 28 [(false, E9 a2)] (E4 r4) [],(true || ((E4 r4).nv && nvL [])) = true,(r2.2 != 0) = false,(r2.2 != 0) = false,(!r4) = true,true = true]) (by kernel_rfl) (cj (impl_begin_ok o a3 r1 h1) (cj rfl (cj (impl_begin_ok o_ a3 r2 h2) (cj rfl (cj (impl_HoldAt_ok r1.1.Holds a2 r3 h3) (cj (by simp [V.nv, nvL, nvL_all, nv_E3]) (cj h4 (cj h4 (cj h4 (cj h5 (cj h5 (cj (impl_HoldIdOk_ok a2 r4 h6) (cj rfl (cj h5 (cj h5 (cj (nt h7) (cj1 rfl)))))))))))))))))))))))))
def spec_HoldAt_l0 (l : List Hold) (id : ByteArray) : List Hold → List Hold → Option (Lo Unit Int)
  | [], p1 =>
   some (.out ())
  | x1 :: t1, p1 =>
   if (x1.Id == id) = true then
   some (.ret (p1.length : Int))
   else
   spec_HoldAt_l0 l id t1 (p1 ++ [x1])
theorem spec_HoldAt_l0_ok (l : List Hold) (id : ByteArray) (h2 : capOk l.length = true) : ∀ (t1 p1 : List Hold) (_ : l = p1 ++ t1) , Pn (LpO Try.prog (sub (codeOf Try.prog 11) [1, 0, 1, 0, 0]) (st 20 [(1, V.sc (.string id)), (7, V.sl false 36 (List.map E36 l)), (8, vI (l.length : Int)), (9, vI (p1.length : Int))] [] []) (fun (y : Lo Unit Int) => Lo.elim y (fun s => (X.out 0, st 20 [] [] [])) (fun s => (X.ret, st 20 [(4, vI s)] [] [])))) (spec_HoldAt_l0 l id t1 p1)
  | [], p1, h1 => by
    unfold spec_HoldAt_l0
    exact
     Pn.some (LpO.out [.bit false, .mask [], .ren []] (p := [(decide ((p1.length : Int) < (l.length : Int))) = false]) (by kernel_rfl) (show X.out 0 ≠ X.go from nofun) (cj1 (rng_end h1)))
  | x1 :: t1, p1, h1 => by
    unfold spec_HoldAt_l0
    exact
     Pn.ite (fun h3 =>
     Pn.some (LpO.out [.bit true, .el (E36 x1), .bit true, .wait 2, .mask [4], .ren []] (p := [(decide ((p1.length : Int) < (l.length : Int))) = true,(0 : Int) ≤ (p1.length : Int),(List.map E36 l)[(p1.length : Int).toNat]? = some (E36 x1),(x1.Id == id) = true]) (by kernel_rfl) (show X.ret ≠ X.go from nofun) (cj (rng_lt h1) (cj (by omega) (cj (rng_get _ h1) (cj1 h3)))))) (fun h3 =>
     LpO.go [.bit true, .el (E36 x1), .bit false, .wait 2, .mask [1, 7, 8, 9], .ren [], .nm 9 (vI ((p1 ++ [x1]).length : Int))] (p := [(decide ((p1.length : Int) < (l.length : Int))) = true,(0 : Int) ≤ (p1.length : Int),(List.map E36 l)[(p1.length : Int).toNat]? = some (E36 x1),(x1.Id == id) = false,vI (i64 ((p1.length : Int) + 1)) = vI ((p1 ++ [x1]).length : Int)]) (by kernel_rfl) (cj (rng_lt h1) (cj (by omega) (cj (rng_get _ h1) (cj h3 (cj1 (rng_next h1 h2)))))) (spec_HoldAt_l0_ok l id h2 t1 (p1 ++ [x1]) (rng_step h1)))
def spec_HoldAt (l : List Hold) (id : ByteArray) : Option (Int) :=
 if (capOk l.length) = true then
 (spec_HoldAt_l0 l id l []).bind fun r1 =>
 Lo.elim r1 (fun s1 =>
 some (-1)) (fun s2 =>
 some s2)
 else none
theorem spec_HoldAt_ok (l : List Hold) (id : ByteArray) : Pn (fun y => Fn Try.prog 11 [(false, E23 l), (false, E9 id)] (E3 y) []) (spec_HoldAt l id) := by
  unfold spec_HoldAt
  exact
   Pn.ite (fun h4 =>
   Pn.bind (fun r1 h5 =>
   Pn.lo (fun s1 h6 =>
   Pn.some (Fn.of [.wait 3, .nm 8 (vI (l.length : Int)), .wait 2, .mask [1, 7, 8, 9], .ren [], .loop (X.out 0) (st 20 [] [] [])] (p := [vI ((List.map E36 l).length : Int) = vI (l.length : Int),Loop Try.prog (sub (codeOf Try.prog 11) [1, 0, 1, 0, 0]) (st 20 [(1, V.sc (.string id)), (7, V.sl false 36 (List.map E36 l)), (8, vI (l.length : Int)), (9, vI 0)] [] []) (X.out 0) (st 20 [] [] [])]) (by kernel_rfl) (cj (len_nm _ _) (cj1 ((spec_HoldAt_l0_ok l id h4 l [] rfl r1 h5).at h6 :))))) (fun s2 h7 =>
   Pn.some (Fn.of [.wait 3, .nm 8 (vI (l.length : Int)), .wait 2, .mask [1, 7, 8, 9], .ren [], .loop (X.ret) (st 20 [(4, vI s2)] [] [])] (p := [vI ((List.map E36 l).length : Int) = vI (l.length : Int),Loop Try.prog (sub (codeOf Try.prog 11) [1, 0, 1, 0, 0]) (st 20 [(1, V.sc (.string id)), (7, V.sl false 36 (List.map E36 l)), (8, vI (l.length : Int)), (9, vI 0)] [] []) (X.ret) (st 20 [(4, vI s2)] [] [])]) (by kernel_rfl) (cj (len_nm _ _) (cj1 ((spec_HoldAt_l0_ok l id h4 l [] rfl r1 h5).at h7 :))))))) (fun h4 =>
   Pn.none)
def laws_FnMove_l0 (r1 : Acct × Acct) (r2 : ByteArray × Int × Int × Int) (r3 : Acct) (r4 : Acct) : List Hold → Option (Lo Unit Unit)
  | [] =>
   some (.out ())
  | x1 :: t1 =>
   (impl_Move r1.1 r1.2 x1.Id r2.2.2.2).bind fun r5 =>
   if (r5.2.2 != 0) = true then
   if (r5.1.Id == (bs [])) = true then
   if (r5.2.1.Id == (bs [])) = true then
   (impl_HoldAt r4.Holds x1.Id).bind fun r6 =>
   if (decide (r6 < 0)) = true then
   if (decide ((r4.Holds.length : Int) < 4)) = true then
   (impl_Room r1.2 r2.2.2.2).bind fun r7 =>
   if (decide (x1.Amount ≤ r7)) = true then
   some (.ret ())
   else
   laws_FnMove_l0 r1 r2 r3 r4 t1
   else
   laws_FnMove_l0 r1 r2 r3 r4 t1
   else
   laws_FnMove_l0 r1 r2 r3 r4 t1
   else
   some (.ret ())
   else
   some (.ret ())
   else
   (spec_HoldAt r5.2.1.Holds x1.Id).bind fun r8 =>
   if (decide (r8 < 0)) = true then
   some (.ret ())
   else
   if (decide (0 ≤ r8)) = true then
   (r5.2.1.Holds[r8.toNat]?).bind fun x2 =>
   if ((x2.Id == x1.Id) && ((x2.Amount == x1.Amount) && ((x2.Due == x1.Due) && true))) = true then
   (impl_HoldAt r5.1.Holds x1.Id).bind fun r9 =>
   if (decide (0 ≤ r9)) = true then
   some (.ret ())
   else
   (impl_Stored r5.1.Holds).bind fun r10 =>
   (impl_Stored r5.2.1.Holds).bind fun r11 =>
   (impl_Stored r3.Holds).bind fun r12 =>
   (impl_Stored r4.Holds).bind fun r13 =>
   if ((i64 (r10 + r11)) != (i64 (r12 + r13))) = true then
   some (.ret ())
   else
   (impl_AcctOk r5.1).bind fun r14 =>
   if r14 = true then
   (impl_AcctOk r5.2.1).bind fun r15 =>
   if r15 = true then
   laws_FnMove_l0 r1 r2 r3 r4 t1
   else
   some (.ret ())
   else
   some (.ret ())
   else
   some (.ret ())
   else none
theorem laws_FnMove_l0_ok (r1 : Acct × Acct) (r2 : ByteArray × Int × Int × Int) (r3 : Acct) (r4 : Acct) (h7 : capOk r3.Holds.length = true) : ∀ (t1 p1 : List Hold) (_ : r3.Holds = p1 ++ t1) , Pn (LpO Try.prog (sub (codeOf Try.prog 3) [1, 1, 1, 1, 1, 1, 0, 1, 0, 0]) (st 152 [(3, V.ptr 0 0), (4, V.ptr 5 0), (8, vI r2.2.2.2), (9, V.ptr 10 0), (10, V.ptr 15 0), (42, V.ow 11), (43, vI (r3.Holds.length : Int)), (44, vI (p1.length : Int))] [Blk.box 29 [V.sc (.string r1.1.Id), vI r1.1.Limit, vI r1.1.Posted, vI r1.1.Most, vI r1.1.MostSum, V.ow 1, vI r1.1.Ring.Span, vI r1.1.Ring.Head, V.ow 2, V.ow 3, V.ow 4], Blk.row 36 (List.map E36 r1.1.Holds) [], Blk.row 3 (List.map E3 r1.1.Ring.Counts) [], Blk.row 3 (List.map E3 r1.1.Ring.Sums) [], Blk.row 94 (List.map E94 r1.1.Slots) [], Blk.box 29 [V.sc (.string r1.2.Id), vI r1.2.Limit, vI r1.2.Posted, vI r1.2.Most, vI r1.2.MostSum, V.ow 6, vI r1.2.Ring.Span, vI r1.2.Ring.Head, V.ow 7, V.ow 8, V.ow 9], Blk.row 36 (List.map E36 r1.2.Holds) [], Blk.row 3 (List.map E3 r1.2.Ring.Counts) [], Blk.row 3 (List.map E3 r1.2.Ring.Sums) [], Blk.row 94 (List.map E94 r1.2.Slots) [], Blk.box 29 [V.sc (.string r3.Id), vI r3.Limit, vI r3.Posted, vI r3.Most, vI r3.MostSum, V.ow 11, vI r3.Ring.Span, vI r3.Ring.Head, V.ow 12, V.ow 13, V.ow 14], Blk.row 36 (List.map E36 r3.Holds) [], Blk.row 3 (List.map E3 r3.Ring.Counts) [], Blk.row 3 (List.map E3 r3.Ring.Sums) [], Blk.row 94 (List.map E94 r3.Slots) [], Blk.box 29 [V.sc (.string r4.Id), vI r4.Limit, vI r4.Posted, vI r4.Most, vI r4.MostSum, V.ow 16, vI r4.Ring.Span, vI r4.Ring.Head, V.ow 17, V.ow 18, V.ow 19], Blk.row 36 (List.map E36 r4.Holds) [], Blk.row 3 (List.map E3 r4.Ring.Counts) [], Blk.row 3 (List.map E3 r4.Ring.Sums) [], Blk.row 94 (List.map E94 r4.Slots) []] []) (fun (y : Lo Unit Unit) => Lo.elim y (fun s => (X.out 0, st 152 [(3, V.ptr 0 0), (8, vI r2.2.2.2)] [Blk.box 29 [V.sc (.string r1.1.Id), vI r1.1.Limit, vI r1.1.Posted, vI r1.1.Most, vI r1.1.MostSum, V.ow 1, vI r1.1.Ring.Span, vI r1.1.Ring.Head, V.ow 2, V.ow 3, V.ow 4], Blk.row 36 (List.map E36 r1.1.Holds) [], Blk.row 3 (List.map E3 r1.1.Ring.Counts) [], Blk.row 3 (List.map E3 r1.1.Ring.Sums) [], Blk.row 94 (List.map E94 r1.1.Slots) []] [])) (fun s => (X.ret, st 152 [(2, V.sc (.bool false))] [] [])))) (laws_FnMove_l0 r1 r2 r3 r4 t1)
  | [], p1, h6 => by
    unfold laws_FnMove_l0
    exact
     Pn.some (LpO.out [.bit false, .mask [3, 8], .ren [0, 1, 2, 3, 4]] (p := [(decide ((p1.length : Int) < (r3.Holds.length : Int))) = false]) (by kernel_rfl) (show X.out 0 ≠ X.go from nofun) (cj1 (rng_end h6)))
  | x1 :: t1, p1, h6 => by
    unfold laws_FnMove_l0
    exact
     Pn.bind (fun r5 h8 =>
     Pn.ite (fun h9 =>
     Pn.ite (fun h10 =>
     Pn.ite (fun h11 =>
     Pn.bind (fun r6 h12 =>
     Pn.ite (fun h13 =>
     Pn.ite (fun h14 =>
     Pn.bind (fun r7 h15 =>
     Pn.ite (fun h16 =>
     Pn.some (LpO.out [.bit true, .el (E36 x1), .call [] (V.tup [E29 r5.1, E29 r5.2.1, E3 r5.2.2]) [], .bit true, .draw [], .bit false, .bit false, .bit false, .bit false, .bit false, .bit false, .bit false, .bit false, .bit false, .call [] (E3 r6) [], .bit false, .bit false, .bit true, .bit true, .bit true, .nm 78 (vI (r4.Holds.length : Int)), .bit true, .bit false, .bit true, .bit false, .bit true, .bit true, .bit true, .bit true, .bit true, .call [] (E3 r7) [], .bit true, .bit false, .bit true, .bit false, .bit true, .wait 1, .mask [2], .ren []] (p := [(decide ((p1.length : Int) < (r3.Holds.length : Int))) = true,(0 : Int) ≤ (p1.length : Int),((p1.length : Int) : Int) < ((List.map E36 r3.Holds).length : Int),look [] ((p1.length : Int).toNat) = none,(List.map E36 r3.Holds)[(p1.length : Int).toNat]? = some (E36 x1),Fn Try.prog 8 [(false, E29 r1.1), (false, E29 r1.2), (false, E9 x1.Id), (false, E3 r2.2.2.2)] (V.tup [E29 r5.1, E29 r5.2.1, E3 r5.2.2]) [],(false || ((V.tup [E29 r5.1, E29 r5.2.1, E3 r5.2.2]).nv && nvL [])) = true,(r5.2.2 != 0) = true,(!(r5.1.Id == (bs []))) = false,(!(r5.1.Id == (bs []))) = false,(!(r5.1.Id == (bs []))) = false,(!(r5.1.Id == (bs []))) = false,(!(r5.2.1.Id == (bs []))) = false,(!(r5.2.1.Id == (bs []))) = false,(!(r5.2.1.Id == (bs []))) = false,(!(r5.2.1.Id == (bs []))) = false,(!(r5.2.1.Id == (bs []))) = false,Fn Try.prog 9 [(false, E23 r4.Holds), (false, E9 x1.Id)] (E3 r6) [],(false || ((E3 r6).nv && nvL [])) = true,(!(r5.2.1.Id == (bs []))) = false,(!(r5.2.1.Id == (bs []))) = false,(decide (r6 < 0)) = true,(decide (r6 < 0)) = true,(decide (r6 < 0)) = true,vI ((List.map E36 r4.Holds).length : Int) = vI (r4.Holds.length : Int),(decide (r6 < 0)) = true,(!(r5.2.1.Id == (bs []))) = false,(decide (r6 < 0)) = true,(!(r5.2.1.Id == (bs []))) = false,(decide ((r4.Holds.length : Int) < 4)) = true,(decide ((r4.Holds.length : Int) < 4)) = true,(decide ((r4.Holds.length : Int) < 4)) = true,(decide ((r4.Holds.length : Int) < 4)) = true,(decide ((r4.Holds.length : Int) < 4)) = true,Fn Try.prog 10 [(false, E29 r1.2), (false, E3 r2.2.2.2)] (E3 r7) [],(false || ((E3 r7).nv && nvL [])) = true,(decide ((r4.Holds.length : Int) < 4)) = true,(!(r5.2.1.Id == (bs []))) = false,(decide ((r4.Holds.length : Int) < 4)) = true,(!(r5.2.1.Id == (bs []))) = false,(decide (x1.Amount ≤ r7)) = true]) (by kernel_rfl) (show X.ret ≠ X.go from nofun) (cj (rng_lt h6) (cj (by omega) (cj (rng_ltI _ h6) (cj rfl (cj (rng_get _ h6) (cj (impl_Move_ok r1.1 r1.2 x1.Id r2.2.2.2 r5 h8) (cj (by simp [V.nv, nvL, nvL_all, nv_E3, nv_E5, nv_E9, nv_E22, nv_E23, nv_E24, nv_E26, nv_E27, nv_E29, nv_E36, nv_E94]) (cj h9 (cj (nf h10) (cj (nf h10) (cj (nf h10) (cj (nf h10) (cj (nf h11) (cj (nf h11) (cj (nf h11) (cj (nf h11) (cj (nf h11) (cj (impl_HoldAt_ok r4.Holds x1.Id r6 h12) (cj (by simp [V.nv, nvL, nvL_all, nv_E3]) (cj (nf h11) (cj (nf h11) (cj h13 (cj h13 (cj h13 (cj (len_nm _ _) (cj h13 (cj (nf h11) (cj h13 (cj (nf h11) (cj h14 (cj h14 (cj h14 (cj h14 (cj h14 (cj (impl_Room_ok r1.2 r2.2.2.2 r7 h15) (cj (by simp [V.nv, nvL, nvL_all, nv_E3]) (cj h14 (cj (nf h11) (cj h14 (cj (nf h11) (cj1 h16))))))))))))))))))))))))))))))))))))))))))) (fun h16 =>
     LpO.go [.bit true, .el (E36 x1), .call [] (V.tup [E29 r5.1, E29 r5.2.1, E3 r5.2.2]) [], .bit true, .draw [], .bit false, .bit false, .bit false, .bit false, .bit false, .bit false, .bit false, .bit false, .bit false, .call [] (E3 r6) [], .bit false, .bit false, .bit true, .bit true, .bit true, .nm 78 (vI (r4.Holds.length : Int)), .bit true, .bit false, .bit true, .bit false, .bit true, .bit true, .bit true, .bit true, .bit true, .call [] (E3 r7) [], .bit true, .bit false, .bit true, .bit false, .bit false, .wait 2, .mask [3, 4, 8, 9, 10, 42, 43, 44], .ren [0, 1, 2, 3, 4, 5, 6, 7, 8, 9, 10, 11, 12, 13, 14, 15, 16, 17, 18, 19], .nm 44 (vI ((p1 ++ [x1]).length : Int))] (p := [(decide ((p1.length : Int) < (r3.Holds.length : Int))) = true,(0 : Int) ≤ (p1.length : Int),((p1.length : Int) : Int) < ((List.map E36 r3.Holds).length : Int),look [] ((p1.length : Int).toNat) = none,(List.map E36 r3.Holds)[(p1.length : Int).toNat]? = some (E36 x1),Fn Try.prog 8 [(false, E29 r1.1), (false, E29 r1.2), (false, E9 x1.Id), (false, E3 r2.2.2.2)] (V.tup [E29 r5.1, E29 r5.2.1, E3 r5.2.2]) [],(false || ((V.tup [E29 r5.1, E29 r5.2.1, E3 r5.2.2]).nv && nvL [])) = true,(r5.2.2 != 0) = true,(!(r5.1.Id == (bs []))) = false,(!(r5.1.Id == (bs []))) = false,(!(r5.1.Id == (bs []))) = false,(!(r5.1.Id == (bs []))) = false,(!(r5.2.1.Id == (bs []))) = false,(!(r5.2.1.Id == (bs []))) = false,(!(r5.2.1.Id == (bs []))) = false,(!(r5.2.1.Id == (bs []))) = false,(!(r5.2.1.Id == (bs []))) = false,Fn Try.prog 9 [(false, E23 r4.Holds), (false, E9 x1.Id)] (E3 r6) [],(false || ((E3 r6).nv && nvL [])) = true,(!(r5.2.1.Id == (bs []))) = false,(!(r5.2.1.Id == (bs []))) = false,(decide (r6 < 0)) = true,(decide (r6 < 0)) = true,(decide (r6 < 0)) = true,vI ((List.map E36 r4.Holds).length : Int) = vI (r4.Holds.length : Int),(decide (r6 < 0)) = true,(!(r5.2.1.Id == (bs []))) = false,(decide (r6 < 0)) = true,(!(r5.2.1.Id == (bs []))) = false,(decide ((r4.Holds.length : Int) < 4)) = true,(decide ((r4.Holds.length : Int) < 4)) = true,(decide ((r4.Holds.length : Int) < 4)) = true,(decide ((r4.Holds.length : Int) < 4)) = true,(decide ((r4.Holds.length : Int) < 4)) = true,Fn Try.prog 10 [(false, E29 r1.2), (false, E3 r2.2.2.2)] (E3 r7) [],(false || ((E3 r7).nv && nvL [])) = true,(decide ((r4.Holds.length : Int) < 4)) = true,(!(r5.2.1.Id == (bs []))) = false,(decide ((r4.Holds.length : Int) < 4)) = true,(!(r5.2.1.Id == (bs []))) = false,(decide (x1.Amount ≤ r7)) = false,vI (i64 ((p1.length : Int) + 1)) = vI ((p1 ++ [x1]).length : Int)]) (by kernel_rfl) (cj (rng_lt h6) (cj (by omega) (cj (rng_ltI _ h6) (cj rfl (cj (rng_get _ h6) (cj (impl_Move_ok r1.1 r1.2 x1.Id r2.2.2.2 r5 h8) (cj (by simp [V.nv, nvL, nvL_all, nv_E3, nv_E5, nv_E9, nv_E22, nv_E23, nv_E24, nv_E26, nv_E27, nv_E29, nv_E36, nv_E94]) (cj h9 (cj (nf h10) (cj (nf h10) (cj (nf h10) (cj (nf h10) (cj (nf h11) (cj (nf h11) (cj (nf h11) (cj (nf h11) (cj (nf h11) (cj (impl_HoldAt_ok r4.Holds x1.Id r6 h12) (cj (by simp [V.nv, nvL, nvL_all, nv_E3]) (cj (nf h11) (cj (nf h11) (cj h13 (cj h13 (cj h13 (cj (len_nm _ _) (cj h13 (cj (nf h11) (cj h13 (cj (nf h11) (cj h14 (cj h14 (cj h14 (cj h14 (cj h14 (cj (impl_Room_ok r1.2 r2.2.2.2 r7 h15) (cj (by simp [V.nv, nvL, nvL_all, nv_E3]) (cj h14 (cj (nf h11) (cj h14 (cj (nf h11) (cj h16 (cj1 (rng_next h6 h7))))))))))))))))))))))))))))))))))))))))))) (laws_FnMove_l0_ok r1 r2 r3 r4 h7 t1 (p1 ++ [x1]) (rng_step h6))))) (fun h14 =>
     LpO.go [.bit true, .el (E36 x1), .call [] (V.tup [E29 r5.1, E29 r5.2.1, E3 r5.2.2]) [], .bit true, .draw [], .bit false, .bit false, .bit false, .bit false, .bit false, .bit false, .bit false, .bit false, .bit false, .call [] (E3 r6) [], .bit false, .bit false, .bit true, .bit true, .bit true, .nm 78 (vI (r4.Holds.length : Int)), .bit true, .bit false, .bit true, .bit false, .bit false, .bit false, .bit false, .bit false, .bit false, .bit false, .bit false, .bit false, .bit false, .bit false, .wait 2, .mask [3, 4, 8, 9, 10, 42, 43, 44], .ren [0, 1, 2, 3, 4, 5, 6, 7, 8, 9, 10, 11, 12, 13, 14, 15, 16, 17, 18, 19], .nm 44 (vI ((p1 ++ [x1]).length : Int))] (p := [(decide ((p1.length : Int) < (r3.Holds.length : Int))) = true,(0 : Int) ≤ (p1.length : Int),((p1.length : Int) : Int) < ((List.map E36 r3.Holds).length : Int),look [] ((p1.length : Int).toNat) = none,(List.map E36 r3.Holds)[(p1.length : Int).toNat]? = some (E36 x1),Fn Try.prog 8 [(false, E29 r1.1), (false, E29 r1.2), (false, E9 x1.Id), (false, E3 r2.2.2.2)] (V.tup [E29 r5.1, E29 r5.2.1, E3 r5.2.2]) [],(false || ((V.tup [E29 r5.1, E29 r5.2.1, E3 r5.2.2]).nv && nvL [])) = true,(r5.2.2 != 0) = true,(!(r5.1.Id == (bs []))) = false,(!(r5.1.Id == (bs []))) = false,(!(r5.1.Id == (bs []))) = false,(!(r5.1.Id == (bs []))) = false,(!(r5.2.1.Id == (bs []))) = false,(!(r5.2.1.Id == (bs []))) = false,(!(r5.2.1.Id == (bs []))) = false,(!(r5.2.1.Id == (bs []))) = false,(!(r5.2.1.Id == (bs []))) = false,Fn Try.prog 9 [(false, E23 r4.Holds), (false, E9 x1.Id)] (E3 r6) [],(false || ((E3 r6).nv && nvL [])) = true,(!(r5.2.1.Id == (bs []))) = false,(!(r5.2.1.Id == (bs []))) = false,(decide (r6 < 0)) = true,(decide (r6 < 0)) = true,(decide (r6 < 0)) = true,vI ((List.map E36 r4.Holds).length : Int) = vI (r4.Holds.length : Int),(decide (r6 < 0)) = true,(!(r5.2.1.Id == (bs []))) = false,(decide (r6 < 0)) = true,(!(r5.2.1.Id == (bs []))) = false,(decide ((r4.Holds.length : Int) < 4)) = false,(decide ((r4.Holds.length : Int) < 4)) = false,(decide ((r4.Holds.length : Int) < 4)) = false,(decide ((r4.Holds.length : Int) < 4)) = false,(decide ((r4.Holds.length : Int) < 4)) = false,(decide ((r4.Holds.length : Int) < 4)) = false,(!(r5.2.1.Id == (bs []))) = false,(decide ((r4.Holds.length : Int) < 4)) = false,(!(r5.2.1.Id == (bs []))) = false,false = false,vI (i64 ((p1.length : Int) + 1)) = vI ((p1 ++ [x1]).length : Int)]) (by kernel_rfl) (cj (rng_lt h6) (cj (by omega) (cj (rng_ltI _ h6) (cj rfl (cj (rng_get _ h6) (cj (impl_Move_ok r1.1 r1.2 x1.Id r2.2.2.2 r5 h8) (cj (by simp [V.nv, nvL, nvL_all, nv_E3, nv_E5, nv_E9, nv_E22, nv_E23, nv_E24, nv_E26, nv_E27, nv_E29, nv_E36, nv_E94]) (cj h9 (cj (nf h10) (cj (nf h10) (cj (nf h10) (cj (nf h10) (cj (nf h11) (cj (nf h11) (cj (nf h11) (cj (nf h11) (cj (nf h11) (cj (impl_HoldAt_ok r4.Holds x1.Id r6 h12) (cj (by simp [V.nv, nvL, nvL_all, nv_E3]) (cj (nf h11) (cj (nf h11) (cj h13 (cj h13 (cj h13 (cj (len_nm _ _) (cj h13 (cj (nf h11) (cj h13 (cj (nf h11) (cj h14 (cj h14 (cj h14 (cj h14 (cj h14 (cj h14 (cj (nf h11) (cj h14 (cj (nf h11) (cj rfl (cj1 (rng_next h6 h7))))))))))))))))))))))))))))))))))))))))) (laws_FnMove_l0_ok r1 r2 r3 r4 h7 t1 (p1 ++ [x1]) (rng_step h6)))) (fun h13 =>
     LpO.go [.bit true, .el (E36 x1), .call [] (V.tup [E29 r5.1, E29 r5.2.1, E3 r5.2.2]) [], .bit true, .draw [], .bit false, .bit false, .bit false, .bit false, .bit false, .bit false, .bit false, .bit false, .bit false, .call [] (E3 r6) [], .bit false, .bit false, .bit false, .bit false, .bit false, .bit false, .bit false, .bit false, .bit false, .bit false, .bit false, .bit false, .bit false, .bit false, .bit false, .bit false, .bit false, .bit false, .bit false, .wait 2, .mask [3, 4, 8, 9, 10, 42, 43, 44], .ren [0, 1, 2, 3, 4, 5, 6, 7, 8, 9, 10, 11, 12, 13, 14, 15, 16, 17, 18, 19], .nm 44 (vI ((p1 ++ [x1]).length : Int))] (p := [(decide ((p1.length : Int) < (r3.Holds.length : Int))) = true,(0 : Int) ≤ (p1.length : Int),((p1.length : Int) : Int) < ((List.map E36 r3.Holds).length : Int),look [] ((p1.length : Int).toNat) = none,(List.map E36 r3.Holds)[(p1.length : Int).toNat]? = some (E36 x1),Fn Try.prog 8 [(false, E29 r1.1), (false, E29 r1.2), (false, E9 x1.Id), (false, E3 r2.2.2.2)] (V.tup [E29 r5.1, E29 r5.2.1, E3 r5.2.2]) [],(false || ((V.tup [E29 r5.1, E29 r5.2.1, E3 r5.2.2]).nv && nvL [])) = true,(r5.2.2 != 0) = true,(!(r5.1.Id == (bs []))) = false,(!(r5.1.Id == (bs []))) = false,(!(r5.1.Id == (bs []))) = false,(!(r5.1.Id == (bs []))) = false,(!(r5.2.1.Id == (bs []))) = false,(!(r5.2.1.Id == (bs []))) = false,(!(r5.2.1.Id == (bs []))) = false,(!(r5.2.1.Id == (bs []))) = false,(!(r5.2.1.Id == (bs []))) = false,Fn Try.prog 9 [(false, E23 r4.Holds), (false, E9 x1.Id)] (E3 r6) [],(false || ((E3 r6).nv && nvL [])) = true,(!(r5.2.1.Id == (bs []))) = false,(!(r5.2.1.Id == (bs []))) = false,(decide (r6 < 0)) = false,(decide (r6 < 0)) = false,(decide (r6 < 0)) = false,(decide (r6 < 0)) = false,(!(r5.2.1.Id == (bs []))) = false,(decide (r6 < 0)) = false,(!(r5.2.1.Id == (bs []))) = false,false = false,false = false,false = false,false = false,false = false,false = false,(!(r5.2.1.Id == (bs []))) = false,false = false,(!(r5.2.1.Id == (bs []))) = false,false = false,vI (i64 ((p1.length : Int) + 1)) = vI ((p1 ++ [x1]).length : Int)]) (by kernel_rfl) (cj (rng_lt h6) (cj (by omega) (cj (rng_ltI _ h6) (cj rfl (cj (rng_get _ h6) (cj (impl_Move_ok r1.1 r1.2 x1.Id r2.2.2.2 r5 h8) (cj (by simp [V.nv, nvL, nvL_all, nv_E3, nv_E5, nv_E9, nv_E22, nv_E23, nv_E24, nv_E26, nv_E27, nv_E29, nv_E36, nv_E94]) (cj h9 (cj (nf h10) (cj (nf h10) (cj (nf h10) (cj (nf h10) (cj (nf h11) (cj (nf h11) (cj (nf h11) (cj (nf h11) (cj (nf h11) (cj (impl_HoldAt_ok r4.Holds x1.Id r6 h12) (cj (by simp [V.nv, nvL, nvL_all, nv_E3]) (cj (nf h11) (cj (nf h11) (cj h13 (cj h13 (cj h13 (cj h13 (cj (nf h11) (cj h13 (cj (nf h11) (cj rfl (cj rfl (cj rfl (cj rfl (cj rfl (cj rfl (cj (nf h11) (cj rfl (cj (nf h11) (cj rfl (cj1 (rng_next h6 h7)))))))))))))))))))))))))))))))))))))))) (laws_FnMove_l0_ok r1 r2 r3 r4 h7 t1 (p1 ++ [x1]) (rng_step h6))))) (fun h11 =>
     Pn.some (LpO.out [.bit true, .el (E36 x1), .call [] (V.tup [E29 r5.1, E29 r5.2.1, E3 r5.2.2]) [], .bit true, .draw [], .bit false, .bit false, .bit false, .bit false, .bit true, .bit true, .bit true, .bit true, .bit true, .bit true, .bit true, .bit true, .bit true, .bit true, .bit true, .bit true, .wait 1, .mask [2], .ren []] (p := [(decide ((p1.length : Int) < (r3.Holds.length : Int))) = true,(0 : Int) ≤ (p1.length : Int),((p1.length : Int) : Int) < ((List.map E36 r3.Holds).length : Int),look [] ((p1.length : Int).toNat) = none,(List.map E36 r3.Holds)[(p1.length : Int).toNat]? = some (E36 x1),Fn Try.prog 8 [(false, E29 r1.1), (false, E29 r1.2), (false, E9 x1.Id), (false, E3 r2.2.2.2)] (V.tup [E29 r5.1, E29 r5.2.1, E3 r5.2.2]) [],(false || ((V.tup [E29 r5.1, E29 r5.2.1, E3 r5.2.2]).nv && nvL [])) = true,(r5.2.2 != 0) = true,(!(r5.1.Id == (bs []))) = false,(!(r5.1.Id == (bs []))) = false,(!(r5.1.Id == (bs []))) = false,(!(r5.1.Id == (bs []))) = false,(!(r5.2.1.Id == (bs []))) = true,(!(r5.2.1.Id == (bs []))) = true,(!(r5.2.1.Id == (bs []))) = true,(!(r5.2.1.Id == (bs []))) = true,(!(r5.2.1.Id == (bs []))) = true,(!(r5.2.1.Id == (bs []))) = true,(!(r5.2.1.Id == (bs []))) = true,(!(r5.2.1.Id == (bs []))) = true,(!(r5.2.1.Id == (bs []))) = true,(!(r5.2.1.Id == (bs []))) = true,(!(r5.2.1.Id == (bs []))) = true,true = true]) (by kernel_rfl) (show X.ret ≠ X.go from nofun) (cj (rng_lt h6) (cj (by omega) (cj (rng_ltI _ h6) (cj rfl (cj (rng_get _ h6) (cj (impl_Move_ok r1.1 r1.2 x1.Id r2.2.2.2 r5 h8) (cj (by simp [V.nv, nvL, nvL_all, nv_E3, nv_E5, nv_E9, nv_E22, nv_E23, nv_E24, nv_E26, nv_E27, nv_E29, nv_E36, nv_E94]) (cj h9 (cj (nf h10) (cj (nf h10) (cj (nf h10) (cj (nf h10) (cj (nt h11) (cj (nt h11) (cj (nt h11) (cj (nt h11) (cj (nt h11) (cj (nt h11) (cj (nt h11) (cj (nt h11) (cj (nt h11) (cj (nt h11) (cj (nt h11) (cj1 rfl))))))))))))))))))))))))))) (fun h10 =>
     Pn.some (LpO.out [.bit true, .el (E36 x1), .call [] (V.tup [E29 r5.1, E29 r5.2.1, E3 r5.2.2]) [], .bit true, .draw [], .bit true, .bit true, .bit true, .bit true, .bit true, .bit true, .bit true, .bit true, .bit true, .bit true, .bit true, .bit true, .bit true, .bit true, .bit true, .bit true, .wait 1, .mask [2], .ren []] (p := [(decide ((p1.length : Int) < (r3.Holds.length : Int))) = true,(0 : Int) ≤ (p1.length : Int),((p1.length : Int) : Int) < ((List.map E36 r3.Holds).length : Int),look [] ((p1.length : Int).toNat) = none,(List.map E36 r3.Holds)[(p1.length : Int).toNat]? = some (E36 x1),Fn Try.prog 8 [(false, E29 r1.1), (false, E29 r1.2), (false, E9 x1.Id), (false, E3 r2.2.2.2)] (V.tup [E29 r5.1, E29 r5.2.1, E3 r5.2.2]) [],(false || ((V.tup [E29 r5.1, E29 r5.2.1, E3 r5.2.2]).nv && nvL [])) = true,(r5.2.2 != 0) = true,(!(r5.1.Id == (bs []))) = true,(!(r5.1.Id == (bs []))) = true,(!(r5.1.Id == (bs []))) = true,(!(r5.1.Id == (bs []))) = true,true = true,true = true,true = true,true = true,true = true,true = true,true = true,true = true,true = true,true = true,true = true,true = true]) (by kernel_rfl) (show X.ret ≠ X.go from nofun) (cj (rng_lt h6) (cj (by omega) (cj (rng_ltI _ h6) (cj rfl (cj (rng_get _ h6) (cj (impl_Move_ok r1.1 r1.2 x1.Id r2.2.2.2 r5 h8) (cj (by simp [V.nv, nvL, nvL_all, nv_E3, nv_E5, nv_E9, nv_E22, nv_E23, nv_E24, nv_E26, nv_E27, nv_E29, nv_E36, nv_E94]) (cj h9 (cj (nt h10) (cj (nt h10) (cj (nt h10) (cj (nt h10) (cj rfl (cj rfl (cj rfl (cj rfl (cj rfl (cj rfl (cj rfl (cj rfl (cj rfl (cj rfl (cj rfl (cj1 rfl))))))))))))))))))))))))))) (fun h9 =>
     Pn.bind (fun r8 h17 =>
     Pn.ite (fun h18 =>
     Pn.some (LpO.out [.bit true, .el (E36 x1), .call [] (V.tup [E29 r5.1, E29 r5.2.1, E3 r5.2.2]) [], .bit false, .call [] (E3 r8) [], .draw [], .bit true, .bit true, .bit true, .bit true, .bit true, .bit true, .bit true, .bit true, .bit true, .bit true, .bit true, .bit true, .bit true, .bit true, .bit true, .bit true, .bit true, .bit true, .bit true, .bit true, .bit true, .bit true, .bit true, .bit true, .bit true, .bit true, .bit true, .bit true, .bit true, .bit true, .bit true, .bit true, .bit true, .bit true, .bit true, .bit true, .bit true, .bit true, .bit true, .bit true, .wait 1, .mask [2], .ren []] (p := [(decide ((p1.length : Int) < (r3.Holds.length : Int))) = true,(0 : Int) ≤ (p1.length : Int),((p1.length : Int) : Int) < ((List.map E36 r3.Holds).length : Int),look [] ((p1.length : Int).toNat) = none,(List.map E36 r3.Holds)[(p1.length : Int).toNat]? = some (E36 x1),Fn Try.prog 8 [(false, E29 r1.1), (false, E29 r1.2), (false, E9 x1.Id), (false, E3 r2.2.2.2)] (V.tup [E29 r5.1, E29 r5.2.1, E3 r5.2.2]) [],(false || ((V.tup [E29 r5.1, E29 r5.2.1, E3 r5.2.2]).nv && nvL [])) = true,(r5.2.2 != 0) = false,Fn Try.prog 11 [(false, E23 r5.2.1.Holds), (false, E9 x1.Id)] (E3 r8) [],(false || ((E3 r8).nv && nvL [])) = true,(decide (r8 < 0)) = true,(decide (r8 < 0)) = true,(decide (r8 < 0)) = true,(decide (r8 < 0)) = true,(decide (r8 < 0)) = true,(decide (r8 < 0)) = true,(decide (r8 < 0)) = true,(decide (r8 < 0)) = true,true = true,true = true,true = true,true = true,true = true,true = true,true = true,true = true,true = true,true = true,true = true,true = true,true = true,true = true,true = true,true = true,true = true,true = true,true = true,true = true,true = true,true = true,true = true,true = true,true = true,true = true,true = true,true = true,true = true,true = true,true = true,true = true]) (by kernel_rfl) (show X.ret ≠ X.go from nofun) (cj (rng_lt h6) (cj (by omega) (cj (rng_ltI _ h6) (cj rfl (cj (rng_get _ h6) (cj (impl_Move_ok r1.1 r1.2 x1.Id r2.2.2.2 r5 h8) (cj (by simp [V.nv, nvL, nvL_all, nv_E3, nv_E5, nv_E9, nv_E22, nv_E23, nv_E24, nv_E26, nv_E27, nv_E29, nv_E36, nv_E94]) (cj h9 (cj (spec_HoldAt_ok r5.2.1.Holds x1.Id r8 h17) (cj (by simp [V.nv, nvL, nvL_all, nv_E3]) (cj h18 (cj h18 (cj h18 (cj h18 (cj h18 (cj h18 (cj h18 (cj h18 (cj rfl (cj rfl (cj rfl (cj rfl (cj rfl (cj rfl (cj rfl (cj rfl (cj rfl (cj rfl (cj rfl (cj rfl (cj rfl (cj rfl (cj rfl (cj rfl (cj rfl (cj rfl (cj rfl (cj rfl (cj rfl (cj rfl (cj rfl (cj rfl (cj rfl (cj rfl (cj rfl (cj rfl (cj rfl (cj rfl (cj rfl (cj1 rfl)))))))))))))))))))))))))))))))))))))))))))))))))))) (fun h18 =>
     Pn.ite (fun h19 =>
     Pn.bind (fun x2 h20 =>
     Pn.ite (fun h21 =>
     Pn.bind (fun r9 h22 =>
     Pn.ite (fun h23 =>
     Pn.some (LpO.out [.bit true, .el (E36 x1), .call [] (V.tup [E29 r5.1, E29 r5.2.1, E3 r5.2.2]) [], .bit false, .call [] (E3 r8) [], .draw [], .bit false, .bit false, .bit false, .bit false, .bit false, .el (E36 x2), .bit false, .bit false, .bit false, .bit false, .bit false, .bit false, .bit false, .bit false, .call [] (E3 r9) [], .bit false, .bit false, .bit true, .bit true, .bit true, .bit true, .bit true, .bit true, .bit true, .bit true, .bit true, .bit true, .bit true, .bit true, .bit true, .bit true, .bit true, .bit true, .bit true, .bit true, .bit true, .bit true, .bit true, .bit true, .bit true, .bit true, .bit true, .wait 1, .mask [2], .ren []] (p := [(decide ((p1.length : Int) < (r3.Holds.length : Int))) = true,(0 : Int) ≤ (p1.length : Int),((p1.length : Int) : Int) < ((List.map E36 r3.Holds).length : Int),look [] ((p1.length : Int).toNat) = none,(List.map E36 r3.Holds)[(p1.length : Int).toNat]? = some (E36 x1),Fn Try.prog 8 [(false, E29 r1.1), (false, E29 r1.2), (false, E9 x1.Id), (false, E3 r2.2.2.2)] (V.tup [E29 r5.1, E29 r5.2.1, E3 r5.2.2]) [],(false || ((V.tup [E29 r5.1, E29 r5.2.1, E3 r5.2.2]).nv && nvL [])) = true,(r5.2.2 != 0) = false,Fn Try.prog 11 [(false, E23 r5.2.1.Holds), (false, E9 x1.Id)] (E3 r8) [],(false || ((E3 r8).nv && nvL [])) = true,(decide (r8 < 0)) = false,(decide (r8 < 0)) = false,(decide (r8 < 0)) = false,(decide (r8 < 0)) = false,(0 : Int) ≤ r8,(r8 : Int) < ((List.map E36 r5.2.1.Holds).length : Int),(decide (r8 < 0)) = false,look [] r8.toNat = none,(List.map E36 r5.2.1.Holds)[r8.toNat]? = some (E36 x2),(decide (r8 < 0)) = false,(decide (r8 < 0)) = false,(decide (r8 < 0)) = false,(!((x2.Id == x1.Id) && ((x2.Amount == x1.Amount) && ((x2.Due == x1.Due) && true)))) = false,(!((x2.Id == x1.Id) && ((x2.Amount == x1.Amount) && ((x2.Due == x1.Due) && true)))) = false,(!((x2.Id == x1.Id) && ((x2.Amount == x1.Amount) && ((x2.Due == x1.Due) && true)))) = false,(!((x2.Id == x1.Id) && ((x2.Amount == x1.Amount) && ((x2.Due == x1.Due) && true)))) = false,(!((x2.Id == x1.Id) && ((x2.Amount == x1.Amount) && ((x2.Due == x1.Due) && true)))) = false,Fn Try.prog 9 [(false, E23 r5.1.Holds), (false, E9 x1.Id)] (E3 r9) [],(false || ((E3 r9).nv && nvL [])) = true,(!((x2.Id == x1.Id) && ((x2.Amount == x1.Amount) && ((x2.Due == x1.Due) && true)))) = false,(!((x2.Id == x1.Id) && ((x2.Amount == x1.Amount) && ((x2.Due == x1.Due) && true)))) = false,(decide (0 ≤ r9)) = true,(decide (0 ≤ r9)) = true,(decide (0 ≤ r9)) = true,(decide (0 ≤ r9)) = true,(decide (0 ≤ r9)) = true,(decide (0 ≤ r9)) = true,(decide (0 ≤ r9)) = true,(decide (0 ≤ r9)) = true,(decide (0 ≤ r9)) = true,(decide (0 ≤ r9)) = true,(decide (0 ≤ r9)) = true,(decide (0 ≤ r9)) = true,(decide (0 ≤ r9)) = true,(decide (0 ≤ r9)) = true,(decide (0 ≤ r9)) = true,(decide (0 ≤ r9)) = true,true = true,true = true,true = true,true = true,true = true,true = true,true = true,true = true,true = true]) (by kernel_rfl) (show X.ret ≠ X.go from nofun) (cj (rng_lt h6) (cj (by omega) (cj (rng_ltI _ h6) (cj rfl (cj (rng_get _ h6) (cj (impl_Move_ok r1.1 r1.2 x1.Id r2.2.2.2 r5 h8) (cj (by simp [V.nv, nvL, nvL_all, nv_E3, nv_E5, nv_E9, nv_E22, nv_E23, nv_E24, nv_E26, nv_E27, nv_E29, nv_E36, nv_E94]) (cj h9 (cj (spec_HoldAt_ok r5.2.1.Holds x1.Id r8 h17) (cj (by simp [V.nv, nvL, nvL_all, nv_E3]) (cj h18 (cj h18 (cj h18 (cj h18 (cj (od h19) (cj (map_ltN (od h19) h20) (cj h18 (cj rfl (cj (map_get h20) (cj h18 (cj h18 (cj h18 (cj (nf h21) (cj (nf h21) (cj (nf h21) (cj (nf h21) (cj (nf h21) (cj (impl_HoldAt_ok r5.1.Holds x1.Id r9 h22) (cj (by simp [V.nv, nvL, nvL_all, nv_E3]) (cj (nf h21) (cj (nf h21) (cj h23 (cj h23 (cj h23 (cj h23 (cj h23 (cj h23 (cj h23 (cj h23 (cj h23 (cj h23 (cj h23 (cj h23 (cj h23 (cj h23 (cj h23 (cj h23 (cj rfl (cj rfl (cj rfl (cj rfl (cj rfl (cj rfl (cj rfl (cj rfl (cj1 rfl)))))))))))))))))))))))))))))))))))))))))))))))))))))))))) (fun h23 =>
     Pn.bind (fun r10 h24 =>
     Pn.bind (fun r11 h25 =>
     Pn.bind (fun r12 h26 =>
     Pn.bind (fun r13 h27 =>
     Pn.ite (fun h28 =>
     Pn.some (LpO.out [.bit true, .el (E36 x1), .call [] (V.tup [E29 r5.1, E29 r5.2.1, E3 r5.2.2]) [], .bit false, .call [] (E3 r8) [], .draw [], .bit false, .bit false, .bit false, .bit false, .bit false, .el (E36 x2), .bit false, .bit false, .bit false, .bit false, .bit false, .bit false, .bit false, .bit false, .call [] (E3 r9) [], .bit false, .bit false, .bit false, .bit false, .bit false, .bit false, .bit false, .bit false, .bit false, .bit false, .bit false, .call [] (E3 r10) [], .bit false, .call [] (E3 r11) [], .bit false, .bit false, .call [] (E3 r12) [], .bit false, .call [] (E3 r13) [], .bit false, .bit false, .bit false, .bit true, .bit true, .bit true, .bit true, .bit true, .bit true, .bit true, .bit true, .bit true, .wait 1, .mask [2], .ren []] (p := [(decide ((p1.length : Int) < (r3.Holds.length : Int))) = true,(0 : Int) ≤ (p1.length : Int),((p1.length : Int) : Int) < ((List.map E36 r3.Holds).length : Int),look [] ((p1.length : Int).toNat) = none,(List.map E36 r3.Holds)[(p1.length : Int).toNat]? = some (E36 x1),Fn Try.prog 8 [(false, E29 r1.1), (false, E29 r1.2), (false, E9 x1.Id), (false, E3 r2.2.2.2)] (V.tup [E29 r5.1, E29 r5.2.1, E3 r5.2.2]) [],(false || ((V.tup [E29 r5.1, E29 r5.2.1, E3 r5.2.2]).nv && nvL [])) = true,(r5.2.2 != 0) = false,Fn Try.prog 11 [(false, E23 r5.2.1.Holds), (false, E9 x1.Id)] (E3 r8) [],(false || ((E3 r8).nv && nvL [])) = true,(decide (r8 < 0)) = false,(decide (r8 < 0)) = false,(decide (r8 < 0)) = false,(decide (r8 < 0)) = false,(0 : Int) ≤ r8,(r8 : Int) < ((List.map E36 r5.2.1.Holds).length : Int),(decide (r8 < 0)) = false,look [] r8.toNat = none,(List.map E36 r5.2.1.Holds)[r8.toNat]? = some (E36 x2),(decide (r8 < 0)) = false,(decide (r8 < 0)) = false,(decide (r8 < 0)) = false,(!((x2.Id == x1.Id) && ((x2.Amount == x1.Amount) && ((x2.Due == x1.Due) && true)))) = false,(!((x2.Id == x1.Id) && ((x2.Amount == x1.Amount) && ((x2.Due == x1.Due) && true)))) = false,(!((x2.Id == x1.Id) && ((x2.Amount == x1.Amount) && ((x2.Due == x1.Due) && true)))) = false,(!((x2.Id == x1.Id) && ((x2.Amount == x1.Amount) && ((x2.Due == x1.Due) && true)))) = false,(!((x2.Id == x1.Id) && ((x2.Amount == x1.Amount) && ((x2.Due == x1.Due) && true)))) = false,Fn Try.prog 9 [(false, E23 r5.1.Holds), (false, E9 x1.Id)] (E3 r9) [],(false || ((E3 r9).nv && nvL [])) = true,(!((x2.Id == x1.Id) && ((x2.Amount == x1.Amount) && ((x2.Due == x1.Due) && true)))) = false,(!((x2.Id == x1.Id) && ((x2.Amount == x1.Amount) && ((x2.Due == x1.Due) && true)))) = false,(decide (0 ≤ r9)) = false,(decide (0 ≤ r9)) = false,(decide (0 ≤ r9)) = false,(decide (0 ≤ r9)) = false,(decide (0 ≤ r9)) = false,(decide (0 ≤ r9)) = false,(decide (0 ≤ r9)) = false,(decide (0 ≤ r9)) = false,(decide (0 ≤ r9)) = false,Fn Try.prog 12 [(false, E23 r5.1.Holds)] (E3 r10) [],(false || ((E3 r10).nv && nvL [])) = true,(decide (0 ≤ r9)) = false,Fn Try.prog 12 [(false, E23 r5.2.1.Holds)] (E3 r11) [],(false || ((E3 r11).nv && nvL [])) = true,(decide (0 ≤ r9)) = false,(decide (0 ≤ r9)) = false,Fn Try.prog 12 [(false, E23 r3.Holds)] (E3 r12) [],(false || ((E3 r12).nv && nvL [])) = true,(decide (0 ≤ r9)) = false,Fn Try.prog 12 [(false, E23 r4.Holds)] (E3 r13) [],(false || ((E3 r13).nv && nvL [])) = true,(decide (0 ≤ r9)) = false,(decide (0 ≤ r9)) = false,(decide (0 ≤ r9)) = false,((i64 (r10 + r11)) != (i64 (r12 + r13))) = true,((i64 (r10 + r11)) != (i64 (r12 + r13))) = true,((i64 (r10 + r11)) != (i64 (r12 + r13))) = true,((i64 (r10 + r11)) != (i64 (r12 + r13))) = true,true = true,true = true,true = true,true = true,true = true]) (by kernel_rfl) (show X.ret ≠ X.go from nofun) (cj (rng_lt h6) (cj (by omega) (cj (rng_ltI _ h6) (cj rfl (cj (rng_get _ h6) (cj (impl_Move_ok r1.1 r1.2 x1.Id r2.2.2.2 r5 h8) (cj (by simp [V.nv, nvL, nvL_all, nv_E3, nv_E5, nv_E9, nv_E22, nv_E23, nv_E24, nv_E26, nv_E27, nv_E29, nv_E36, nv_E94]) (cj h9 (cj (spec_HoldAt_ok r5.2.1.Holds x1.Id r8 h17) (cj (by simp [V.nv, nvL, nvL_all, nv_E3]) (cj h18 (cj h18 (cj h18 (cj h18 (cj (od h19) (cj (map_ltN (od h19) h20) (cj h18 (cj rfl (cj (map_get h20) (cj h18 (cj h18 (cj h18 (cj (nf h21) (cj (nf h21) (cj (nf h21) (cj (nf h21) (cj (nf h21) (cj (impl_HoldAt_ok r5.1.Holds x1.Id r9 h22) (cj (by simp [V.nv, nvL, nvL_all, nv_E3]) (cj (nf h21) (cj (nf h21) (cj h23 (cj h23 (cj h23 (cj h23 (cj h23 (cj h23 (cj h23 (cj h23 (cj h23 (cj (impl_Stored_ok r5.1.Holds r10 h24) (cj (by simp [V.nv, nvL, nvL_all, nv_E3]) (cj h23 (cj (impl_Stored_ok r5.2.1.Holds r11 h25) (cj (by simp [V.nv, nvL, nvL_all, nv_E3]) (cj h23 (cj h23 (cj (impl_Stored_ok r3.Holds r12 h26) (cj (by simp [V.nv, nvL, nvL_all, nv_E3]) (cj h23 (cj (impl_Stored_ok r4.Holds r13 h27) (cj (by simp [V.nv, nvL, nvL_all, nv_E3]) (cj h23 (cj h23 (cj h23 (cj h28 (cj h28 (cj h28 (cj h28 (cj rfl (cj rfl (cj rfl (cj rfl (cj1 rfl)))))))))))))))))))))))))))))))))))))))))))))))))))))))))))))))))) (fun h28 =>
     Pn.bind (fun r14 h29 =>
     Pn.ite (fun h30 =>
     Pn.bind (fun r15 h31 =>
     Pn.ite (fun h32 =>
     LpO.go [.bit true, .el (E36 x1), .call [] (V.tup [E29 r5.1, E29 r5.2.1, E3 r5.2.2]) [], .bit false, .call [] (E3 r8) [], .draw [], .bit false, .bit false, .bit false, .bit false, .bit false, .el (E36 x2), .bit false, .bit false, .bit false, .bit false, .bit false, .bit false, .bit false, .bit false, .call [] (E3 r9) [], .bit false, .bit false, .bit false, .bit false, .bit false, .bit false, .bit false, .bit false, .bit false, .bit false, .bit false, .call [] (E3 r10) [], .bit false, .call [] (E3 r11) [], .bit false, .bit false, .call [] (E3 r12) [], .bit false, .call [] (E3 r13) [], .bit false, .bit false, .bit false, .bit false, .bit false, .call [] (E4 r14) [], .bit false, .bit false, .bit false, .bit false, .call [] (E4 r15) [], .bit false, .bit false, .bit false, .wait 2, .mask [3, 4, 8, 9, 10, 42, 43, 44], .ren [0, 1, 2, 3, 4, 5, 6, 7, 8, 9, 10, 11, 12, 13, 14, 15, 16, 17, 18, 19], .nm 44 (vI ((p1 ++ [x1]).length : Int))] (p := [(decide ((p1.length : Int) < (r3.Holds.length : Int))) = true,(0 : Int) ≤ (p1.length : Int),((p1.length : Int) : Int) < ((List.map E36 r3.Holds).length : Int),look [] ((p1.length : Int).toNat) = none,(List.map E36 r3.Holds)[(p1.length : Int).toNat]? = some (E36 x1),Fn Try.prog 8 [(false, E29 r1.1), (false, E29 r1.2), (false, E9 x1.Id), (false, E3 r2.2.2.2)] (V.tup [E29 r5.1, E29 r5.2.1, E3 r5.2.2]) [],(false || ((V.tup [E29 r5.1, E29 r5.2.1, E3 r5.2.2]).nv && nvL [])) = true,(r5.2.2 != 0) = false,Fn Try.prog 11 [(false, E23 r5.2.1.Holds), (false, E9 x1.Id)] (E3 r8) [],(false || ((E3 r8).nv && nvL [])) = true,(decide (r8 < 0)) = false,(decide (r8 < 0)) = false,(decide (r8 < 0)) = false,(decide (r8 < 0)) = false,(0 : Int) ≤ r8,(r8 : Int) < ((List.map E36 r5.2.1.Holds).length : Int),(decide (r8 < 0)) = false,look [] r8.toNat = none,(List.map E36 r5.2.1.Holds)[r8.toNat]? = some (E36 x2),(decide (r8 < 0)) = false,(decide (r8 < 0)) = false,(decide (r8 < 0)) = false,(!((x2.Id == x1.Id) && ((x2.Amount == x1.Amount) && ((x2.Due == x1.Due) && true)))) = false,(!((x2.Id == x1.Id) && ((x2.Amount == x1.Amount) && ((x2.Due == x1.Due) && true)))) = false,(!((x2.Id == x1.Id) && ((x2.Amount == x1.Amount) && ((x2.Due == x1.Due) && true)))) = false,(!((x2.Id == x1.Id) && ((x2.Amount == x1.Amount) && ((x2.Due == x1.Due) && true)))) = false,(!((x2.Id == x1.Id) && ((x2.Amount == x1.Amount) && ((x2.Due == x1.Due) && true)))) = false,Fn Try.prog 9 [(false, E23 r5.1.Holds), (false, E9 x1.Id)] (E3 r9) [],(false || ((E3 r9).nv && nvL [])) = true,(!((x2.Id == x1.Id) && ((x2.Amount == x1.Amount) && ((x2.Due == x1.Due) && true)))) = false,(!((x2.Id == x1.Id) && ((x2.Amount == x1.Amount) && ((x2.Due == x1.Due) && true)))) = false,(decide (0 ≤ r9)) = false,(decide (0 ≤ r9)) = false,(decide (0 ≤ r9)) = false,(decide (0 ≤ r9)) = false,(decide (0 ≤ r9)) = false,(decide (0 ≤ r9)) = false,(decide (0 ≤ r9)) = false,(decide (0 ≤ r9)) = false,(decide (0 ≤ r9)) = false,Fn Try.prog 12 [(false, E23 r5.1.Holds)] (E3 r10) [],(false || ((E3 r10).nv && nvL [])) = true,(decide (0 ≤ r9)) = false,Fn Try.prog 12 [(false, E23 r5.2.1.Holds)] (E3 r11) [],(false || ((E3 r11).nv && nvL [])) = true,(decide (0 ≤ r9)) = false,(decide (0 ≤ r9)) = false,Fn Try.prog 12 [(false, E23 r3.Holds)] (E3 r12) [],(false || ((E3 r12).nv && nvL [])) = true,(decide (0 ≤ r9)) = false,Fn Try.prog 12 [(false, E23 r4.Holds)] (E3 r13) [],(false || ((E3 r13).nv && nvL [])) = true,(decide (0 ≤ r9)) = false,(decide (0 ≤ r9)) = false,(decide (0 ≤ r9)) = false,((i64 (r10 + r11)) != (i64 (r12 + r13))) = false,((i64 (r10 + r11)) != (i64 (r12 + r13))) = false,Fn Try.prog 13 [(false, E29 r5.1)] (E4 r14) [],(false || ((E4 r14).nv && nvL [])) = true,((i64 (r10 + r11)) != (i64 (r12 + r13))) = false,((i64 (r10 + r11)) != (i64 (r12 + r13))) = false,(!r14) = false,(!r14) = false,Fn Try.prog 13 [(false, E29 r5.2.1)] (E4 r15) [],(false || ((E4 r15).nv && nvL [])) = true,(!r14) = false,(!r14) = false,(!r15) = false,vI (i64 ((p1.length : Int) + 1)) = vI ((p1 ++ [x1]).length : Int)]) (by kernel_rfl) (cj (rng_lt h6) (cj (by omega) (cj (rng_ltI _ h6) (cj rfl (cj (rng_get _ h6) (cj (impl_Move_ok r1.1 r1.2 x1.Id r2.2.2.2 r5 h8) (cj (by simp [V.nv, nvL, nvL_all, nv_E3, nv_E5, nv_E9, nv_E22, nv_E23, nv_E24, nv_E26, nv_E27, nv_E29, nv_E36, nv_E94]) (cj h9 (cj (spec_HoldAt_ok r5.2.1.Holds x1.Id r8 h17) (cj (by simp [V.nv, nvL, nvL_all, nv_E3]) (cj h18 (cj h18 (cj h18 (cj h18 (cj (od h19) (cj (map_ltN (od h19) h20) (cj h18 (cj rfl (cj (map_get h20) (cj h18 (cj h18 (cj h18 (cj (nf h21) (cj (nf h21) (cj (nf h21) (cj (nf h21) (cj (nf h21) (cj (impl_HoldAt_ok r5.1.Holds x1.Id r9 h22) (cj (by simp [V.nv, nvL, nvL_all, nv_E3]) (cj (nf h21) (cj (nf h21) (cj h23 (cj h23 (cj h23 (cj h23 (cj h23 (cj h23 (cj h23 (cj h23 (cj h23 (cj (impl_Stored_ok r5.1.Holds r10 h24) (cj (by simp [V.nv, nvL, nvL_all, nv_E3]) (cj h23 (cj (impl_Stored_ok r5.2.1.Holds r11 h25) (cj (by simp [V.nv, nvL, nvL_all, nv_E3]) (cj h23 (cj h23 (cj (impl_Stored_ok r3.Holds r12 h26) (cj (by simp [V.nv, nvL, nvL_all, nv_E3]) (cj h23 (cj (impl_Stored_ok r4.Holds r13 h27) (cj (by simp [V.nv, nvL, nvL_all, nv_E3]) (cj h23 (cj h23 (cj h23 (cj h28 (cj h28 (cj (impl_AcctOk_ok r5.1 r14 h29) (cj (by simp [V.nv, nvL, nvL_all, nv_E4]) (cj h28 (cj h28 (cj (nf h30) (cj (nf h30) (cj (impl_AcctOk_ok r5.2.1 r15 h31) (cj (by simp [V.nv, nvL, nvL_all, nv_E4]) (cj (nf h30) (cj (nf h30) (cj (nf h32) (cj1 (rng_next h6 h7)))))))))))))))))))))))))))))))))))))))))))))))))))))))))))))))))))))) (laws_FnMove_l0_ok r1 r2 r3 r4 h7 t1 (p1 ++ [x1]) (rng_step h6))) (fun h32 =>
     Pn.some (LpO.out [.bit true, .el (E36 x1), .call [] (V.tup [E29 r5.1, E29 r5.2.1, E3 r5.2.2]) [], .bit false, .call [] (E3 r8) [], .draw [], .bit false, .bit false, .bit false, .bit false, .bit false, .el (E36 x2), .bit false, .bit false, .bit false, .bit false, .bit false, .bit false, .bit false, .bit false, .call [] (E3 r9) [], .bit false, .bit false, .bit false, .bit false, .bit false, .bit false, .bit false, .bit false, .bit false, .bit false, .bit false, .call [] (E3 r10) [], .bit false, .call [] (E3 r11) [], .bit false, .bit false, .call [] (E3 r12) [], .bit false, .call [] (E3 r13) [], .bit false, .bit false, .bit false, .bit false, .bit false, .call [] (E4 r14) [], .bit false, .bit false, .bit false, .bit false, .call [] (E4 r15) [], .bit false, .bit false, .bit true, .wait 1, .mask [2], .ren []] (p := [(decide ((p1.length : Int) < (r3.Holds.length : Int))) = true,(0 : Int) ≤ (p1.length : Int),((p1.length : Int) : Int) < ((List.map E36 r3.Holds).length : Int),look [] ((p1.length : Int).toNat) = none,(List.map E36 r3.Holds)[(p1.length : Int).toNat]? = some (E36 x1),Fn Try.prog 8 [(false, E29 r1.1), (false, E29 r1.2), (false, E9 x1.Id), (false, E3 r2.2.2.2)] (V.tup [E29 r5.1, E29 r5.2.1, E3 r5.2.2]) [],(false || ((V.tup [E29 r5.1, E29 r5.2.1, E3 r5.2.2]).nv && nvL [])) = true,(r5.2.2 != 0) = false,Fn Try.prog 11 [(false, E23 r5.2.1.Holds), (false, E9 x1.Id)] (E3 r8) [],(false || ((E3 r8).nv && nvL [])) = true,(decide (r8 < 0)) = false,(decide (r8 < 0)) = false,(decide (r8 < 0)) = false,(decide (r8 < 0)) = false,(0 : Int) ≤ r8,(r8 : Int) < ((List.map E36 r5.2.1.Holds).length : Int),(decide (r8 < 0)) = false,look [] r8.toNat = none,(List.map E36 r5.2.1.Holds)[r8.toNat]? = some (E36 x2),(decide (r8 < 0)) = false,(decide (r8 < 0)) = false,(decide (r8 < 0)) = false,(!((x2.Id == x1.Id) && ((x2.Amount == x1.Amount) && ((x2.Due == x1.Due) && true)))) = false,(!((x2.Id == x1.Id) && ((x2.Amount == x1.Amount) && ((x2.Due == x1.Due) && true)))) = false,(!((x2.Id == x1.Id) && ((x2.Amount == x1.Amount) && ((x2.Due == x1.Due) && true)))) = false,(!((x2.Id == x1.Id) && ((x2.Amount == x1.Amount) && ((x2.Due == x1.Due) && true)))) = false,(!((x2.Id == x1.Id) && ((x2.Amount == x1.Amount) && ((x2.Due == x1.Due) && true)))) = false,Fn Try.prog 9 [(false, E23 r5.1.Holds), (false, E9 x1.Id)] (E3 r9) [],(false || ((E3 r9).nv && nvL [])) = true,(!((x2.Id == x1.Id) && ((x2.Amount == x1.Amount) && ((x2.Due == x1.Due) && true)))) = false,(!((x2.Id == x1.Id) && ((x2.Amount == x1.Amount) && ((x2.Due == x1.Due) && true)))) = false,(decide (0 ≤ r9)) = false,(decide (0 ≤ r9)) = false,(decide (0 ≤ r9)) = false,(decide (0 ≤ r9)) = false,(decide (0 ≤ r9)) = false,(decide (0 ≤ r9)) = false,(decide (0 ≤ r9)) = false,(decide (0 ≤ r9)) = false,(decide (0 ≤ r9)) = false,Fn Try.prog 12 [(false, E23 r5.1.Holds)] (E3 r10) [],(false || ((E3 r10).nv && nvL [])) = true,(decide (0 ≤ r9)) = false,Fn Try.prog 12 [(false, E23 r5.2.1.Holds)] (E3 r11) [],(false || ((E3 r11).nv && nvL [])) = true,(decide (0 ≤ r9)) = false,(decide (0 ≤ r9)) = false,Fn Try.prog 12 [(false, E23 r3.Holds)] (E3 r12) [],(false || ((E3 r12).nv && nvL [])) = true,(decide (0 ≤ r9)) = false,Fn Try.prog 12 [(false, E23 r4.Holds)] (E3 r13) [],(false || ((E3 r13).nv && nvL [])) = true,(decide (0 ≤ r9)) = false,(decide (0 ≤ r9)) = false,(decide (0 ≤ r9)) = false,((i64 (r10 + r11)) != (i64 (r12 + r13))) = false,((i64 (r10 + r11)) != (i64 (r12 + r13))) = false,Fn Try.prog 13 [(false, E29 r5.1)] (E4 r14) [],(false || ((E4 r14).nv && nvL [])) = true,((i64 (r10 + r11)) != (i64 (r12 + r13))) = false,((i64 (r10 + r11)) != (i64 (r12 + r13))) = false,(!r14) = false,(!r14) = false,Fn Try.prog 13 [(false, E29 r5.2.1)] (E4 r15) [],(false || ((E4 r15).nv && nvL [])) = true,(!r14) = false,(!r14) = false,(!r15) = true]) (by kernel_rfl) (show X.ret ≠ X.go from nofun) (cj (rng_lt h6) (cj (by omega) (cj (rng_ltI _ h6) (cj rfl (cj (rng_get _ h6) (cj (impl_Move_ok r1.1 r1.2 x1.Id r2.2.2.2 r5 h8) (cj (by simp [V.nv, nvL, nvL_all, nv_E3, nv_E5, nv_E9, nv_E22, nv_E23, nv_E24, nv_E26, nv_E27, nv_E29, nv_E36, nv_E94]) (cj h9 (cj (spec_HoldAt_ok r5.2.1.Holds x1.Id r8 h17) (cj (by simp [V.nv, nvL, nvL_all, nv_E3]) (cj h18 (cj h18 (cj h18 (cj h18 (cj (od h19) (cj (map_ltN (od h19) h20) (cj h18 (cj rfl (cj (map_get h20) (cj h18 (cj h18 (cj h18 (cj (nf h21) (cj (nf h21) (cj (nf h21) (cj (nf h21) (cj (nf h21) (cj (impl_HoldAt_ok r5.1.Holds x1.Id r9 h22) (cj (by simp [V.nv, nvL, nvL_all, nv_E3]) (cj (nf h21) (cj (nf h21) (cj h23 (cj h23 (cj h23 (cj h23 (cj h23 (cj h23 (cj h23 (cj h23 (cj h23 (cj (impl_Stored_ok r5.1.Holds r10 h24) (cj (by simp [V.nv, nvL, nvL_all, nv_E3]) (cj h23 (cj (impl_Stored_ok r5.2.1.Holds r11 h25) (cj (by simp [V.nv, nvL, nvL_all, nv_E3]) (cj h23 (cj h23 (cj (impl_Stored_ok r3.Holds r12 h26) (cj (by simp [V.nv, nvL, nvL_all, nv_E3]) (cj h23 (cj (impl_Stored_ok r4.Holds r13 h27) (cj (by simp [V.nv, nvL, nvL_all, nv_E3]) (cj h23 (cj h23 (cj h23 (cj h28 (cj h28 (cj (impl_AcctOk_ok r5.1 r14 h29) (cj (by simp [V.nv, nvL, nvL_all, nv_E4]) (cj h28 (cj h28 (cj (nf h30) (cj (nf h30) (cj (impl_AcctOk_ok r5.2.1 r15 h31) (cj (by simp [V.nv, nvL, nvL_all, nv_E4]) (cj (nf h30) (cj (nf h30) (cj1 (nt h32))))))))))))))))))))))))))))))))))))))))))))))))))))))))))))))))))))))))) (fun h30 =>
     Pn.some (LpO.out [.bit true, .el (E36 x1), .call [] (V.tup [E29 r5.1, E29 r5.2.1, E3 r5.2.2]) [], .bit false, .call [] (E3 r8) [], .draw [], .bit false, .bit false, .bit false, .bit false, .bit false, .el (E36 x2), .bit false, .bit false, .bit false, .bit false, .bit false, .bit false, .bit false, .bit false, .call [] (E3 r9) [], .bit false, .bit false, .bit false, .bit false, .bit false, .bit false, .bit false, .bit false, .bit false, .bit false, .bit false, .call [] (E3 r10) [], .bit false, .call [] (E3 r11) [], .bit false, .bit false, .call [] (E3 r12) [], .bit false, .call [] (E3 r13) [], .bit false, .bit false, .bit false, .bit false, .bit false, .call [] (E4 r14) [], .bit false, .bit false, .bit true, .bit true, .bit true, .bit true, .bit true, .wait 1, .mask [2], .ren []] (p := [(decide ((p1.length : Int) < (r3.Holds.length : Int))) = true,(0 : Int) ≤ (p1.length : Int),((p1.length : Int) : Int) < ((List.map E36 r3.Holds).length : Int),look [] ((p1.length : Int).toNat) = none,(List.map E36 r3.Holds)[(p1.length : Int).toNat]? = some (E36 x1),Fn Try.prog 8 [(false, E29 r1.1), (false, E29 r1.2), (false, E9 x1.Id), (false, E3 r2.2.2.2)] (V.tup [E29 r5.1, E29 r5.2.1, E3 r5.2.2]) [],(false || ((V.tup [E29 r5.1, E29 r5.2.1, E3 r5.2.2]).nv && nvL [])) = true,(r5.2.2 != 0) = false,Fn Try.prog 11 [(false, E23 r5.2.1.Holds), (false, E9 x1.Id)] (E3 r8) [],(false || ((E3 r8).nv && nvL [])) = true,(decide (r8 < 0)) = false,(decide (r8 < 0)) = false,(decide (r8 < 0)) = false,(decide (r8 < 0)) = false,(0 : Int) ≤ r8,(r8 : Int) < ((List.map E36 r5.2.1.Holds).length : Int),(decide (r8 < 0)) = false,look [] r8.toNat = none,(List.map E36 r5.2.1.Holds)[r8.toNat]? = some (E36 x2),(decide (r8 < 0)) = false,(decide (r8 < 0)) = false,(decide (r8 < 0)) = false,(!((x2.Id == x1.Id) && ((x2.Amount == x1.Amount) && ((x2.Due == x1.Due) && true)))) = false,(!((x2.Id == x1.Id) && ((x2.Amount == x1.Amount) && ((x2.Due == x1.Due) && true)))) = false,(!((x2.Id == x1.Id) && ((x2.Amount == x1.Amount) && ((x2.Due == x1.Due) && true)))) = false,(!((x2.Id == x1.Id) && ((x2.Amount == x1.Amount) && ((x2.Due == x1.Due) && true)))) = false,(!((x2.Id == x1.Id) && ((x2.Amount == x1.Amount) && ((x2.Due == x1.Due) && true)))) = false,Fn Try.prog 9 [(false, E23 r5.1.Holds), (false, E9 x1.Id)] (E3 r9) [],(false || ((E3 r9).nv && nvL [])) = true,(!((x2.Id == x1.Id) && ((x2.Amount == x1.Amount) && ((x2.Due == x1.Due) && true)))) = false,(!((x2.Id == x1.Id) && ((x2.Amount == x1.Amount) && ((x2.Due == x1.Due) && true)))) = false,(decide (0 ≤ r9)) = false,(decide (0 ≤ r9)) = false,(decide (0 ≤ r9)) = false,(decide (0 ≤ r9)) = false,(decide (0 ≤ r9)) = false,(decide (0 ≤ r9)) = false,(decide (0 ≤ r9)) = false,(decide (0 ≤ r9)) = false,(decide (0 ≤ r9)) = false,Fn Try.prog 12 [(false, E23 r5.1.Holds)] (E3 r10) [],(false || ((E3 r10).nv && nvL [])) = true,(decide (0 ≤ r9)) = false,Fn Try.prog 12 [(false, E23 r5.2.1.Holds)] (E3 r11) [],(false || ((E3 r11).nv && nvL [])) = true,(decide (0 ≤ r9)) = false,(decide (0 ≤ r9)) = false,Fn Try.prog 12 [(false, E23 r3.Holds)] (E3 r12) [],(false || ((E3 r12).nv && nvL [])) = true,(decide (0 ≤ r9)) = false,Fn Try.prog 12 [(false, E23 r4.Holds)] (E3 r13) [],(false || ((E3 r13).nv && nvL [])) = true,(decide (0 ≤ r9)) = false,(decide (0 ≤ r9)) = false,(decide (0 ≤ r9)) = false,((i64 (r10 + r11)) != (i64 (r12 + r13))) = false,((i64 (r10 + r11)) != (i64 (r12 + r13))) = false,Fn Try.prog 13 [(false, E29 r5.1)] (E4 r14) [],(false || ((E4 r14).nv && nvL [])) = true,((i64 (r10 + r11)) != (i64 (r12 + r13))) = false,((i64 (r10 + r11)) != (i64 (r12 + r13))) = false,(!r14) = true,(!r14) = true,(!r14) = true,(!r14) = true,true = true]) (by kernel_rfl) (show X.ret ≠ X.go from nofun) (cj (rng_lt h6) (cj (by omega) (cj (rng_ltI _ h6) (cj rfl (cj (rng_get _ h6) (cj (impl_Move_ok r1.1 r1.2 x1.Id r2.2.2.2 r5 h8) (cj (by simp [V.nv, nvL, nvL_all, nv_E3, nv_E5, nv_E9, nv_E22, nv_E23, nv_E24, nv_E26, nv_E27, nv_E29, nv_E36, nv_E94]) (cj h9 (cj (spec_HoldAt_ok r5.2.1.Holds x1.Id r8 h17) (cj (by simp [V.nv, nvL, nvL_all, nv_E3]) (cj h18 (cj h18 (cj h18 (cj h18 (cj (od h19) (cj (map_ltN (od h19) h20) (cj h18 (cj rfl (cj (map_get h20) (cj h18 (cj h18 (cj h18 (cj (nf h21) (cj (nf h21) (cj (nf h21) (cj (nf h21) (cj (nf h21) (cj (impl_HoldAt_ok r5.1.Holds x1.Id r9 h22) (cj (by simp [V.nv, nvL, nvL_all, nv_E3]) (cj (nf h21) (cj (nf h21) (cj h23 (cj h23 (cj h23 (cj h23 (cj h23 (cj h23 (cj h23 (cj h23 (cj h23 (cj (impl_Stored_ok r5.1.Holds r10 h24) (cj (by simp [V.nv, nvL, nvL_all, nv_E3]) (cj h23 (cj (impl_Stored_ok r5.2.1.Holds r11 h25) (cj (by simp [V.nv, nvL, nvL_all, nv_E3]) (cj h23 (cj h23 (cj (impl_Stored_ok r3.Holds r12 h26) (cj (by simp [V.nv, nvL, nvL_all, nv_E3]) (cj h23 (cj (impl_Stored_ok r4.Holds r13 h27) (cj (by simp [V.nv, nvL, nvL_all, nv_E3]) (cj h23 (cj h23 (cj h23 (cj h28 (cj h28 (cj (impl_AcctOk_ok r5.1 r14 h29) (cj (by simp [V.nv, nvL, nvL_all, nv_E4]) (cj h28 (cj h28 (cj (nt h30) (cj (nt h30) (cj (nt h30) (cj (nt h30) (cj1 rfl))))))))))))))))))))))))))))))))))))))))))))))))))))))))))))))))))))))))))))) (fun h21 =>
     Pn.some (LpO.out [.bit true, .el (E36 x1), .call [] (V.tup [E29 r5.1, E29 r5.2.1, E3 r5.2.2]) [], .bit false, .call [] (E3 r8) [], .draw [], .bit false, .bit false, .bit false, .bit false, .bit false, .el (E36 x2), .bit false, .bit false, .bit false, .bit true, .bit true, .bit true, .bit true, .bit true, .bit true, .bit true, .bit true, .bit true, .bit true, .bit true, .bit true, .bit true, .bit true, .bit true, .bit true, .bit true, .bit true, .bit true, .bit true, .bit true, .bit true, .bit true, .bit true, .bit true, .bit true, .bit true, .bit true, .bit true, .bit true, .bit true, .bit true, .wait 1, .mask [2], .ren []] (p := [(decide ((p1.length : Int) < (r3.Holds.length : Int))) = true,(0 : Int) ≤ (p1.length : Int),((p1.length : Int) : Int) < ((List.map E36 r3.Holds).length : Int),look [] ((p1.length : Int).toNat) = none,(List.map E36 r3.Holds)[(p1.length : Int).toNat]? = some (E36 x1),Fn Try.prog 8 [(false, E29 r1.1), (false, E29 r1.2), (false, E9 x1.Id), (false, E3 r2.2.2.2)] (V.tup [E29 r5.1, E29 r5.2.1, E3 r5.2.2]) [],(false || ((V.tup [E29 r5.1, E29 r5.2.1, E3 r5.2.2]).nv && nvL [])) = true,(r5.2.2 != 0) = false,Fn Try.prog 11 [(false, E23 r5.2.1.Holds), (false, E9 x1.Id)] (E3 r8) [],(false || ((E3 r8).nv && nvL [])) = true,(decide (r8 < 0)) = false,(decide (r8 < 0)) = false,(decide (r8 < 0)) = false,(decide (r8 < 0)) = false,(0 : Int) ≤ r8,(r8 : Int) < ((List.map E36 r5.2.1.Holds).length : Int),(decide (r8 < 0)) = false,look [] r8.toNat = none,(List.map E36 r5.2.1.Holds)[r8.toNat]? = some (E36 x2),(decide (r8 < 0)) = false,(decide (r8 < 0)) = false,(decide (r8 < 0)) = false,(!((x2.Id == x1.Id) && ((x2.Amount == x1.Amount) && ((x2.Due == x1.Due) && true)))) = true,(!((x2.Id == x1.Id) && ((x2.Amount == x1.Amount) && ((x2.Due == x1.Due) && true)))) = true,(!((x2.Id == x1.Id) && ((x2.Amount == x1.Amount) && ((x2.Due == x1.Due) && true)))) = true,(!((x2.Id == x1.Id) && ((x2.Amount == x1.Amount) && ((x2.Due == x1.Due) && true)))) = true,(!((x2.Id == x1.Id) && ((x2.Amount == x1.Amount) && ((x2.Due == x1.Due) && true)))) = true,(!((x2.Id == x1.Id) && ((x2.Amount == x1.Amount) && ((x2.Due == x1.Due) && true)))) = true,(!((x2.Id == x1.Id) && ((x2.Amount == x1.Amount) && ((x2.Due == x1.Due) && true)))) = true,true = true,true = true,true = true,true = true,true = true,true = true,true = true,true = true,true = true,true = true,true = true,true = true,true = true,true = true,true = true,true = true,true = true,true = true,true = true,true = true,true = true,true = true,true = true,true = true,true = true]) (by kernel_rfl) (show X.ret ≠ X.go from nofun) (cj (rng_lt h6) (cj (by omega) (cj (rng_ltI _ h6) (cj rfl (cj (rng_get _ h6) (cj (impl_Move_ok r1.1 r1.2 x1.Id r2.2.2.2 r5 h8) (cj (by simp [V.nv, nvL, nvL_all, nv_E3, nv_E5, nv_E9, nv_E22, nv_E23, nv_E24, nv_E26, nv_E27, nv_E29, nv_E36, nv_E94]) (cj h9 (cj (spec_HoldAt_ok r5.2.1.Holds x1.Id r8 h17) (cj (by simp [V.nv, nvL, nvL_all, nv_E3]) (cj h18 (cj h18 (cj h18 (cj h18 (cj (od h19) (cj (map_ltN (od h19) h20) (cj h18 (cj rfl (cj (map_get h20) (cj h18 (cj h18 (cj h18 (cj (nt h21) (cj (nt h21) (cj (nt h21) (cj (nt h21) (cj (nt h21) (cj (nt h21) (cj (nt h21) (cj rfl (cj rfl (cj rfl (cj rfl (cj rfl (cj rfl (cj rfl (cj rfl (cj rfl (cj rfl (cj rfl (cj rfl (cj rfl (cj rfl (cj rfl (cj rfl (cj rfl (cj rfl (cj rfl (cj rfl (cj rfl (cj rfl (cj rfl (cj rfl (cj1 rfl)))))))))))))))))))))))))))))))))))))))))))))))))))))))))) (fun h19 =>
     Pn.none)))))
def laws_FnMove (o : List Int) : Option (Bool) :=
 if (decide (1048576 < (o.length : Int))) = true then
 some true
 else
 (spec_MakePairOf o).bind fun r1 =>
 (spec_MakeHold o).bind fun r2 =>
 (spec_AcctSwept r1.1 r2.2.2.2).bind fun r3 =>
 (spec_AcctSwept r1.2 r2.2.2.2).bind fun r4 =>
 if (capOk r3.Holds.length) = true then
 (laws_FnMove_l0 r1 r2 r3 r4 r3.Holds).bind fun r16 =>
 Lo.elim r16 (fun s1 =>
 (impl_Move r1.1 r1.1 (bs [97]) r2.2.2.2).bind fun r17 =>
 some (r17.2.2 == 4)) (fun s2 =>
 some false)
 else none
theorem laws_FnMove_ok (o : List Int) : Pn (fun y => Fn Try.prog 3 [(false, E22 o)] (E4 y) []) (laws_FnMove o) := by
  unfold laws_FnMove
  exact
   Pn.ite (fun h1 =>
   Pn.some (Fn.of [.wait 3, .nm 21 (vI (o.length : Int)), .bit true] (p := [vI ((List.map E5 o).length : Int) = vI (o.length : Int),(decide (1048576 < (o.length : Int))) = true]) (by kernel_rfl) (cj (len_nm _ _) (cj1 h1)))) (fun h1 =>
   Pn.bind (fun r1 h2 =>
   Pn.bind (fun r2 h3 =>
   Pn.bind (fun r3 h4 =>
   Pn.bind (fun r4 h5 =>
   Pn.ite (fun h33 =>
   Pn.bind (fun r16 h34 =>
   Pn.lo (fun s1 h35 =>
   Pn.bind (fun r17 h37 =>
   Pn.some (Fn.of [.wait 3, .nm 21 (vI (o.length : Int)), .bit false, .call [] (V.tup [E29 r1.1, E29 r1.2]) [], .call [] (V.tup [E9 r2.1, E3 r2.2.1, E3 r2.2.2.1, E3 r2.2.2.2]) [], .call [] (E29 r3) [], .call [] (E29 r4) [], .wait 5, .nm 43 (vI (r3.Holds.length : Int)), .wait 2, .mask [3, 4, 8, 9, 10, 42, 43, 44], .ren [8, 0, 1, 2, 3, 9, 4, 5, 6, 7, 14, 10, 11, 12, 13, 19, 15, 16, 17, 18], .loop (X.out 0) (st 152 [(3, V.ptr 0 0), (8, vI r2.2.2.2)] [Blk.box 29 [V.sc (.string r1.1.Id), vI r1.1.Limit, vI r1.1.Posted, vI r1.1.Most, vI r1.1.MostSum, V.ow 1, vI r1.1.Ring.Span, vI r1.1.Ring.Head, V.ow 2, V.ow 3, V.ow 4], Blk.row 36 (List.map E36 r1.1.Holds) [], Blk.row 3 (List.map E3 r1.1.Ring.Counts) [], Blk.row 3 (List.map E3 r1.1.Ring.Sums) [], Blk.row 94 (List.map E94 r1.1.Slots) []] []), .call [] (V.tup [E29 r17.1, E29 r17.2.1, E3 r17.2.2]) []] (p := [vI ((List.map E5 o).length : Int) = vI (o.length : Int),(decide (1048576 < (o.length : Int))) = false,Fn Try.prog 5 [(false, E22 o)] (V.tup [E29 r1.1, E29 r1.2]) [],(true || ((V.tup [E29 r1.1, E29 r1.2]).nv && nvL [])) = true,Fn Try.prog 6 [(false, E22 o)] (V.tup [E9 r2.1, E3 r2.2.1, E3 r2.2.2.1, E3 r2.2.2.2]) [],(true || ((V.tup [E9 r2.1, E3 r2.2.1, E3 r2.2.2.1, E3 r2.2.2.2]).nv && nvL [])) = true,Fn Try.prog 7 [(false, E29 r1.1), (false, E3 r2.2.2.2)] (E29 r3) [],(false || ((E29 r3).nv && nvL [])) = true,Fn Try.prog 7 [(false, E29 r1.2), (false, E3 r2.2.2.2)] (E29 r4) [],(false || ((E29 r4).nv && nvL [])) = true,vI ((List.map E36 r3.Holds).length : Int) = vI (r3.Holds.length : Int),Loop Try.prog (sub (codeOf Try.prog 3) [1, 1, 1, 1, 1, 1, 0, 1, 0, 0]) (st 152 [(3, V.ptr 0 0), (4, V.ptr 5 0), (8, vI r2.2.2.2), (9, V.ptr 10 0), (10, V.ptr 15 0), (42, V.ow 11), (43, vI (r3.Holds.length : Int)), (44, vI 0)] [Blk.box 29 [V.sc (.string r1.1.Id), vI r1.1.Limit, vI r1.1.Posted, vI r1.1.Most, vI r1.1.MostSum, V.ow 1, vI r1.1.Ring.Span, vI r1.1.Ring.Head, V.ow 2, V.ow 3, V.ow 4], Blk.row 36 (List.map E36 r1.1.Holds) [], Blk.row 3 (List.map E3 r1.1.Ring.Counts) [], Blk.row 3 (List.map E3 r1.1.Ring.Sums) [], Blk.row 94 (List.map E94 r1.1.Slots) [], Blk.box 29 [V.sc (.string r1.2.Id), vI r1.2.Limit, vI r1.2.Posted, vI r1.2.Most, vI r1.2.MostSum, V.ow 6, vI r1.2.Ring.Span, vI r1.2.Ring.Head, V.ow 7, V.ow 8, V.ow 9], Blk.row 36 (List.map E36 r1.2.Holds) [], Blk.row 3 (List.map E3 r1.2.Ring.Counts) [], Blk.row 3 (List.map E3 r1.2.Ring.Sums) [], Blk.row 94 (List.map E94 r1.2.Slots) [], Blk.box 29 [V.sc (.string r3.Id), vI r3.Limit, vI r3.Posted, vI r3.Most, vI r3.MostSum, V.ow 11, vI r3.Ring.Span, vI r3.Ring.Head, V.ow 12, V.ow 13, V.ow 14], Blk.row 36 (List.map E36 r3.Holds) [], Blk.row 3 (List.map E3 r3.Ring.Counts) [], Blk.row 3 (List.map E3 r3.Ring.Sums) [], Blk.row 94 (List.map E94 r3.Slots) [], Blk.box 29 [V.sc (.string r4.Id), vI r4.Limit, vI r4.Posted, vI r4.Most, vI r4.MostSum, V.ow 16, vI r4.Ring.Span, vI r4.Ring.Head, V.ow 17, V.ow 18, V.ow 19], Blk.row 36 (List.map E36 r4.Holds) [], Blk.row 3 (List.map E3 r4.Ring.Counts) [], Blk.row 3 (List.map E3 r4.Ring.Sums) [], Blk.row 94 (List.map E94 r4.Slots) []] []) (X.out 0) (st 152 [(3, V.ptr 0 0), (8, vI r2.2.2.2)] [Blk.box 29 [V.sc (.string r1.1.Id), vI r1.1.Limit, vI r1.1.Posted, vI r1.1.Most, vI r1.1.MostSum, V.ow 1, vI r1.1.Ring.Span, vI r1.1.Ring.Head, V.ow 2, V.ow 3, V.ow 4], Blk.row 36 (List.map E36 r1.1.Holds) [], Blk.row 3 (List.map E3 r1.1.Ring.Counts) [], Blk.row 3 (List.map E3 r1.1.Ring.Sums) [], Blk.row 94 (List.map E94 r1.1.Slots) []] []),Fn Try.prog 8 [(false, E29 r1.1), (false, E29 r1.1), (false, E9 (bs [97])), (false, E3 r2.2.2.2)] (V.tup [E29 r17.1, E29 r17.2.1, E3 r17.2.2]) [],(false || ((V.tup [E29 r17.1, E29 r17.2.1, E3 r17.2.2]).nv && nvL [])) = true]) (by kernel_rfl) (cj (len_nm _ _) (cj h1 (cj (spec_MakePairOf_ok o r1 h2) (cj rfl (cj (spec_MakeHold_ok o r2 h3) (cj rfl (cj (spec_AcctSwept_ok r1.1 r2.2.2.2 r3 h4) (cj (by simp [V.nv, nvL, nvL_all, nv_E3, nv_E5, nv_E9, nv_E22, nv_E23, nv_E24, nv_E26, nv_E27, nv_E29, nv_E36, nv_E94]) (cj (spec_AcctSwept_ok r1.2 r2.2.2.2 r4 h5) (cj (by simp [V.nv, nvL, nvL_all, nv_E3, nv_E5, nv_E9, nv_E22, nv_E23, nv_E24, nv_E26, nv_E27, nv_E29, nv_E36, nv_E94]) (cj (len_nm _ _) (cj ((laws_FnMove_l0_ok r1 r2 r3 r4 h33 r3.Holds [] rfl r16 h34).at h35 :) (cj (impl_Move_ok r1.1 r1.1 (bs [97]) r2.2.2.2 r17 h37) (cj1 (by simp [V.nv, nvL, nvL_all, nv_E3, nv_E5, nv_E9, nv_E22, nv_E23, nv_E24, nv_E26, nv_E27, nv_E29, nv_E36, nv_E94])))))))))))))))))) (fun s2 h36 =>
   Pn.some (Fn.of [.wait 3, .nm 21 (vI (o.length : Int)), .bit false, .call [] (V.tup [E29 r1.1, E29 r1.2]) [], .call [] (V.tup [E9 r2.1, E3 r2.2.1, E3 r2.2.2.1, E3 r2.2.2.2]) [], .call [] (E29 r3) [], .call [] (E29 r4) [], .wait 5, .nm 43 (vI (r3.Holds.length : Int)), .wait 2, .mask [3, 4, 8, 9, 10, 42, 43, 44], .ren [8, 0, 1, 2, 3, 9, 4, 5, 6, 7, 14, 10, 11, 12, 13, 19, 15, 16, 17, 18], .loop (X.ret) (st 152 [(2, V.sc (.bool false))] [] [])] (p := [vI ((List.map E5 o).length : Int) = vI (o.length : Int),(decide (1048576 < (o.length : Int))) = false,Fn Try.prog 5 [(false, E22 o)] (V.tup [E29 r1.1, E29 r1.2]) [],(true || ((V.tup [E29 r1.1, E29 r1.2]).nv && nvL [])) = true,Fn Try.prog 6 [(false, E22 o)] (V.tup [E9 r2.1, E3 r2.2.1, E3 r2.2.2.1, E3 r2.2.2.2]) [],(true || ((V.tup [E9 r2.1, E3 r2.2.1, E3 r2.2.2.1, E3 r2.2.2.2]).nv && nvL [])) = true,Fn Try.prog 7 [(false, E29 r1.1), (false, E3 r2.2.2.2)] (E29 r3) [],(false || ((E29 r3).nv && nvL [])) = true,Fn Try.prog 7 [(false, E29 r1.2), (false, E3 r2.2.2.2)] (E29 r4) [],(false || ((E29 r4).nv && nvL [])) = true,vI ((List.map E36 r3.Holds).length : Int) = vI (r3.Holds.length : Int),Loop Try.prog (sub (codeOf Try.prog 3) [1, 1, 1, 1, 1, 1, 0, 1, 0, 0]) (st 152 [(3, V.ptr 0 0), (4, V.ptr 5 0), (8, vI r2.2.2.2), (9, V.ptr 10 0), (10, V.ptr 15 0), (42, V.ow 11), (43, vI (r3.Holds.length : Int)), (44, vI 0)] [Blk.box 29 [V.sc (.string r1.1.Id), vI r1.1.Limit, vI r1.1.Posted, vI r1.1.Most, vI r1.1.MostSum, V.ow 1, vI r1.1.Ring.Span, vI r1.1.Ring.Head, V.ow 2, V.ow 3, V.ow 4], Blk.row 36 (List.map E36 r1.1.Holds) [], Blk.row 3 (List.map E3 r1.1.Ring.Counts) [], Blk.row 3 (List.map E3 r1.1.Ring.Sums) [], Blk.row 94 (List.map E94 r1.1.Slots) [], Blk.box 29 [V.sc (.string r1.2.Id), vI r1.2.Limit, vI r1.2.Posted, vI r1.2.Most, vI r1.2.MostSum, V.ow 6, vI r1.2.Ring.Span, vI r1.2.Ring.Head, V.ow 7, V.ow 8, V.ow 9], Blk.row 36 (List.map E36 r1.2.Holds) [], Blk.row 3 (List.map E3 r1.2.Ring.Counts) [], Blk.row 3 (List.map E3 r1.2.Ring.Sums) [], Blk.row 94 (List.map E94 r1.2.Slots) [], Blk.box 29 [V.sc (.string r3.Id), vI r3.Limit, vI r3.Posted, vI r3.Most, vI r3.MostSum, V.ow 11, vI r3.Ring.Span, vI r3.Ring.Head, V.ow 12, V.ow 13, V.ow 14], Blk.row 36 (List.map E36 r3.Holds) [], Blk.row 3 (List.map E3 r3.Ring.Counts) [], Blk.row 3 (List.map E3 r3.Ring.Sums) [], Blk.row 94 (List.map E94 r3.Slots) [], Blk.box 29 [V.sc (.string r4.Id), vI r4.Limit, vI r4.Posted, vI r4.Most, vI r4.MostSum, V.ow 16, vI r4.Ring.Span, vI r4.Ring.Head, V.ow 17, V.ow 18, V.ow 19], Blk.row 36 (List.map E36 r4.Holds) [], Blk.row 3 (List.map E3 r4.Ring.Counts) [], Blk.row 3 (List.map E3 r4.Ring.Sums) [], Blk.row 94 (List.map E94 r4.Slots) []] []) (X.ret) (st 152 [(2, V.sc (.bool false))] [] [])]) (by kernel_rfl) (cj (len_nm _ _) (cj h1 (cj (spec_MakePairOf_ok o r1 h2) (cj rfl (cj (spec_MakeHold_ok o r2 h3) (cj rfl (cj (spec_AcctSwept_ok r1.1 r2.2.2.2 r3 h4) (cj (by simp [V.nv, nvL, nvL_all, nv_E3, nv_E5, nv_E9, nv_E22, nv_E23, nv_E24, nv_E26, nv_E27, nv_E29, nv_E36, nv_E94]) (cj (spec_AcctSwept_ok r1.2 r2.2.2.2 r4 h5) (cj (by simp [V.nv, nvL, nvL_all, nv_E3, nv_E5, nv_E9, nv_E22, nv_E23, nv_E24, nv_E26, nv_E27, nv_E29, nv_E36, nv_E94]) (cj (len_nm _ _) (cj1 ((laws_FnMove_l0_ok r1 r2 r3 r4 h33 r3.Holds [] rfl r16 h34).at h36 :))))))))))))))))) (fun h33 =>
   Pn.none))))))
end Go.Proofs.YtlkkfamdlicaeaaM
