/- Variables of the frame's own: made, read, written. No condition. -/
import Derived.Test.YtdahdpnkppknfaaGreatDoorM3
namespace Go.Proofs.YtdahdpnkppknfaaGreatDoorM
set_option linter.unusedVariables false
set_option linter.unusedSimpArgs false
open Go.RowKit

/-- A value of one cell, with a meaning. -/
def V.isCell : V → Bool
  | .un | .agg _ | .tup _ | .bx _ _ | .sl true _ _ => false
  | _ => true
/-- The types of the cells of a variable. -/
def leafT (P : Program) : Nat → Nat → List Nat
  | 0, t => [t]
  | d + 1, t => match P.underlying t with
    | some (.struct fs) => fs.toList.flatMap fun f => leafT P d f.type
    | some (.array n e) => (List.replicate n (leafT P d e)).flatten
    | _ => [t]
/-- The cells of a fresh variable. -/
def vzero (P : Program) (t : Nat) : Option (List V) :=
  match (P.info? t).bind (·.zero) with
  | some z => if (leafT P 8 t).length = z.cells.toList.length ∧ z.cells.toList.all flatB = true then some (((leafT P 8 t).zip z.cells.toList).map fun p => nrm P p.1 (.sc p.2)) else none
  | none => none
def homeBox (H : List Blk) (n : Nat) : Option (Nat × List V) :=
  match H[n]? with
  | some (.box e cs) => some (e, cs)
  | _ => none
/-- Cells are written over. -/
def splice {α : Type} (cs : List α) (o : Nat) (xs : List α) : List α := cs.take o ++ xs ++ cs.drop (o + xs.length)
/-- Does it leave all that lay there? -/
def grows (o : Oper) : Bool := match o.op with
  | .store .. => false
  | .mapUpdate .. => false
  | .call c => match c.callee with
    | .builtin .append => false
    | .builtin .copy => false
    | .builtin .clear => false
    | _ => true
  | _ => true
/-- append to a slice without room. -/
def appNl (o : Oper) (S : St) : Bool := match o.op with
  | .call c => match c.callee, c.args.toList with
    | .builtin .append, x :: _ => match ev S.G x with
      | .nl _ => true
      | _ => false
    | _, _ => false
  | _ => false
def growsX (o : Oper) (S : St) : Bool := grows o || appNl o S
/-- Does it only look? -/
def floats (P : Program) (o : Oper) : Bool := match o.op with
  | .convert s d _ => !(vstr P s && (velem P d).isSome)
  | .store .. => false
  | .alloc .. => false
  | .box .. => false
  | .makeSlice .. => false
  | .makeMap .. => false
  | .mapUpdate .. => false
  | .buildSlice .. => false
  | .call c => match c.callee with
    | .builtin .len => true
    | .builtin .min => true
    | .builtin .max => true
    | _ => false
  | _ => true
/-- What an operation does: the world goes on, the state is told. -/
def OpOk (P : Program) (o : Oper) (S S' : St) : Prop :=
  ∀ (I : Nat → Prop) (C : Ctx) (a : Act) (w : World), InvE P I C S a w →
    ∃ nx u w', (execOp a.eval o).run P w = .ok nx w' ∧ (nx = .value u ∨ (nx = .skip ∧ u = undef)) ∧ (growsX o S = true → Grow w w') ∧ (floats P o = true → nx = .value u ∧ w' = w ∧ ∀ w2, Same w w2 → (execOp a.eval o).run P w2 = .ok (.value u) w2) ∧ InvE P I C S' (a.put o.dst u) w'
/-- Operations on variables. -/
def vbox (P : Program) (o : Oper) (S : St) : Option St :=
  match o.op, o.dst with
  | .alloc e, some d => match vzero P e with
    | some cs => some ⟨S.G.set d (.ptr S.H.length 0), S.H ++ [.box e cs], S.gv⟩
    | none => none
  | .box e x, some d => if (nrm P e (ev S.G x)).cells.all V.isCell = true then some ⟨S.G.set d (.ptr S.H.length 0), S.H ++ [.box e (nrm P e (ev S.G x)).cells], S.gv⟩ else none
  | .load t x, some d => match ev S.G x with
    | .ptr n off => match homeBox S.H n, vagg P t, szOf P t with
      | some (_, cs), some true, some k => if off + k ≤ cs.length then some { S with G := S.G.set d (.agg ((cs.drop off).take k)) } else none
      | some (_, cs), some false, _ => (cs[off]?).map fun c => { S with G := S.G.set d c }
      | _, _, _ => none
    | _ => none
  | .store t p x, none => match ev S.G p with
    | .ptr n off => match homeBox S.H n, szOf P t with
      | some (e, cs), some k => if (nrm P t (ev S.G x)).cells.length = k ∧ off + k ≤ cs.length ∧ (nrm P t (ev S.G x)).cells.all V.isCell = true then some { S with H := S.H.set n (.box e (splice cs off (nrm P t (ev S.G x)).cells)) } else none
      | _, _ => none
    | _ => none
  | _, _ => none
section
variable {P : Program} {R R' : Nat → Value} {N : Nat} {I : Nat → Prop} {w w' : World} {C : Ctx} {S S' : St} {a : Act} {F F' : Nat → List Nat}
theorem Rel.one {t : Bool} {v : V} {u : Value} {f : List Nat} (h : Rel P I w R N t v u f) (hc : v.isCell = true) : u.oneCell' = true := by
  cases h with
  | leaf _ _ _ _ h => cases h with
    | sc _ h => exact flat_one h
    | un => simp [V.isCell] at hc
    | agg => simp [V.isCell] at hc
    | _ => rfl
  | row => simp [V.isCell] at hc
  | agg => simp [V.isCell] at hc
  | tup => simp [V.isCell] at hc
  | bx => simp [V.isCell] at hc
  | _ => rfl
theorem RelL.one {t : Bool} {cs : List V} {us : List Value} {f : List Nat} (h : RelL P I w R N t cs us f) (hc : cs.all V.isCell = true) : ∀ u ∈ us, u.oneCell' = true := by
  intro u hu
  obtain ⟨fs, h1, h2, _, h3⟩ := h
  obtain ⟨j, hj, rfl⟩ := List.mem_iff_getElem.1 hu
  exact (h3 j _ _ _ (List.getElem?_eq_getElem (by omega)) (List.getElem?_eq_getElem hj) (List.getElem?_eq_getElem (by omega))).one (List.all_eq_true.1 hc _ (List.getElem_mem (by omega)))
theorem vzero_spec {t : Nat} {cs : List V} (h : vzero P t = some cs) : ∃ i z, P.info? t = some i ∧ i.zero = some z ∧ (∀ I w R N b, RelL P I w R N b cs z.cells.toList []) ∧ (∀ u ∈ z.cells.toList, u.oneCell' = true) := by
  unfold vzero at h
  cases hi : P.info? t with
  | none => simp [hi] at h
  | some i =>
    cases hz : i.zero with
    | none => simp [hi, hz] at h
    | some z =>
      simp only [hi, Option.bind_some, hz] at h
      split at h
      · rename_i hc
        obtain ⟨h1, h2⟩ := hc
        obtain rfl := Option.some.inj h
        rw [List.all_eq_true] at h2
        refine ⟨i, z, rfl, hz, fun I w R N b => .of_bare (by simp [h1]) (fun j c u hc hu => ?_), fun u hu => flat_one (h2 u hu)⟩
        have hj := (List.getElem?_eq_some_iff.1 hu).1
        have hz' : ((leafT P 8 t).zip z.cells.toList)[j]? = some ((leafT P 8 t)[j]'(by omega), u) := List.getElem?_zip_eq_some.2 ⟨List.getElem?_eq_getElem (by omega), hu⟩
        rw [List.getElem?_map, hz'] at hc
        simp only [Option.map_some, Option.some.injEq] at hc
        subst hc
        exact Rel.nrm _ (.leaf _ _ _ rfl (.sc _ (h2 u (List.mem_of_getElem? hu))))
      · simp at h
theorem run_newRow (e : Nat) (cs : Array Value) : (newRow e cs).run P w = .ok ⟨w.heap.size, 0, none⟩ (w.alloc (.cells cs e)) := by
  simp [newRow]
theorem run_storeVar_at {t n g o e : Nat} {v : Value} {cur : Array Value} (hs : szOf P t = some n) (hv : v.cells.size = n) (h1 : ∀ x ∈ v.cells.toList, x.oneCell' = true) (hg : Lies w g cur e) (ho : o + n ≤ cur.size) :
    (storeVar t ⟨g, o, none⟩ v).run P w = .ok () (w.setRow g (splice cur.toList o v.cells.toList).toArray) := by
  have hl : v.cells.toList.length = n := by simpa using hv
  have := Lies.run_store P g o e v.cells.toList 0 cur w hg (by rw [hl]; omega) h1
  simp only [Nat.add_zero] at this
  simp [storeVar, run_sizeOf hs, hv, this, splice]
theorem run_load_box {t e : Nat} {g off : Nat} {us : Array Value} {u : Value} (ha : vagg P t = some false) (hg : w.heap[g]? = some (.cells us e (0, 0))) (hu : us.toList[off]? = some u) : (loadVar t ⟨g, off, none⟩).run P w = .ok u w := by
  have hc : w.cell? ⟨g, off, none⟩ = some u := by rw [cell_of_row w g off us e (0, 0) hg]; simpa using hu
  simp only [loadVar, Sem.run_bind, run_isAgg ha, Result.andThen_ok, Bool.false_eq_true, if_false, run_load_cell hc]
theorem run_load_one {t : Nat} {g off : Nat} {u : Value} (ha : vagg P t = some false) (hc : w.cell? ⟨g, off, none⟩ = some u) : (loadVar t ⟨g, off, none⟩).run P w = .ok u w := by
  simp only [loadVar, Sem.run_bind, run_isAgg ha, Result.andThen_ok, Bool.false_eq_true, if_false, run_load_cell hc]
theorem run_load_aggs {t : Nat} {g off n : Nat} {us : List Value} (ha : vagg P t = some true) (hs : szOf P t = some n) (hl : us.length = n) (hc : ∀ (j : Nat) (u : Value), us[j]? = some u → w.cell? ⟨g, off + j, none⟩ = some u) : (loadVar t ⟨g, off, none⟩).run P w = .ok (.agg us.toArray) w := by
  have hl' : (loadCells ⟨g, off, none⟩ us.length).run P w = .ok us.toArray w := run_loadCells_list (P := P) w ⟨g, off, none⟩ us (fun j v hv => by rw [addr_add]; exact hc j v hv)
  rw [hl] at hl'
  simp only [loadVar, Sem.run_bind, run_isAgg ha, Result.andThen_ok, if_true, run_sizeOf hs, hl', Sem.run_pure]
theorem cells_one {v : V} (h : v.isCell = true) : v.cells = [v] := by cases v <;> first | rfl | simp [V.isCell] at h
theorem Rel.cells {t : Bool} {v : V} {u : Value} {f : List Nat} (h : Rel P I w R N t v u f) (hc : v.cells.all V.isCell = true) : RelL P I w R N t v.cells u.cells.toList f ∧ ∀ y ∈ u.cells.toList, y.oneCell' = true := by
  by_cases hag : ∃ cs, v = .agg cs
  · obtain ⟨cs, rfl⟩ := hag
    obtain ⟨us, rfl, h1, h2⟩ := h.agg_inv
    simpa [V.cells, Value.cells] using And.intro h1 h2
  · have hvc : v.cells = [v] := by cases v <;> first | rfl | exact absurd ⟨_, rfl⟩ hag
    rw [hvc] at hc ⊢
    have h1 := h.one (by simpa using hc)
    have huc : u.cells = #[u] := by cases u <;> first | rfl | simp [Value.oneCell'] at h1
    rw [huc]
    exact ⟨by simpa using PwL.cons h PwL.nil, by simpa using h1⟩
theorem splice_get {α : Type} (l xs : List α) (o j : Nat) (ho : o + xs.length ≤ l.length) : (splice l o xs)[j]? = if j < o then l[j]? else if j < o + xs.length then xs[j - o]? else l[j]? := by
  unfold splice
  by_cases h1 : j < o
  · rw [if_pos h1, List.append_assoc, List.getElem?_append_left (by simp; omega), List.getElem?_take, if_pos h1]
  · rw [if_neg h1]
    by_cases h2 : j < o + xs.length
    · rw [if_pos h2, List.append_assoc, List.getElem?_append_right (by simp; omega), List.getElem?_append_left (by simp; omega), List.length_take, Nat.min_eq_left (by omega)]
    · rw [if_neg h2, List.getElem?_append_right (by simp; omega), List.getElem?_drop]
      simp only [List.length_append, List.length_take]
      rw [show o + xs.length + (j - (min o l.length + xs.length)) = j by omega]
theorem splice_len {α : Type} (l xs : List α) (o : Nat) (ho : o + xs.length ≤ l.length) : (splice l o xs).length = l.length := by simp [splice]; omega
theorem relL_splice {p : V → Value → List Nat → Prop} {cs xs : List V} {us vs : List Value} (h : PwL p cs us []) (hx : PwL p xs vs []) (o : Nat) (ho : o + xs.length ≤ cs.length) : PwL p (splice cs o xs) (splice us o vs) [] := by
  have hl := hx.len
  have hc := h.len
  refine .of_bare (by rw [splice_len _ _ _ ho, splice_len _ _ _ (by omega), hc]) (fun j c u hc' hu => ?_)
  rw [splice_get _ _ _ _ ho] at hc'
  rw [splice_get _ _ _ _ (by omega)] at hu
  by_cases h1 : j < o
  · rw [if_pos h1] at hc' hu
    exact h.bare j c u hc' hu
  · rw [if_neg h1] at hc' hu
    by_cases h2 : j < o + xs.length
    · rw [if_pos (by omega)] at hc' hu
      exact hx.bare (j - o) c u hc' hu
    · rw [if_neg (by omega)] at hc' hu
      exact h.bare j c u hc' hu
theorem splice_one {us vs : List Value} {o : Nat} (h : ∀ x ∈ us, x.oneCell' = true) (hv : ∀ x ∈ vs, x.oneCell' = true) : ∀ x ∈ splice us o vs, x.oneCell' = true := fun x hx => by
  simp only [splice, List.mem_append] at hx
  rcases hx with (hx | hx) | hx
  · exact h x (List.mem_of_mem_take hx)
  · exact hv x hx
  · exact h x (List.mem_of_mem_drop hx)
/-- A new variable. -/
theorem Inv.newBox (h : Inv P I C R S a F w) (d e : Nat) {cs : List V} {us : Array Value} (hr : RelL P I w R S.H.length true cs us.toList []) (h1 : ∀ u ∈ us.toList, u.oneCell' = true) :
    InvE P I C ⟨S.G.set d (.ptr S.H.length 0), S.H ++ [.box e cs], S.gv⟩ (a.put (some d) (.pointer (some ⟨w.heap.size, 0, none⟩))) (w.alloc (.cells us e)) := by
  have hb := kp_new h.olt (.cells us e)
  have h2 := h.new (b := .box e cs) (r := .pointer (some ⟨w.heap.size, 0, none⟩)) (f := [w.heap.size]) hb (fun m b hb' => Below.heap_alloc w _ b (h.fresh m b hb').2)
    ⟨w.heap.size, us, updR_self _ _ _, heap_alloc_new w _, RelL.env (RelL.step hr (fun k hk => hb.block k (h.iin k hk)) (fun k hk => by simp at hk)) (Nat.le_succ _) (updR_lt _ _ _), h1, rfl⟩ (by simp) (fun x hx => by
      simp at hx; subst hx
      exact ⟨fun ho => Nat.lt_irrefl _ (h.olt _ ho), fun m _ hm => Nat.lt_irrefl _ (h.fresh m _ hm).2⟩)
  exact .of (h2.put (some d) (.ptr S.H.length 0 w.heap.size (by simp) (updR_self _ _ _)))
theorem Inv.box (h : Inv P I C R S a F w) {n e : Nat} {cs : List V} (hb : homeBox S.H n = some (e, cs)) :
    ∃ (g : Nat) (us : Array Value), S.H[n]? = some (.box e cs) ∧ n < S.H.length ∧ R n = .pointer (some ⟨g, 0, none⟩) ∧ w.heap[g]? = some (.cells us e (0, 0)) ∧ RelL P I w R S.H.length true cs us.toList [] ∧ (∀ x ∈ us.toList, x.oneCell' = true) ∧ F n = [g] := by
  unfold homeBox at hb
  split at hb
  · rename_i e' cs' hg
    simp only [Option.some.injEq, Prod.mk.injEq] at hb
    obtain ⟨rfl, rfl⟩ := hb
    obtain ⟨g, us, h1, h2, h3, h4, h5⟩ := h.blk n _ hg
    exact ⟨g, us, hg, (List.getElem?_eq_some_iff.1 hg).1, h1, h2, h3, h4, h5⟩
  · simp at hb
theorem vbox_sound {o : Oper} (hv : vbox P o S = some S') : OpOk P o S S' := by
  intro I C a w ⟨R, F, h⟩
  unfold vbox at hv
  split at hv
  · rename_i e d hop hd
    split at hv
    · rename_i cs hz
      obtain rfl := Option.some.inj hv
      obtain ⟨i, z, hi, hiz, hr, h1⟩ := vzero_spec hz
      refine ⟨.value (.pointer (some ⟨w.heap.size, 0, none⟩)), .pointer (some ⟨w.heap.size, 0, none⟩), w.alloc (.cells z.cells e), ?_, .inl rfl, fun _ => .alloc w _, fun h0 => by simp [floats, hop] at h0, ?_⟩
      · simp only [execOp, hop, Instr.alloc, zeroValue, typeInfo, Sem.run_bind, run_program, Result.andThen_ok, hi, Sem.run_pure, hiz, newVar, run_newRow]
      · rw [hd]
        exact h.newBox d e (hr _ _ _ _ _) h1
    · simp at hv
  · rename_i e x d hop hd
    split at hv
    · rename_i c2
      obtain rfl := Option.some.inj hv
      have hx := (h.ev x).nrm e
      generalize nrm P e (Go.Proofs.YtdahdpnkppknfaaGreatDoorM.ev S.G x) = v at hx c2
      refine ⟨.value (.pointer (some ⟨w.heap.size, 0, none⟩)), .pointer (some ⟨w.heap.size, 0, none⟩), w.alloc (.cells (a.eval x).cells e), by simp only [execOp, hop, Instr.box, Sem.run_bind, newVar, run_newRow, Result.andThen_ok, Sem.run_pure], .inl rfl, fun _ => .alloc w _, fun h0 => by simp [floats, hop] at h0, ?_⟩
      rw [hd]
      have hrl := hx.cells c2
      exact h.newBox d e hrl.1 hrl.2
    · simp at hv
  · rename_i t x d hop hd
    have hx := h.ev x
    split at hv
    · rename_i n off hex
      rw [hex] at hx
      obtain ⟨g, hn, hR, hρ, _⟩ := hx.ptr_inv
      split at hv
      · rename_i e cs k hb ha hs
        split at hv
        · rename_i hle
          obtain rfl := Option.some.inj hv
          obtain ⟨g', us, hg, hnl, hR', hus, hr, h1, hF⟩ := h.box hb
          obtain rfl : g' = g := by rw [hR] at hR'; simpa using hR'.symm
          have hl := hr.len
          have hrun := fun (w2 : World) (hSm : Same w w2) => run_load_aggs (P := P) (w := w2) (g := g') (off := off) (us := (us.toList.drop off).take k) ha hs (by rw [List.length_take, List.length_drop]; omega) (fun j u hu => hSm.cell <| by
            rw [cell_of_row w g' (off + j) us e (0, 0) hus]
            rw [List.getElem?_take] at hu
            split at hu
            · simpa using hu
            · simp at hu)
          refine ⟨_, _, w, by simp only [execOp, hop, hρ, Instr.loadAt, Instr.sureAddr, Sem.run_bind, Sem.run_pure, Result.andThen_ok, hrun w (Same.refl w)]; rfl, .inl rfl, fun _ => .refl w, fun _ => ⟨rfl, rfl, fun w2 hSm => by simp only [execOp, hop, hρ, Instr.loadAt, Instr.sureAddr, Sem.run_bind, Sem.run_pure, Result.andThen_ok, hrun w2 hSm]⟩, ?_⟩
          rw [hd]
          refine InvE.of (h.put (some d) (Rel.agg_mk (.of_bare (by simp [hl]) fun j c u hc hu => ?_) (fun y hy => h1 y (List.mem_of_mem_drop (List.mem_of_mem_take hy)))))
          rw [List.getElem?_take] at hc hu
          split at hc
          · rename_i hj
            rw [if_pos hj] at hu
            rw [List.getElem?_drop] at hc hu
            exact hr.bare _ c u hc hu
          · simp at hc
        · simp at hv
      · rename_i e cs hb ha
        obtain ⟨c, hc, rfl⟩ := Option.map_eq_some_iff.1 hv
        obtain ⟨g', us, hg, hnl, hR', hus, hr, h1, hF⟩ := h.box hb
        obtain rfl : g' = g := by rw [hR] at hR'; simpa using hR'.symm
        obtain ⟨u, _, hu, hrel, _⟩ := hr.get hc
        have hBl : g' < w.heap.size := (h.fresh n g' (by rw [hF]; simp)).2
        have hrun := fun (w2 : World) (hSm : Same w w2) => run_load_box (P := P) ha ((hSm _ hBl).trans hus) hu
        refine ⟨_, _, w, by simp only [execOp, hop, hρ, Instr.loadAt, Instr.sureAddr, Sem.run_bind, Sem.run_pure, Result.andThen_ok, hrun w (Same.refl w)]; rfl, .inl rfl, fun _ => .refl w, fun _ => ⟨rfl, rfl, fun w2 hSm => by simp only [execOp, hop, hρ, Instr.loadAt, Instr.sureAddr, Sem.run_bind, Sem.run_pure, Result.andThen_ok, hrun w2 hSm]⟩, ?_⟩
        rw [hd]
        exact InvE.of (h.put (some d) (hr.bare off c u hc hu))
      · simp at hv
    · simp at hv
  · rename_i t p x hop hd
    have hp := h.ev p
    split at hv
    · rename_i n off hep
      rw [hep] at hp
      obtain ⟨g, hn, hR, hρ, _⟩ := hp.ptr_inv
      split at hv
      · rename_i e cs k hb hs
        split at hv
        · rename_i hcc
          obtain ⟨hxl, hle, hxc⟩ := hcc
          obtain rfl := Option.some.inj hv
          obtain ⟨g', us, hg, hnl, hR', hus, hr, h1, hF⟩ := h.box hb
          obtain rfl : g' = g := by rw [hR] at hR'; simpa using hR'.symm
          obtain ⟨hxr, hx1⟩ := ((h.ev x).nrm t).cells hxc
          have hvs : (a.eval x).cells.toList.length = k := by rw [← hxr.len, hxl]
          have hl := hr.len
          have hul : us.toList.length = us.size := Array.length_toList
          have hrun := run_storeVar_at (P := P) (w := w) (v := a.eval x) hs (by simpa using hvs) hx1 (.of hus) (o := off) (by omega)
          have hgn := h.fresh n g' (by rw [hF]; simp)
          have hb' : Kp C.O w (w.setRow g' (splice us.toList off (a.eval x).cells.toList).toArray) := kp_row hgn.1 _
          refine ⟨.skip, undef, w.setRow g' (splice us.toList off (a.eval x).cells.toList).toArray, by simp only [execOp, hop, hρ, Instr.storeAt, Instr.sureAddr, Sem.run_bind, Sem.run_pure, Result.andThen_ok, hrun], .inr ⟨rfl, rfl⟩, fun h0 => by simp [growsX, appNl, grows, hop] at h0, fun h0 => by simp [floats, hop] at h0, ?_⟩
          rw [hd]
          refine .of (h.turn n hb' (fun m b hm hb2 => setRow_other w g' b _ (fun z => hm (h.disj m n b hb2 (by rw [hF, z]; simp)))) ⟨g', (splice us.toList off (a.eval x).cells.toList).toArray, hR, setRow_heap w g' us _ e _ hus, ?_, ?_, rfl⟩ (by simp) (fun y hy => by
            simp at hy; subst hy
            exact ⟨hgn.1, fun m hm hm2 => hm (h.disj m n y hm2 (by rw [hF]; simp))⟩))
          · exact RelL.step (relL_splice hr hxr off (by omega)) (fun k hk => hb'.block k (h.iin k hk)) (fun k hk => by simp at hk)
          · exact splice_one h1 hx1
        · simp at hv
      · simp at hv
    · simp at hv
  · simp at hv
end
end Go.Proofs.YtdahdpnkppknfaaGreatDoorM
